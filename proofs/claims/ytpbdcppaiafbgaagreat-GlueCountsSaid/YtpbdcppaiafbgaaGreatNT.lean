/- Plain: what a cut along a ring does to the counts; no program in sight. The law GlueCounts, walked. -/
import Derived.Test.YtpbdcppaiafbgaaGreatNA
import Derived.Test.YtpbdcppaiafbgaaGreatNE
import Derived.Test.YtpbdcppaiafbgaaGreatNF
import Derived.Test.YtpbdcppaiafbgaaGreatND
import Derived.Test.YtpbdcppaiafbgaaGreatOM
import Derived.Test.YtpbdcppaiafbgaaGreatOQ
set_option maxRecDepth 100000
set_option maxHeartbeats 8000000
namespace Go.Mesh
section
variable {N : Int} {T X : List T3} {O : List Int} {v : Int}
theorem ring_ends {lo:List Int} (hn:lo.Nodup) (h3:3<=lo.length) (x:Int):endsC (loopE lo) x=if x∈lo then 2 else 0:=by
 by_cases a:x∈lo
 ·rw [if_pos a];have p:=loopE_ends h3 a;obtain ⟨i,hi,rfl⟩:=mem_getD a;obtain ⟨j,g,n⟩:∃ j,j<lo.length/\(j+1) % lo.length=i:=by
   rcases Nat.eq_zero_or_pos i with d | d
   ·exact ⟨lo.length - 1,by omega,by rw [show lo.length - 1+1=lo.length by omega,Nat.mod_self,d]⟩
   ·exact ⟨i - 1,by omega,by rw [show i - 1+1=i by omega,Nat.mod_eq_of_lt hi]⟩
  have o:endsC (loopE lo) (lo.getD i 0)<=2:=by
   unfold endsC loopE;rw [List.countP_map,List.countP_eq_length_filter];refine nodup_len (m:=[i,j]) (List.nodup_range.filter _) fun y hy=>?_
   obtain ⟨b,c⟩:=List.mem_filter.1 hy;have b:=List.mem_range.1 b;have c:(lo.getD y 0 == lo.getD i 0 || lo.getD ((y+1) % lo.length) 0 == lo.getD i 0)=true:=c;simp only [List.mem_cons,List.not_mem_nil,or_false];rcases Bool.or_eq_true_iff.1 c with h | h
   ·exact .inl (zbhq hn b hi (by simpa using h))
   ·right;have q:=zbhq hn (Nat.mod_lt _ (show 0<lo.length by omega)) hi (by simpa using h);rcases succ_mod b with ⟨_,k⟩ | ⟨_,k⟩ <;> rcases succ_mod g with ⟨_,l⟩ | ⟨_,l⟩ <;> omega
  omega
 ·rw [if_neg a];unfold endsC;rw [List.countP_eq_zero];intro e f;have:=loopE_no_ends a (by omega) e f;simp [this.1,this.2]
theorem Ringed.good (r:Ringed N T v X O):Good T (loopE (linkAt T N v)):=by
 have s:=r.star;refine ⟨fun e he=>?_,loopE_once (link_nodup s.surf s.rng) s.three⟩;obtain ⟨j,rfl⟩:=s.lk_of he;obtain ⟨c,f,d,g,_⟩:=s.two r.hop j;have a:=s.surf.facing_eg c;have b:=s.surf.facing_eg f;rw [d] at a;rw [g] at b;exact ⟨⟨_,a⟩,_,b⟩
theorem Ringed.more (r:Ringed N T v X (newO N T ((loopE (linkAt T N v)).map nm))):((newO N T ((loopE (linkAt T N v)).map nm)).length:Int)=N+(linkAt T N v).length:=by
 have s:=r.star;have d:=s.surf;have n:=d.n0;have j:=s.three;have f:=link_nodup d s.rng;have i:∀ k:Nat,(k:Int)<=N->(exH T ((loopE (linkAt T N v)).map nm) k).length=(List.range k).countP fun u:Nat=>decide ((u:Int)∈linkAt T N v):=fun k=>by
  induction k with
  | zero=>intro _;rfl
  | succ k ih =>
   intro o;rw [exH_more d r.good (by omega),ih (by omega),List.range_succ,List.countP_append,List.countP_cons,List.countP_nil,Nat.zero_add];refine congrArg _ ?_;unfold moreV;rw [ring_ends f j];by_cases c:((k:Nat):Int)∈linkAt T N v
   ·rw [r.hin _ c,if_pos c];simp [c]
   ·rw [if_neg c];simp [c]
 rw [newO_len d,i N.toNat (by omega),List.countP_eq_length_filter];have l:(((List.range N.toNat).filter fun u:Nat=>decide ((u:Int)∈linkAt T N v)).map fun u:Nat=>(u:Int)).Perm (linkAt T N v):=by
  refine (List.perm_ext_iff_of_nodup (zbiq (List.nodup_range.filter _) fun a _ b _ h=>Int.ofNat.inj h) f).2 fun x=>?_
  rw [List.mem_map];constructor
  ·rintro ⟨u,c,rfl⟩;exact of_decide_eq_true (List.mem_filter.1 c).2
  ·intro g;have m:=link_rng d s.rng g;have e:((x.toNat:Nat):Int)=x:=Int.toNat_of_nonneg m.1;exact ⟨x.toNat,List.mem_filter.2 ⟨List.mem_range.2 (by omega),decide_eq_true (by rw [e];exact g)⟩,e⟩
 have:=l.length_eq;rw [List.length_map] at this;omega
theorem Ringed.bord (r:Ringed N T v X O):bordC X=bordC T+2 * (linkAt T N v).length:=by
 have h:=bordC_cut r.star.numb r.star.surf r.star.parts r.good
 rwa [loopE_len] at h
theorem Ringed.counts (r:Ringed N T v X (newO N T ((loopE (linkAt T N v)).map nm))) {o1 o2:List Int} {C1 C2:Nat} (h1:Pt T o1 C1 T.length) (h2:Pt X o2 C2 X.length) :
  sumI (fun s=>gU ((newO N T ((loopE (linkAt T N v)).map nm)).length:Nat) X o2 s) C2=sumI (fun s=>gU N T o1 s) C1 /\
  sumI (fun s=>((cB X o2 (lps X ((newO N T ((loopE (linkAt T N v)).map nm)).length:Nat) (((newO N T ((loopE (linkAt T N v)).map nm)).length:Nat):Int).toNat) s:Nat):Int)) C2=sumI (fun s=>((cB T o1 (lps T N N.toNat) s:Nat):Int)) C1+2:=by
 have b:=r.star.surf;have a:=r.star.cut;have f:=sumI_gU b h1;have g:=sumI_gU a h2;have h:=r.more;have i:=r.bord;have j:=r.star.numb.len;have c:=sumN_cB b h1;have d:=sumN_cB a h2;have e:=r.loops;refine ⟨by omega,?_⟩;rw [sumI_nat,sumI_nat,c,d,Int.toNat_natCast,e];omega
end
end Go.Mesh
namespace Go.Proofs.YtpbdcppaiafbgaaGreat
open Go Go.RowKit Go.Words Go.Mesh
theorem gluecounts_law (sv pv kv:Value) (N:Int) (T P:List T3) (K:List Int) (m:Nat) (w:World) {B:Nat} (hB0:B<=w.heap.size) (hT:Sl 3 RTri w B sv T) (hP:Sl 3 RTri w B pv P) (hK:Sl 1 RInt w B kv K) (hN:I64 N) (hm:m<256) :
  Calls Tryz.prog 15 #[.agg #[.int .i64 N,sv,pv,kv],.int .u8 (m:Int)] w fun e w'=>e=.returned (.bool true)/\Below w.heap.size w w':=by
 obtain ⟨A,v,rfl,gr⟩:=hT.form;obtain ⟨Ap,i,rfl,ft⟩:=hP.form;obtain ⟨Ak,f,rfl,fr⟩:=hK.form;have aa:=(Below.refl w.heap.size w).alloc zl (.cells #[.int .i64 N,.slice A T.length v,.slice Ap P.length i,.slice Ak K.length f] 67);have G:=Bk.new w 67 [.int .i64 N,.slice A T.length v,.slice Ap P.length i,.slice Ak K.length f];have hq:w.heap.size+1<=(w.alloc (.cells #[.int .i64 N,.slice A T.length v,.slice Ap P.length i,.slice Ak K.length f] 67)).heap.size:=by simp
 have c7:=hT.below zaaq (aa.mono hB0);have bx:=hP.below zaaq (aa.mono hB0);have bu:=hK.below zadq (aa.mono hB0);generalize ff:w.alloc (.cells #[.int .i64 N,.slice A T.length v,.slice Ap P.length i,.slice Ak K.length f] 67)=w0 at *;have c0:w0.cell? ⟨w.heap.size,0,none⟩=some (.int .i64 N):=G.cell 0;have c1:w0.cell? ⟨w.heap.size,1,none⟩=some (.slice A T.length v):=G.cell 1;have c2:w0.cell? ⟨w.heap.size,2,none⟩=some (.slice Ap P.length i):=G.cell 2;have c3:w0.cell? ⟨w.heap.size,3,none⟩=some (.slice Ak K.length f):=G.cell 3;have dg:=fits45_calls (w:=w0) (B:=B) (by omega) c7 bx bu hN;obtain ⟨h8,h7,h6,e5,dz,dx,ec,ee⟩:=zz8 hT hP hK c7 bx bu dg G;clear hT hP hK c7 bx bu dg G;go_enter Tryz.func15,Tryz.ntmps15;go_wp2_with fail;clear ff;refine ec.out.mono ?_;rintro e w1 ⟨⟨tv,ok,rfl,dr⟩,cc⟩;have bk:=cc.size;have b9:=aa.trans (cc.mono aa.size);have dc:=awake45_calls w1;obtain ⟨ea,en⟩:=zz2 dc dr;clear dc dr;go_wp2_with fail;refine ea.out.mono ?_;rintro e V ⟨rfl,b7⟩;have cs:=b7.size;have z:=b9.trans (b7.mono b9.size);cases ok with
 | false =>
  have cb:=awake45_calls V;have cw:=zz cb;clear cb;go_wp2_with fail;refine cw.out.mono ?_;rintro e y ⟨rfl,j⟩;have l:=z.trans (j.mono z.size);go_wp2_with fail;go_ret;exact ⟨rfl,l⟩
 | true =>
  obtain ⟨de,hs,dk,B1,E⟩:=en.out rfl;obtain ⟨q1,q2,q3,q4⟩:=small45 de;clear de;obtain ⟨gt,rfl⟩:∃ gt,tv=.pointer (some gt):=by
   obtain ⟨g,_,_,_,_,_,rfl,_⟩:=E;exact ⟨_,rfl⟩
  obtain ⟨n,rfl⟩:∃ n:Nat,N=n:=⟨N.toNat,by have:=hs.n0;omega⟩;have I:=cc.trans (b7.mono bk);have p:=ee.out.below I (by omega);have d0:V.cell? ⟨w.heap.size,0,none⟩=some (.int .i64 (n:Int)):=p.cell 0;have d1:V.cell? ⟨w.heap.size,1,none⟩=some (.slice A T.length v):=p.cell 1;have d2:V.cell? ⟨w.heap.size,2,none⟩=some (.slice Ap P.length i):=p.cell 2;have d3:V.cell? ⟨w.heap.size,3,none⟩=some (.slice Ak K.length f):=p.cell 3;have c8:=e5.out.below zaaq (I.mono (show B<=w0.heap.size by omega));have bz:=dz.out.below zaaq (I.mono (show B<=w0.heap.size by omega));have bv:=dx.out.below zadq (I.mono (show B<=w0.heap.size by omega));have f8:=E.le;have S:=E.below b7 f8;have t:B<=V.heap.size:=by omega
  have dt:=round45_calls (w:=V) (B:=V.heap.size) zl (c8.keep zaaq (Below.refl _ _) t) (bz.keep zaaq (Below.refl _ _) t) (bv.keep zadq (Below.refl _ _) t) S hs m hm;obtain ⟨e6,e4,dy,ar,fq,bs,a,ej,ep⟩:=zz9 c8 bz bv p E S hs dk dt;clear c8 bz bv p E S hs dk dt;go_wp2_with fail;refine ep.out.mono ?_;rintro e y ⟨⟨lv,b,rfl,bg⟩,j⟩;have ct:=j.size;have l:=z.trans (j.mono z.size);cases b with
  | false =>
   have gc:=zz bg;clear bg;go_wp2_with fail;go_ret;exact ⟨rfl,l⟩
  | true =>
  obtain ⟨k,fd,gs,af,be,au,ag⟩:=bg rfl;clear bg;have fd:k<n:=by omega
  obtain ⟨Al,gl,rfl,fs⟩:=be.form;have H:=ar.out.below j (by omega);have e0:y.cell? ⟨w.heap.size,0,none⟩=some (.int .i64 (n:Int)):=H.cell 0;have e1:y.cell? ⟨w.heap.size,1,none⟩=some (.slice A T.length v):=H.cell 1;have e2:y.cell? ⟨w.heap.size,2,none⟩=some (.slice Ap P.length i):=H.cell 2;have e3:y.cell? ⟨w.heap.size,3,none⟩=some (.slice Ak K.length f):=H.cell 3;have c9:=(e6.out.below zaaq (j.mono t)).keep zaaq (Below.refl _ _) (show B<=y.heap.size by omega);have c6:=(e4.out.below zaaq (j.mono t)).keep zaaq (Below.refl _ _) (show B<=y.heap.size by omega);have bw:=(dy.out.below zadq (j.mono t)).keep zadq (Below.refl _ _) (show B<=y.heap.size by omega);have bh:=bs.out.below j (show B1<=V.heap.size by omega);have bc:(0:Int)<=(k:Int)/\(k:Int)<(n:Int):=by omega
  have cn:∀ u∈linkAt T (n:Int) (k:Int),I64 u:=fun u hu=>by
   have h1:=link_rng a.out bc hu;have h2:=a.out.nmax;unfold I64;omega
  have hh:(linkAt T (n:Int) (k:Int)).length<=3 * T.length:=by
   have h1:=link_len a.out bc;rw [if_pos af] at h1;have h2:=nodup_len (a.out.ring_nodup (k:Int)) (m:=List.range (3 * T.length)) fun x hx=>List.mem_range.2 ((a.out.ring_mem (k:Int) x).1 hx).1
   rw [List.length_range] at h2;omega
  have b4:=newO_few a.out ((lpE (linkAt T (n:Int) (k:Int))).map nm) (by omega);have d:=loop_star a.out bc af ag b4;have R:=fun c (h1:c<3 * T.length) (h2:Mesh.vt T c=(k:Int))=>lp_opp a.out bc af ag h1 h2
  have ds:=open45_calls (w:=y) (B:=y.heap.size) zl c9 c6 bw hN (by omega) (by omega) (by omega) be cn (by omega);have dq:=fun c (h:OpenC (n:Int) T P K (linkAt T (n:Int) (k:Int)) c)=>opens_ok a.out ej.out ag b4 h
  have cr:Ringed (n:Int) T (k:Int) (newX (n:Int) T ((lpE (linkAt T (n:Int) (k:Int))).map nm)) (newO (n:Int) T ((lpE (linkAt T (n:Int) (k:Int))).map nm)):=⟨d,R,au⟩;have ci:∀ (o1 o2:List Int) (W Y:Nat),Pt T o1 W T.length->Pt (newX (n:Int) T ((lpE (linkAt T (n:Int) (k:Int))).map nm)) o2 Y (newX (n:Int) T ((lpE (linkAt T (n:Int) (k:Int))).map nm)).length ->
    sumI (fun s=>gU ((newO (n:Int) T ((lpE (linkAt T (n:Int) (k:Int))).map nm)).length:Nat) (newX (n:Int) T ((lpE (linkAt T (n:Int) (k:Int))).map nm)) o2 s) Y=sumI (fun s=>gU (n:Int) T o1 s) W /\
    sumI (fun s=>((cB (newX (n:Int) T ((lpE (linkAt T (n:Int) (k:Int))).map nm)) o2 (lps (newX (n:Int) T ((lpE (linkAt T (n:Int) (k:Int))).map nm)) ((newO (n:Int) T ((lpE (linkAt T (n:Int) (k:Int))).map nm)).length:Nat) (((newO (n:Int) T ((lpE (linkAt T (n:Int) (k:Int))).map nm)).length:Nat):Int).toNat) s:Nat):Int)) Y=sumI (fun s=>((cB T o1 (lps T (n:Int) (n:Int).toNat) s:Nat):Int)) W+2:=fun o1 o2 W Y h1 h2=>Ringed.counts cr h1 h2
  have dm:((newO (n:Int) T ((lpE (linkAt T (n:Int) (k:Int))).map nm)).length:Int)=(n:Int)+(linkAt T (n:Int) (k:Int)).length:=Ringed.more cr;have du:=fun o1 o2 W Y (h1:Pt T o1 W T.length) (h2:Pt (newX (n:Int) T ((lpE (linkAt T (n:Int) (k:Int))).map nm)) o2 Y T.length)=>d.more h1 h2 R
  have ah:=d.cut;have a9:=d.numb.len;have he:(newO (n:Int) T ((lpE (linkAt T (n:Int) (k:Int))).map nm)).length<=4096:=b4;clear cr;generalize di:linkAt T (n:Int) (k:Int)=lo at *;generalize d9:newX (n:Int) T ((lpE lo).map nm)=X at *;generalize d7:newO (n:Int) T ((lpE lo).map nm)=O at *;obtain ⟨g2,fy,fx,ef,Z,g8,g9,cv,ed,ei,br,d4⟩:=zz12 c9 c6 bw H bh cn be au af ag d R;obtain ⟨bp,bq,cx,el,eq,r,D,g7,bo,bn⟩:=zz10 dq ds ci dm du ah a9 di d9 d7;clear c9 c6 bw H bh cn be au af ag d R dq ds ci dm du ah a9 di d9 d7;go_wp2_with fail;refine bq.out.mono ?_;rintro e q ⟨⟨x,o,c,rfl,co,_,dl⟩,cd⟩;obtain rfl:=bp.out _ co;have b5:=dl rfl q fun _ _ _=>rfl
  clear dl co;unfold OpenMade at b5;rw [bo.out,bn.out] at b5;obtain ⟨hy,hw,hv,rfl,sX,sP,sK,sO⟩:=b5;obtain ⟨A5,p5,rfl,hk⟩:=sX.form;obtain ⟨A6,p6,rfl,hl⟩:=sP.form;obtain ⟨A7,p7,rfl,hn⟩:=sK.form;obtain ⟨A8,p8,rfl,ho⟩:=sO.form;have d8:(ptsOf P O).length=O.length:=by unfold ptsOf;rw [List.length_map]
  have fg:=cd.size;have ba:=l.trans (cd.mono l.size);have ah:=r.out;have a9:=D.out;clear bp bo bn br d4 cv ed bq ei D r;generalize dj:(ptsOf P O).length=mP at *;obtain ⟨w6,bi⟩:∃ w6,q.alloc (.cells #[.int .i64 (O.length:Nat),.slice A5 X.length p5,.slice A6 mP p6,.slice A7 K.length p7] 67)=w6:=⟨_,rfl⟩;have ay:Below q.heap.size q w6:=by rw [<- bi];exact (Below.refl q.heap.size q).alloc zl _
  have bd:Bk w6 q.heap.size 67 [.int .i64 (O.length:Nat),.slice A5 X.length p5,.slice A6 mP p6,.slice A7 K.length p7]:=by rw [<- bi];exact Bk.new q _ _
  have hr:w6.heap.size=q.heap.size+1:=by rw [<- bi];simp
  have bb:=ba.trans (ay.mono ba.size);have g0:w6.cell? ⟨q.heap.size,0,none⟩=some (.int .i64 (O.length:Nat)):=bd.cell 0;have g1:w6.cell? ⟨q.heap.size,1,none⟩=some (.slice A5 X.length p5):=bd.cell 1;have dp:=new_calls2 (.slice A5 X.length p5) (O.length:Nat) X w6 (B:=q.heap.size) (by omega) (sX.below zaaq ay) (I64.nat (by omega));obtain ⟨eh,em,r,D,hd,hc,ha,hb,fz,ga⟩:=zz10 bd dp ah a9 sX sP sK sO d8 dj;clear bd dp ah a9 sX sP sK sO d8 dj;go_wp2_with fail;clear bi;refine em.out.mono ?_;rintro e w7 ⟨⟨uv,b1,b2,b3,rfl,fe⟩,dd⟩;rcases fe with ⟨_,U,bk,cs,ct⟩ | ⟨h9,_⟩
  case inr=>exact absurd r.out h9
  obtain ⟨gu,rfl⟩:∃ g,uv=.pointer (some g):=by
   obtain ⟨g,_,_,_,_,_,rfl,_⟩:=U;exact ⟨_,rfl⟩
  have fh:=dd.size;obtain ⟨F,bj⟩:∃ F,w7.alloc (.cells #[.int .i64 b1,.int .i64 b2,.int .i64 b3] 48)=F:=⟨_,rfl⟩;have b0:Below w7.heap.size w7 F:=by rw [<- bj];exact (Below.refl w7.heap.size w7).alloc zl _
  have dh:Bk F w7.heap.size 48 [.int .i64 b1,.int .i64 b2,.int .i64 b3]:=by rw [<- bj];exact Bk.new w7 _ _
  have ht:F.heap.size=w7.heap.size+1:=by rw [<- bj];simp
  have az:=dd.trans (b0.mono fh);have C:=bb.trans (az.mono bb.size);have ax:=(cd.trans (ay.mono fg)).trans (az.mono (by omega));have Q:=eh.out.below az (by omega);have M:=ef.out.below ax (by omega);have g0:F.cell? ⟨q.heap.size,0,none⟩=some (.int .i64 (O.length:Nat)):=Q.cell 0;have g1:F.cell? ⟨q.heap.size,1,none⟩=some (.slice A5 X.length p5):=Q.cell 1;have f0:F.cell? ⟨w.heap.size,0,none⟩=some (.int .i64 (n:Int)):=M.cell 0;have f1:F.cell? ⟨w.heap.size,1,none⟩=some (.slice A T.length v):=M.cell 1;have hf:(((O.length:Nat):Int) != (n:Int)+(lo.length:Int))=false:=by rw [bne_eq_false_iff_eq];exact el.out
  have hg:((X.length:Int) != (T.length:Int))=false:=by rw [bne_eq_false_iff_eq,D.out]
  have ck:=genwhole_calls (w:=F) (Z.out.below ax (show B1<=y.heap.size by omega)) a.out;obtain ⟨a6,g6,gd,ge,gf,fp,fo,cy⟩:=zz8 U dh bk cs ct Q M ck;clear U dh bk cs ct Q M ck;go_wp2_with fail;clear bj;refine cy.out.mono ?_;rintro e w9 ⟨⟨a0,a1,a2,a3,a4,a5,o1,W,rfl,cp,ca,da,f9⟩,b8⟩;have dv:=b8.size;have cm:=genwhole_calls (w:=w9) (a6.out.below (b0.trans (b8.mono (by omega))) zl) r.out;have db:a3=((lps T (n:Int) n).length:Int):=by
   rw [ca,sumI_nat,Int.toNat_natCast];exact congrArg (fun k:Nat=>(k:Int)) (by have:=sumN_cB a.out cp;rwa [Int.toNat_natCast] at this)
  have fu:=lps_len T (n:Int) n;clear f9;obtain ⟨eo,e7,e8,e9,cz⟩:=zz5 cp ca da db cm;clear cp ca da db cm;go_wp2_with fail;refine cz.out.mono ?_;rintro e am ⟨⟨c0,c1,c2,c3,c4,c5,o2,Y,rfl,cq,cf,cg,fb⟩,av⟩;have gv:=av.size;obtain ⟨ch,L⟩:=cx.out o1 o2 W Y eo.out cq;rw [<- cg,<- e8.out] at ch;rw [<- cf,<- e7.out] at L;have fa:=C.trans ((b8.trans (av.mono dv)).mono C.size);subst ch;have hp:(c3 == a3+2)=true:=by rw [beq_iff_eq];exact L
  have gq:0<=a3/\a3<=4096:=by rw [e9.out];omega
  clear fb;obtain ⟨gb,g3,g4,fm⟩:=zz4 cq cf cg L;clear cq cf cg L;go_wp2_with fail;obtain ⟨bl,b6⟩:∃ bl,(am.alloc (.cells #[.int .i64 a0,.int .i64 a1,.int .i64 a2,.int .i64 a3,.int .i64 c4,.int .i64 a5] 93)).alloc (.cells #[.int .i64 c0,.int .i64 c1,.int .i64 c2,.int .i64 c3,.int .i64 c4,.int .i64 c5] 93)=bl:=⟨_,rfl⟩;rw [b6];have ac:Below am.heap.size am bl:=by rw [<- b6];exact ((Below.refl am.heap.size am).alloc zl _).alloc (by simp) _
  have gw:=ac.size;have J:=(b8.trans (av.mono dv)).trans (ac.mono (by omega));have ad:=C.trans (J.mono C.size);have fc:=count_calls (w:=bl) (a6.out.below (b0.trans (J.mono (by omega))) zl) r.out;clear b6;refine fc.mono ?_;rintro e fl ⟨⟨u2,D2,rfl,df⟩,aw⟩;have gx:=aw.size;have ae:=ad.trans (aw.mono ad.size);have p:=count_calls (w:=fl) (Z.out.below (ax.trans ((J.trans (aw.mono (by omega))).mono (by omega))) (show B1<=y.heap.size by omega)) a.out;obtain ⟨ar,eb⟩:=zz2 p df;clear p df;go_wp2_with fail;refine ar.out.mono ?_;rintro e hz ⟨⟨u1,D1,rfl,cj⟩,es⟩;have ce:=ae.trans (es.mono ae.size);have hj:=eq.out u1 u2 D1 D2 cj (by rw [<- D.out];exact eb.out);have g5:=zz cj;clear cj;go_wp2_with fail;go_ret;exact ⟨congrArg (fun b=>Ending.returned (.bool b)) (decide_eq_true (by omega)),ce⟩
end Go.Proofs.YtpbdcppaiafbgaaGreat
