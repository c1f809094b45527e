/- Walks: certify.Is; sew.Sew's parts. -/
import Derived.Laws.EntriesVeiled
import Derived.Test.YtpbdcppaiafbgaaGreatFH
import Derived.Test.YtpbdcppaiafbgaaGreatEC
set_option maxRecDepth 100000
set_option maxHeartbeats 8000000
namespace Go.Mesh
def tabL(f:Nat->Int)(k n:Nat):List Int:=(List.range n).map fun v=>if v<k then f v else 0
theorem tabL_len(f:Nat->Int)(k n:Nat):(tabL f k n).length=n:=by unfold tabL;simp
theorem Zp2(f:Nat->Int)(n:Nat):tabL f 0 n=List.replicate n 0:=by
 unfold tabL;apply List.ext_getElem?;intro j;rw[zJ,List.getElem?_replicate];by_cases a:j<n
 ·rw[List.getElem?_range a,if_pos a];simp
 ·rw[List.getElem?_eq_none (by simp;omega),if_neg a];rfl
theorem Zmn(f:Nat->Int)(k:Nat){n v:Nat}(h:v<n):(tabL f k n)[v]? = some (if v<k then f v else 0):=by
 unfold tabL;rw[zJ,List.getElem?_range h];rfl
theorem Zta(f:Nat->Int){k n:Nat}(h:k<n):(tabL f k n).set k (f k)=tabL f (k+1) n:=by
 apply List.ext_getElem?;intro j;rw[List.getElem?_set,tabL_len];by_cases b:j<n
 ·rw[Zmn f _ b,Zmn f _ b];by_cases c:k=j
  ·subst c;rw[if_pos rfl,if_pos h,if_pos (by omega)]
  ·rw[if_neg c];by_cases a:j<k
   ·rw[if_pos a,if_pos (by omega)]
   ·rw[if_neg a,if_neg (by omega)]
 ·rw[List.getElem?_eq_none (by rw[tabL_len];omega),List.getElem?_eq_none (by rw[tabL_len];omega)];by_cases a:k=j
  ·omega
  ·rw[if_neg a]
theorem Zp1(f:Nat->Int)(n:Nat):tabL f n n=(List.range n).map f:=by
 unfold tabL;apply List.map_congr_left;intro v a;rw[if_pos (zR.1 a)]
theorem Zgh{has:Int×Int->Bool}{l:List P4}(h:Zaw has l=0):(∀e∈edgs l,has e=true)/\(edgs l).Nodup:=by
 unfold Zaw at h
 split at h
 ·rename_i h1
  split at h
  ·rename_i h2;exact⟨List.all_eq_true.1 h1,h2⟩
  ·cases h
 ·cases h
theorem Zkv{l:List P4}{p:P4}(hp:p∈l):p.1∈edgs l/\p.2∈edgs l:=⟨List.mem_flatMap.2 ⟨p,hp,by simp⟩,List.mem_flatMap.2 ⟨p,hp,by simp⟩⟩
theorem labE_take{l:List P4}{k:Nat}{p:P4}(h:l[k]? = some p):labE (edP (l.take (k+1)))=mrg (mrg (labE (edP (l.take k))) p.1.1 p.2.2) p.1.2 p.2.1:=by
 obtain⟨a,rfl⟩:=zS.1 h;rw[zT a];have:edP (l.take k++[l[k]])=(edP (l.take k)++[(l[k].1.1,l[k].2.2)])++[(l[k].1.2,l[k].2.1)]:=by
  unfold edP;rw[List.flatMap_append,List.append_assoc];rfl
 rw[this,Zh9,Zh9]
theorem Zs9{N:Int}{T:List T3}(hs:Surf N T):∀t∈T,(0<=t.1/\t.1<N)/\(0<=t.2.1/\t.2.1<N)/\(0<=t.2.2/\t.2.2<N):=fun t ht=>by
 obtain⟨i,hi,rfl⟩:=Zc8 ht;have a:=hs.rng (3*i+0) (by omega);have b:=hs.rng (3*i+1) (by omega);have c:=hs.rng (3*i+2) (by omega);rw[zauq T i 0 (by omega)]at a;rw[zauq T i 1 (by omega)]at b;rw[zauq T i 2 (by omega)]at c;exact⟨a,b,c⟩
theorem mem_edPF{l:List P4}{e:Int×Int}(h:e∈edP l):∃p∈l,e=(p.1.1,p.2.2)\/e=(p.1.2,p.2.1):=by
 obtain⟨p,b,a⟩:=List.mem_flatMap.1 h;refine⟨p,b,?_⟩;simpa using a
end Go.Mesh
namespace Go.Words
open Go Go.RowKit Go.Mesh
theorem Zef{P:Program}{fn:Func}{p q r:Tmp}{ty:TypeId}(h:fn.results=#[.cell q ty,.tmp p,.tmp r]){R:Ending->World->Prop}{a:Act}{w:World}{g:Nat}{t:TypeId}{cs:List Value}{d:TypeDesc}
  (hp:a.tmps.getD q undef=.pointer (some ⟨g,0,none⟩)) (hg:Bk w g t cs) (hu:P.underlying ty=some d)
  (hd:(match d with | .struct _ | .array _ _=>true|_=>false)=true) (hi:(P.info? ty).map (·.size)=some cs.length) (hde:a.defers=[])
  (hR:R (.returned (.tuple #[.agg cs.toArray,a.tmps.getD p undef,a.tmps.getD r undef])) w):bodyPost P fn R .ret a w:=by
 refine bodyPost_ret ?_ hde hR;have b:a.tmps[q]?.getD undef=.pointer (some ⟨g,0,none⟩):=by simpa using hp
 simp[results,h,b,asAddr,run_loadVar_row w g t ty cs.toArray (0,0) d hg hu hd (by simpa using hi)]
end Go.Words
namespace Go.Proofs.YtpbdcppaiafbgaaGreat
open Go Go.RowKit Go.Words Go.Mesh
theorem sl_zv{w:World}{g:Nat}{t:TypeId}{l:List Int}(h:Bk w g t (l.map (Value.int .i64))):Sl 1 RInt w w.heap.size (.slice (some ⟨g,0,none⟩) l.length l.length) l :=
 Sl.of_block h zl fun i a hi=>by
  obtain⟨b,rfl⟩:=zS.1 hi;refine⟨by rw[zL];omega,?_⟩;unfold RInt;rw[Nat.mul_one,List.drop_eq_getElem_cons (by simpa using b)];simp
def labP(l:List P4):Int->Int:=labE (edP l)
def NoSew(x o:Value):Prop:=x=.agg #[.int .i64 0,.slice none 0 0]/\o=.slice none 0 0
def Zh0(w':World)(N:Int)(T:List T3)(l:List P4)(x o:Value)(c:Int):Prop :=
 (¬Surf N T/\c=11/\NoSew x o) \/
 (Surf N T/\c=Zaw (fun e=>decide (e∈bedges T)) l/\c≠0/\NoSew x o) \/
 (Surf N T/\Zaw (fun e=>decide (e∈bedges T)) l=0/\¬Surf (rnk (labP l) N.toNat:Nat) (sewT (labP l) T)/\c=11/\NoSew x o) \/
 (Surf N T/\Zaw (fun e=>decide (e∈bedges T)) l=0/\Surf (rnk (labP l) N.toNat:Nat) (sewT (labP l) T)/\c=0 /\
  ∃xs,x=.agg #[.int .i64 (rnk (labP l) N.toNat:Nat),xs]/\Sl 3 RTri w' w'.heap.size xs (sewT (labP l) T)/\Sl 1 RInt w' w'.heap.size o (Zb4 (labP l) N.toNat))
theorem own_from{w wz:World}{base n size:Nat}{e:TypeId}{v:Value}{xs:List Value}(h:w.ownsRow base e size v n xs)(hb:∀b,base<=b->b<w.heap.size->wz.heap[b]? = w.heap[b]?):wz.ownsRow base e size v n xs:=by
 refine⟨h.1,?_⟩;rcases h.2 with i|⟨g,a,c,j,d,f,k⟩
 ·exact .inl i
 ·exact .inr ⟨g,a,c,j,d,(hb g d (Array.getElem?_eq_some_iff.1 f).1).trans f,k⟩
def SewFar(w w':World)(N:Int)(T:List T3)(l:List P4)(x o:Value)(c:Int):Prop :=
 c=0->∀wz:World,(∀b,w.heap.size<=b->b<w'.heap.size->wz.heap[b]? = w'.heap[b]?) ->
  ∃xs,x=.agg #[.int .i64 (rnk (labP l) N.toNat:Nat),xs]/\Sl 3 RTri wz wz.heap.size xs (sewT (labP l) T)/\Sl 1 RInt wz wz.heap.size o (Zb4 (labP l) N.toNat)
theorem Zj0{w:World}{B:Nat}{sv lv:Value}{N:Int}{T:List T3}{l:List P4}(hT:Sl 3 RTri w B sv T)(hl:Sl 4 R4 w B lv l)(hB0:B<=w.heap.size)(hN:I64 N)(hll:l.length<=1000000)(hok:∀e∈edgs l,ok2 e) :
  Calls Tryz.prog 56 #[.agg #[.int .i64 N,sv],lv] w fun e w'=>(∃(x o:Value) (c:Int),e=.returned (.tuple #[x,o,.int .i64 c])/\Zh0 w' N T l x o c/\SewFar w w' N T l x o c)/\Below w.heap.size w w':=by
 obtain⟨A,D,rfl,nr⟩:=hT.form;obtain⟨A2,nf,rfl,mt⟩:=hl.form;have fh:=((zr w.heap.size w).alloc zl (.cells #[.int .i64 N,.slice A T.length D] 24)).alloc (by simp) (.cells #[.int .i64 0,.slice none 0 0] 24);have e4:=(Bk.new w 24 [.int .i64 N,.slice A T.length D]).alloc (.cells #[.int .i64 0,.slice none 0 0] 24);have j6:=Bk.new' (n:=w.heap.size+1) (w:=w.alloc (.cells #[.int .i64 N,.slice A T.length D] 24)) 24 [.int .i64 0,.slice none 0 0] (by simp);have fd:=hT.below zaaq (fh.mono hB0);have jc:=hl.below Zas (fh.mono hB0);have ov:w.heap.size+2<=((w.alloc (.cells #[.int .i64 N,.slice A T.length D] 24)).alloc (.cells #[.int .i64 0,.slice none 0 0] 24)).heap.size:=by simp
 generalize m1:(w.alloc (.cells #[.int .i64 N,.slice A T.length D] 24)).alloc (.cells #[.int .i64 0,.slice none 0 0] 24)=w0 at *;have j3:=Zim (.slice A T.length D) N T w0 (B:=B) (by omega) fd hN;have c0:w0.cell? ⟨w.heap.size,0,none⟩=some (.int .i64 N):=e4.cell 0;have c1:w0.cell? ⟨w.heap.size,1,none⟩=some (.slice A T.length D):=e4.cell 1;obtain⟨og,oh,jx,jy,jo,k8,js,kf⟩:=zz8 hT hl e4 j6 fd jc j3 hok;clear hT hl e4 j6 fd jc j3 hok;go_enter Tryz.func56,Tryz.ntmps56;go_wp2_with fail;clear m1;refine js.out.mono ?_;rintro e w1 ⟨⟨b,rfl,F⟩,bm⟩;have ow:=bm.size;have dx:=fh.trans (bm.mono (by omega));have ap:=jx.out.below bm (by omega);have U:=jy.out.below bm (by omega);cases b with
 | false =>
  have hn:¬Surf N T:=fun h=>by have:=F.2 h;cases this
  have f1:=U.frozen;have e0:w1.cell? ⟨w.heap.size+1,0,none⟩=some (.int .i64 0):=U.cell 0;have e1:w1.cell? ⟨w.heap.size+1,1,none⟩=some (.slice none 0 0):=U.cell 1;have Q:=(dx.setCell (p:=⟨w.heap.size+1,0,none⟩) (by simp) (.int .i64 0)).setCell (p:=⟨w.heap.size+1,1,none⟩) (by simp) (.slice none 0 0);have W:=(U.set 0 (.int .i64 0)).set 1 (.slice none 0 0);obtain⟨ep,eu,bw,bx,a9,aa⟩:=zz6 F hn ap U Q W;clear F hn ap U Q W;go_wp2_with fail;exact Zef rfl rfl aa.out Tryz.underlying24 rfl (by kernel_rfl) rfl ⟨⟨_,_,_,rfl,.inl ⟨eu.out,rfl,rfl,rfl⟩,fun K=>(by cases K)⟩,a9.out⟩
 | true =>
  have hs:=F.1 rfl;have fe:=jo.out.below zaaq (bm.mono (by omega));have jd:=k8.out.below Zas (bm.mono (by omega));have jg:=Zbs (.slice A T.length D) N T w1 (B:=B) (by omega) fe hN;have d0:w1.cell? ⟨w.heap.size,0,none⟩=some (.int .i64 N):=ap.cell 0;have d1:w1.cell? ⟨w.heap.size,1,none⟩=some (.slice A T.length D):=ap.cell 1;obtain⟨ep,a6,bw,bx,jp,ka,ke⟩:=zz7 F hs ap U fe jd jg;clear F hs ap U fe jd jg;go_wp2_with fail;refine ke.out.mono ?_;rintro e w2 ⟨⟨pv,x,y,z,rfl,ly⟩,aw⟩;rcases ly with⟨hs,ca⟩|⟨lx,rfl⟩
  case inr=>exact absurd a6.out lx
  obtain⟨t,rfl⟩:∃t,pv=.pointer t:=by
   obtain⟨g,_,_,_,_,_,rfl,_⟩:=ca;exact⟨_,rfl⟩
  have ox:=aw.size;have il:=dx.trans (aw.mono (by omega));have fv:=bw.out.below aw bw.out.lt;have fx:=bx.out.below aw bx.out.lt;have ff:=jp.out.below zaaq (aw.mono (by omega));have gc:=ka.out.below Zas (aw.mono (by omega));have iz:=((zr w2.heap.size w2).alloc zl (.cells #[.int .i64 x,.int .i64 y,.int .i64 z] 48)).alloc (by simp) (.map #[] 0);have gf:=Mp.new' (enc:=enc2) (ok:=ok2) (ev:=enc1) (n:=w2.heap.size+1) (w:=w2.alloc (.cells #[.int .i64 x,.int .i64 y,.int .i64 z] 48)) (by simp);have oy:w2.heap.size+2<=((w2.alloc (.cells #[.int .i64 x,.int .i64 y,.int .i64 z] 48)).alloc (.map #[] 0)).heap.size:=by simp
  have lu:=@run_makeMap Tryz.prog;generalize m2:(w2.alloc (.cells #[.int .i64 x,.int .i64 y,.int .i64 z] 48)).alloc (.map #[] 0)=w3 at *;have j4:=Zbc (TabN.below (.inl ca) iz zl) hs;have gm:∀e∈bedges T,ok2 e:=fun e he=>by
   obtain⟨c,h1,_,rfl⟩:=mem_bedges.1 he;exact eg_ok hs h1
  have nw:(bedges T).length<=24576:=by have:=Zhe T;have:=hs.tmax;unfold bedges;rw[zL];omega
  have ou:=hs.tmax;have oq:=hs.n0;have os:=hs.nmax;generalize hL:bedges T=L at *;obtain⟨a6,mr,dm,dq,h4,dt,ib,jt,ig,dj⟩:=zz10 hs ca fv fx ff gc gf j4 gm hL;clear hs ca fv fx ff gc gf j4 gm hL;go_wp2_with fail;clear m2 lu;refine jt.out.mono ?_;rintro e w4 ⟨⟨r,rfl,C⟩,bn⟩;obtain⟨A3,kp,rfl,mu⟩:=zaeq C;have oz:=bn.size;have ln:=iz.trans (bn.mono (by omega));have jf:=ib.out.below bn (by omega);obtain⟨ag,kc⟩:=zz2 C jf;clear C jf;go_wp2_with fail;go_loopw[37] (fun i wr=>∃(k:Nat) (m:List ((Int×Int)×Int)),k<=L.length/\i=.int .i64 k/\Mp enc2 ok2 enc1 wr (w2.heap.size+1) m/\(∀e,(Words.look m e).isSome=true↔e∈L.take k)/\Below w2.heap.size w2 wr/\wr.ownsRow w3.heap.size 39 2 (.slice A3 L.length kp) L.length (pvals L)) (fun i _=>L.length-(intOf i).toNat)
  case atStart=>exact⟨0,[],by omega,rfl,kc.out,fun e=>by simp[Words.look],ln,ag.out⟩
  case round =>
   obtain⟨k,m,hk,rfl,bd,bc,O,a5⟩:=hrel;have hz:=O.size;have op:=bd.lt;by_cases g7:k<L.length
   ·obtain⟨b,o,rfl,F,a1,a2⟩:=(Zdr a5).pair_at g7;have bp:b<wr.heap.size:=by omega
    have bi:=zT g7;have hr:=ig.out _ (zM g7);generalize L[k]=ed at *;obtain⟨x1,x2⟩:=ed;simp only[]at a1 a2;have j2:=O.alloc hz (.cells #[.int .i64 x1,.int .i64 x2] 39);have je:=bd.alloc (.cells #[.int .i64 x1,.int .i64 x2] 39);have jh:=a5.alloc (.cells #[.int .i64 x1,.int .i64 x2] 39);have jk:∀e,(Words.look (Words.put m (x1,x2) (k:Int)) e).isSome=true↔e∈L.take (k+1):=fun e=>by
     rw[look_put,bi];by_cases K:(x1,x2)=e
     ·rw[if_pos K];simp[K]
     ·rw[if_neg K,bc e,zP,zU];exact⟨.inl,fun h8=>h8.resolve_right fun h7=>K h7.symm⟩
    obtain⟨kd,ez,f4,l7,et,ew,kj,kb⟩:=zz8 bd a5 bi hr je jh jk bc;clear bd a5 bi hr je jh jk bc;go_wp2_with(at_mapUpdate;refine zbdq _ rfl _ _ _ 118 rfl 39 3 keyE Tryz.underlying118 (w2.heap.size+1) m rfl et.out (x1,x2) rfl l7.out (k:Int) rfl ?_;intro w5 gg ao ku;obtain⟨ic,bv⟩:=zz2 gg ao;clear gg ao;clear ku);have aw:=j2.grown bv.out j2.size (fun q hq=>by cases hq;omega);refine⟨⟨k+1,_,by omega,by simp,ic.out,kj.out,aw,ew.out.kept bv.out (.inr ?_)⟩,by simp[intOf];omega⟩;exact(et.out.no_row ew.out).symm
   ·obtain rfl:k=L.length:=by omega
    rw[List.take_length]at bc;obtain⟨w5,m3⟩:∃w5,w5=wr:=⟨_,rfl⟩;subst m3;have eb:=Zr0 m bd (dt.out.below Zas (O.mono (by omega))) (by omega) hll kf.out;have fs:(fun e=>(Words.look m e).isSome)=(fun e=>decide (e∈L)):=funext fun e=>by
     rw[Bool.eq_iff_iff,bc e,decide_eq_true_eq]
    rw[fs]at eb;have dy:=il.trans (O.mono (by omega));have fw:=dm.out.below O dm.out.lt;have fy:=dq.out.below O dq.out.lt;obtain⟨c,hc⟩:∃c,Zaw (fun e=>decide (e∈L)) l=c:=⟨_,rfl⟩;rw[hc]at eb;obtain⟨kd,ez,kb,kg,my,iv,dp,dr⟩:=zz8 bd a5 bc eb fs hc fw fy;clear bd a5 bc eb fs hc fw fy;go_wp2_with fail;refine kg.out.mono ?_;rintro e f ⟨rfl,bo⟩;have p0:=bo.size;have Z:=dy.trans (bo.mono dy.size);have aq:=dp.out.below bo dp.out.lt;have V:=dr.out.below bo dr.out.lt;by_cases e2:c=0
    ·subst e2;have gl:=iv.out;have c3:=Zgh gl;have iw:f.cell? ⟨w.heap.size,0,none⟩=some (.int .i64 N):=aq.cell 0;have la:f.cell? ⟨w.heap.size,1,none⟩=some (.slice A T.length D):=aq.cell 1;have cp:∀p∈l,(0<=p.1.1/\p.1.1<N)/\(0<=p.1.2/\p.1.2<N)/\(0<=p.2.1/\p.2.1<N)/\(0<=p.2.2/\p.2.2<N):=fun p hp=>by
      have q1:=c3.1 _ (Zkv hp).1;have q2:=c3.1 _ (Zkv hp).2;rw[decide_eq_true_eq,<- dj.out]at q1 q2;obtain⟨c1,g1,_,g2⟩:=mem_bedges.1 q1;obtain⟨c2,g3,_,g4⟩:=mem_bedges.1 q2;rw[<- g2,<- g4];exact⟨a6.out.rng _ (Zam g1),a6.out.rng _ (Zaj g1),a6.out.rng _ (Zam g3),a6.out.rng _ (Zaj g3)⟩
     obtain⟨n,fb⟩:∃n:Nat,N=n:=⟨N.toNat,by omega⟩;have lw:n<=4096:=by omega
     rw[fb]at iw cp;have iy:∀k,∀e∈edP (l.take k),0<=e.1/\0<=e.2:=fun k e he=>by
      obtain⟨p,hp,h1|h1⟩:=mem_edPF he
      ·have:=cp p (List.mem_of_mem_take hp);rw[h1];exact⟨this.1.1,this.2.2.2.1⟩
      ·have:=cp p (List.mem_of_mem_take hp);rw[h1];exact⟨this.2.1.1,this.2.2.1.1⟩
     have fg:=(h4.out.below zaaq (O.mono (by omega))).below zaaq (bo.mono (by omega));have gd:=(dt.out.below Zas (O.mono (by omega))).below Zas (bo.mono (by omega));have ix:B<=f.heap.size:=by omega
     have ge:=Zaq (P:=Tryz.prog) 28 Tryz.underlying28 Zap rfl n (by omega) (by omega);have dc:=Bk.new f 3 (List.replicate n (.int .i64 0));rw[List.toArray_replicate]at dc;have g6:=dc.alloc (.cells #[.slice (some ⟨f.heap.size,0,none⟩) n n] 28);have jb:=Bk.new' (n:=f.heap.size+1) (w:=f.alloc (.cells (Array.replicate n (Value.int .i64 0)) 3)) 28 [.slice (some ⟨f.heap.size,0,none⟩) n n] (by simp);have j0:=((zr f.heap.size f).alloc zl (.cells (Array.replicate n (Value.int .i64 0)) 3)).alloc (by simp) (.cells #[.slice (some ⟨f.heap.size,0,none⟩) n n] 28);have p5:f.heap.size+2<=((f.alloc (.cells (Array.replicate n (Value.int .i64 0)) 3)).alloc (.cells #[.slice (some ⟨f.heap.size,0,none⟩) n n] 28)).heap.size:=by simp
     have gr:(tabL (fun v=>(v:Int)) 0 n).map (Value.int .i64)=List.replicate n (.int .i64 0):=by rw[Zp2,List.map_replicate]
     rw[<- gr]at g6;clear dc;obtain⟨hy,ds,f0,mi,kk,em,h5,ia,k4,k7,jq,n7⟩:=zz12 aq V gl c3 cp iy fg gd g6 jb j0 gr;have en:=zz fb;clear aq V gl c3 cp iy fg gd g6 jb j0 gr fb;go_wp2_with fail;clear ge;go_loopw[58] (fun i wr=>∃k:Nat,k<=n/\i=.int .i64 (k:Int)/\Bk wr f.heap.size 3 ((tabL (fun v=>(v:Int)) k n).map (Value.int .i64))/\Bk wr (f.heap.size+1) 28 [.slice (some ⟨f.heap.size,0,none⟩) n n]/\Below f.heap.size f wr) (fun i _=>n-(intOf i).toNat)
     case atStart=>exact⟨0,by omega,rfl,k4.out,k7.out,jq.out⟩
     case round =>
      obtain⟨k,hk,rfl,H,X,fo⟩:=hrel;have m7:=fo.size;have cr:=X.cell 0;simp only[List.getElem?_cons_zero]at cr;by_cases j8:k<n
      ·have ck:=H.cell k;rw[zJ,Zmn _ _ j8,Option.map_some]at ck;generalize (if k<k then((fun v:Nat=>(v:Int)) k)else 0)=old at *;have fk:=H.frozen k;have dd:=H.set k (.int .i64 (k:Int));rw[<- List.map_set,Zta (fun v:Nat=>(v:Int)) j8]at dd;have g8:=X.far (p:=⟨f.heap.size,k,none⟩) (by simp) (.int .i64 (k:Int));have j1:=fo.setCell (p:=⟨f.heap.size,k,none⟩) zl (.int .i64 (k:Int));obtain⟨i4,i8,i0,i5,jr⟩:=zz5 H X dd g8 j1;clear H X dd g8 j1;go_wp2_with fail;exact⟨⟨k+1,by omega,by simp,i0.out,i5.out,jr.out⟩,by simp[intOf];omega⟩
      ·obtain rfl:k=n:=by omega
       obtain⟨w7,m4⟩:∃w7,w7=wr:=⟨_,rfl⟩;subst m4;rw[Zp1]at H;have oo:∀(fn:Fn) (first D:Array Value) (w:World),(Instr.makeFunc fn first D).run Tryz.prog w=.ok (.func fn first D) w:=fun _ _ _ _=>rfl
       have ny:=X.lt;have de:=H.alloc (.cells #[.func (.func 100) #[] #[.pointer (some ⟨f.heap.size+1,0,none⟩),.pointer (some ⟨w7.heap.size,0,none⟩)]] 52);have c8:=X.alloc (.cells #[.func (.func 100) #[] #[.pointer (some ⟨f.heap.size+1,0,none⟩),.pointer (some ⟨w7.heap.size,0,none⟩)]] 52);have c7:=Bk.new w7 52 [.func (.func 100) #[] #[.pointer (some ⟨f.heap.size+1,0,none⟩),.pointer (some ⟨w7.heap.size,0,none⟩)]];have j5:FindW (w7.alloc (.cells #[.func (.func 100) #[] #[.pointer (some ⟨f.heap.size+1,0,none⟩),.pointer (some ⟨w7.heap.size,0,none⟩)]] 52)) (f.heap.size+1) w7.heap.size f.heap.size ((List.range k).map fun v:Nat=>(v:Int)) :=
        ⟨by rw[zL,List.length_range];exact c8.cell 0,c7.cell 0,de,c8.lt,c7.lt⟩
       have fi:=fo.alloc m7 (.cells #[.func (.func 100) #[] #[.pointer (some ⟨f.heap.size+1,0,none⟩),.pointer (some ⟨w7.heap.size,0,none⟩)]] 52);obtain⟨i4,i8,mn,mq,mo,ju,h6⟩:=zz7 H X de c8 c7 j5 fi;clear H X de c8 c7 j5 fi;go_wp2_with fail;have lh:∃G,labP l=G:=⟨_,rfl⟩;go_loopw[70] (fun i wr=>∃(j:Nat) (R:List Int),j<=l.length/\i=.int .i64 (j:Int)/\Roots R (labE (edP (l.take j))) k/\FindW wr (f.heap.size+1) w7.heap.size f.heap.size R/\Below f.heap.size f wr) (fun i _=>l.length-(intOf i).toNat)
       case atStart=>exact⟨0,_,by omega,rfl,roots_id k,ju.out,h6.out⟩
       case round =>
        obtain⟨j,R,hj,rfl,hR,bb,S⟩:=hrel;have kz:=S.size;by_cases lq:j<l.length
        ·obtain⟨p,hp⟩:∃p,l[j]? = some p:=⟨_,zG lq⟩;obtain⟨b,o,rfl,F,a1,a2,a3,a4⟩:=(ia.out.below Zas (S.mono ix)).p4_at hp;have hv:=kk.out p (List.mem_of_getElem? hp);have df:=labE_take hp;obtain⟨⟨x1,x2⟩,x3,x4⟩:=p;simp only[]at a1 a2 a3 a4 hv df;obtain⟨⟨p1,q1⟩,⟨p2,q2⟩,⟨p3,q3⟩,p4,q4⟩:=hv;obtain⟨n1,rfl⟩:∃m:Nat,x1=(m:Int):=⟨x1.toNat,by omega⟩;obtain⟨n2,rfl⟩:∃m:Nat,x2=(m:Int):=⟨x2.toNat,by omega⟩;obtain⟨n3,rfl⟩:∃m:Nat,x3=(m:Int):=⟨x3.toNat,by omega⟩;obtain⟨n4,rfl⟩:∃m:Nat,x4=(m:Int):=⟨x4.toNat,by omega⟩;have bp:b<wr.heap.size:=by omega
         have M:=Zes (edP (l.take j));have h0:=Zdx (em.out j);generalize labE (edP (l.take j))=L0 at *;have d8:=bb.below ((zr wr.heap.size wr).alloc zl (.cells #[.int .i64 (n1:Int),.int .i64 (n2:Int),.int .i64 (n3:Int),.int .i64 (n4:Int)] 41));have gk:=Zgy hR M h0 (f.heap.size+1) w7.heap.size f.heap.size (by omega) (by omega) n1 n4 (by omega) (by omega) _ d8;have fa:∀v,0<=v->0<=mrg L0 n1 n4 v:=fun v hv=>by
          have i1:=h0 n1 p1;have i2:=h0 n4 p4;have i3:=h0 v hv;unfold mrg
          split<;>omega
         have e8:=fun R1 (cg:Roots R1 (mrg L0 (n1:Int) n4) k) wz (hz:FindW wz (f.heap.size+1) w7.heap.size f.heap.size R1)=>Zgy cg (M.mrg _ _) fa (f.heap.size+1) w7.heap.size f.heap.size (by omega) (by omega) n2 n3 (by omega) (by omega) wz hz
         have j9:=Bk.new wr 41 [.int .i64 (n1:Int),.int .i64 (n2:Int),.int .i64 (n3:Int),.int .i64 (n4:Int)];have fj:=S.alloc kz (.cells #[.int .i64 (n1:Int),.int .i64 (n2:Int),.int .i64 (n3:Int),.int .i64 (n4:Int)] 41);have ns:=bb.bk.lt;have kt:some wr.heap.size≠some f.heap.size:=fun K=>by injection K with K;omega
         obtain⟨iu,bt,it,mw,mj,ie,ex,k6,dk,i9⟩:=zz10 hR M h0 fa d8 gk e8 j9 fj df;clear hR M h0 fa d8 gk e8 j9 fj df;go_wp2_with fail;refine ie.out.mono ?_;rintro e ai ⟨rfl,⟨R1,cg,d9⟩,c6⟩;have ar:=k6.out.grown c6 kt;have fl:=dk.out.grown c6 dk.out.size (fun q hq=>by cases hq;exact zl);have k0:ai.cell? ⟨wr.heap.size,0,none⟩=some (.int .i64 (n1:Int)):=ar.cell 0;have k1:ai.cell? ⟨wr.heap.size,1,none⟩=some (.int .i64 (n2:Int)):=ar.cell 1;have k2:ai.cell? ⟨wr.heap.size,2,none⟩=some (.int .i64 (n3:Int)):=ar.cell 2;have k3:ai.cell? ⟨wr.heap.size,3,none⟩=some (.int .i64 (n4:Int)):=ar.cell 3;have gp:=ex.out R1 cg ai d9;obtain⟨mx,mk,mm,mp,dl,ih⟩:=zz6 cg d9 c6 ar fl gp;clear cg d9 c6 ar fl gp;go_wp2_with fail;refine ih.out.mono ?_;rintro e md ⟨rfl,⟨R2,fc,ft⟩,ao⟩;have fm:=dl.out.grown ao dl.out.size (fun q hq=>by cases hq;exact zl);rw[<- i9.out]at fc;obtain⟨jn,hx,bv,hd⟩:=zz4 fc ft ao fm;clear fc ft ao fm;go_wp2_with fail;exact⟨⟨j+1,R2,by omega,by simp,jn.out,hx.out,hd.out⟩,by simp[intOf];omega⟩
        ·obtain rfl:j=l.length:=by omega
         rw[List.take_length]at hR;obtain⟨d,m5⟩:∃d,d=wr:=⟨_,rfl⟩;subst m5;have M:=Zes (edP l);have h0:=Zdx (E:=edP l) (by have:=em.out l.length;rwa [List.take_length]at this);obtain⟨G,hG⟩:=lh
         change labE (edP l)=G at hG
         rw[hG]at hR M h0;have d0:d.cell? ⟨w.heap.size,0,none⟩=some (.int .i64 (k:Int)):=(S.cell (p:=⟨w.heap.size,0,none⟩) (by show w.heap.size<_;omega)).trans iw;have d1:d.cell? ⟨w.heap.size,1,none⟩=some (.slice A T.length D):=(S.cell (p:=⟨w.heap.size,1,none⟩) (by show w.heap.size<_;omega)).trans la;have ge:=Zaq (P:=Tryz.prog) 28 Tryz.underlying28 Zap rfl k (by omega) (by omega);have db:=Bk.new d 3 (List.replicate k (.int .i64 0));rw[List.toArray_replicate]at db;have fz:=db.alloc (.cells #[.int .i64 0,.slice none 0 0] 24);have j7:=Bk.new' (n:=d.heap.size+1) (w:=d.alloc (.cells (Array.replicate k (Value.int .i64 0)) 3)) 24 [.int .i64 0,.slice none 0 0] (by simp);have d6:=((zr d.heap.size d).alloc zl (.cells (Array.replicate k (Value.int .i64 0)) 3)).alloc (by simp) (.cells #[.int .i64 0,.slice none 0 0] 24);have fu:=bb.below d6;have dh:(tabL (fun u=>numL G (u:Int)) 0 k).map (Value.int .i64)=List.replicate k (.int .i64 0):=by rw[Zp2,List.map_replicate]
         rw[<- dh]at fz;clear db;obtain⟨iu,bt,it,bu,ml,jz,k5,hf,ms,av⟩:=zz10 hR M h0 bb fu fz j7 d6 dh hG;clear hR M h0 bb fu fz j7 d6 dh hG;go_wp2_with fail;clear ge;go_loopw[97] (fun i wz=>∃v:Nat,v<=k/\i=.int .i64 (v:Int)/\Bk wz d.heap.size 3 ((tabL (fun u=>numL G (u:Int)) v k).map (Value.int .i64))/\Bk wz (d.heap.size+1) 24 [.int .i64 (rnk G v:Nat),.slice none 0 0]/\Below d.heap.size d wz) (fun i _=>k-(intOf i).toNat)
         case atStart=>exact⟨0,by omega,rfl,jz.out,k5.out,hf.out⟩
         case round =>
          obtain⟨v,hv,rfl,kO,kU,bq⟩:=hrel;have jl:=bq.size;have ol:=kU.lt;by_cases gt:v<k
          ·have a0:=Zxu iu.out (f.heap.size+1) w7.heap.size f.heap.size v gt;have ls:=bt.out.le v;have cm:=bt.out.idem v;have lp:=it.out v (by omega);have co:=Zfz G v;have Y:=Zta (fun u=>numL G (u:Int)) gt;have cn:numL G (v:Int)=((rnk G (G (v:Int)).toNat:Nat):Int):=rfl;obtain⟨a,ha⟩:∃a:Nat,G (v:Int)=a:=⟨(G v).toNat,by omega⟩;have ci:=Zmn (fun u=>numL G (u:Int)) v (v:=a) (n:=k) (by omega);have gi:numL G (a:Int)=numL G (v:Int):=by unfold numL;rw[<- ha,cm]
           rw[ha]at a0 ls lp cn;rw[zC]at cn;have br:=bu.out.below bq;have e3:=a0 wr br;have oj:=br.find;by_cases lm:a=v
           ·subst lm;rw[if_pos ha]at co;have ec:(tabL (fun u=>numL G (u:Int)) a k).set a ((rnk G a:Nat):Int)=tabL (fun u=>numL G (u:Int)) (a+1) k:=by rw[<- cn];exact Y
            have bg:((rnk G (a+1):Nat):Int)=((rnk G a:Nat):Int)+1:=by rw[co];rfl
            have lj:((a:Int)==(a:Int))=true:=beq_self_eq_true _;have ot:((rnk G a:Nat):Int)+1<=5000:=by have:=Zv1 G a;omega
            clear co cn gi Y;generalize rnk G a=J at *;obtain⟨b8,b9,cw,jv,cb,cv,f2,bz,l4,jw⟩:=zz10 kO kU e3 br a0 ci ec bg ha cm;clear kO kU e3 br a0 ci ec bg ha cm;go_wp2_with fail;refine cw.out.mono ?_;rintro e ai ⟨rfl,ac⟩;have ax:=b8.out.below ac b8.out.lt;have ay:=b9.out.below ac b9.out.lt;have an:=bq.trans (ac.mono jl);have cO:=ax.cell a;rw[zJ,cv.out,Option.map_some]at cO;generalize (if a<a then numL G (a:Int)else 0)=old at *;have fO:=ax.frozen a;have fU:=ay.frozen 0;have cU:ai.cell? ⟨d.heap.size+1,0,none⟩=some (.int .i64 (J:Int)):=ay.cell 0;have a7:=(ax.set a (.int .i64 (J:Int))).far (p:=⟨d.heap.size+1,0,none⟩) (by simp) (.int .i64 ((J:Int)+1));rw[<- List.map_set,f2.out]at a7;have bs:=(ay.far (p:=⟨d.heap.size,a,none⟩) (by simp) (.int .i64 (J:Int))).set 0 (.int .i64 ((J:Int)+1));have c5:=(an.setCell (p:=⟨d.heap.size,a,none⟩) zl (.int .i64 (J:Int))).setCell (p:=⟨d.heap.size+1,0,none⟩) (Nat.le_succ _) (.int .i64 ((J:Int)+1));obtain⟨cy,cz,f6,f7,hh⟩:=zz5 ax ay a7 bs c5;clear ax ay a7 bs c5;go_wp2_with fail;exact⟨⟨a+1,by omega,by simp,f6.out,by rw[bz.out];exact f7.out,hh.out⟩,by simp[intOf];omega⟩
           ·rw[if_neg (by rw[ha];omega)]at co;have ll:a<v:=by omega
            rw[if_pos ll,gi]at ci;have lj:((a:Int)==(v:Int))=false:=by rw[beq_eq_false_iff_ne];omega
            have bg:rnk G (v+1)=rnk G v:=by omega
            clear co cn gi;generalize numL G (v:Int)=nv at *;obtain⟨b8,b9,cw,jv,cb,cv,ii,bz,l4,jw⟩:=zz10 kO kU e3 br a0 ci Y bg ha cm;clear kO kU e3 br a0 ci Y bg ha cm;go_wp2_with fail;refine cw.out.mono ?_;rintro e ai ⟨rfl,ac⟩;have ax:=b8.out.below ac b8.out.lt;have ay:=b9.out.below ac b9.out.lt;have an:=bq.trans (ac.mono jl);have ky:=an.size;have fr:=cb.out ai (bu.out.below an);have cf:=(bu.out.below an).find;obtain⟨cy,cz,hw⟩:=zz3 ax ay fr;clear ax ay fr;go_wp2_with fail;refine hw.out.mono ?_;rintro e md ⟨rfl,d7⟩;have a7:=cy.out.below d7 cy.out.lt;have bs:=cz.out.below d7 cz.out.lt;have c5:=an.trans (d7.mono ky);have cO:=a7.cell v;rw[zJ,Zmn _ _ gt,Option.map_some]at cO;have cA:=a7.cell a;rw[zJ,cv.out,Option.map_some]at cA;generalize (if v<v then(fun u:Nat=>numL G (u:Int)) v else 0)=old at *;have fO:=a7.frozen v;have gu:=a7.set v (.int .i64 nv);rw[<- List.map_set,ii.out]at gu;have jm:=bs.far (p:=⟨d.heap.size,v,none⟩) (by simp) (.int .i64 nv);have fp:=c5.setCell (p:=⟨d.heap.size,v,none⟩) zl (.int .i64 nv);obtain⟨f6,f7,kl,km,ho⟩:=zz5 a7 bs gu jm fp;clear a7 bs gu jm fp;go_wp2_with fail;exact⟨⟨v+1,by omega,by simp,kl.out,by rw[bz.out];exact km.out,ho.out⟩,by simp[intOf];omega⟩
          ·obtain rfl:v=k:=by omega
           rw[Zp1]at kO
           change Bk wr d.heap.size 3 ((Zb4 G v).map (Value.int .i64))at kO
           obtain⟨az,kv⟩:∃az,az=wr:=⟨_,rfl⟩;subst kv;have e1:az.cell? ⟨w.heap.size,1,none⟩=some (.slice A T.length D):=(bq.cell (p:=⟨w.heap.size,1,none⟩) (by show w.heap.size<_;omega)).trans d1;have m0:rnk G v<=4096:=Nat.le_trans (Zv1 G v) lw;obtain⟨J,dg⟩:∃J,rnk G v=J:=⟨_,rfl⟩;rw[dg]at kU m0;have dw:∀t∈T,(0<=t.1/\t.1<(v:Int))/\(0<=t.2.1/\t.2.1<(v:Int))/\(0<=t.2.2/\t.2.2<(v:Int)):=fun t ht=>by
            have:=Zs9 a6.out t ht;rw[en.out]at this;exact this
           obtain⟨b8,b9,b5,eo⟩:=zz4 kO kU dg dw;clear kO kU dg dw;go_wp2_with fail;go_loopw[127] (fun i wz=>∃(j:Nat) (r:Value),j<=T.length/\i=.int .i64 (j:Int)/\Bk wz (d.heap.size+1) 24 [.int .i64 (J:Int),r]/\Bk wz d.heap.size 3 ((Zb4 G v).map (Value.int .i64))/\wz.ownsRow az.heap.size 57 3 r j (Zan (sewT G (T.take j)))/\Below d.heap.size d wz/\az.heap.size<=wz.heap.size) (fun i _=>T.length-(intOf i).toNat)
           case atStart=>exact⟨0,_,by omega,rfl,b9.out,b8.out,zn _ _ _ _,bq,zl⟩
           case round =>
            obtain⟨j,r,hj,rfl,bU,bO,C,bp,p7⟩:=hrel;obtain⟨A5,s,rfl,om⟩:=zaeq C;have u0:wr.cell? ⟨d.heap.size+1,0,none⟩=some (.int .i64 (J:Int)):=bU.cell 0;have u1:wr.cell? ⟨d.heap.size+1,1,none⟩=some (.slice A5 j s):=bU.cell 1;have d5:=bU.lt;by_cases da:j<T.length
            ·obtain⟨b,o,rfl,F,t1,t2,t3⟩:=(((h5.out.below zaaq (S.mono ix)).below zaaq (bp.mono (by omega)))).tri_at da;have ji:=eo.out _ (zM da);have bi:Zan (sewT G (T.take (j+1)))=Zan (sewT G (T.take j))++[.int .i64 (numL G T[j].1),.int .i64 (numL G T[j].2.1),.int .i64 (numL G T[j].2.2)]:=by
              rw[zT da];unfold sewT;rw[List.map_append,List.map_cons,List.map_nil,Zds]
             generalize T[j]=x at *;obtain⟨x1,x2,x3⟩:=x;simp only[]at t1 t2 t3 bi ji;obtain⟨⟨p1,q1⟩,⟨p2,q2⟩,p3,q3⟩:=ji;obtain⟨n1,rfl⟩:∃m:Nat,x1=(m:Int):=⟨x1.toNat,by omega⟩;obtain⟨n2,rfl⟩:∃m:Nat,x2=(m:Int):=⟨x2.toNat,by omega⟩;obtain⟨n3,rfl⟩:∃m:Nat,x3=(m:Int):=⟨x3.toNat,by omega⟩;have c4:∀m:Nat,m<v->wr.cell? ⟨d.heap.size,m,none⟩=some (.int .i64 (numL G (m:Int))):=fun m hm=>by
              rw[bO.cell m,zJ];unfold Zb4;rw[zJ,List.getElem?_range hm];rfl
             have o1:=c4 n1 (by omega);have o2:=c4 n2 (by omega);have o3:=c4 n3 (by omega);generalize numL G (n1:Int)=y1 at *;generalize numL G (n2:Int)=y2 at *;generalize numL G (n3:Int)=y3 at *;have nq:b<wr.heap.size:=by omega
             have e7:d.heap.size<wr.heap.size:=bO.lt;clear c4;obtain⟨wq,cq⟩:∃wq,wq=wr.alloc (.cells #[.int .i64 (n1:Int),.int .i64 (n2:Int),.int .i64 (n3:Int)] 57):=⟨_,rfl⟩;have ba:Below wr.heap.size wr wq:=by rw[cq];exact(zr _ _).alloc zl _
             have ja:Bk wq wr.heap.size 57 [.int .i64 (n1:Int),.int .i64 (n2:Int),.int .i64 (n3:Int)]:=by rw[cq];exact Bk.new wr _ _
             have p6:wr.heap.size<wq.heap.size:=by rw[cq];simp
             have qU:=bU.below ba d5;have qO:=bO.below ba e7;have ea:=zafq C ba zl;have kr:=bp.trans (ba.mono (by omega));obtain⟨l3,el,ag,f4,cd,l8,cc,cx⟩:=zz8 bU bO C bi qU qO ea ja;clear bU bO C bi qU qO ea ja;go_wp2_with fail;rw[<- cq];have q0:wq.cell? ⟨d.heap.size+1,0,none⟩=some (.int .i64 (J:Int)):=cd.out.cell 0;have m9:wq.cell? ⟨d.heap.size+1,1,none⟩=some (.slice A5 j s):=cd.out.cell 1;have r1:=(ba.cell (p:=⟨d.heap.size,n1,none⟩) e7).trans o1;have r2:=(ba.cell (p:=⟨d.heap.size,n2,none⟩) e7).trans o2;have r3:=(ba.cell (p:=⟨d.heap.size,n3,none⟩) e7).trans o3;have s1:wq.cell? ⟨wr.heap.size,0,none⟩=some (.int .i64 (n1:Int)):=cx.out.cell 0;have s2:wq.cell? ⟨wr.heap.size,1,none⟩=some (.int .i64 (n2:Int)):=cx.out.cell 1;have s3:wq.cell? ⟨wr.heap.size,2,none⟩=some (.int .i64 (n3:Int)):=cx.out.cell 2;clear cq;refine Canon.wp_region_last 21 [1] (fun b=>b=d.heap.size+1) (.seg [0,1,2,3,4,5,6,7,8,9,10,11,12,13,14,15,16,17] (.alt 18 (.alt 19 (.seg [20] (.alt 21 .fin .no)) .no) .no)) mixed (by kernel_rfl) ?_;refine Canon.trm_seg ?_;simp only[zm,zg];go_wp2_with fail;refine Canon.trm_to (Canon.trm_one ?_);simp only[zg];go_wp2_with fail;refine Canon.trm_end (fun b K=>by subst K;exact Below.heap_alloc wq _ _ cd.out.lt) (Canon.trm_one ?_);simp only[zg];refine zajq _ rfl _ _ 22 rfl az.heap.size Zoi Tryz.underlying22 rfl (by decide) _ j _ rfl ((zafq cc.out (zr _ wq).drew zl).alloc _) wq.heap.size [.int .i64 y1,.int .i64 y2,.int .i64 y3] rfl (Bk.new wq.drew 57 _) rfl (by simp[Value.oneCell']) (by omega) (by decide) (by simp only[World.size_alloc,World.size_drew];omega) ?_;intro v' ef ah bn b6 _;obtain⟨g5,ak,rfl⟩:=ownsRow_succ ah;have e6:∀g,g<az.heap.size->some g≠(Value.slice A5 j s).ownBlock:=fun g hg e=>by have:=(cc.out.lt g e.symm).1;omega
             have g9:∀g,g<az.heap.size->(Value.slice (some ⟨g5,0,none⟩) (j+1) ak).ownBlock≠some g:=fun g hg e=>by have:=(ah.lt g e).1;omega
             have aj:=(cd.out.drew.alloc (.cells #[.int .i64 y1,.int .i64 y2,.int .i64 y3] 57)).grown b6 (e6 _ (by omega));have d2:=(l8.out.drew.alloc (.cells #[.int .i64 y1,.int .i64 y2,.int .i64 y3] 57)).grown b6 (e6 _ (by omega));have lr:Canon.KeepU (fun b=>b=d.heap.size+1) wq.drew ef:=fun b K=>by subst K;exact aj.trans cd.out.symm
             have e5:=aj.cell 1;have f5:=aj.frozen 1;have m6:=bn.size;have f9:=aj.set 1 (.slice (some ⟨g5,0,none⟩) (j+1) ak);have f8:=d2.far (p:=⟨d.heap.size+1,1,none⟩) (by simp only;omega) (.slice (some ⟨g5,0,none⟩) (j+1) ak);have e9:=ah.kept (row:=some (d.heap.size+1)) (w':=ef.setCell ⟨d.heap.size+1,1,none⟩ (.slice (some ⟨g5,0,none⟩) (j+1) ak)) ⟨rfl,rfl,rfl,(KeepsWalks.setCell ef _ _).size,fun b _ F=>Below.heap_setCell _ _ _ b (fun e=>F (by rw[e]))⟩ (.inr (g9 _ (by omega)));have Z:=((kr.drew.alloc (by simp only[World.size_drew];omega) (.cells #[.int .i64 y1,.int .i64 y2,.int .i64 y3] 57)).trans (bn.mono (by omega))).setCell (p:=⟨d.heap.size+1,1,none⟩) (by show d.heap.size<=d.heap.size+1;omega) (.slice (some ⟨g5,0,none⟩) (j+1) ak);simp only[World.size_alloc,World.size_drew]at m6;obtain⟨l6,mh,mf,h3,gz,ey,er,mz,n5,l5⟩:=zz10 ah aj d2 f9 f8 e9 Z e6 g9 b6;clear ah aj d2 f9 f8 e9 Z e6 g9 b6;refine Canon.trm_end lr (Canon.trm_seg ?_);simp only[zm,zg];go_wp2_with fail;refine Canon.trm_to (Canon.trm_one ?_);simp only[zg];go_wp2_with fail;refine Canon.trm_last (Canon.trm_fin (by rfl) (zF ⟨.inl ⟨_,rfl,rfl,by rw[zw,m9];rfl⟩,fun _ h=>by cases h⟩) ?_);go_wp2_with fail;refine⟨⟨j+1,_,by omega,by simp,h3.out,gz.out,by rw[f4.out];exact ey.out,er.out,?_⟩,by simp[intOf];omega⟩;have h8:=(KeepsWalks.setCell ef ⟨d.heap.size+1,1,none⟩ (.slice (some ⟨g5,0,none⟩) (j+1) ak)).size;omega
            ·obtain rfl:j=T.length:=by omega
             rw[List.take_length]at C;have b7:(sewT G T).length=T.length:=by unfold sewT;rw[zL]
             have gq:=Zdh (T:=sewT G T) (by rw[b7];exact C);obtain⟨gw,kw⟩:∃gw,gw=wr:=⟨_,rfl⟩;subst kw;have fq:=Zim (.slice A5 T.length s) (J:Int) (sewT G T) gw zl gq (I64.nat (by omega));have au:=(ds.out.below S (by omega)).below bp (by omega);have dz:=(Z.trans (S.mono Z.size)).trans (bp.mono (by omega));obtain⟨l3,el,ag,hu,n6⟩:=zz5 bU bO C fq gq;clear bU bO C fq gq;go_wp2_with fail;refine hu.out.mono ?_;rintro e gx ⟨⟨b,rfl,F⟩,am⟩;have I:=au.below am (by have:=au.lt;exact this);have cj:=zapq dz am dz.size;have f1:=I.frozen;have g0:gx.cell? ⟨w.heap.size+1,0,none⟩=some (.int .i64 0):=I.cell 0;have g1:gx.cell? ⟨w.heap.size+1,1,none⟩=some (.slice none 0 0):=I.cell 1;have dv:N.toNat=v:=by have:=en.out;omega
             cases b with
             | false =>
              have hn:¬Surf (J:Int) (sewT G T):=fun h=>by have:=F.2 h;cases this
              have Q:=(cj.setCell (p:=⟨w.heap.size+1,0,none⟩) (by simp) (.int .i64 0)).setCell (p:=⟨w.heap.size+1,1,none⟩) (by simp) (.slice none 0 0);have W:=(I.set 0 (.int .i64 0)).set 1 (.slice none 0 0);obtain⟨ep,eu,a9,aa,i6,i7,a8⟩:=zz7 F hn Q W au I dv;clear F hn Q W au I dv;go_wp2_with fail;refine Zef rfl rfl aa.out Tryz.underlying24 rfl (by kernel_rfl) rfl ⟨⟨_,_,_,rfl,.inr (.inr (.inl ⟨a6.out,?_,?_,rfl,rfl,rfl⟩)),fun K=>(by cases K)⟩,a9.out⟩
              ·rw[dj.out];exact f0.out
              ·unfold labP;rw[av.out,a8.out,b5.out];exact eu.out
             | true =>
              have jj:=F.1 rfl;have z0:=(am.cell (p:=⟨d.heap.size+1,0,none⟩) d5).trans u0;have z1:=(am.cell (p:=⟨d.heap.size+1,1,none⟩) d5).trans u1;have Y:∀(wz:World) (i:Nat) (u:Value),wz.grownBy (wz.setCell ⟨w.heap.size+1,i,none⟩ u) (some (w.heap.size+1)):=fun wz i u=>⟨rfl,rfl,rfl,(KeepsWalks.setCell wz _ u).size,fun b _ F=>Below.heap_setCell _ _ _ b (fun e=>F (by rw[e]))⟩
              have ga:(Value.slice A5 T.length s).ownBlock=none\/(Value.slice A5 T.length s).ownBlock≠some (w.heap.size+1):=.inr fun e=>by have:=(ag.out.lt _ e).1;omega
              have be:=((zafq ag.out am zl).kept (Y gx 0 (.int .i64 (J:Int))) ga).kept (Y _ 1 (.slice A5 T.length s)) ga;have gj:d.heap.size≠w.heap.size+1:=by omega
              have di:=((el.out.below am el.out.lt).far (p:=⟨w.heap.size+1,0,none⟩) gj (.int .i64 (J:Int))).far (p:=⟨w.heap.size+1,1,none⟩) gj (.slice A5 T.length s);have Q:=(cj.setCell (p:=⟨w.heap.size+1,0,none⟩) (by simp) (.int .i64 (J:Int))).setCell (p:=⟨w.heap.size+1,1,none⟩) (by simp) (.slice A5 T.length s);have W:=(I.set 0 (.int .i64 (J:Int))).set 1 (.slice A5 T.length s);have ee:=Zdh (T:=sewT G T) (by rw[b7];exact be);have gn:=sl_zv di;have gb:(Zb4 G v).length=v:=by unfold Zb4;simp
              rw[gb]at gn;clear Y ga;obtain⟨ep,ki,a9,aa,i6,i7,a8,eh,du,f3,kh,k9⟩:=zz12 F jj Q W au I dv be di ee gn gb;have es:=zz b7;clear F jj Q W au I dv be di ee gn gb b7;go_wp2_with fail;refine Zef rfl rfl aa.out Tryz.underlying24 rfl (by kernel_rfl) rfl ⟨⟨_,_,_,rfl,.inr (.inr (.inr ⟨a6.out,?_,?_,rfl,.slice A5 T.length s,?_,?_,?_⟩)),fun _ wz hwz=>⟨.slice A5 T.length s,?_,?_,?_⟩⟩,a9.out⟩
              ·rw[dj.out];exact f0.out
              ·unfold labP;rw[av.out,a8.out,b5.out];exact ki.out
              ·unfold labP;rw[av.out,a8.out,b5.out];rfl
              ·unfold labP;rw[av.out];exact f3.out
              ·unfold labP;rw[av.out,a8.out];exact kh.out
              ·unfold labP;rw[av.out,a8.out,b5.out];rfl
              ·unfold labP;rw[av.out];exact Zdh (T:=sewT G T) (by rw[es.out];exact own_from eh.out fun b h1 h2=>hwz b (by omega) h2)
              ·unfold labP;rw[av.out,a8.out];have:=sl_zv (w:=wz) (g:=d.heap.size) (t:=3) (l:=Zb4 G v) ((hwz d.heap.size (by omega) du.out.lt).trans du.out);rw[k9.out]at this;exact this
    ·have on:(c != 0)=true:=bne_iff_ne.2 e2;have f1:=V.frozen;have e0:f.cell? ⟨w.heap.size+1,0,none⟩=some (.int .i64 0):=V.cell 0;have e1:f.cell? ⟨w.heap.size+1,1,none⟩=some (.slice none 0 0):=V.cell 1;have Q:=(Z.setCell (p:=⟨w.heap.size+1,0,none⟩) (by simp) (.int .i64 0)).setCell (p:=⟨w.heap.size+1,1,none⟩) (by simp) (.slice none 0 0);have W:=(V.set 0 (.int .i64 0)).set 1 (.slice none 0 0);obtain⟨hy,ds,a9,aa⟩:=zz4 aq V Q W;clear aq V Q W;go_wp2_with fail;refine Zef rfl rfl aa.out Tryz.underlying24 rfl (by kernel_rfl) rfl ⟨⟨_,_,_,rfl,.inr (.inl ⟨a6.out,?_,e2,rfl,rfl⟩),fun K=>absurd K e2⟩,a9.out⟩;rw[dj.out];exact iv.out.symm
