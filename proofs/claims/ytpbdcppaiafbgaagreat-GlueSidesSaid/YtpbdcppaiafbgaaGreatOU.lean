/- The law GlueSides, walked. -/
import Derived.Test.YtpbdcppaiafbgaaGreatOP
import Derived.Test.YtpbdcppaiafbgaaGreatOM
import Derived.Test.YtpbdcppaiafbgaaGreatOQ
set_option maxRecDepth 100000
set_option maxHeartbeats 8000000
namespace Go.Proofs.YtpbdcppaiafbgaaGreat
open Go Go.RowKit Go.Words Go.Mesh
theorem side_star {N:Int} {T:List T3} {v:Int} (hs:Surf N T) (hv:0<=v/\v<N) (hi:innerAt T N v=true) (hlp:lpN N T (linkAt T N v)=0) (hfew:(newO N T ((lpE (linkAt T N v)).map nm)).length<=4096) {b:Bool} {c:Int} (h:SideC N T (linkAt T N v) b c):b=true/\c=0:=by
 rcases h with ⟨_,_,⟨a,_⟩ | ⟨_,⟨a,_⟩ | ⟨_,a,_⟩⟩⟩ | ⟨a,_,_,_,l,m,j,k,g,i,e⟩
 ·exact absurd hs a
 ·exact absurd hlp a
 ·omega
 ·have d:=loop_star hs hv hi hlp hfew
  have f:=d.more g i fun c hc hcv=>lp_opp hs hv hi hlp hc hcv
  exact ⟨by rw [e];exact decide_eq_true f,a⟩
theorem open_ok {N:Int} {T P:List T3} {K l:List Int} (hs:Surf N T) (hmb:mayB N T P K=true) (hlp:lpN N T l=0) (hfew:(newO N T ((lpE l).map nm)).length<=4096) {c:Int} (h:OpenC N T P K l c):c=0:=by
 rcases h with ⟨a,_⟩ | ⟨_,a,_⟩ | ⟨_,_,⟨a,_⟩ | ⟨_,a,_⟩ | ⟨_,_,a⟩⟩
 ·exact absurd hs a
 ·rw [hmb] at a;cases a
 ·exact absurd hlp a
 ·omega
 ·exact a
theorem gluesides_law (sv pv kv:Value) (N:Int) (T P:List T3) (K:List Int) (m:Nat) (w:World) {B:Nat} (hB0:B<=w.heap.size) (hT:Sl 3 RTri w B sv T) (hP:Sl 3 RTri w B pv P) (hK:Sl 1 RInt w B kv K) (hN:I64 N) (hm:m<256) :
  Calls Tryz.prog 13 #[.agg #[.int .i64 N,sv,pv,kv],.int .u8 (m:Int)] w fun e w'=>e=.returned (.bool true)/\Below w.heap.size w w':=by
 obtain ⟨A,F,rfl,fz⟩:=hT.form
 obtain ⟨Ap,f,rfl,fi⟩:=hP.form
 obtain ⟨Ak,d,rfl,fg⟩:=hK.form
 have ad:=(Below.refl w.heap.size w).alloc (Nat.le_refl _) (.cells #[.int .i64 N,.slice A T.length F,.slice Ap P.length f,.slice Ak K.length d] 67)
 have Y:=Bk.new w 67 [.int .i64 N,.slice A T.length F,.slice Ap P.length f,.slice Ak K.length d]
 have gs:w.heap.size+1<=(w.alloc (.cells #[.int .i64 N,.slice A T.length F,.slice Ap P.length f,.slice Ak K.length d] 67)).heap.size:=by simp
 have bn:=hT.below keeps_tri (ad.mono hB0)
 have bl:=hP.below keeps_tri (ad.mono hB0)
 have bj:=hK.below keeps_int (ad.mono hB0)
 generalize ex:w.alloc (.cells #[.int .i64 N,.slice A T.length F,.slice Ap P.length f,.slice Ak K.length d] 67)=w0 at *
 have c0:w0.cell? ⟨w.heap.size,0,none⟩=some (.int .i64 N):=Y.cell 0
 have c1:w0.cell? ⟨w.heap.size,1,none⟩=some (.slice A T.length F):=Y.cell 1
 have c2:w0.cell? ⟨w.heap.size,2,none⟩=some (.slice Ap P.length f):=Y.cell 2
 have c3:w0.cell? ⟨w.heap.size,3,none⟩=some (.slice Ak K.length d):=Y.cell 3
 have cy:=fits45_calls (w:=w0) (B:=B) (by omega) bn bl bj hN
 obtain ⟨gb,ga,g9,dp,dl,di,dv,dw⟩:=zz8 hT hP hK bn bl bj cy Y;clear hT hP hK bn bl bj cy Y
 go_enter Tryz.func13,Tryz.ntmps13
 go_wp2_with fail
 clear ex
 refine dv.out.mono ?_
 rintro e w1 ⟨⟨tv,ok,rfl,da⟩,bs⟩
 have f4:=bs.size
 have ar:=ad.trans (bs.mono ad.size)
 have cs:=awake45_calls w1
 obtain ⟨ds,e9⟩:=zz2 cs da;clear cs da
 go_wp2_with fail
 refine ds.out.mono ?_
 rintro e w2 ⟨rfl,aq⟩
 have gv:=aq.size
 have I:=ar.trans (aq.mono ar.size)
 cases ok with
 | false =>
  have br:=awake45_calls w2
  have cj:=zz br;clear br
  go_wp2_with fail
  refine cj.out.mono ?_
  rintro e S ⟨rfl,s⟩
  have t:=I.trans (s.mono I.size)
  go_wp2_with fail
  go_ret
  exact ⟨rfl,t⟩
 | true =>
  obtain ⟨cv,hs,d5,B1,Q⟩:=e9.out rfl
  obtain ⟨q1,q2,q3,q4⟩:=small45 cv
  clear cv
  obtain ⟨gt,rfl⟩:∃ gt,tv=.pointer (some gt):=by
   obtain ⟨g,_,_,_,_,_,rfl,_⟩:=Q
   exact ⟨_,rfl⟩
  obtain ⟨n,rfl⟩:∃ n:Nat,N=n:=⟨N.toNat,by have:=hs.n0;omega⟩
  have a4:=bs.trans (aq.mono f4)
  have Z:=dw.out.below a4 (by omega)
  have d0:w2.cell? ⟨w.heap.size,0,none⟩=some (.int .i64 (n:Int)):=Z.cell 0
  have d1:w2.cell? ⟨w.heap.size,1,none⟩=some (.slice A T.length F):=Z.cell 1
  have d2:w2.cell? ⟨w.heap.size,2,none⟩=some (.slice Ap P.length f):=Z.cell 2
  have d3:w2.cell? ⟨w.heap.size,3,none⟩=some (.slice Ak K.length d):=Z.cell 3
  have bo:=dp.out.below keeps_tri (a4.mono (show B<=w0.heap.size by omega))
  have bm:=dl.out.below keeps_tri (a4.mono (show B<=w0.heap.size by omega))
  have bk:=di.out.below keeps_int (a4.mono (show B<=w0.heap.size by omega))
  have es:=Q.le
  have a6:=Q.below aq es
  have E:B<=w2.heap.size:=by omega
  have dd:=round45_calls (w:=w2) (B:=w2.heap.size) (Nat.le_refl _) (bo.keep keeps_tri (Below.refl _ _) E) (bm.keep keeps_tri (Below.refl _ _) E) (bk.keep keeps_int (Below.refl _ _) E) a6 hs m hm
  obtain ⟨dq,dm,dj,dx,ff,bh,a,e6,ea⟩:=zz9 bo bm bk Z Q a6 hs d5 dd;clear bo bm bk Z Q a6 hs d5 dd
  go_wp2_with fail
  refine ea.out.mono ?_
  rintro e S ⟨⟨lv,b,rfl,b0⟩,s⟩
  have gw:=s.size
  have t:=I.trans (s.mono I.size)
  cases b with
  | false =>
   have fs:=zz b0;clear b0
   go_wp2_with fail
   go_ret
   exact ⟨rfl,t⟩
  | true =>
  obtain ⟨k,eu,ed,W,az,bq,a2⟩:=b0 rfl
  clear b0
  have eu:k<n:=by omega
  obtain ⟨Al,fx,rfl,fh⟩:=az.form
  have a0:=dx.out.below s (by omega)
  have e0:S.cell? ⟨w.heap.size,0,none⟩=some (.int .i64 (n:Int)):=a0.cell 0
  have e1:S.cell? ⟨w.heap.size,1,none⟩=some (.slice A T.length F):=a0.cell 1
  have e2:S.cell? ⟨w.heap.size,2,none⟩=some (.slice Ap P.length f):=a0.cell 2
  have e3:S.cell? ⟨w.heap.size,3,none⟩=some (.slice Ak K.length d):=a0.cell 3
  have bp:=(dq.out.below keeps_tri (s.mono E)).keep keeps_tri (Below.refl _ _) (show B<=S.heap.size by omega)
  have cr:=(dm.out.below keeps_tri (s.mono E)).keep keeps_tri (Below.refl _ _) (show B<=S.heap.size by omega)
  have cq:=(dj.out.below keeps_int (s.mono E)).keep keeps_int (Below.refl _ _) (show B<=S.heap.size by omega)
  have b4:=bh.out.below s (show B1<=w2.heap.size by omega)
  have H:(0:Int)<=(k:Int)/\(k:Int)<(n:Int):=by omega
  have c5:∀ u∈linkAt T (n:Int) (k:Int),I64 u:=fun u hu=>by
   have h1:=link_rng a.out H hu
   have h2:=a.out.nmax
   unfold I64
   omega
  have gk:(linkAt T (n:Int) (k:Int)).length<=3 * T.length:=by
   have h1:=link_len a.out H
   rw [if_pos W] at h1
   have h2:=nodup_len (a.out.ring_nodup (k:Int)) (m:=List.range (3 * T.length)) fun x hx=>List.mem_range.2 ((a.out.ring_mem (k:Int) x).1 hx).1
   rw [List.length_range] at h2
   omega
  have am:=newO_few a.out ((lpE (linkAt T (n:Int) (k:Int))).map nm) (by omega)
  have z:=loop_star a.out H W a2 am
  have c8:=fun c (h1:c<3 * T.length) (h2:Mesh.vt T c=(k:Int))=>lp_opp a.out H W a2 h1 h2
  have df:=side45_calls (w:=S) (B:=S.heap.size) (Nat.le_refl _) bp hN az c5 (by omega)
  have de:=fun b c (h:SideC (n:Int) T (linkAt T (n:Int) (k:Int)) b c)=>side_star a.out H W a2 am h
  have d8:=fun c (h:OpenC (n:Int) T P K (linkAt T (n:Int) (k:Int)) c)=>open_ok a.out e6.out a2 am h
  obtain ⟨cc,bx⟩:=a.out.corner_some H.1 H.2
  obtain ⟨_,cw,af,_⟩:=(leastFrom_some _ _ _ _).1 bx
  have af:Mesh.vt T cc=(k:Int):=by simpa using af
  have cw:cc<3 * T.length:=by omega
  have dg:tCorn T (n:Int) (k:Int)=(cc:Int):=by unfold tCorn;rw [if_pos H,bx];rfl
  have v:=fun ox cx (h2:Pt (newX (n:Int) T ((lpE (linkAt T (n:Int) (k:Int))).map nm)) ox cx T.length)=>z.many h2 cw af
  have ah:=z.cut
  have ac:=z.numb.len
  generalize cz:linkAt T (n:Int) (k:Int)=lo at *
  have gr:(m:Int).tmod (n:Int)=(k:Int):=by rw [Int.tmod_eq_emod_of_nonneg (by omega)];exact ed
  have g4:((n:Int) == 0)=false:=by rw [beq_eq_false_iff_ne];omega
  have fj:0<(n:Int):=by omega
  clear bx
  obtain ⟨dr,dn,dk,b9,bi,e4,e5,fb,fl,fr,bg,fd⟩:=zz12 bp cr cq a0 b4 c5 az bq W a2 z c8;obtain ⟨be,bd,ba,r,fk,eb,fq,L,D⟩:=zz9 df de d8 v af dg cz ah ac;clear bp cr cq a0 b4 c5 az bq W a2 z c8 df de d8 v af dg cz ah ac
  go_wp2_with fail
  all_goals first | (exfalso;omega) | skip
  refine be.out.mono ?_
  rintro e w4 ⟨⟨b,c,rfl,ca⟩,G⟩
  obtain ⟨rfl,rfl⟩:=bd.out _ _ ca
  clear ca
  have ai:=G.size
  have au:=t.trans (G.mono t.size)
  have a1:=b9.out.below G (by omega)
  have f0:w4.cell? ⟨w.heap.size,0,none⟩=some (.int .i64 (n:Int)):=a1.cell 0
  have f1:w4.cell? ⟨w.heap.size,1,none⟩=some (.slice A T.length F):=a1.cell 1
  have f2:w4.cell? ⟨w.heap.size,2,none⟩=some (.slice Ap P.length f):=a1.cell 2
  have f3:w4.cell? ⟨w.heap.size,3,none⟩=some (.slice Ak K.length d):=a1.cell 3
  have dc:=open45_calls (w:=w4) (B:=w4.heap.size) (Nat.le_refl _) ((dr.out.below keeps_tri G).keep keeps_tri (Below.refl _ _) ai) ((dn.out.below keeps_tri G).keep keeps_tri (Below.refl _ _) ai) ((dk.out.below keeps_int G).keep keeps_int (Below.refl _ _) ai) hN (by omega) (by omega) (by omega) ((e5.out.below keeps_int G).keep keeps_int (Below.refl _ _) ai) e4.out (by omega)
  obtain ⟨fm,bc⟩:=zz2 a1 dc;clear a1 dc
  go_wp2_with fail
  all_goals first | (exfalso;omega) | skip
  refine bc.out.mono ?_
  rintro e U ⟨⟨x,o,c,rfl,c7,_,d6⟩,ct⟩
  obtain rfl:=ba.out _ c7
  obtain ⟨h5,h4,h3,rfl,sX,sP,sK,sO⟩:=d6 rfl U fun _ _ _=>rfl
  obtain ⟨A5,p5,rfl,gl⟩:=sX.form
  obtain ⟨A6,p6,rfl,gm⟩:=sP.form
  obtain ⟨A7,p7,rfl,gn⟩:=sK.form
  obtain ⟨A8,p8,rfl,gp⟩:=sO.form
  clear d6 c7
  have v:=r.out
  have ah:=L.out
  have ac:=D.out
  clear r L D bg ba bd be bc
  generalize newX (n:Int) T ((lpE lo).map nm)=X at *
  generalize (newO (n:Int) T ((lpE lo).map nm))=O at *
  generalize (ptsOf P O).length=m6 at *
  have f5:=ct.size
  obtain ⟨w6,cd⟩:∃ w6,U.alloc (.cells #[.int .i64 (O.length:Nat),.slice A5 X.length p5,.slice A6 m6 p6,.slice A7 K.length p7] 67)=w6:=⟨_,rfl⟩
  have ak:Below U.heap.size U w6:=by rw [<- cd];exact (Below.refl U.heap.size U).alloc (Nat.le_refl _) _
  have ay:Bk w6 U.heap.size 67 [.int .i64 (O.length:Nat),.slice A5 X.length p5,.slice A6 m6 p6,.slice A7 K.length p7]:=by rw [<- cd];exact Bk.new U _ _
  have f6:=ak.size
  have bu:=ct.trans (ak.mono f5)
  have av:=au.trans (bu.mono au.size)
  have g0:w6.cell? ⟨U.heap.size,0,none⟩=some (.int .i64 (O.length:Nat)):=ay.cell 0
  have g1:w6.cell? ⟨U.heap.size,1,none⟩=some (.slice A5 X.length p5):=ay.cell 1
  have d7:=new_calls (.slice A5 X.length p5) (O.length:Nat) X w6 (B:=U.heap.size) f6 (sX.below keeps_tri ak) (I64.nat (by omega))
  have g3:lo.length<=1000:=by omega
  obtain ⟨fp,e7,r,L,D,gf,ge,gc,gd⟩:=zz9 ay d7 v ah ac sX sP sK sO;clear ay d7 v ah ac sX sP sK sO
  go_wp2_with fail
  all_goals first | (exfalso;omega) | skip
  clear cd
  refine e7.out.mono ?_
  rintro e w7 ⟨⟨uv,b1,b2,b3,rfl,ev⟩,cu⟩
  rcases ev with ⟨_,J⟩ | ⟨h9,_⟩
  case inr=>exact absurd L.out h9
  obtain ⟨gu,rfl⟩:∃ g,uv=.pointer (some g):=by
   obtain ⟨g,_,_,_,_,_,rfl,_⟩:=J
   exact ⟨_,rfl⟩
  have f7:=cu.size
  obtain ⟨w8,dh⟩:∃ w8,w7.alloc (.cells #[.int .i64 b1,.int .i64 b2,.int .i64 b3] 48)=w8:=⟨_,rfl⟩
  have al:Below w7.heap.size w7 w8:=by rw [<- dh];exact (Below.refl w7.heap.size w7).alloc (Nat.le_refl _) _
  have gx:=al.size
  have bv:=cu.trans (al.mono f7)
  have aw:=av.trans (bv.mono av.size)
  have d9:=of_calls (J.below al (Nat.le_refl _)) L.out
  obtain ⟨eq,e8⟩:=zz2 J d9;clear J d9
  go_wp2_with fail
  clear dh
  refine e8.out.mono ?_
  rintro e w9 ⟨⟨go,out,C,rfl,ax,c9,gh⟩,bw⟩
  have gy:=bw.size
  have cl:=aw.trans (bw.mono aw.size)
  have bt:=((G.trans (bu.mono ai)).trans (bv.mono (by omega))).trans (bw.mono (by omega))
  rw [D.out]
  have db:out.length=T.length:=by rw [c9.len,D.out]
  have ao:Pt X out C T.length:=by rw [<- D.out];exact c9
  have a5:=r.out out C ao
  obtain ⟨R,cb⟩:∃ R,cc / 3=R:=⟨_,rfl⟩
  have g5:R<T.length:=by omega
  have ew:(cc:Int) / 3=(R:Int):=by omega
  have gq:(cc:Int).tdiv 3=(R:Int):=by rw [Int.tdiv_eq_ediv_of_nonneg (by omega)];exact ew
  rw [cb] at a5
  obtain ⟨j,c6⟩:∃ j,out.getD R 0=j:=⟨_,rfl⟩
  rw [c6] at a5
  have an:out[R]? = some j:=by rw [<- c6,List.getD_eq_getElem?_getD,List.getElem?_eq_getElem (show R<out.length by omega)];rfl
  have et:w9.cell? ⟨go,R,none⟩=some (.int .i64 j):=(ax.cell R).trans (ivals_at an)
  have g2:w9.drew.cell? ⟨go,R,none⟩=some (.int .i64 j):=et
  have c4:=b9.out.below bt (by omega)
  have h0:w9.cell? ⟨w.heap.size,0,none⟩=some (.int .i64 (n:Int)):=c4.cell 0
  have a7:=bi.out.below (bt.drew) (show B1<=S.heap.size by omega)
  have bz:=corner_calls (w:=w9.drew) a7 a.out (k:Int)
  rw [eb.out] at bz
  have ec:go<w9.heap.size:=ax.lt
  have ee:=(Below.refl w9.heap.size w9).drew
  clear c9 c6
  obtain ⟨dy,fe,ck,fc,fo,ep,dt,bb,ft⟩:=zz9 ax ao a5 an c4 a7 bz db cb;clear ax ao a5 an c4 a7 bz db cb
  go_wp2_with fail
  all_goals first | (exfalso;omega) | skip
  refine Canon.wp_region_text mixed (by kernel_rfl) ?_
  go_wp2_with fail
  all_goals first | (exfalso;omega) | skip
  refine dt.out.mono ?_
  rintro e h6 ⟨rfl,rfl⟩
  go_wp2_with fail
  all_goals first | (exfalso;omega) | skip
  refine Canon.chk (by rfl) ?_
  go_wp2_with fail
  all_goals first | (exfalso;omega) | skip
  go_loopw [18,90] (fun mv iv wr=>∃ i:Nat,i<=T.length/\iv=.int .i64 (i:Int)/\mv=.int .i64 (((out.take i).countP fun n=>n == j:Nat):Int)/\Below w9.heap.size w9 wr) (fun _ iv _=>T.length - (intOf iv).toNat)
  case atStart=>exact ⟨0,by omega,rfl,rfl,ee⟩
  case round =>
   obtain ⟨i,hi,rfl,rfl,ae⟩:=hrel
   obtain ⟨wq,ey⟩:∃ wq,wq=wr:=⟨_,rfl⟩
   subst ey
   have gz:=ae.size
   by_cases gi:i<T.length
   ·have d4:i<out.length:=by have:=bb.out;omega
    have ag:=dy.out.below ae ec
    have ci:wq.cell? ⟨go,i,none⟩=some (.int .i64 out[i]):=(ag.cell i).trans (ivals_at (List.getElem?_eq_getElem d4))
    have V:(out.take (i+1)).countP (fun n=>n == j)=(out.take i).countP (fun n=>n == j)+if (out[i] == j)=true then 1 else 0:=by
     rw [List.take_succ_eq_append_getElem d4,List.countP_append,List.countP_cons,List.countP_nil,Nat.zero_add]
    have gj:(out.take i).countP (fun n=>n == j)<=i:=by
     have h1:=List.countP_le_length (p:=fun n=>n == j) (l:=out.take i)
     rw [List.length_take] at h1
     omega
    generalize out[i]=y at *
    generalize (out.take i).countP (fun n=>n == j)=q at *
    by_cases hy:y=j
    ·subst hy
     have ce:(y == y)=true:=beq_self_eq_true _
     have M:(out.take (i+1)).countP (fun n=>n == y)=q+1:=by rw [V,ce];rfl
     obtain ⟨dz,du,a3⟩:=zz3 ag V M;clear ag V M
     go_wp2_with fail
     all_goals first | (exfalso;omega) | skip
     exact ⟨⟨i+1,by omega,by simp,congrArg (Value.int .i64) (by rw [a3.out];omega),ae⟩,by simp [intOf];omega⟩
    ·have ce:(y == j)=false:=beq_eq_false_iff_ne.2 hy
     have M:(out.take (i+1)).countP (fun n=>n == j)=q:=by rw [V,ce];rfl
     obtain ⟨dz,du,a3⟩:=zz3 ag V M;clear ag V M
     go_wp2_with fail
     all_goals first | (exfalso;omega) | skip
     exact ⟨⟨i+1,by omega,by simp,congrArg (Value.int .i64) (by rw [a3.out]),ae⟩,by simp [intOf];omega⟩
   ·obtain rfl:i=T.length:=by omega
    rw [List.take_of_length_le (by rw [bb.out];exact Nat.le_refl _),ck.out]
    have cm:=cl.trans (ae.mono (by omega))
    have gg:((lo.length:Int) == (lo.length:Int))=true:=beq_self_eq_true _
    go_wp2_with fail
    all_goals first | (exfalso;omega) | skip
    go_ret
    exact ⟨rfl,cm⟩
end Go.Proofs.YtpbdcppaiafbgaaGreat
