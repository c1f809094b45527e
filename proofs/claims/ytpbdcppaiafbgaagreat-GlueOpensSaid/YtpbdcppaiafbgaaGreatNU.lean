/- The law GlueOpens, walked. -/
import Derived.Test.YtpbdcppaiafbgaaGreatNR
import Derived.Test.YtpbdcppaiafbgaaGreatOM
set_option maxRecDepth 100000
set_option maxHeartbeats 8000000
namespace Go.Proofs.YtpbdcppaiafbgaaGreat
open Go Go.RowKit Go.Words Go.Mesh
theorem open_why {N:Int} {T P:List T3} {K l:List Int} {c:Int} (hfew:Surf N T->(newO N T ((lpE l).map nm)).length<=4096) (h:OpenC N T P K l c) :
  (c≠0/\∀ m,MayC N T P K m->(m≠0/\c=m)\/(m=0/\Surf N T/\lpN N T l=c))\/(c=0/\Surf N T/\mayB N T P K=true/\lpN N T l=0):=by
 rcases h with ⟨b,rfl⟩ | ⟨b,d,rfl⟩ | ⟨b,d,⟨e,rfl⟩ | ⟨_,f,_⟩ | ⟨e,_,rfl⟩⟩
 ·refine .inl ⟨by decide,fun m hm=>?_⟩
  rcases hm with ⟨_,rfl⟩ | ⟨a,_⟩
  ·exact .inl ⟨by decide,rfl⟩
  ·exact absurd a b
 ·refine .inl ⟨by decide,fun m hm=>?_⟩
  rcases hm with ⟨a,_⟩ | ⟨_,a⟩
  ·exact absurd b a
  ·rw [d] at a
   exact .inl ⟨by rw [a];decide,by rw [a];rfl⟩
 ·refine .inl ⟨e,fun m hm=>?_⟩
  rcases hm with ⟨a,_⟩ | ⟨_,a⟩
  ·exact absurd b a
  ·rw [d] at a
   exact .inr ⟨a,b,rfl⟩
 ·have:=hfew b;omega
 ·exact .inr ⟨rfl,b,d,e⟩
theorem glueopens_law (sv pv kv:Value) (N:Int) (T P:List T3) (K:List Int) (lv:Value) (l:List Int) (w:World) {B:Nat} (hB0:B<=w.heap.size) (hT:Sl 3 RTri w B sv T) (hP:Sl 3 RTri w B pv P) (hK:Sl 1 RInt w B kv K) (hN:I64 N) (hlA:Sl 1 RInt w B lv l/\∀ x∈l,I64 x) :
  Calls Tryz.prog 10 #[.agg #[.int .i64 N,sv,pv,kv],lv] w fun e w'=>e=.returned (.bool true)/\Below w.heap.size w w':=by
 obtain ⟨hl,e7⟩:=hlA
 obtain ⟨Al,gu,rfl,ge⟩:=hl.form
 obtain ⟨fe,es⟩:=zz2 hl e7;clear hl e7
 obtain ⟨A,t,rfl,gw⟩:=hT.form
 obtain ⟨Ap,s,rfl,gf⟩:=hP.form
 obtain ⟨Ak,r,rfl,gd⟩:=hK.form
 have ai:=(Below.refl w.heap.size w).alloc zl (.cells #[.int .i64 N,.slice A T.length t,.slice Ap P.length s,.slice Ak K.length r] 67)
 have e4:=Bk.new w 67 [.int .i64 N,.slice A T.length t,.slice Ap P.length s,.slice Ak K.length r]
 have ia:w.heap.size+1<=(w.alloc (.cells #[.int .i64 N,.slice A T.length t,.slice Ap P.length s,.slice Ak K.length r] 67)).heap.size:=by simp
 have dw:=hT.below keeps_tri (ai.mono hB0)
 have dt:=hP.below keeps_tri (ai.mono hB0)
 have ds:=hK.below keeps_int (ai.mono hB0)
 generalize ft:w.alloc (.cells #[.int .i64 N,.slice A T.length t,.slice Ap P.length s,.slice Ak K.length r] 67)=w0 at *
 have dx:=awake45_calls w0
 obtain ⟨hj,hh,hf,el,eh,ef,em,eq⟩:=zz8 hT hP hK dw dt ds dx e4;clear hT hP hK dw dt ds dx e4
 go_enter Tryz.func10,Tryz.ntmps10
 go_wp2_with fail
 clear ft
 refine em.out.mono ?_
 rintro e w1 ⟨rfl,bh⟩
 have fv:=bh.size
 have bk:=ai.trans (bh.mono ai.size)
 have I:=eq.out.below bh (by omega)
 have c0:w1.cell? ⟨w.heap.size,0,none⟩=some (.int .i64 N):=I.cell 0
 have c1:w1.cell? ⟨w.heap.size,1,none⟩=some (.slice A T.length t):=I.cell 1
 have c2:w1.cell? ⟨w.heap.size,2,none⟩=some (.slice Ap P.length s):=I.cell 2
 have c3:w1.cell? ⟨w.heap.size,3,none⟩=some (.slice Ak K.length r):=I.cell 3
 have cp:=great45_calls N A Ap Ak T.length P.length K.length t s r w1
 obtain ⟨bg,cn⟩:∃ bg,big45 N T.length P.length K.length=bg:=⟨_,rfl⟩
 rw [cn] at cp
 obtain ⟨bz,eo,en⟩:=zz3 I cp cn;clear I cp cn
 go_wp2_with fail
 refine eo.out.mono ?_
 rintro e F ⟨rfl,bi⟩
 have ib:=bi.size
 have d:=bk.trans (bi.mono bk.size)
 cases bg with
 | true =>
  have Y:=awake45_calls F
  have a9:=zz Y;clear Y
  go_wp2_with fail
  refine a9.out.mono ?_
  rintro e a ⟨rfl,Q⟩
  have ae:=d.trans (Q.mono d.size)
  go_wp2_with fail
  go_ret
  exact ⟨rfl,ae⟩
 | false =>
  obtain ⟨q1,q2,q3,q4⟩:=small45 en.out
  have a7:=bz.out.below bi (by omega)
  have d0:F.cell? ⟨w.heap.size,0,none⟩=some (.int .i64 N):=a7.cell 0
  have d1:F.cell? ⟨w.heap.size,1,none⟩=some (.slice A T.length t):=a7.cell 1
  have d2:F.cell? ⟨w.heap.size,2,none⟩=some (.slice Ap P.length s):=a7.cell 2
  have d3:F.cell? ⟨w.heap.size,3,none⟩=some (.slice Ak K.length r):=a7.cell 3
  have az:=bh.trans (bi.mono fv)
  have cg:=el.out.below keeps_tri (az.mono (show B<=w0.heap.size by omega))
  have cd:=eh.out.below keeps_tri (az.mono (show B<=w0.heap.size by omega))
  have cb:=ef.out.below keeps_int (az.mono (show B<=w0.heap.size by omega))
  by_cases i2:l.length<=40
  case neg =>
   have Y:=awake45_calls F
   have i3:((l.length:Int) > 40):=by omega
   have a9:=zz Y;clear Y
   go_wp2_with fail
   all_goals first | (exfalso;omega) | skip
   refine a9.out.mono ?_
   rintro e a ⟨rfl,Q⟩
   have ae:=d.trans (Q.mono d.size)
   go_wp2_with fail
   go_ret
   exact ⟨rfl,ae⟩
  have ct:=fe.out.below keeps_int (d.mono hB0)
  have e9:=open45_calls (w:=F) (B:=B) (by omega) cg cd cb hN (by omega) (by omega) (by omega) ct es.out (by omega)
  obtain ⟨bw,bu,bs,c8,c4,ew⟩:=zz6 cg cd cb ct a7 e9;clear cg cd cb ct a7 e9
  go_wp2_with fail
  all_goals first | (exfalso;omega) | skip
  refine ew.out.mono ?_
  rintro e a ⟨⟨x,o,c,rfl,cz,bp,cw⟩,Q⟩
  have ec:=Q.size
  have gv:=Q
  rcases open_why (fun hs=>newO_few hs _ (by omega)) cz with ⟨bn,b8⟩ | ⟨rfl,hs,cv,e6⟩
  ·obtain ⟨z,m5,m6,m7,hx,rfl,d4,h5,h6,h7⟩:∃ (z:Int) (m5 m6 m7:Nat),x=.agg #[.int .i64 z,.slice none m5 0,.slice none m6 0,.slice none m7 0]/\o=.slice none 0 0/\z=0/\m5=0/\m6=0/\m7=0:=⟨0,0,0,0,(bp bn).1,(bp bn).2,rfl,rfl,rfl,rfl⟩
   subst hx
   clear bp cw cz
   obtain ⟨G,M⟩:∃ G,a.alloc (.cells #[.int .i64 z,.slice none m5 0,.slice none m6 0,.slice none m7 0] 67)=G:=⟨_,rfl⟩
   have ac:Below a.heap.size a G:=by rw [<- M];exact (Below.refl a.heap.size a).alloc zl _
   have am:Bk G a.heap.size 67 [.int .i64 z,.slice none m5 0,.slice none m6 0,.slice none m7 0]:=by rw [<- M];exact Bk.new a _ _
   have ie:(z == 0)=true:=by rw [d4];rfl
   have h0:((m5:Int) == 0)=true:=by rw [h5];rfl
   have h1:((m6:Int) == 0)=true:=by rw [h6];rfl
   obtain ⟨gp,hb,hd,he⟩:=zz4 d4 h5 h6 h7;clear d4 h5 h6 h7
   have fw:G.heap.size=a.heap.size+1:=by rw [<- M];simp
   have b:=Q.trans (ac.mono ec)
   have H:=d.trans (b.mono d.size)
   have q:=c4.out.below b (by omega)
   have e0:=q.cell 0
   have e1:=q.cell 1
   have e2:=q.cell 2
   have e3:=q.cell 3
   simp only [List.getElem?_cons_zero,List.getElem?_cons_succ] at e0 e1 e2 e3
   have W:=bw.out.below keeps_tri (b.mono (show B<=F.heap.size by omega))
   have V:=bu.out.below keeps_tri (b.mono (show B<=F.heap.size by omega))
   have U:=bs.out.below keeps_int (b.mono (show B<=F.heap.size by omega))
   have a2:=c8.out.below keeps_int (b.mono (show B<=F.heap.size by omega))
   have an:=refmay45_calls (w:=G) (B:=B) (N:=N) (by omega) W V U (by omega) (by omega) (by omega)
   obtain ⟨S,bv,bt,R,ar,au,aw⟩:=zz7 W V U a2 q am an;clear W V U a2 q am an
   go_wp2_with fail
   all_goals first | (exfalso;omega) | skip
   clear M
   refine aw.out.mono ?_
   rintro e w5 ⟨cu,j⟩
   have ed:=j.size
   have D:=H.trans (j.mono H.size)
   obtain ⟨m,rfl,L⟩:=cu
   have E:=au.out.below j (by omega)
   have z0:w5.cell? ⟨a.heap.size,0,none⟩=some (.int .i64 z):=E.cell 0
   have z1:w5.cell? ⟨a.heap.size,1,none⟩=some (.slice none m5 0):=E.cell 1
   have z2:w5.cell? ⟨a.heap.size,2,none⟩=some (.slice none m6 0):=E.cell 2
   have hu:(c == c)=true:=beq_self_eq_true _
   have hz:(c != 0)=true:=bne_iff_ne.2 bn
   have hw:(c == 0)=false:=beq_eq_false_iff_ne.2 bn
   rcases b8 m L with ⟨_,rfl⟩ | ⟨rfl,hs,fr⟩
   ·obtain ⟨c9,bb⟩:=zz2 L E;clear L E
    clear b8
    go_wp2_with fail
    all_goals first | (exfalso;omega) | skip
    go_ret
    exact ⟨rfl,D⟩
   ·have a3:=loop45_calls (w:=w5) (B:=B) (N:=N) (by omega) (S.out.below keeps_tri (j.mono (by omega))) (by omega) (R.out.below keeps_int (j.mono (by omega))) (by omega)
    rw [fr] at a3
    have J:=ar.out.below j (by omega)
    have f0:w5.cell? ⟨w.heap.size,0,none⟩=some (.int .i64 N):=J.cell 0
    have f1:w5.cell? ⟨w.heap.size,1,none⟩=some (.slice A T.length t):=J.cell 1
    obtain ⟨c9,bb,c5,av,hp⟩:=zz5 L E J a3 hs;clear L E J a3 hs
    clear b8
    go_wp2_with fail
    all_goals first | (exfalso;omega) | skip
    refine av.out.mono ?_
    rintro e w6 ⟨rfl,Z⟩
    have dg:=D.trans (Z.mono D.size)
    have a1:=bb.out.below Z (by omega)
    have z0:w6.cell? ⟨a.heap.size,0,none⟩=some (.int .i64 z):=a1.cell 0
    have z1:w6.cell? ⟨a.heap.size,1,none⟩=some (.slice none m5 0):=a1.cell 1
    have z2:w6.cell? ⟨a.heap.size,2,none⟩=some (.slice none m6 0):=a1.cell 2
    have gc:=zz a1;clear a1
    go_wp2_with fail
    all_goals first | (exfalso;omega) | skip
    go_ret
    exact ⟨rfl,dg⟩
  ·obtain ⟨il,ik,ii,rfl,sX,sP,sK,sO⟩:=cw rfl a fun _ _ _=>rfl
   clear bp cw cz
   obtain ⟨n,rfl⟩:∃ n:Nat,N=n:=⟨N.toNat,by have:=hs.n0;omega⟩
   obtain ⟨A5,p5,rfl,i4⟩:=sX.form
   obtain ⟨A6,p6,rfl,i5⟩:=sP.form
   obtain ⟨A7,p7,rfl,i6⟩:=sK.form
   obtain ⟨A8,p8,rfl,i7⟩:=sO.form
   obtain ⟨C,hC⟩:∃ C,(lpE l).map nm=C:=⟨_,rfl⟩
   have gx:=newO_few hs C (by omega)
   have cx:=Go.Mesh.numb (C:=C) hs
   have e8:∀ c,c<3 * T.length->Mesh.vt (newX (n:Int) T C) c=newN (n:Int) T C c:=fun c hc=>vt_relab _ hc
   have dv:P.length=n:=by
    have h9:=cv
    unfold mayB at h9
    rw [Bool.and_eq_true] at h9
    have:=(of_decide_eq_true h9.1).1
    omega
   rw [hC] at sX sP sO ⊢
   have be:=cx.len
   have aa:(ptsOf P (newO (n:Int) T C)).length=(newO (n:Int) T C).length:=by unfold ptsOf;rw [List.length_map]
   have du:∀ k v:Nat,(newO (n:Int) T C)[k]? = some (v:Int)->(hv:v<P.length)->(ptsOf P (newO (n:Int) T C))[k]? = some P[v]:=fun k v hk hv=>by
    unfold ptsOf
    rw [List.getElem?_map,hk]
    show some (P.getD (v:Int).toNat (0,0,0))=_
    rw [Int.toNat_natCast,List.getD_eq_getElem?_getD,zG hv];rfl
   obtain ⟨X,hX⟩:∃ X,newX (n:Int) T C=X:=⟨_,rfl⟩
   obtain ⟨O,hO⟩:∃ O,newO (n:Int) T C=O:=⟨_,rfl⟩
   obtain ⟨PO,ay⟩:∃ PO,ptsOf P O=PO:=⟨_,rfl⟩
   simp only [hX,hO,ay] at *
   rw [be,aa]
   obtain ⟨G,M⟩:∃ G,a.alloc (.cells #[.int .i64 (O.length:Nat),.slice A5 T.length p5,.slice A6 O.length p6,.slice A7 K.length p7] 67)=G:=⟨_,rfl⟩
   have ac:Below a.heap.size a G:=by rw [<- M];exact (Below.refl a.heap.size a).alloc zl _
   have am:Bk G a.heap.size 67 [.int .i64 (O.length:Nat),.slice A5 T.length p5,.slice A6 O.length p6,.slice A7 K.length p7]:=by rw [<- M];exact Bk.new a _ _
   rw [be] at sX
   rw [aa] at sP
   obtain ⟨fj,fi,fg,fh,ev,eu,ei,fd,hn,hg,ga,et⟩:=zz12 sX sP sK sO cx e8 du hC hX hO ay cv;obtain ⟨ej,bx,ba⟩:=zz3 dv be aa;clear sX sP sK sO cx e8 du hC hX hO ay cv dv be aa
   have fw:G.heap.size=a.heap.size+1:=by rw [<- M];simp
   have b:=Q.trans (ac.mono ec)
   have H:=d.trans (b.mono d.size)
   have q:=c4.out.below b (by omega)
   have e0:=q.cell 0
   have e1:=q.cell 1
   have e2:=q.cell 2
   have e3:=q.cell 3
   simp only [List.getElem?_cons_zero,List.getElem?_cons_succ] at e0 e1 e2 e3
   have W:=bw.out.below keeps_tri (b.mono (show B<=F.heap.size by omega))
   have V:=bu.out.below keeps_tri (b.mono (show B<=F.heap.size by omega))
   have U:=bs.out.below keeps_int (b.mono (show B<=F.heap.size by omega))
   have a2:=c8.out.below keeps_int (b.mono (show B<=F.heap.size by omega))
   have an:=refmay45_calls (w:=G) (B:=B) (N:=(n:Int)) (by omega) W V U (by omega) (by omega) (by omega)
   obtain ⟨S,bv,bt,R,ar,au,aw⟩:=zz7 W V U a2 q am an;clear W V U a2 q am an
   go_wp2_with fail
   all_goals first | (exfalso;omega) | skip
   clear M
   refine aw.out.mono ?_
   rintro e w5 ⟨cu,j⟩
   have ed:=j.size
   have D:=H.trans (j.mono H.size)
   obtain ⟨m,rfl,L⟩:=cu
   obtain rfl:m=0:=by
    rcases L with ⟨h9,_⟩ | ⟨_,h9⟩
    ·exact absurd hs h9
    ·rw [et.out] at h9;exact h9
   have J:=ar.out.below j (by omega)
   have f0:w5.cell? ⟨w.heap.size,0,none⟩=some (.int .i64 (n:Int)):=J.cell 0
   have f1:w5.cell? ⟨w.heap.size,1,none⟩=some (.slice A T.length t):=J.cell 1
   have a3:=loop45_calls (w:=w5) (B:=B) (N:=(n:Int)) (by omega) (S.out.below keeps_tri (j.mono (by omega))) (by omega) (R.out.below keeps_int (j.mono (by omega))) (by omega)
   rw [e6] at a3
   obtain ⟨c9,c5,av⟩:=zz3 L J a3;clear L J a3
   go_wp2_with fail
   all_goals first | (exfalso;omega) | skip
   refine av.out.mono ?_
   rintro e w6 ⟨rfl,Z⟩
   have fx:=Z.size
   have b6:=j.trans (Z.mono ed)
   have bo:=c5.out.below Z (by omega)
   have f0:w6.cell? ⟨w.heap.size,0,none⟩=some (.int .i64 (n:Int)):=bo.cell 0
   have f1:w6.cell? ⟨w.heap.size,1,none⟩=some (.slice A T.length t):=bo.cell 1
   have ea:=refopen_calls (w:=w6) (B:=B) (by omega) (S.out.below keeps_tri (b6.mono (by omega))) hs (by omega) (R.out.below keeps_int (b6.mono (by omega))) (by omega) e6
   obtain ⟨er,ex⟩:=zz2 bo ea;clear bo ea
   go_wp2_with fail
   all_goals first | (exfalso;omega) | skip
   refine ex.out.mono ?_
   rintro e w7 ⟨⟨g,rfl,cs⟩,bj⟩
   have ic:=bj.size
   have ad:=b6.trans (bj.mono (by omega))
   have cj:=ac.trans (ad.mono (by omega))
   have bl:=D.trans ((Z.trans (bj.mono fx)).mono D.size)
   obtain ⟨m,hm⟩:∃ m,3 * T.length=m:=⟨_,rfl⟩
   rw [hm,fd.out] at cs
   rw [hm]
   have u:=er.out.below bj (by omega)
   have f:=au.out.below ad (by omega)
   have e0:w7.cell? ⟨w.heap.size,0,none⟩=some (.int .i64 (n:Int)):=u.cell 0
   have e1:w7.cell? ⟨w.heap.size,1,none⟩=some (.slice A T.length t):=u.cell 1
   have e2:w7.cell? ⟨w.heap.size,2,none⟩=some (.slice Ap P.length s):=u.cell 2
   have e3:w7.cell? ⟨w.heap.size,3,none⟩=some (.slice Ak K.length r):=u.cell 3
   have z0:w7.cell? ⟨a.heap.size,0,none⟩=some (.int .i64 (O.length:Nat)):=f.cell 0
   have z1:w7.cell? ⟨a.heap.size,1,none⟩=some (.slice A5 T.length p5):=f.cell 1
   have z2:w7.cell? ⟨a.heap.size,2,none⟩=some (.slice A6 O.length p6):=f.cell 2
   have z3:w7.cell? ⟨a.heap.size,3,none⟩=some (.slice A7 K.length p7):=f.cell 3
   have cq:=ints45_calls (w:=w7) (B:=a.heap.size) (va:=.slice A7 K.length p7) (vb:=.slice Ak K.length r) (la:=K) (lb:=K) (fg.out.below keeps_int cj) ((bt.out.below keeps_int (ad.mono (by omega))).keep keeps_int (Below.refl _ _) (by omega)) (by omega) (by omega)
   rw [decide_eq_true rfl] at cq
   obtain ⟨ff,c7,c6,bc,ep⟩:=zz5 hm cs u f cq;clear hm cs u f cq
   go_wp2_with fail
   all_goals first | (exfalso;omega) | skip
   refine ep.out.mono ?_
   rintro e w8 ⟨rfl,cm⟩
   have fy:=cm.size
   have dh:=bl.trans (cm.mono bl.size)
   have fs:=Below.refl w8.heap.size w8
   have fp:=c7.out.lt
   go_wp2_with fail
   all_goals first | (exfalso;omega) | skip
   go_loopw [112] (fun iv wr=>∃ c:Nat,c<=m/\iv=.int .i64 (c:Int)/\Below w8.heap.size w8 wr) (fun iv _=>m - (intOf iv).toNat)
   case atStart=>exact ⟨0,by omega,rfl,fs⟩
   case round =>
    obtain ⟨c,hc,rfl,bm⟩:=hrel
    obtain ⟨h,fu⟩:∃ h,h=wr:=⟨_,rfl⟩
    subst fu
    have ig:=bm.size
    by_cases dy:c<m
    ·have co:c<3 * T.length:=by rw [ff.out];exact dy
     have a0:=cm.trans (bm.mono fy)
     have ck:=ad.trans (a0.mono (by omega))
     have b0:=cj.trans (a0.mono (by omega))
     obtain ⟨i,hi⟩:∃ i,c / 3=i:=⟨_,rfl⟩
     obtain ⟨k1,I⟩:∃ k1,c % 3=k1:=⟨_,rfl⟩
     have dz:i<T.length:=by omega
     have ee:k1<3:=by omega
     have i1:(c:Int).tdiv 3=(i:Int):=by rw [Int.tdiv_eq_ediv_of_nonneg (by omega)];omega
     have m1:(c:Int).tmod 3=(k1:Int):=by rw [Int.tmod_eq_emod_of_nonneg (by omega)];omega
     have ih:(c:Int) / 3=(i:Int):=by omega
     have ij:(c:Int) % 3=(k1:Int):=by omega
     have bd:3 * i+k1=c:=by omega
     obtain ⟨k,hk,a6⟩:=ev.out.was c co
     have i8:=hs.rng c co
     obtain ⟨y,hy⟩:∃ y:Nat,Mesh.vt T c=(y:Int):=⟨(Mesh.vt T c).toNat,by omega⟩
     rw [hy] at a6
     have e5:k<O.length:=(List.getElem?_eq_some_iff.1 a6).1
     have eb:y<P.length:=by have:=ej.out;omega
     have cf:=ei.out k y a6 eb
     have f6:k<PO.length:=by rw [ba.out];exact e5
     have cy:newN (n:Int) T C c=(k:Int):=(eu.out c co).symm.trans hk
     have ci:Sl 3 RTri h a.heap.size (.slice A5 X.length p5) X:=by rw [bx.out];exact fj.out.below keeps_tri b0
     obtain ⟨b1,o1,rfl,_,aj⟩:=tri_cells ci (i:=i) (by rw [bx.out];exact dz)
     have x1:=aj k1 ee
     rw [bd,hk] at x1
     have ch:=S.out.below keeps_tri (ck.mono (show B<=G.heap.size by omega))
     obtain ⟨b2,o2,rfl,_,ak⟩:=tri_cells ch dz
     have x2:=ak k1 ee
     rw [bd,hy] at x2
     have b7:=c7.out.below a0 fp
     have x3:h.cell? ⟨g,c,none⟩=some (.int .i64 (k:Int)):=(b7.cell c).trans (ivals_at (by rw [List.getElem?_map,List.getElem?_range dy];exact congrArg some cy))
     have cc:=fh.out.below keeps_int b0
     obtain ⟨b3,o3,rfl,_,x4⟩:=cc.int_at e5
     rw [(List.getElem?_eq_some_iff.1 a6).2] at x4
     have ax:Sl 3 RTri h a.heap.size (.slice A6 PO.length p6) PO:=by rw [ba.out];exact fi.out.below keeps_tri b0
     obtain ⟨b4,o4,rfl,_,x5,x6,x7⟩:=ax.tri_at f6
     have ce:=bv.out.below keeps_tri (ck.mono (show B<=G.heap.size by omega))
     obtain ⟨b5,o5,rfl,_,y5,y6,y7⟩:=ce.tri_at eb
     rw [(List.getElem?_eq_some_iff.1 cf).2] at x5 x6 x7
     generalize P[y]=p at *
     obtain ⟨p1,p2,p3⟩:=p
     simp only [] at x5 x6 x7 y5 y6 y7
     have hq:=pt_run45 p1 p2 p3 p1 p2 p3
     rw [decide_eq_true rfl] at hq
     have u:=c6.out.below a0 (by omega)
     have f:=bc.out.below a0 (by omega)
     have e1:h.cell? ⟨w.heap.size,1,none⟩=some (.slice (some ⟨b2,o2,none⟩) T.length t):=u.cell 1
     have e2:h.cell? ⟨w.heap.size,2,none⟩=some (.slice (some ⟨b5,o5,none⟩) P.length s):=u.cell 2
     have z1:h.cell? ⟨a.heap.size,1,none⟩=some (.slice (some ⟨b1,o1,none⟩) T.length p5):=f.cell 1
     have z2:h.cell? ⟨a.heap.size,2,none⟩=some (.slice (some ⟨b4,o4,none⟩) O.length p6):=f.cell 2
     have im:h.drew.cell? _=_:=x1
     have io:h.drew.cell? _=_:=x2
     have ip:h.drew.cell? _=_:=x3
     have iq:h.drew.cell? _=_:=x4
     have ir:h.drew.cell? _=_:=x5
     have it:h.drew.cell? _=_:=x6
     have iu:h.drew.cell? _=_:=x7
     have iw:h.drew.cell? _=_:=y5
     have ix:h.drew.cell? _=_:=y6
     have iy:h.drew.cell? _=_:=y7
     have hr:h.drew.cell? _=_:=e1
     have ht:h.drew.cell? _=_:=e2
     have iz:h.drew.cell? _=_:=z1
     have j0:h.drew.cell? _=_:=z2
     have i0:((k:Int) != (k:Int))=false:=bne_eq_false_iff_eq.2 rfl
     have i9:((y:Int) != (y:Int))=false:=bne_eq_false_iff_eq.2 rfl
     clear aj ak hk hy
     obtain ⟨gi,gk,gn,gm,gl,gb,gh,g9,gj,c6,bc,gg⟩:=zz12 a6 cf cy ci ch b7 cc ax ce u f bd;obtain ⟨ho,bz⟩:=zz2 hi I;clear a6 cf cy ci ch b7 cc ax ce u f bd hi I
     go_wp2_with fail
     all_goals first | (exfalso;omega) | skip
     refine Canon.wp_region_text mixed (by kernel_rfl) ?_
     go_wp2_with fail
     all_goals first | (exfalso;omega) | skip
     refine Canon.chk (by rfl) ?_
     go_wp2_with fail
     all_goals first | (exfalso;omega) | skip
     exact ⟨⟨c+1,by omega,by simp,bm.drew⟩,by simp [intOf];omega⟩
    ·obtain rfl:m=c:=by omega
     have di:=dh.trans (bm.mono (by omega))
     go_wp2_with fail
     all_goals first | (exfalso;omega) | skip
     go_ret
     exact ⟨rfl,di⟩
end Go.Proofs.YtpbdcppaiafbgaaGreat
