/- Walks: cut.Along. Walks: law19's example and bounds. -/
import Derived.Test.YtpbdcppaiafbgaaGreatIE
import Derived.Test.YtpbdcppaiafbgaaGreatHK
import Derived.Test.YtpbdcppaiafbgaaGreatFE
import Derived.Test.YtpbdcppaiafbgaaGreatTS
set_option maxRecDepth 100000
set_option maxHeartbeats 8000000
namespace Go.Words
open Go Go.RowKit Go.Mesh
def quad (l:List P4):List Value:=l.flatMap fun p=>[.int .i64 p.1.1,.int .i64 p.1.2,.int .i64 p.2.1,.int .i64 p.2.2]
theorem quad_snoc (l:List P4) (p:P4):quad (l++[p])=quad l++[.int .i64 p.1.1,.int .i64 p.1.2,.int .i64 p.2.1,.int .i64 p.2.2]:=by unfold quad;rw [List.flatMap_append];rfl
theorem quad_at (l:List P4):∀ (i:Nat) (p:P4),l[i]? = some p->((quad l).drop (i * 4)).take 4=[.int .i64 p.1.1,.int .i64 p.1.2,.int .i64 p.2.1,.int .i64 p.2.2]:=by
 induction l with
 | nil=>intro i b h;simp at h
 | cons x l ih =>
  intro i b h
  cases i with
  | zero =>
   have:x=b:=by simpa using h
   subst this
   simp [quad]
  | succ i =>
   have a:=ih i b (by simpa using h)
   rw [show (i+1) * 4=i * 4+1+1+1+1 by omega]
   simp only [quad,List.flatMap_cons,List.cons_append,List.nil_append,List.drop_succ_cons]
   exact a
end Go.Words
namespace Go.Proofs.YtpbdcppaiafbgaaGreat
open Go Go.RowKit Go.Words Go.Mesh
theorem infoPr:(Tryz.prog.info? 41).map (fun i=>(i.zero,i.size,i.bytes))=some (some (.agg #[.int .i64 0,.int .i64 0,.int .i64 0,.int .i64 0]),4,32):=by kernel_rfl
theorem along_own {w w':World} {B b9 g bc be k:Nat} {tv sv wv pv:Value} {N n:Int} {T X:List T3} {L:List (Int × Int)} {O:List Int} {P:List P4} (hC:Ctr w B g bc be tv N T L n sv wv X O) (hown:w.ownsRow b9 41 4 pv P.length (quad P)) (hk:k<B) (hk9:k<b9) (hfar:∀ j,j≠k->w'.heap[j]? = w.heap[j]?) :
  w'.ownsRow B 57 3 sv X.length (flat3 X)/\w'.ownsRow B 3 1 wv O.length (ivals O)/\w'.ownsRow b9 41 4 pv P.length (quad P):=by
 have a:∀ (v:Value) (base size m:Nat) (e:TypeId) (xs:List Value),w.ownsRow base e size v m xs->k<base->w'.ownsRow base e size v m xs:=fun v base size m e xs h hb=>by
  refine ⟨h.1,?_⟩
  rcases h.2 with f | ⟨d,b,c,i,l,o,p⟩
  ·exact .inl f
  ·exact .inr ⟨d,b,c,i,l,by rw [hfar d (by omega)];exact o,p⟩
 exact ⟨a _ _ _ _ _ _ hC.sow hk,a _ _ _ _ _ _ hC.wow hk,a _ _ _ _ _ _ hown hk9⟩
theorem along_sl {w':World} {b1 b2 b3:Nat} {sv wv pv:Value} {X:List T3} {O:List Int} {P:List P4} (h1:w'.ownsRow b1 57 3 sv X.length (flat3 X)) (h2:w'.ownsRow b2 3 1 wv O.length (ivals O)) (h3:w'.ownsRow b3 41 4 pv P.length (quad P)) :
  Sl 3 RTri w' w'.heap.size sv X/\Sl 1 RInt w' w'.heap.size wv O/\Sl 4 R4 w' w'.heap.size pv P :=
 ⟨Sl.of_own h1 fun i a hi=>flat3_at X i a hi,Sl.of_own h2 fun i a hi=>by
   unfold RInt
   have b:=(List.getElem?_eq_some_iff.1 hi).1
   unfold ivals
   rw [Nat.mul_one,List.drop_eq_getElem_cons (by simpa using b)]
   simp only [List.take_succ_cons,List.take_zero,List.getElem_map]
   rw [List.getElem?_eq_getElem b] at hi
   rw [Option.some.inj hi],Sl.of_own h3 fun i a hi=>quad_at P i a hi⟩
theorem own_moved {w wz:World} {lo base n size:Nat} {e:TypeId} {v:Value} {xs:List Value} (h:w.ownsRow base e size v n xs) (hl:lo<=base) (hb:∀ b,lo<=b->b<w.heap.size->wz.heap[b]? = w.heap[b]?):wz.ownsRow base e size v n xs:=by
 refine ⟨h.1,?_⟩
 rcases h.2 with f | ⟨g,a,c,i,j,d,k⟩
 ·exact .inl f
 ·exact .inr ⟨g,a,c,i,j,(hb g (by omega) (Array.getElem?_eq_some_iff.1 d).1).trans d,k⟩
def AlongEnd (w':World) (N:Int) (T:List T3) (l:List (Int × Int)) (r:Value) (c:Int):Prop :=
 AlongC N T l c/\(c≠0->r=failV c)/\(c=0->∃ sv wv pv Es,r=.tuple #[.agg #[.int .i64 ((newO N T (l.map nm)).length:Nat),sv],wv,pv,.int .i64 0]/\Sl 3 RTri w' w'.heap.size sv (newX N T (l.map nm))/\Sl 1 RInt w' w'.heap.size wv (newO N T (l.map nm))/\EdgesIs T Es/\Sl 4 R4 w' w'.heap.size pv (pairsL N T l Es))
def AlongFar (w w':World) (N:Int) (T:List T3) (l:List (Int × Int)) (r:Value) (c:Int):Prop :=
 c=0->∀ wz:World,(∀ b,w.heap.size<=b->b<w'.heap.size->wz.heap[b]? = w'.heap[b]?) ->
  ∃ sv wv pv Es,r=.tuple #[.agg #[.int .i64 ((newO N T (l.map nm)).length:Nat),sv],wv,pv,.int .i64 0]/\Sl 3 RTri wz wz.heap.size sv (newX N T (l.map nm))/\Sl 1 RInt wz wz.heap.size wv (newO N T (l.map nm))/\EdgesIs T Es/\Sl 4 R4 wz wz.heap.size pv (pairsL N T l Es)
theorem along_calls2 {w:World} {B:Nat} {sv lv:Value} {N:Int} {T:List T3} {l:List (Int × Int)} (hB0:B<=w.heap.size) (hT:Sl 3 RTri w B sv T) (hN:I64 N) (hl:Sl 2 RPair w B lv l) (hok:∀ e∈l,ok2 e) (hll:l.length<=1000) :
  Calls Tryz.prog 21 #[.agg #[.int .i64 N,sv],lv] w fun e w'=>(∃ r c,e=.returned r/\AlongEnd w' N T l r c/\AlongFar w w' N T l r c)/\Below w.heap.size w w':=by
 obtain ⟨A,ak,rfl,kj⟩:=hT.form
 obtain ⟨Al,kc,rfl,js⟩:=hl.form
 have f2:=((Below.refl w.heap.size w).alloc (Nat.le_refl _) (.cells #[.int .i64 N,.slice A T.length ak] 24)).alloc (by simp) (.cells #[.int .i64 0,.slice none 0 0] 24)
 have dp:=(Bk.new w 24 [.int .i64 N,.slice A T.length ak]).alloc (.cells #[.int .i64 0,.slice none 0 0] 24)
 have gx:=Bk.new' (n:=w.heap.size+1) (w:=w.alloc (.cells #[.int .i64 N,.slice A T.length ak] 24)) 24 [.int .i64 0,.slice none 0 0] (by simp)
 have ey:=hT.below keeps_tri (f2.mono hB0)
 have gz:=hl.below keeps_pair (f2.mono hB0)
 have kz:w.heap.size+2<=((w.alloc (.cells #[.int .i64 N,.slice A T.length ak] 24)).alloc (.cells #[.int .i64 0,.slice none 0 0] 24)).heap.size:=by simp
 generalize je:(w.alloc (.cells #[.int .i64 N,.slice A T.length ak] 24)).alloc (.cells #[.int .i64 0,.slice none 0 0] 24)=w0 at *
 have h3:=new_calls (.slice A T.length ak) N T w0 (B:=B) (by omega) ey hN
 have c0:w0.cell? ⟨w.heap.size,0,none⟩=some (.int .i64 N):=dp.cell 0
 have c1:w0.cell? ⟨w.heap.size,1,none⟩=some (.slice A T.length ak):=dp.cell 1
 obtain ⟨kt,ku,hw,hy,hm,i3,i9,ej⟩:=zz8 hT hl dp gx ey gz h3 hok;clear hT hl dp gx ey gz h3 hok
 go_enter Tryz.func21,Tryz.ntmps21
 go_wp2_with fail
 clear je
 refine i9.out.mono ?_
 rintro e w1 ⟨⟨pv,x,y,z,rfl,jd⟩,bl⟩
 have l0:=bl.size
 have ge:=f2.trans (bl.mono (by omega))
 have ar:=hw.out.below bl (by omega)
 have av:=hy.out.below bl (by omega)
 have ch:=hm.out.below keeps_tri (bl.mono (by omega))
 have cp:=i3.out.below keeps_pair (bl.mono (by omega))
 have bm:=(Below.refl w1.heap.size w1).alloc (Nat.le_refl _) (.cells #[.int .i64 x,.int .i64 y,.int .i64 z] 48)
 have l1:w1.heap.size+1<=(w1.alloc (.cells #[.int .i64 x,.int .i64 y,.int .i64 z] 48)).heap.size:=by simp
 generalize ky:w1.alloc (.cells #[.int .i64 x,.int .i64 y,.int .i64 z] 48)=w2 at *
 have dh:=ge.trans (bm.mono (by omega))
 have au:=ar.below bm ar.lt
 have be:=av.below bm av.lt
 have b7:=ch.below keeps_tri (bm.mono (by omega))
 have c9:=cp.below keeps_pair (bm.mono (by omega))
 rcases jd with ⟨hs,d3⟩ | ⟨jc,rfl⟩
 case inr =>
  have a6:=fail_calls 11 w2
  have W:=be
  have E:=dh
  have I:AlongC N T l 11:=.inl ⟨jc,rfl⟩
  obtain ⟨H,L,u,g4,g6,bw,bx,hn,i4,d8,dd,ae⟩:=zz12 I W E ar av au be ch cp b7 c9 a6;clear I W E ar av au be ch cp b7 c9 a6
  go_wp2_with fail
  refine ae.out.mono ?_
  rintro e wf ⟨rfl,a5⟩
  have m:=L.out.below a5 L.out.lt
  have s:=u.out.trans (a5.mono u.out.size)
  have fu:=m.frozen 0
  have fv:=m.frozen 1
  have am:=m.cell 0
  have ao:=m.cell 1
  simp only [List.getElem?_cons_zero,List.getElem?_cons_succ] at am ao
  have R:=(m.set 0 (.int .i64 0)).set 1 (.slice none 0 0)
  have Q:=(s.setCell (p:=⟨w.heap.size+1,0,none⟩) (by simp) (.int .i64 0)).setCell (p:=⟨w.heap.size+1,1,none⟩) (by simp) (.slice none 0 0)
  obtain ⟨cu,b4,Y,X⟩:=zz4 m s R Q;clear m s R Q
  go_wp2_with fail
  exact ret_cttt rfl rfl Y.out Tryz.underlying24 rfl (by kernel_rfl) rfl ⟨⟨_,11,rfl,⟨H.out,fun _=>rfl,fun f=>absurd f (by decide)⟩,fun f=>absurd f (by decide)⟩,X.out⟩
 case inl =>
  obtain ⟨t,rfl⟩:∃ t,pv=.pointer (some t):=by
   obtain ⟨g,_,_,_,_,_,rfl,_⟩:=d3
   exact ⟨_,rfl⟩
  have gu:=fits_calls b7 (by omega) hs
  have d0:w2.cell? ⟨w.heap.size,0,none⟩=some (.int .i64 N):=au.cell 0
  have d1:w2.cell? ⟨w.heap.size,1,none⟩=some (.slice A T.length ak):=au.cell 1
  obtain ⟨U,g4,g6,bw,bx,hn,i4,d8,dd,hu,gb⟩:=zz11 hs ar av au be ch cp b7 c9 gu d3;clear hs ar av au be ch cp b7 c9 gu d3
  go_wp2_with fail
  refine hu.out.mono ?_
  rintro e S ⟨rfl,ba⟩
  have l2:=ba.size
  have c5:=dh.trans (ba.mono (by omega))
  have fj:=bw.out.below ba bw.out.lt
  have fk:=bx.out.below ba bx.out.lt
  have ez:=d8.out.below keeps_tri (ba.mono (by omega))
  have fl:=dd.out.below keeps_pair (ba.mono (by omega))
  have gp:=((Below.refl S.heap.size S).alloc (Nat.le_refl _) (.map #[] 0)).alloc (by simp) (.map #[] 0)
  have h1:=(Mp.new' (enc:=enc2) (ok:=ok2) (ev:=fun _:Unit=>.bool true) (n:=S.heap.size) (w:=S) rfl).alloc (.map #[] 0)
  have h2:=Mp.new' (enc:=enc1) (ok:=I64) (ev:=enc1) (n:=S.heap.size+1) (w:=S.alloc (.map #[] 0)) (by simp)
  have l3:((S.alloc (.map #[] 0)).alloc (.map #[] 0)).heap.size=S.heap.size+2:=by simp
  have jb:=@run_makeMap Tryz.prog
  have cc:=(gb.out.below (bm.mono (Nat.le_refl _)) (Nat.le_refl _)).below (ba.mono (Nat.le_trans (Nat.le_refl _) (by omega:w1.heap.size<=w2.heap.size))) (Nat.le_refl _)
  generalize jf:(S.alloc (.map #[] 0)).alloc (.map #[] 0)=w4 at *
  have cd:=cc.below (gp.mono (by omega)) (Nat.le_refl _)
  have h5:=soup_calls cd
  obtain ⟨g5,bz,fw,g8,i5,i6,j4,eo,ic⟩:=zz9 fj fk ez fl h1 h2 cc cd h5;clear fj fk ez fl h1 h2 cc cd h5
  go_wp2_with fail
  clear jf jb
  refine ic.out.mono ?_
  rintro e G ⟨⟨v',rfl,O⟩,ci⟩
  obtain ⟨V,q,rfl,jo⟩:=own_form O
  have l4:=ci.size
  have f6:=(gp.mono (show w1.heap.size<=S.heap.size by omega)).trans (ci.mono (by omega))
  have gj:w1.heap.size<=G.heap.size:=by omega
  have gk:Ctr (G.alloc (.cells #[.pointer (some t),.map (some S.heap.size),.map (some (S.heap.size+1)),.int .i64 N,.slice V T.length q,.slice none 0 0] 106)) w1.heap.size G.heap.size S.heap.size (S.heap.size+1) (.pointer (some t)) N T (l.take 0) N (.slice V T.length q) (.slice none 0 0) T [] :=
   {
     blk:=Bk.new G _ [_,_,_,_,_,_]
     tab:=(eo.out.below (ci.mono (by omega)) (Nat.le_refl _)).below ((Below.refl G.heap.size G).alloc (Nat.le_refl _) _ |>.mono gj) (Nat.le_refl _)
     cuts:=⟨[],(i5.out.below ci (by omega)).alloc _,fun e=>by simp [Words.look]⟩
     ends:=⟨[],(i6.out.below ci (by omega)).alloc _,fun v=>by simp [Words.look,endsC]⟩
     sow:=(own_low (by omega) O).alloc _
     wow:=World.ownsRow_nil _ _ _ _
     le:=⟨gj,by omega,by omega⟩
     ne:=by omega }
  have j8:=f6.alloc (by omega) (.cells #[.pointer (some t),.map (some S.heap.size),.map (some (S.heap.size+1)),.int .i64 N,.slice V T.length q,.slice none 0 0] 106)
  generalize jg:G.alloc (.cells #[.pointer (some t),.map (some S.heap.size),.map (some (S.heap.size+1)),.int .i64 N,.slice V T.length q,.slice none 0 0] 106)=w6 at *
  obtain ⟨aj,k1,hf⟩:=zz3 O f6 gk;clear O f6 gk
  go_wp2_with fail
  clear jg
  go_loopw [45] (fun iv wq=>∃ k:Nat,k<=l.length/\iv=.int .i64 (k:Int)/\Ctr wq w1.heap.size G.heap.size S.heap.size (S.heap.size+1) (.pointer (some t)) N T (l.take k) N (.slice V T.length q) (.slice none 0 0) T []/\(∀ i (h':i<l.length),i<k->addC T (l.take i) l[i]=0)/\Below w1.heap.size S wq) (fun iv _=>l.length - (intOf iv).toNat)
  case atStart=>exact ⟨0,by omega,rfl,hf.out,fun _ _ h=>absurd h (by omega),j8⟩
  case round =>
   obtain ⟨k,hk,rfl,hC,ag,bn⟩:=hrel
   have l7:=bn.size
   have gf:=c5.trans (bn.mono (by omega))
   have dr:=bz.out.below bn (by omega)
   have bo:=g8.out.below keeps_pair (bn.mono (by omega))
   by_cases ay:k<l.length
   ·obtain ⟨b,o,rfl,hb,a1,a2⟩:=bo.pair_at ay
    have j9:b<wr.heap.size:=by omega
    have hr:=ej.out _ (List.getElem_mem ay)
    have ha:=List.take_succ_eq_append_getElem ay
    have b9:=fun F (hz:Below wr.heap.size wr F)=>add_calls (hC.below hz) U.out l[k] hr (by rw [List.length_take];omega)
    have c7:addC T (l.take k) l[k]≠0->AlongC N T l (addC T (l.take k) l[k]):=fun f=>.inr (.inl ⟨U.out,k,ay,ag,rfl,f⟩)
    have ca:addC T (l.take k) l[k]=0->∀ i (h':i<l.length),i<k+1->addC T (l.take i) l[i]=0:=fun f i hi h8=>by
     by_cases h7:i=k
     ·subst h7;exact f
     ·exact ag i hi (by omega)
    obtain ⟨ac,j7⟩:∃ ac,addC T (l.take k) l[k]=ac:=⟨_,rfl⟩
    unfold AddEnd at b9
    rw [j7] at c7 ca b9
    generalize l[k]=ed at *
    obtain ⟨x1,x2⟩:=ed
    simp only [] at a1 a2
    have ax:=(Below.refl wr.heap.size wr).alloc (Nat.le_refl _) (.cells #[.int .i64 x1,.int .i64 x2] 39)
    have c3:=b9 _ ax
    change Calls _ _ #[.pointer (some ⟨G.heap.size,0,none⟩),.agg #[.int .i64 x1,.int .i64 x2]] _ _ at c3
    have a7:=Bk.new wr 39 [.int .i64 x1,.int .i64 x2]
    have g0:=a7.cell 0
    have g1:=a7.cell 1
    simp only [List.getElem?_cons_zero,List.getElem?_cons_succ] at g0 g1
    obtain ⟨gi,g9,ee,ef,bk,ie,jn,e7,ei,e1,eb⟩:=zz11 hC ag dr bo hr ha b9 c7 ca c3 a7;clear hC ag dr bo hr ha b9 c7 ca c3 a7
    go_wp2_with fail
    refine e1.out.mono ?_
    rintro e w7 ⟨rfl,bb,Z⟩
    have J:=(bn.alloc (by omega) (.cells #[.int .i64 x1,.int .i64 x2] 39)).trans bb
    have ji:=J.size
    have E:=c5.trans (J.mono (by omega))
    have W:=bz.out.below J (by omega)
    by_cases h0:ac=0
    ·subst h0
     rw [if_pos rfl,<- ie.out] at Z
     have bp:=ei.out rfl
     obtain ⟨bq,eh,u,L,bs,g2⟩:=zz6 Z bp E W J bb;clear Z bp E W J bb
     go_wp2_with fail
     exact ⟨⟨k+1,by omega,by simp,bq.out,eh.out,bs.out⟩,by simp [intOf];omega⟩
    ·have a6:=fail_calls ac w7
     have I:=e7.out h0
     have km:(ac == 0)=false:=by simpa using h0
     obtain ⟨bq,u,L,bs,g2,ae,H⟩:=zz7 Z E W J bb a6 I;clear Z E W J bb a6 I
     go_wp2_with fail
     refine ae.out.mono ?_
     rintro e wf ⟨rfl,a5⟩
     have m:=L.out.below a5 L.out.lt
     have s:=u.out.trans (a5.mono u.out.size)
     have fu:=m.frozen 0
     have fv:=m.frozen 1
     have am:=m.cell 0
     have ao:=m.cell 1
     simp only [List.getElem?_cons_zero,List.getElem?_cons_succ] at am ao
     have R:=(m.set 0 (.int .i64 0)).set 1 (.slice none 0 0)
     have Q:=(s.setCell (p:=⟨w.heap.size+1,0,none⟩) (by simp) (.int .i64 0)).setCell (p:=⟨w.heap.size+1,1,none⟩) (by simp) (.slice none 0 0)
     obtain ⟨cu,b4,Y,X⟩:=zz4 m s R Q;clear m s R Q
     go_wp2_with fail
     exact ret_cttt rfl rfl Y.out Tryz.underlying24 rfl (by kernel_rfl) rfl ⟨⟨_,ac,rfl,⟨H.out,fun _=>rfl,fun f=>absurd f h0⟩,fun f=>absurd f h0⟩,X.out⟩
   ·obtain rfl:k=l.length:=by omega
    rw [List.take_length] at hC
    have fb:Mesh.Clean T l:=fun i hi=>ag i hi hi
    have gw:=clean_good fb
    have fa:=contains_idle hC U.out bo (by omega) ej.out (by omega)
    obtain ⟨an,f1⟩:∃ an,l.any (idleE N T l)=an:=⟨_,rfl⟩
    rw [f1] at fa
    obtain ⟨gi,g9,ee,ef,ct,e8,hp,cr⟩:=zz8 hC ag dr bo fb gw fa f1;clear hC ag dr bo fb gw fa f1
    go_wp2_with fail
    refine hp.out.mono ?_
    rintro e w7 ⟨rfl,J⟩
    have ji:=J.size
    have a3:=bn.trans (J.mono (by omega))
    have c6:=gf.trans (J.mono (by omega))
    have cm:=ee.out.below J (by omega)
    have Z:=gi.out.below J
    have ds:=ef.out.below keeps_pair (J.mono (by omega))
    cases an with
    | true =>
     have a6:=fail_calls 14 w7
     have E:=c6
     have W:=cm
     have I:AlongC N T l 14:=.inr (.inr ⟨U.out,ct.out,.inl ⟨cr.out,rfl⟩⟩)
     obtain ⟨bq,u,L,bs,ah,ae,H,i0,i2⟩:=zz9 Z E W J a3 a6 I cm ds;clear Z E W J a3 a6 I cm ds
     go_wp2_with fail
     refine ae.out.mono ?_
     rintro e wf ⟨rfl,a5⟩
     have m:=L.out.below a5 L.out.lt
     have s:=u.out.trans (a5.mono u.out.size)
     have fu:=m.frozen 0
     have fv:=m.frozen 1
     have am:=m.cell 0
     have ao:=m.cell 1
     simp only [List.getElem?_cons_zero,List.getElem?_cons_succ] at am ao
     have R:=(m.set 0 (.int .i64 0)).set 1 (.slice none 0 0)
     have Q:=(s.setCell (p:=⟨w.heap.size+1,0,none⟩) (by simp) (.int .i64 0)).setCell (p:=⟨w.heap.size+1,1,none⟩) (by simp) (.slice none 0 0)
     obtain ⟨cu,b4,Y,X⟩:=zz4 m s R Q;clear m s R Q
     go_wp2_with fail
     exact ret_cttt rfl rfl Y.out Tryz.underlying24 rfl (by kernel_rfl) rfl ⟨⟨_,14,rfl,⟨H.out,fun _=>rfl,fun f=>absurd f (by decide)⟩,fun f=>absurd f (by decide)⟩,X.out⟩
    | false =>
     have h4:=part_calls Z U.out e8.out hll
     obtain ⟨bq,bs,ah,i0,i2,ib,j1⟩:=zz7 Z J a3 cm ds h4 c6;clear Z J a3 cm ds h4 c6
     go_wp2_with fail
     refine ib.out.mono ?_
     rintro e w8 ⟨rfl,⟨l9,b5⟩,ap⟩
     have l5:=ap.size
     have a4:=ah.out.trans ap
     have di:=c5.trans (a4.mono (by omega))
     have cn:=bz.out.below a4 (by omega)
     have aw:=g5.out.below a4 (by omega)
     have b8:=fw.out.below keeps_tri (a4.mono (by omega))
     have e3:w8.cell? ⟨G.heap.size,3,none⟩=some (.int .i64 ((newO N T (l.map nm)).length:Nat)):=b5.blk.cell 3
     have j6:(newO N T (l.map nm)).length<=40000:=by
      rw [newO_eq,outO_len]
      have:=exH_few (T:=T) (C:=l.map nm) N.toNat
      have:=U.out.tmax
      have:=U.out.nmax
      omega
     have kk:=b5.blk.lt
     obtain ⟨M,hM⟩:∃ M,(newO N T (l.map nm)).length=M:=⟨_,rfl⟩
     rw [hM] at e3 j6 b5
     by_cases jt:4096<M
     ·have a6:=fail_calls 7 w8
      have E:=di
      have W:=cn
      have I:AlongC N T l 7:=.inr (.inr ⟨U.out,ct.out,.inr (.inl ⟨cr.out,by omega,rfl⟩)⟩)
      obtain ⟨dz,u,L,fy,fz,ae,H,ea,g7,fx,d7⟩:=zz11 b5 E W ap a4 a6 I cn aw b8 hM;clear b5 E W ap a4 a6 I cn aw b8 hM
      go_wp2_with fail
      refine ae.out.mono ?_
      rintro e wf ⟨rfl,a5⟩
      have m:=L.out.below a5 L.out.lt
      have s:=u.out.trans (a5.mono u.out.size)
      have fu:=m.frozen 0
      have fv:=m.frozen 1
      have am:=m.cell 0
      have ao:=m.cell 1
      simp only [List.getElem?_cons_zero,List.getElem?_cons_succ] at am ao
      have R:=(m.set 0 (.int .i64 0)).set 1 (.slice none 0 0)
      have Q:=(s.setCell (p:=⟨w.heap.size+1,0,none⟩) (by simp) (.int .i64 0)).setCell (p:=⟨w.heap.size+1,1,none⟩) (by simp) (.slice none 0 0)
      obtain ⟨cu,b4,Y,X⟩:=zz4 m s R Q;clear m s R Q
      go_wp2_with fail
      exact ret_cttt rfl rfl Y.out Tryz.underlying24 rfl (by kernel_rfl) rfl ⟨⟨_,7,rfl,⟨H.out,fun _=>rfl,fun f=>absurd f (by decide)⟩,fun f=>absurd f (by decide)⟩,X.out⟩
     ·have I:AlongC N T l 0:=.inr (.inr ⟨U.out,ct.out,.inr (.inr ⟨cr.out,by omega,rfl⟩)⟩)
      have gt:=edges_calls b8 (by omega) U.out
      have g0:w8.cell? ⟨w.heap.size,0,none⟩=some (.int .i64 N):=aw.cell 0
      have g1:w8.cell? ⟨w.heap.size,1,none⟩=some (.slice A T.length ak):=aw.cell 1
      obtain ⟨dz,fy,fz,H,ea,g7,fx,d7,hq⟩:=zz9 b5 ap a4 I cn aw b8 hM gt;clear b5 ap a4 I cn aw b8 hM gt
      go_wp2_with fail
      refine hq.out.mono ?_
      rintro e w9 ⟨⟨r,K,rfl,et,b3⟩,c4⟩
      have l6:=c4.size
      have kv:=edges_few et
      have gn:=U.out.tmax
      obtain ⟨A9,ij,rfl,jp⟩:=own_form b3
      have fq:Sl 2 RPair w9 w9.heap.size (.slice A9 K.length ij) K:=Sl.of_own b3 fun i a hi=>flat2_at K i a hi
      obtain ⟨ad,j3,ga⟩:=zz3 et b3 fq;clear et b3 fq
      go_wp2_with fail
      go_loopw [15,89] (fun pv iv wq=>∃ k:Nat,k<=K.length/\iv=.int .i64 (k:Int)/\wq.ownsRow w9.heap.size 41 4 pv (pairsL N T l (K.take k)).length (quad (pairsL N T l (K.take k)))/\Below w9.heap.size w9 wq) (fun _ iv _=>K.length - (intOf iv).toNat)
      case atStart=>exact ⟨0,by omega,rfl,World.ownsRow_nil _ _ _ _,Below.refl _ _⟩
      case round =>
       obtain ⟨k,hk,rfl,O,af⟩:=hrel
       obtain ⟨F,jh⟩:∃ F,F=wr:=⟨_,rfl⟩
       subst jh
       have l8:=af.size
       have a0:=(dz.out.below c4).below (af.mono (by omega))
       by_cases ay:k<K.length
       ·obtain ⟨b,o,rfl,hb,a1,a2⟩:=(ga.out.below keeps_pair af).pair_at ay
        have j9:b<F.heap.size:=by omega
        have h6:=pairs_step (N:=N) (T:=T) (l:=l) ay
        obtain ⟨ce,gs,ja⟩:=(ad.out.2 _).1 (List.getElem_mem ay)
        have hr:ok2 K[k]:=by
         rw [ja]
         have q1:=U.out.rng _ gs
         have q2:=U.out.rng _ (nx_lt gs)
         have:=U.out.nmax
         unfold ok2 I64 ek
         simp only []
         omega
        have fi:=fun (f:K[k]∈l.map nm)=>good_cut e8.out (e:=K[k]) f
        obtain ⟨SC,df,ew⟩:=a0.cuts
        have ex:=ew K[k]
        generalize K[k]=ed at *
        obtain ⟨x1,x2⟩:=ed
        simp only [] at a1 a2 fi
        obtain ⟨ft,fr⟩:∃ ft,(Words.look SC (x1,x2)).isSome=ft:=⟨_,rfl⟩
        rw [fr] at ex
        have ax:=(Below.refl F.heap.size F).alloc (Nat.le_refl _) (.cells #[.int .i64 x1,.int .i64 x2] 39)
        have a7:=Bk.new F 39 [.int .i64 x1,.int .i64 x2]
        obtain ⟨wA,cq⟩:∃ wA,wA=F.alloc (.cells #[.int .i64 x1,.int .i64 x2] 39):=⟨_,rfl⟩
        rw [<- cq] at ax
        have a7:Bk wA F.heap.size 39 [.int .i64 x1,.int .i64 x2]:=by rw [cq];exact a7
        have jj:wA.heap.size=F.heap.size+1:=by rw [cq];simp
        have de:=a0.below ax
        have gm:=df.below ax df.lt
        have dt:=own_below O ax (Nat.le_refl _)
        have g0:=a7.cell 0
        have g1:=a7.cell 1
        simp only [List.getElem?_cons_zero,List.getElem?_cons_succ] at g0 g1
        have m1:wA.cell? ⟨G.heap.size,1,none⟩=some (.map (some S.heap.size)):=de.blk.cell 1
        have kw:=de.blk.lt
        obtain ⟨br,aj,en,bk,hv,jz,k0,e0,e2,eb,hg,hh⟩:=zz12 a0 O h6 hr fi df ew ex ax a7 de gm;have cg:=zz dt;clear a0 O h6 hr fi df ew ex ax a7 de gm dt
        go_wp2_with fail
        rw [<- cq]
        clear cq
        refine Canon.wp_region_tree [4] (fun b'=>b'=F.heap.size) (.seg [0,4] (.alt 1 (.seg [2,3] (.alt 5 .fin .no)) .no)) mixed (by kernel_rfl) ?_
        refine Canon.tr_seg ?_
        simp only [zmC,zmN,zgZ,zgS]
        go_wp2_with fail
        refine Canon.tr_to (Canon.tr_one ?_)
        simp only [zgZ,zgS]
        go_wp2_with fail
        refine Canon.tr_end (fun _ _=>rfl) (Canon.tr_seg ?_)
        simp only [zmC,zmN,zgZ,zgS]
        go_wp2_with fail
        refine Canon.tr_to (Canon.tr_one ?_)
        simp only [zgZ,zgS]
        refine wpList_look _ rfl _ _ 103 rfl 39 4 keyE Tryz.underlying103 zero_bool S.heap.size SC rfl hh.out.drew (x1,x2) rfl bk.out ?_
        rw [look_yes,fr]
        go_wp2_with fail
        refine Canon.tr_end (fun _ _=>rfl) (Canon.tr_fin (by rfl) (List.forall_mem_cons.2 ⟨.inl ⟨_,rfl,rfl,by rw [World.cell?_drew,g0];rfl⟩,fun _ h=>by cases h⟩) ?_)
        cases ft with
        | false =>
         have bp:¬ (x1,x2)∈l.map nm:=fun f=>by have:=e0.out.2 f;cases this
         have a8:=en.out
         rw [if_neg bp] at a8
         have aq:=af.trans (e2.out.mono (by omega))
         obtain ⟨c2,eh,az⟩:=zz3 a8 bp aq;clear a8 bp aq
         go_wp2_with fail
         exact ⟨⟨k+1,by omega,by simp,by rw [c2.out];exact own_drew cg.out,az.out.drew⟩,by simp [intOf];omega⟩
        | true =>
         have dn:(x1,x2)∈l.map nm:=e0.out.1 rfl
         have a8:=en.out
         rw [if_pos dn] at a8
         obtain ⟨⟨fc,ck⟩,fd,cl⟩:=hv.out dn
         have im:=(facing_some ck).1
         have io:=(facing_some cl).1
         have fp:pairE T (newX N T (l.map nm)) (x1,x2)=(eg (newX N T (l.map nm)) fc,eg (newX N T (l.map nm)) fd):=by unfold pairE;rw [ck,cl];rfl
         rw [fp] at a8
         have dg:(newX N T (l.map nm)).length=T.length:=relab_len _ _
         obtain ⟨D,hc⟩:∃ D,D=wA.drew:=⟨_,rfl⟩
         have b6:=hg.out.below (Below.refl wA.heap.size wA).drew
         have co:=eb.out.drew
         have cb:=own_drew cg.out
         have aq:=(af.trans (e2.out.mono (by omega))).drew
         have jk:wA.drew.heap.size=F.heap.size+1:=jj
         rw [<- hc] at b6 co cb aq jk ⊢
         clear hc
         have cj:=fun wx (hx:Below D.heap.size D wx)=>facing_calls (b6.below hx).tab x1 x2 bk.out.1 bk.out.2
         have dm:=fun wx (hx:Below D.heap.size D wx)=>facing_calls (b6.below hx).tab x2 x1 bk.out.2 bk.out.1
         have fm:=fun wx (hx:Below D.heap.size D wx)=>now_calls (b6.below hx) (c:=fc) (by rw [dg];exact im) (by rw [dg];exact gn)
         have fo:=fun wx (hx:Below D.heap.size D wx)=>now_calls (b6.below hx) (c:=fd) (by rw [dg];exact io) (by rw [dg];exact gn)
         rw [ck] at cj
         rw [cl] at dm
         generalize eg (newX N T (l.map nm)) fc=E1 at *
         generalize eg (newX N T (l.map nm)) fd=E2 at *
         obtain ⟨p1,p2⟩:=E1
         obtain ⟨q1,q2⟩:=E2
         change ∀ wx,Below D.heap.size D wx->Calls _ _ #[_,.int .i64 (fc:Int)] wx (fun r w'=>r=.returned (.agg #[.int .i64 p1,.int .i64 p2])/\_) at fm
         change ∀ wx,Below D.heap.size D wx->Calls _ _ #[_,.int .i64 (fd:Int)] wx (fun r w'=>r=.returned (.agg #[.int .i64 q1,.int .i64 q2])/\_) at fo
         change ∀ wx,Below D.heap.size D wx->Calls _ _ _ wx (fun r w'=>r=.returned (.int .i64 (fc:Int))/\_) at cj
         change ∀ wx,Below D.heap.size D wx->Calls _ _ _ wx (fun r w'=>r=.returned (.int .i64 (fd:Int))/\_) at dm
         have y0:D.cell? ⟨F.heap.size,0,none⟩=some (.int .i64 x1):=co.cell 0
         have y1:D.cell? ⟨F.heap.size,1,none⟩=some (.int .i64 x2):=co.cell 1
         have f9:=cj D.drew (Below.refl D.heap.size D).drew
         obtain ⟨c2,k7,jx,i1,el,az,k3,ht,i7,i8,k9,k4⟩:=zz12 a8 dn b6 co cb aq cj dm fm fo fp ck;obtain ⟨k5,g3⟩:=zz2 cl f9;clear a8 dn b6 co cb aq cj dm fm fo fp ck cl f9
         go_wp2_with fail
         refine Canon.wp_region_tree [9,11] (fun b'=>b'=F.heap.size) (.seg [0,1,2,3,6,7,8,9,10,11,12] (.alt 4 (.alt 5 (.alt 13 (.alt 14 (.seg [15] (.alt 16 (.alt 17 (.seg [18] .fin) .no) .no)) .no) .no) .no) .no)) mixed (by kernel_rfl) ?_
         refine Canon.tr_seg ?_
         simp only [zmC,zmN,zgZ,zgS]
         go_wp2_with fail
         refine Canon.tr_to (Canon.tr_one ?_)
         simp only [zgZ,zgS]
         go_wp2_with fail
         refine g3.out.mono ?_
         rintro e jl ⟨rfl,a3⟩
         have cy:=(Below.refl D.heap.size D).drew.trans a3
         have dj:=i7.out jl cy
         obtain ⟨ah,bt,e4⟩:=zz3 a3 cy dj;clear a3 cy dj
         go_wp2_with fail
         refine Canon.tr_end (fun b' f=>by subst f;exact ah.out.block F.heap.size (by show F.heap.size<D.heap.size;omega)) (Canon.tr_one ?_)
         simp only [zgZ,zgS]
         go_wp2_with fail
         refine e4.out.mono ?_
         rintro e hd ⟨rfl,b0⟩
         have cz:=bt.out.trans (b0.mono bt.out.size)
         have dk:=ht.out hd cz
         have fe:Below D.heap.size D.drew hd:=ah.out.trans (b0.mono bt.out.size)
         obtain ⟨iy,bu,e5,da⟩:=zz4 b0 cz dk fe;clear b0 cz dk fe
         go_wp2_with fail
         refine Canon.tr_end (fun b' f=>by subst f;exact da.out.block F.heap.size (by omega)) (Canon.tr_one ?_)
         simp only [zgZ,zgS]
         go_wp2_with fail
         refine e5.out.mono ?_
         rintro e he ⟨rfl,b1⟩
         have d2:=bu.out.trans (b1.mono bu.out.size)
         have dl:=i8.out he d2
         have ff:Below D.heap.size D.drew he:=da.out.trans (b1.mono bu.out.size)
         obtain ⟨iz,bv,e6,db⟩:=zz4 b1 d2 dl ff;clear b1 d2 dl ff
         go_wp2_with fail
         refine Canon.tr_end (fun b' f=>by subst f;exact db.out.block F.heap.size (by omega)) (Canon.tr_one ?_)
         simp only [zgZ,zgS]
         go_wp2_with fail
         refine e6.out.mono ?_
         rintro e fs ⟨rfl,b2⟩
         have f8:=bv.out.trans (b2.mono bv.out.size)
         have fg:Below D.heap.size D.drew fs:=db.out.trans (b2.mono bv.out.size)
         obtain ⟨j0,ai,dc⟩:=zz3 b2 f8 fg;clear b2 f8 fg
         go_wp2_with fail
         refine Canon.tr_end (fun b' f=>by subst f;exact dc.out.block F.heap.size (by omega)) (Canon.tr_seg ?_)
         simp only [zmC,zmN,zgZ,zgS]
         go_wp2_with fail
         refine Canon.tr_to (Canon.tr_one ?_)
         simp only [zgZ,zgS]
         go_wp2_with fail
         have f0:Below D.heap.size D.drew (fs.alloc (.cells #[.int .i64 p1,.int .i64 p2,.int .i64 q1,.int .i64 q2] 41)):=dc.out.alloc ai.out.size _
         have d9:=zz f0;clear f0
         refine Canon.tr_end (fun b' f=>by subst f;exact d9.out.block F.heap.size (by omega)) (Canon.tr_one ?_)
         simp only [zgZ,zgS]
         have bi:=own_below el.out ai.out (Nat.le_refl _)
         have c8:=(i1.out.below ai.out (by omega)).alloc (.cells #[.int .i64 p1,.int .i64 p2,.int .i64 q1,.int .i64 q2] 41)
         have ab:=bi.alloc (.cells #[.int .i64 p1,.int .i64 p2,.int .i64 q1,.int .i64 q2] 41)
         have gl:(pairsL N T l (K.take k)).length<=100000:=by
          unfold pairsL
          rw [List.length_map]
          have:=List.length_filter_le (fun e=>decide (e∈l.map nm)) (K.take k)
          rw [List.length_take] at this
          omega
         have ko:=ai.out.size
         have kp:=az.out.size
         refine append_block _ rfl (.tmp 99) (.tmp 115) 29 rfl w9.heap.size infoPr Tryz.underlying29 rfl (by decide) _ _ _ rfl ab fs.heap.size [.int .i64 p1,.int .i64 p2,.int .i64 q1,.int .i64 q2] rfl (Bk.new _ _ _) rfl (by simp [Value.oneCell']) (by omega) (by omega) (by simp;omega) ?_
         intro v' wE al f7 fh _
         obtain ⟨gv,cv,rfl⟩:=ownsRow_succ al
         have dq:wE.heap[F.heap.size]? = D.drew.heap[F.heap.size]?:=(fh.block F.heap.size (by simp;omega) (fun e9=>by
          rcases own_bk ab c8 (by decide) with f | f
          ·exact absurd (e9.trans f) (by simp)
          ·exact f e9.symm)).trans (d9.out.block F.heap.size (by omega))
         have gq:=((az.out.trans (ai.out.mono (by omega))).alloc (by omega) (.cells #[.int .i64 p1,.int .i64 p2,.int .i64 q1,.int .i64 q2] 41)).trans f7
         have du:wE.ownsRow w9.heap.size 41 4 (.slice (some ⟨gv,0,none⟩) ((pairsL N T l (K.take k)).length+1) cv) (pairsL N T l (K.take (k+1))).length (quad (pairsL N T l (K.take (k+1)))):=by
          rw [c2.out,List.length_append,quad_snoc]
          exact al
         obtain ⟨iw,j2,ia,jy,ix,k2,k6,ec,ho,em⟩:=zz10 bi c8 ab gl al f7 fh dq gq du;clear bi c8 ab gl al f7 fh dq gq du
         go_wp2_with fail
         refine Canon.tr_end (fun b' f=>by subst f;exact ec.out) (Canon.tr_seg ?_)
         simp only [zmC,zmN,zgZ,zgS]
         go_wp2_with fail
         refine Canon.tr_to (Canon.tr_fin (by rfl) (List.forall_mem_cons.2 ⟨.inl ⟨_,rfl,rfl,by rw [World.cell?_drew,y1];rfl⟩,List.forall_mem_cons.2 ⟨.inl ⟨_,rfl,rfl,by rw [World.cell?_drew,y0];rfl⟩,fun _ h=>by cases h⟩⟩) ?_)
         go_wp2_with fail
         exact ⟨⟨k+1,by omega,by simp,em.out,ho.out⟩,by simp [intOf];omega⟩
       ·obtain rfl:k=K.length:=by omega
        rw [List.take_length] at O
        have bh:=(ea.out.below c4 (by omega)).below (af.mono (by omega)) (by omega)
        have gr:=di.trans ((c4.mono (by omega)).trans (af.mono (by omega)))
        obtain ⟨AW,kb,ir,jr⟩:=own_form a0.wow
        subst ir
        obtain ⟨AP,ka,ip,jq⟩:=own_form O
        subst ip
        have f3:F.cell? ⟨G.heap.size,3,none⟩=some (.int .i64 (M:Nat)):=a0.blk.cell 3
        have f4:=a0.blk.cell 4
        have f5:=a0.blk.cell 5
        have z0:=bh.frozen 0
        have z1:=bh.frozen 1
        have am:=bh.cell 0
        have ao:=bh.cell 1
        simp only [List.getElem?_cons_zero,List.getElem?_cons_succ] at am ao
        have kx:=a0.blk.lt
        simp only [List.getElem?_cons_succ,List.getElem?_cons_zero] at f4 f5
        have gy:=(bh.set 0 (.int .i64 (M:Nat))).set 1 (.slice V T.length q)
        obtain ⟨cw,cs,br,aj,k8⟩:=zz5 bh gr a0 O gy;clear bh gr a0 O gy
        go_wp2_with fail
        refine Canon.wp_region_tree [3,7] (fun b'=>b'=G.heap.size) (.seg [0,4,8] (.alt 1 (.seg [2,3] (.alt 5 (.seg [6,7] (.alt 9 (.seg [10,11,12] .fin) .no)) (.alt 9 (.alt 5 (.seg [6,7,10,11,12] .fin) .no) .no))) (.alt 5 (.seg [6,7] (.alt 1 (.seg [2,3] (.alt 9 (.seg [10,11,12] .fin) .no)) .no)) .no))) mixed (by kernel_rfl) ?_
        have kn:G.heap.size≠w.heap.size+1:=by omega
        refine Canon.tr_seg ?_
        simp only [zmC,zmN,zgZ,zgS]
        go_wp2_with fail
        refine Canon.tr_to (Canon.tr_alt ?_ (Canon.tr_one ?_))
        ·simp only [zgZ,zgS]
         go_wp2_with fail
         refine Canon.tr_end (fun _ _=>rfl) (Canon.tr_seg ?_)
         simp only [zmC,zmN,zgZ,zgS]
         go_wp2_with fail
         refine Canon.tr_to (Canon.tr_alt ?_ (Canon.tr_one ?_))
         ·simp only [zgZ,zgS]
          go_wp2_with fail
          refine Canon.tr_end (fun _ _=>rfl) (Canon.tr_seg ?_)
          simp only [zmC,zmN,zgZ,zgS]
          go_wp2_with fail
          refine Canon.tr_to (Canon.tr_one ?_)
          simp only [zgZ,zgS]
          go_wp2_with fail
          refine Canon.tr_end (fun b' f=>by subst f;exact ((Below.heap_setCell _ ⟨w.heap.size+1,1,none⟩ _ G.heap.size (by show G.heap.size≠w.heap.size+1;omega)).trans (Below.heap_setCell _ ⟨w.heap.size+1,0,none⟩ _ G.heap.size (by show G.heap.size≠w.heap.size+1;omega)))) (Canon.tr_seg ?_)
          simp only [zmC,zmN,zgZ,zgS]
          go_wp2_with fail
          refine Canon.tr_to (Canon.tr_fin (by rfl) (List.forall_mem_cons.2 ⟨.inl ⟨_,rfl,rfl,by rw [World.cell?_drew,f3];rfl⟩,List.forall_mem_cons.2 ⟨.inl ⟨_,rfl,rfl,by rw [World.cell?_drew,f5];rfl⟩,fun _ h=>by cases h⟩⟩) ?_)
          go_wp2_with fail
          have bg:=((cw.out.set 0 (.int .i64 (M:Nat))).set 1 (.slice V T.length q)).drew
          have bc:=((cs.out.setCell (p:=⟨w.heap.size+1,0,none⟩) (by simp) (.int .i64 (M:Nat))).setCell (p:=⟨w.heap.size+1,1,none⟩) (by simp) (.slice V T.length q)).drew
          have bd:∀ j,j≠w.heap.size+1->((F.setCell ⟨w.heap.size+1,0,none⟩ (.int .i64 (M:Nat))).setCell ⟨w.heap.size+1,1,none⟩ (.slice V T.length q)).drew.heap[j]? = F.heap[j]?:=fun j hj=>(Below.heap_setCell _ ⟨w.heap.size+1,1,none⟩ _ j hj).trans (Below.heap_setCell _ ⟨w.heap.size+1,0,none⟩ _ j hj)
          have d:=along_own br.out aj.out (by omega) (by omega) bd
          have P:=along_sl d.1 d.2.1 d.2.2
          refine ret_cttt rfl rfl bg Tryz.underlying24 rfl (by kernel_rfl) rfl ⟨⟨_,0,rfl,⟨H.out,fun f=>absurd rfl f,fun _=>⟨.slice V T.length q,_,_,K,?_,P.1,P.2.1,ad.out,P.2.2⟩⟩,fun _ wz9 f=>⟨.slice V T.length q,_,_,K,?_,(along_sl (own_moved d.1 (by omega) f) (own_moved d.2.1 (by omega) f) (own_moved d.2.2 (by omega) f)).1,(along_sl (own_moved d.1 (by omega) f) (own_moved d.2.1 (by omega) f) (own_moved d.2.2 (by omega) f)).2.1,ad.out,(along_sl (own_moved d.1 (by omega) f) (own_moved d.2.1 (by omega) f) (own_moved d.2.2 (by omega) f)).2.2⟩⟩,bc⟩
          all_goals (rw [d7.out];rfl)
         ·simp only [zgZ,zgS]
          go_wp2_with fail
          refine Canon.tr_end (fun b' f=>by subst f;exact ((Below.heap_setCell _ ⟨w.heap.size+1,1,none⟩ _ G.heap.size (by show G.heap.size≠w.heap.size+1;omega)).trans (Below.heap_setCell _ ⟨w.heap.size+1,0,none⟩ _ G.heap.size (by show G.heap.size≠w.heap.size+1;omega)))) (Canon.tr_one ?_)
          simp only [zgZ,zgS]
          go_wp2_with fail
          refine Canon.tr_end (fun b' f=>by subst f;exact ((Below.heap_setCell _ ⟨w.heap.size+1,1,none⟩ _ G.heap.size (by show G.heap.size≠w.heap.size+1;omega)).trans (Below.heap_setCell _ ⟨w.heap.size+1,0,none⟩ _ G.heap.size (by show G.heap.size≠w.heap.size+1;omega)))) (Canon.tr_seg ?_)
          simp only [zmC,zmN,zgZ,zgS]
          go_wp2_with fail
          refine Canon.tr_to (Canon.tr_fin (by rfl) (List.forall_mem_cons.2 ⟨.inl ⟨_,rfl,rfl,by rw [World.cell?_drew,f3];rfl⟩,List.forall_mem_cons.2 ⟨.inl ⟨_,rfl,rfl,by rw [World.cell?_drew,f5];rfl⟩,fun _ h=>by cases h⟩⟩) ?_)
          go_wp2_with fail
          have bg:=((cw.out.set 0 (.int .i64 (M:Nat))).set 1 (.slice V T.length q)).drew
          have bc:=((cs.out.setCell (p:=⟨w.heap.size+1,0,none⟩) (by simp) (.int .i64 (M:Nat))).setCell (p:=⟨w.heap.size+1,1,none⟩) (by simp) (.slice V T.length q)).drew
          have bd:∀ j,j≠w.heap.size+1->((F.setCell ⟨w.heap.size+1,0,none⟩ (.int .i64 (M:Nat))).setCell ⟨w.heap.size+1,1,none⟩ (.slice V T.length q)).drew.heap[j]? = F.heap[j]?:=fun j hj=>(Below.heap_setCell _ ⟨w.heap.size+1,1,none⟩ _ j hj).trans (Below.heap_setCell _ ⟨w.heap.size+1,0,none⟩ _ j hj)
          have d:=along_own br.out aj.out (by omega) (by omega) bd
          have P:=along_sl d.1 d.2.1 d.2.2
          refine ret_cttt rfl rfl bg Tryz.underlying24 rfl (by kernel_rfl) rfl ⟨⟨_,0,rfl,⟨H.out,fun f=>absurd rfl f,fun _=>⟨.slice V T.length q,_,_,K,?_,P.1,P.2.1,ad.out,P.2.2⟩⟩,fun _ wz9 f=>⟨.slice V T.length q,_,_,K,?_,(along_sl (own_moved d.1 (by omega) f) (own_moved d.2.1 (by omega) f) (own_moved d.2.2 (by omega) f)).1,(along_sl (own_moved d.1 (by omega) f) (own_moved d.2.1 (by omega) f) (own_moved d.2.2 (by omega) f)).2.1,ad.out,(along_sl (own_moved d.1 (by omega) f) (own_moved d.2.1 (by omega) f) (own_moved d.2.2 (by omega) f)).2.2⟩⟩,bc⟩
          all_goals (rw [d7.out];rfl)
        ·simp only [zgZ,zgS]
         go_wp2_with fail
         refine Canon.tr_end (fun _ _=>rfl) (Canon.tr_seg ?_)
         simp only [zmC,zmN,zgZ,zgS]
         go_wp2_with fail
         refine Canon.tr_to (Canon.tr_one ?_)
         simp only [zgZ,zgS]
         go_wp2_with fail
         refine Canon.tr_end (fun _ _=>rfl) (Canon.tr_seg ?_)
         simp only [zmC,zmN,zgZ,zgS]
         go_wp2_with fail
         refine Canon.tr_to (Canon.tr_one ?_)
         simp only [zgZ,zgS]
         go_wp2_with fail
         refine Canon.tr_end (fun b' f=>by subst f;exact ((Below.heap_setCell _ ⟨w.heap.size+1,1,none⟩ _ G.heap.size (by show G.heap.size≠w.heap.size+1;omega)).trans (Below.heap_setCell _ ⟨w.heap.size+1,0,none⟩ _ G.heap.size (by show G.heap.size≠w.heap.size+1;omega)))) (Canon.tr_seg ?_)
         simp only [zmC,zmN,zgZ,zgS]
         go_wp2_with fail
         refine Canon.tr_to (Canon.tr_fin (by rfl) (List.forall_mem_cons.2 ⟨.inl ⟨_,rfl,rfl,by rw [World.cell?_drew,f3];rfl⟩,List.forall_mem_cons.2 ⟨.inl ⟨_,rfl,rfl,by rw [World.cell?_drew,f5];rfl⟩,fun _ h=>by cases h⟩⟩) ?_)
         go_wp2_with fail
         have bg:=((cw.out.set 0 (.int .i64 (M:Nat))).set 1 (.slice V T.length q)).drew
         have bc:=((cs.out.setCell (p:=⟨w.heap.size+1,0,none⟩) (by simp) (.int .i64 (M:Nat))).setCell (p:=⟨w.heap.size+1,1,none⟩) (by simp) (.slice V T.length q)).drew
         have bd:∀ j,j≠w.heap.size+1->((F.setCell ⟨w.heap.size+1,0,none⟩ (.int .i64 (M:Nat))).setCell ⟨w.heap.size+1,1,none⟩ (.slice V T.length q)).drew.heap[j]? = F.heap[j]?:=fun j hj=>(Below.heap_setCell _ ⟨w.heap.size+1,1,none⟩ _ j hj).trans (Below.heap_setCell _ ⟨w.heap.size+1,0,none⟩ _ j hj)
         have d:=along_own br.out aj.out (by omega) (by omega) bd
         have P:=along_sl d.1 d.2.1 d.2.2
         refine ret_cttt rfl rfl bg Tryz.underlying24 rfl (by kernel_rfl) rfl ⟨⟨_,0,rfl,⟨H.out,fun f=>absurd rfl f,fun _=>⟨.slice V T.length q,_,_,K,?_,P.1,P.2.1,ad.out,P.2.2⟩⟩,fun _ wz9 f=>⟨.slice V T.length q,_,_,K,?_,(along_sl (own_moved d.1 (by omega) f) (own_moved d.2.1 (by omega) f) (own_moved d.2.2 (by omega) f)).1,(along_sl (own_moved d.1 (by omega) f) (own_moved d.2.1 (by omega) f) (own_moved d.2.2 (by omega) f)).2.1,ad.out,(along_sl (own_moved d.1 (by omega) f) (own_moved d.2.1 (by omega) f) (own_moved d.2.2 (by omega) f)).2.2⟩⟩,bc⟩
         all_goals (rw [d7.out];rfl)
open Go Go.RowKit Go.Words Go.Mesh
theorem AlongEnd.ok {w':World} {N:Int} {T:List T3} {l:List (Int × Int)} {r:Value} (h:AlongEnd w' N T l r 0):∃ b c pv a,r=.tuple #[.agg #[.int .i64 ((newO N T (l.map nm)).length:Nat),b],c,pv,.int .i64 0]/\CutOk N T l a/\Sl 3 RTri w' w'.heap.size b (newX N T (l.map nm))/\Sl 1 RInt w' w'.heap.size c (newO N T (l.map nm))/\Sl 4 R4 w' w'.heap.size pv (pairsL N T l a):=by
 obtain ⟨o,_,p⟩:=h
 obtain ⟨d,e,f,g⟩:=o.zero
 obtain ⟨b,c,pv,a,i,j,k,m,n⟩:=p rfl
 exact ⟨b,c,pv,a,i,⟨d,e,f,g,m⟩,j,k,n⟩
theorem vt_row {X:List T3} {i k:Nat} (hi:i<X.length) (hk:k<3):Mesh.vt X (3 * i+k)=vx X[i] k:=by
 unfold Mesh.vt
 have e:X.getD ((3 * i+k) / 3) (0,0,0)=X[i]:=by
  rw [show (3 * i+k) / 3=i by omega,List.getD_eq_getElem?_getD,List.getElem?_eq_getElem hi];rfl
 rw [e,show (3 * i+k) % 3=k by omega]
theorem tri_cell3 {w:World} {B n cap i:Nat} {A:Option Addr} {X:List T3} (h:Sl 3 RTri w B (.slice A n cap) X) (hi:i<X.length) {k:Nat} (hk:k<3) :
  ∃ b o,A=some ⟨b,o,none⟩/\b<B/\w.cell? ⟨b,o+i * 3+k,none⟩=some (.int .i64 (Mesh.vt X (3 * i+k))):=by
 obtain ⟨b,o,a,c,d,e,f⟩:=h.tri_at hi
 refine ⟨b,o,a,c,?_⟩
 rw [vt_row hi hk]
 match k,hk with
 | 0,_=>exact d
 | 1,_=>exact e
 | 2,_=>exact f
end Go.Proofs.YtpbdcppaiafbgaaGreat
