/- Walks: cut.Along. Walks: law19's example and bounds. -/
import Derived.Test.YtpbdcppaiafbgaaGreatIE
import Derived.Test.YtpbdcppaiafbgaaGreatHK
import Derived.Test.YtpbdcppaiafbgaaGreatFE
import Derived.Test.YtpbdcppaiafbgaaGreatTS
set_option maxRecDepth 100000
set_option maxHeartbeats 8000000
namespace Go.Words
open Go Go.RowKit Go.Mesh
def quad (l:List P4):List Value:=l.flatMap fun p=>[.int .i64 p.1.1,.int .i64 p.1.2,.int .i64 p.2.1,.int .i64 p.2.2]
theorem quad_snoc (l:List P4) (p:P4):quad (l++[p])=quad l++[.int .i64 p.1.1,.int .i64 p.1.2,.int .i64 p.2.1,.int .i64 p.2.2]:=by unfold quad;rw [List.flatMap_append];rfl
theorem quad_at (l:List P4):∀ (i:Nat) (p:P4),l[i]? = some p->((quad l).drop (i * 4)).take 4=[.int .i64 p.1.1,.int .i64 p.1.2,.int .i64 p.2.1,.int .i64 p.2.2]:=by
 induction l with
 | nil=>intro i b h;simp at h
 | cons x l ih =>
  intro i b h
  cases i with
  | zero =>
   have:x=b:=by simpa using h
   subst this
   simp [quad]
  | succ i =>
   have a:=ih i b (by simpa using h)
   rw [show (i+1) * 4=i * 4+1+1+1+1 by omega]
   simp only [quad,List.flatMap_cons,List.cons_append,List.nil_append,List.drop_succ_cons]
   exact a
end Go.Words
namespace Go.Proofs.YtpbdcppaiafbgaaGreat
open Go Go.RowKit Go.Words Go.Mesh
theorem infoPr:(Tryz.prog.info? 41).map (fun i=>(i.zero,i.size,i.bytes))=some (some (.agg #[.int .i64 0,.int .i64 0,.int .i64 0,.int .i64 0]),4,32):=by kernel_rfl
theorem along_own {w w':World} {B b9 g bc be k:Nat} {tv sv wv pv:Value} {N n:Int} {T X:List T3} {L:List (Int × Int)} {O:List Int} {P:List P4} (hC:Ctr w B g bc be tv N T L n sv wv X O) (hown:w.ownsRow b9 41 4 pv P.length (quad P)) (hk:k<B) (hk9:k<b9) (hfar:∀ j,j≠k->w'.heap[j]? = w.heap[j]?) :
  w'.ownsRow B 57 3 sv X.length (flat3 X)/\w'.ownsRow B 3 1 wv O.length (ivals O)/\w'.ownsRow b9 41 4 pv P.length (quad P):=by
 have a:∀ (v:Value) (base size m:Nat) (e:TypeId) (xs:List Value),w.ownsRow base e size v m xs->k<base->w'.ownsRow base e size v m xs:=fun v base size m e xs h hb=>by
  refine ⟨h.1,?_⟩
  rcases h.2 with f | ⟨d,b,c,i,l,o,p⟩
  ·exact .inl f
  ·exact .inr ⟨d,b,c,i,l,by rw [hfar d (by omega)];exact o,p⟩
 exact ⟨a _ _ _ _ _ _ hC.sow hk,a _ _ _ _ _ _ hC.wow hk,a _ _ _ _ _ _ hown hk9⟩
theorem along_sl {w':World} {b1 b2 b3:Nat} {sv wv pv:Value} {X:List T3} {O:List Int} {P:List P4} (h1:w'.ownsRow b1 57 3 sv X.length (flat3 X)) (h2:w'.ownsRow b2 3 1 wv O.length (ivals O)) (h3:w'.ownsRow b3 41 4 pv P.length (quad P)) :
  Sl 3 RTri w' w'.heap.size sv X/\Sl 1 RInt w' w'.heap.size wv O/\Sl 4 R4 w' w'.heap.size pv P :=
 ⟨Sl.of_own h1 fun i a hi=>flat3_at X i a hi,Sl.of_own h2 fun i a hi=>by
   unfold RInt
   have b:=(List.getElem?_eq_some_iff.1 hi).1
   unfold ivals
   rw [Nat.mul_one,List.drop_eq_getElem_cons (by simpa using b)]
   simp only [List.take_succ_cons,List.take_zero,List.getElem_map]
   rw [zG b] at hi
   rw [Option.some.inj hi],Sl.of_own h3 fun i a hi=>quad_at P i a hi⟩
theorem own_moved {w wz:World} {lo base n size:Nat} {e:TypeId} {v:Value} {xs:List Value} (h:w.ownsRow base e size v n xs) (hl:lo<=base) (hb:∀ b,lo<=b->b<w.heap.size->wz.heap[b]? = w.heap[b]?):wz.ownsRow base e size v n xs:=by
 refine ⟨h.1,?_⟩
 rcases h.2 with f | ⟨g,a,c,i,j,d,k⟩
 ·exact .inl f
 ·exact .inr ⟨g,a,c,i,j,(hb g (by omega) (Array.getElem?_eq_some_iff.1 d).1).trans d,k⟩
def AlongEnd (w':World) (N:Int) (T:List T3) (l:List (Int × Int)) (r:Value) (c:Int):Prop :=
 AlongC N T l c/\(c≠0->r=failV c)/\(c=0->∃ sv wv pv Es,r=.tuple #[.agg #[.int .i64 ((newO N T (l.map nm)).length:Nat),sv],wv,pv,.int .i64 0]/\Sl 3 RTri w' w'.heap.size sv (newX N T (l.map nm))/\Sl 1 RInt w' w'.heap.size wv (newO N T (l.map nm))/\EdgesIs T Es/\Sl 4 R4 w' w'.heap.size pv (pairsL N T l Es))
def AlongFar (w w':World) (N:Int) (T:List T3) (l:List (Int × Int)) (r:Value) (c:Int):Prop :=
 c=0->∀ wz:World,(∀ b,w.heap.size<=b->b<w'.heap.size->wz.heap[b]? = w'.heap[b]?) ->
  ∃ sv wv pv Es,r=.tuple #[.agg #[.int .i64 ((newO N T (l.map nm)).length:Nat),sv],wv,pv,.int .i64 0]/\Sl 3 RTri wz wz.heap.size sv (newX N T (l.map nm))/\Sl 1 RInt wz wz.heap.size wv (newO N T (l.map nm))/\EdgesIs T Es/\Sl 4 R4 wz wz.heap.size pv (pairsL N T l Es)
theorem along_calls2 {w:World} {B:Nat} {sv lv:Value} {N:Int} {T:List T3} {l:List (Int × Int)} (hB0:B<=w.heap.size) (hT:Sl 3 RTri w B sv T) (hN:I64 N) (hl:Sl 2 RPair w B lv l) (hok:∀ e∈l,ok2 e) (hll:l.length<=1000) :
  Calls Tryz.prog 21 #[.agg #[.int .i64 N,sv],lv] w fun e w'=>(∃ r c,e=.returned r/\AlongEnd w' N T l r c/\AlongFar w w' N T l r c)/\Below w.heap.size w w':=by
 obtain ⟨A,am,rfl,kn⟩:=hT.form
 obtain ⟨Al,kg,rfl,jw⟩:=hl.form
 have f9:=((Below.refl w.heap.size w).alloc zl (.cells #[.int .i64 N,.slice A T.length am] 24)).alloc (by simp) (.cells #[.int .i64 0,.slice none 0 0] 24)
 have dt:=(Bk.new w 24 [.int .i64 N,.slice A T.length am]).alloc (.cells #[.int .i64 0,.slice none 0 0] 24)
 have h2:=Bk.new' (n:=w.heap.size+1) (w:=w.alloc (.cells #[.int .i64 N,.slice A T.length am] 24)) 24 [.int .i64 0,.slice none 0 0] (by simp)
 have f2:=hT.below keeps_tri (f9.mono hB0)
 have h4:=hl.below keeps_pair (f9.mono hB0)
 have l3:w.heap.size+2<=((w.alloc (.cells #[.int .i64 N,.slice A T.length am] 24)).alloc (.cells #[.int .i64 0,.slice none 0 0] 24)).heap.size:=by simp
 generalize ji:(w.alloc (.cells #[.int .i64 N,.slice A T.length am] 24)).alloc (.cells #[.int .i64 0,.slice none 0 0] 24)=w0 at *
 have ha:=new_calls (.slice A T.length am) N T w0 (B:=B) (by omega) f2 hN
 have c0:w0.cell? ⟨w.heap.size,0,none⟩=some (.int .i64 N):=dt.cell 0
 have c1:w0.cell? ⟨w.heap.size,1,none⟩=some (.slice A T.length am):=dt.cell 1
 obtain ⟨kx,ky,i2,i3,hq,i7,ie,eo⟩:=zz8 hT hl dt h2 f2 h4 ha hok;clear hT hl dt h2 f2 h4 ha hok
 go_enter Tryz.func21,Tryz.ntmps21
 go_wp2_with fail
 clear ji
 refine ie.out.mono ?_
 rintro e w1 ⟨⟨pv,x,y,z,rfl,jh⟩,bn⟩
 have l4:=bn.size
 have gi:=f9.trans (bn.mono (by omega))
 have av:=i2.out.below bn (by omega)
 have ax:=i3.out.below bn (by omega)
 have cj:=hq.out.below keeps_tri (bn.mono (by omega))
 have cs:=i7.out.below keeps_pair (bn.mono (by omega))
 have bo:=(Below.refl w1.heap.size w1).alloc zl (.cells #[.int .i64 x,.int .i64 y,.int .i64 z] 48)
 have l5:w1.heap.size+1<=(w1.alloc (.cells #[.int .i64 x,.int .i64 y,.int .i64 z] 48)).heap.size:=by simp
 generalize l2:w1.alloc (.cells #[.int .i64 x,.int .i64 y,.int .i64 z] 48)=w2 at *
 have dk:=gi.trans (bo.mono (by omega))
 have aw:=av.below bo av.lt
 have bh:=ax.below bo ax.lt
 have b9:=cj.below keeps_tri (bo.mono (by omega))
 have cb:=cs.below keeps_pair (bo.mono (by omega))
 rcases jh with ⟨hs,d6⟩ | ⟨jg,rfl⟩
 case inr =>
  have a6:=fail_calls 11 w2
  have W:=bh
  have E:=dk
  have I:AlongC N T l 11:=.inl ⟨jg,rfl⟩
  obtain ⟨H,L,u,g8,ga,bz,c2,ht,i8,db,dg,af⟩:=zz12 I W E av ax aw bh cj cs b9 cb a6;clear I W E av ax aw bh cj cs b9 cb a6
  go_wp2_with fail
  refine af.out.mono ?_
  rintro e wf ⟨rfl,a5⟩
  have m:=L.out.below a5 L.out.lt
  have s:=u.out.trans (a5.mono u.out.size)
  have fy:=m.frozen 0
  have fz:=m.frozen 1
  have ap:=m.cell 0
  have aq:=m.cell 1
  simp only [List.getElem?_cons_zero,List.getElem?_cons_succ] at ap aq
  have R:=(m.set 0 (.int .i64 0)).set 1 (.slice none 0 0)
  have Q:=(s.setCell (p:=⟨w.heap.size+1,0,none⟩) (by simp) (.int .i64 0)).setCell (p:=⟨w.heap.size+1,1,none⟩) (by simp) (.slice none 0 0)
  obtain ⟨cy,b6,Y,X⟩:=zz4 m s R Q;clear m s R Q
  go_wp2_with fail
  exact ret_cttt rfl rfl Y.out Tryz.underlying24 rfl (by kernel_rfl) rfl ⟨⟨_,11,rfl,⟨H.out,fun _=>rfl,fun f=>absurd f (by decide)⟩,fun f=>absurd f (by decide)⟩,X.out⟩
 case inl =>
  obtain ⟨t,rfl⟩:∃ t,pv=.pointer (some t):=by
   obtain ⟨g,_,_,_,_,_,rfl,_⟩:=d6
   exact ⟨_,rfl⟩
  have gz:=fits_calls b9 (by omega) hs
  have d0:w2.cell? ⟨w.heap.size,0,none⟩=some (.int .i64 N):=aw.cell 0
  have d1:w2.cell? ⟨w.heap.size,1,none⟩=some (.slice A T.length am):=aw.cell 1
  obtain ⟨U,g8,ga,bz,c2,ht,i8,db,dg,i0,gf⟩:=zz11 hs av ax aw bh cj cs b9 cb gz d6;clear hs av ax aw bh cj cs b9 cb gz d6
  go_wp2_with fail
  refine i0.out.mono ?_
  rintro e S ⟨rfl,bc⟩
  have l6:=bc.size
  have c7:=dk.trans (bc.mono (by omega))
  have fo:=bz.out.below bc bz.out.lt
  have fp:=c2.out.below bc c2.out.lt
  have f6:=db.out.below keeps_tri (bc.mono (by omega))
  have fq:=dg.out.below keeps_pair (bc.mono (by omega))
  have gt:=((Below.refl S.heap.size S).alloc zl (.map #[] 0)).alloc (by simp) (.map #[] 0)
  have h5:=(Mp.new' (enc:=enc2) (ok:=ok2) (ev:=fun _:Unit=>.bool true) (n:=S.heap.size) (w:=S) rfl).alloc (.map #[] 0)
  have h6:=Mp.new' (enc:=enc1) (ok:=I64) (ev:=enc1) (n:=S.heap.size+1) (w:=S.alloc (.map #[] 0)) (by simp)
  have l7:((S.alloc (.map #[] 0)).alloc (.map #[] 0)).heap.size=S.heap.size+2:=by simp
  have jf:=@run_makeMap Tryz.prog
  have cf:=(gf.out.below (bo.mono zl) zl).below (bc.mono (Nat.le_trans zl (by omega:w1.heap.size<=w2.heap.size))) zl
  generalize jj:(S.alloc (.map #[] 0)).alloc (.map #[] 0)=w4 at *
  have cg:=cf.below (gt.mono (by omega)) zl
  have hd:=soup_calls cg
  obtain ⟨g9,c3,g2,gc,i9,ia,j8,es,ii⟩:=zz9 fo fp f6 fq h5 h6 cf cg hd;clear fo fp f6 fq h5 h6 cf cg hd
  go_wp2_with fail
  clear jj jf
  refine ii.out.mono ?_
  rintro e G ⟨⟨v',rfl,O⟩,ck⟩
  obtain ⟨V,q,rfl,js⟩:=own_form O
  have l8:=ck.size
  have fa:=(gt.mono (show w1.heap.size<=S.heap.size by omega)).trans (ck.mono (by omega))
  have gn:w1.heap.size<=G.heap.size:=by omega
  have gp:Ctr (G.alloc (.cells #[.pointer (some t),.map (some S.heap.size),.map (some (S.heap.size+1)),.int .i64 N,.slice V T.length q,.slice none 0 0] 106)) w1.heap.size G.heap.size S.heap.size (S.heap.size+1) (.pointer (some t)) N T (l.take 0) N (.slice V T.length q) (.slice none 0 0) T [] :=
   {
     blk:=Bk.new G _ [_,_,_,_,_,_]
     tab:=(es.out.below (ck.mono (by omega)) zl).below ((Below.refl G.heap.size G).alloc zl _ |>.mono gn) zl
     cuts:=⟨[],(i9.out.below ck (by omega)).alloc _,fun e=>by simp [Words.look]⟩
     ends:=⟨[],(ia.out.below ck (by omega)).alloc _,fun v=>by simp [Words.look,endsC]⟩
     sow:=(own_low (by omega) O).alloc _
     wow:=World.ownsRow_nil _ _ _ _
     le:=⟨gn,by omega,by omega⟩
     ne:=by omega }
  have jc:=fa.alloc (by omega) (.cells #[.pointer (some t),.map (some S.heap.size),.map (some (S.heap.size+1)),.int .i64 N,.slice V T.length q,.slice none 0 0] 106)
  generalize jk:G.alloc (.cells #[.pointer (some t),.map (some S.heap.size),.map (some (S.heap.size+1)),.int .i64 N,.slice V T.length q,.slice none 0 0] 106)=w6 at *
  obtain ⟨ak,k5,hn⟩:=zz3 O fa gp;clear O fa gp
  go_wp2_with fail
  clear jk
  go_loopw [45] (fun iv wq=>∃ k:Nat,k<=l.length/\iv=.int .i64 (k:Int)/\Ctr wq w1.heap.size G.heap.size S.heap.size (S.heap.size+1) (.pointer (some t)) N T (l.take k) N (.slice V T.length q) (.slice none 0 0) T []/\(∀ i (h':i<l.length),i<k->addC T (l.take i) l[i]=0)/\Below w1.heap.size S wq) (fun iv _=>l.length - (intOf iv).toNat)
  case atStart=>exact ⟨0,by omega,rfl,hn.out,fun _ _ h=>absurd h (by omega),jc⟩
  case round =>
   obtain ⟨k,hk,rfl,hC,ah,bp⟩:=hrel
   have lb:=bp.size
   have gj:=c7.trans (bp.mono (by omega))
   have dv:=c3.out.below bp (by omega)
   have bq:=gc.out.below keeps_pair (bp.mono (by omega))
   by_cases b0:k<l.length
   ·obtain ⟨b,o,rfl,hb,a1,a2⟩:=bq.pair_at b0
    have jd:b<wr.heap.size:=by omega
    have hr:=eo.out _ (List.getElem_mem b0)
    have hf:=List.take_succ_eq_append_getElem b0
    have bb:=fun F (hz:Below wr.heap.size wr F)=>add_calls (hC.below hz) U.out l[k] hr (by rw [List.length_take];omega)
    have c9:addC T (l.take k) l[k]≠0->AlongC N T l (addC T (l.take k) l[k]):=fun f=>.inr (.inl ⟨U.out,k,b0,ah,rfl,f⟩)
    have cc:addC T (l.take k) l[k]=0->∀ i (h':i<l.length),i<k+1->addC T (l.take i) l[i]=0:=fun f i hi h8=>by
     by_cases h7:i=k
     ·subst h7;exact f
     ·exact ah i hi (by omega)
    obtain ⟨ac,jb⟩:∃ ac,addC T (l.take k) l[k]=ac:=⟨_,rfl⟩
    unfold AddEnd at bb
    rw [jb] at c9 cc bb
    generalize l[k]=ed at *
    obtain ⟨x1,x2⟩:=ed
    simp only [] at a1 a2
    have az:=(Below.refl wr.heap.size wr).alloc zl (.cells #[.int .i64 x1,.int .i64 x2] 39)
    have c5:=bb _ az
    change Calls _ _ #[.pointer (some ⟨G.heap.size,0,none⟩),.agg #[.int .i64 x1,.int .i64 x2]] _ _ at c5
    have a7:=Bk.new wr 39 [.int .i64 x1,.int .i64 x2]
    have g0:=a7.cell 0
    have g1:=a7.cell 1
    simp only [List.getElem?_cons_zero,List.getElem?_cons_succ] at g0 g1
    obtain ⟨gm,gd,ej,el,bm,ij,jr,ec,en,e6,eh⟩:=zz11 hC ah dv bq hr hf bb c9 cc c5 a7;clear hC ah dv bq hr hf bb c9 cc c5 a7
    go_wp2_with fail
    refine e6.out.mono ?_
    rintro e w7 ⟨rfl,bd,Z⟩
    have J:=(bp.alloc (by omega) (.cells #[.int .i64 x1,.int .i64 x2] 39)).trans bd
    have jm:=J.size
    have E:=c7.trans (J.mono (by omega))
    have W:=c3.out.below J (by omega)
    by_cases h0:ac=0
    ·subst h0
     rw [if_pos rfl,<- ij.out] at Z
     have br:=en.out rfl
     obtain ⟨bs,em,u,L,bu,g6⟩:=zz6 Z br E W J bd;clear Z br E W J bd
     go_wp2_with fail
     exact ⟨⟨k+1,by omega,by simp,bs.out,em.out,bu.out⟩,by simp [intOf];omega⟩
    ·have a6:=fail_calls ac w7
     have I:=ec.out h0
     have kq:(ac == 0)=false:=by simpa using h0
     obtain ⟨bs,u,L,bu,g6,af,H⟩:=zz7 Z E W J bd a6 I;clear Z E W J bd a6 I
     go_wp2_with fail
     refine af.out.mono ?_
     rintro e wf ⟨rfl,a5⟩
     have m:=L.out.below a5 L.out.lt
     have s:=u.out.trans (a5.mono u.out.size)
     have fy:=m.frozen 0
     have fz:=m.frozen 1
     have ap:=m.cell 0
     have aq:=m.cell 1
     simp only [List.getElem?_cons_zero,List.getElem?_cons_succ] at ap aq
     have R:=(m.set 0 (.int .i64 0)).set 1 (.slice none 0 0)
     have Q:=(s.setCell (p:=⟨w.heap.size+1,0,none⟩) (by simp) (.int .i64 0)).setCell (p:=⟨w.heap.size+1,1,none⟩) (by simp) (.slice none 0 0)
     obtain ⟨cy,b6,Y,X⟩:=zz4 m s R Q;clear m s R Q
     go_wp2_with fail
     exact ret_cttt rfl rfl Y.out Tryz.underlying24 rfl (by kernel_rfl) rfl ⟨⟨_,ac,rfl,⟨H.out,fun _=>rfl,fun f=>absurd f h0⟩,fun f=>absurd f h0⟩,X.out⟩
   ·obtain rfl:k=l.length:=by omega
    rw [List.take_length] at hC
    have fh:Mesh.Clean T l:=fun i hi=>ah i hi hi
    have h1:=clean_good fh
    have fg:=contains_idle hC U.out bq (by omega) eo.out (by omega)
    obtain ⟨an,f8⟩:∃ an,l.any (idleE N T l)=an:=⟨_,rfl⟩
    rw [f8] at fg
    obtain ⟨gm,gd,ej,el,cx,ee,hv,cu⟩:=zz8 hC ah dv bq fh h1 fg f8;clear hC ah dv bq fh h1 fg f8
    go_wp2_with fail
    refine hv.out.mono ?_
    rintro e w7 ⟨rfl,J⟩
    have jm:=J.size
    have a3:=bp.trans (J.mono (by omega))
    have c8:=gj.trans (J.mono (by omega))
    have cp:=ej.out.below J (by omega)
    have Z:=gm.out.below J
    have dw:=el.out.below keeps_pair (J.mono (by omega))
    cases an with
    | true =>
     have a6:=fail_calls 14 w7
     have E:=c8
     have W:=cp
     have I:AlongC N T l 14:=.inr (.inr ⟨U.out,cx.out,.inl ⟨cu.out,rfl⟩⟩)
     obtain ⟨bs,u,L,bu,ai,af,H,i4,i6⟩:=zz9 Z E W J a3 a6 I cp dw;clear Z E W J a3 a6 I cp dw
     go_wp2_with fail
     refine af.out.mono ?_
     rintro e wf ⟨rfl,a5⟩
     have m:=L.out.below a5 L.out.lt
     have s:=u.out.trans (a5.mono u.out.size)
     have fy:=m.frozen 0
     have fz:=m.frozen 1
     have ap:=m.cell 0
     have aq:=m.cell 1
     simp only [List.getElem?_cons_zero,List.getElem?_cons_succ] at ap aq
     have R:=(m.set 0 (.int .i64 0)).set 1 (.slice none 0 0)
     have Q:=(s.setCell (p:=⟨w.heap.size+1,0,none⟩) (by simp) (.int .i64 0)).setCell (p:=⟨w.heap.size+1,1,none⟩) (by simp) (.slice none 0 0)
     obtain ⟨cy,b6,Y,X⟩:=zz4 m s R Q;clear m s R Q
     go_wp2_with fail
     exact ret_cttt rfl rfl Y.out Tryz.underlying24 rfl (by kernel_rfl) rfl ⟨⟨_,14,rfl,⟨H.out,fun _=>rfl,fun f=>absurd f (by decide)⟩,fun f=>absurd f (by decide)⟩,X.out⟩
    | false =>
     have hc:=part_calls Z U.out ee.out hll
     obtain ⟨bs,bu,ai,i4,i6,ih,j5⟩:=zz7 Z J a3 cp dw hc c8;clear Z J a3 cp dw hc c8
     go_wp2_with fail
     refine ih.out.mono ?_
     rintro e w8 ⟨rfl,⟨ld,b7⟩,ar⟩
     have l9:=ar.size
     have a4:=ai.out.trans ar
     have dl:=c7.trans (a4.mono (by omega))
     have cq:=c3.out.below a4 (by omega)
     have ay:=g9.out.below a4 (by omega)
     have ba:=g2.out.below keeps_tri (a4.mono (by omega))
     have e3:w8.cell? ⟨G.heap.size,3,none⟩=some (.int .i64 ((newO N T (l.map nm)).length:Nat)):=b7.blk.cell 3
     have ja:(newO N T (l.map nm)).length<=40000:=by
      rw [newO_eq,outO_len]
      have:=exH_few (T:=T) (C:=l.map nm) N.toNat
      have:=U.out.tmax
      have:=U.out.nmax
      omega
     have ko:=b7.blk.lt
     obtain ⟨M,hM⟩:∃ M,(newO N T (l.map nm)).length=M:=⟨_,rfl⟩
     rw [hM] at e3 ja b7
     by_cases jx:4096<M
     ·have a6:=fail_calls 7 w8
      have E:=dl
      have W:=cq
      have I:AlongC N T l 7:=.inr (.inr ⟨U.out,cx.out,.inr (.inl ⟨cu.out,by omega,rfl⟩)⟩)
      obtain ⟨e4,u,L,g4,g5,af,H,ef,gb,g3,da⟩:=zz11 b7 E W ar a4 a6 I cq ay ba hM;clear b7 E W ar a4 a6 I cq ay ba hM
      go_wp2_with fail
      refine af.out.mono ?_
      rintro e wf ⟨rfl,a5⟩
      have m:=L.out.below a5 L.out.lt
      have s:=u.out.trans (a5.mono u.out.size)
      have fy:=m.frozen 0
      have fz:=m.frozen 1
      have ap:=m.cell 0
      have aq:=m.cell 1
      simp only [List.getElem?_cons_zero,List.getElem?_cons_succ] at ap aq
      have R:=(m.set 0 (.int .i64 0)).set 1 (.slice none 0 0)
      have Q:=(s.setCell (p:=⟨w.heap.size+1,0,none⟩) (by simp) (.int .i64 0)).setCell (p:=⟨w.heap.size+1,1,none⟩) (by simp) (.slice none 0 0)
      obtain ⟨cy,b6,Y,X⟩:=zz4 m s R Q;clear m s R Q
      go_wp2_with fail
      exact ret_cttt rfl rfl Y.out Tryz.underlying24 rfl (by kernel_rfl) rfl ⟨⟨_,7,rfl,⟨H.out,fun _=>rfl,fun f=>absurd f (by decide)⟩,fun f=>absurd f (by decide)⟩,X.out⟩
     ·have I:AlongC N T l 0:=.inr (.inr ⟨U.out,cx.out,.inr (.inr ⟨cu.out,by omega,rfl⟩)⟩)
      have gy:=edges_calls ba (by omega) U.out
      have g0:w8.cell? ⟨w.heap.size,0,none⟩=some (.int .i64 N):=ay.cell 0
      have g1:w8.cell? ⟨w.heap.size,1,none⟩=some (.slice A T.length am):=ay.cell 1
      obtain ⟨e4,g4,g5,H,ef,gb,g3,da,hw⟩:=zz9 b7 ar a4 I cq ay ba hM gy;clear b7 ar a4 I cq ay ba hM gy
      go_wp2_with fail
      refine hw.out.mono ?_
      rintro e w9 ⟨⟨r,K,rfl,ey,b5⟩,c6⟩
      have la:=c6.size
      have kz:=edges_few ey
      have gs:=U.out.tmax
      obtain ⟨A9,io,rfl,jt⟩:=own_form b5
      have fu:Sl 2 RPair w9 w9.heap.size (.slice A9 K.length io) K:=Sl.of_own b5 fun i a hi=>flat2_at K i a hi
      obtain ⟨ae,j7,ge⟩:=zz3 ey b5 fu;clear ey b5 fu
      go_wp2_with fail
      go_loopw [15,89] (fun pv iv wq=>∃ k:Nat,k<=K.length/\iv=.int .i64 (k:Int)/\wq.ownsRow w9.heap.size 41 4 pv (pairsL N T l (K.take k)).length (quad (pairsL N T l (K.take k)))/\Below w9.heap.size w9 wq) (fun _ iv _=>K.length - (intOf iv).toNat)
      case atStart=>exact ⟨0,by omega,rfl,World.ownsRow_nil _ _ _ _,Below.refl _ _⟩
      case round =>
       obtain ⟨k,hk,rfl,O,ag⟩:=hrel
       obtain ⟨F,jl⟩:∃ F,F=wr:=⟨_,rfl⟩
       subst jl
       have lc:=ag.size
       have a0:=(e4.out.below c6).below (ag.mono (by omega))
       by_cases b0:k<K.length
       ·obtain ⟨b,o,rfl,hb,a1,a2⟩:=(ge.out.below keeps_pair ag).pair_at b0
        have jd:b<F.heap.size:=by omega
        have he:=pairs_step (N:=N) (T:=T) (l:=l) b0
        obtain ⟨ce,gx,je⟩:=(ae.out.2 _).1 (List.getElem_mem b0)
        have hr:ok2 K[k]:=by
         rw [je]
         have q1:=U.out.rng _ gx
         have q2:=U.out.rng _ (nx_lt gx)
         have:=U.out.nmax
         unfold ok2 I64 ek
         simp only []
         omega
        have fm:=fun (f:K[k]∈l.map nm)=>good_cut ee.out (e:=K[k]) f
        obtain ⟨SC,di,f0⟩:=a0.cuts
        have f1:=f0 K[k]
        generalize K[k]=ed at *
        obtain ⟨x1,x2⟩:=ed
        simp only [] at a1 a2 fm
        obtain ⟨fx,fv⟩:∃ fx,(Words.look SC (x1,x2)).isSome=fx:=⟨_,rfl⟩
        rw [fv] at f1
        have az:=(Below.refl F.heap.size F).alloc zl (.cells #[.int .i64 x1,.int .i64 x2] 39)
        have a7:=Bk.new F 39 [.int .i64 x1,.int .i64 x2]
        obtain ⟨wA,ct⟩:∃ wA,wA=F.alloc (.cells #[.int .i64 x1,.int .i64 x2] 39):=⟨_,rfl⟩
        rw [<- ct] at az
        have a7:Bk wA F.heap.size 39 [.int .i64 x1,.int .i64 x2]:=by rw [ct];exact a7
        have jn:wA.heap.size=F.heap.size+1:=by rw [ct];simp
        have dh:=a0.below az
        have gr:=di.below az di.lt
        have dx:=own_below O az zl
        have g0:=a7.cell 0
        have g1:=a7.cell 1
        simp only [List.getElem?_cons_zero,List.getElem?_cons_succ] at g0 g1
        have m1:wA.cell? ⟨G.heap.size,1,none⟩=some (.map (some S.heap.size)):=dh.blk.cell 1
        have l0:=dh.blk.lt
        obtain ⟨bt,ak,er,bm,i1,k3,k4,e5,e7,eh,ho,hp⟩:=zz12 a0 O he hr fm di f0 f1 az a7 dh gr;have ci:=zz dx;clear a0 O he hr fm di f0 f1 az a7 dh gr dx
        go_wp2_with fail
        rw [<- ct]
        clear ct
        refine Canon.wp_region_tree [4] (fun b'=>b'=F.heap.size) (.seg [0,4] (.alt 1 (.seg [2,3] (.alt 5 .fin .no)) .no)) mixed (by kernel_rfl) ?_
        refine Canon.tr_seg ?_
        simp only [zmC,zmN,zgZ,zgS]
        go_wp2_with fail
        refine Canon.tr_to (Canon.tr_one ?_)
        simp only [zgZ,zgS]
        go_wp2_with fail
        refine Canon.tr_end (fun _ _=>rfl) (Canon.tr_seg ?_)
        simp only [zmC,zmN,zgZ,zgS]
        go_wp2_with fail
        refine Canon.tr_to (Canon.tr_one ?_)
        simp only [zgZ,zgS]
        refine wpList_look _ rfl _ _ 103 rfl 39 4 keyE Tryz.underlying103 zero_bool S.heap.size SC rfl hp.out.drew (x1,x2) rfl bm.out ?_
        rw [look_yes,fv]
        go_wp2_with fail
        refine Canon.tr_end (fun _ _=>rfl) (Canon.tr_fin (by rfl) (zF ⟨.inl ⟨_,rfl,rfl,by rw [World.cell?_drew,g0];rfl⟩,fun _ h=>by cases h⟩) ?_)
        cases fx with
        | false =>
         have br:¬ (x1,x2)∈l.map nm:=fun f=>by have:=e5.out.2 f;cases this
         have a8:=er.out
         rw [if_neg br] at a8
         have au:=ag.trans (e7.out.mono (by omega))
         obtain ⟨c4,em,b1⟩:=zz3 a8 br au;clear a8 br au
         go_wp2_with fail
         exact ⟨⟨k+1,by omega,by simp,by rw [c4.out];exact own_drew ci.out,b1.out.drew⟩,by simp [intOf];omega⟩
        | true =>
         have ds:(x1,x2)∈l.map nm:=e5.out.1 rfl
         have a8:=er.out
         rw [if_pos ds] at a8
         obtain ⟨⟨fc,cn⟩,fd,co⟩:=i1.out ds
         have ir:=(facing_some cn).1
         have it:=(facing_some co).1
         have ft:pairE T (newX N T (l.map nm)) (x1,x2)=(eg (newX N T (l.map nm)) fc,eg (newX N T (l.map nm)) fd):=by unfold pairE;rw [cn,co];rfl
         rw [ft] at a8
         have dj:(newX N T (l.map nm)).length=T.length:=relab_len _ _
         obtain ⟨D,hg⟩:∃ D,D=wA.drew:=⟨_,rfl⟩
         have b8:=ho.out.below (Below.refl wA.heap.size wA).drew
         have cr:=eh.out.drew
         have cd:=own_drew ci.out
         have au:=(ag.trans (e7.out.mono (by omega))).drew
         have jo:wA.drew.heap.size=F.heap.size+1:=jn
         rw [<- hg] at b8 cr cd au jo ⊢
         clear hg
         have cm:=fun wx (hx:Below D.heap.size D wx)=>facing_calls (b8.below hx).tab x1 x2 bm.out.1 bm.out.2
         have dr:=fun wx (hx:Below D.heap.size D wx)=>facing_calls (b8.below hx).tab x2 x1 bm.out.2 bm.out.1
         have fr:=fun wx (hx:Below D.heap.size D wx)=>now_calls (b8.below hx) (c:=fc) (by rw [dj];exact ir) (by rw [dj];exact gs)
         have fs:=fun wx (hx:Below D.heap.size D wx)=>now_calls (b8.below hx) (c:=fd) (by rw [dj];exact it) (by rw [dj];exact gs)
         rw [cn] at cm
         rw [co] at dr
         generalize eg (newX N T (l.map nm)) fc=E1 at *
         generalize eg (newX N T (l.map nm)) fd=E2 at *
         obtain ⟨p1,p2⟩:=E1
         obtain ⟨q1,q2⟩:=E2
         change ∀ wx,Below D.heap.size D wx->Calls _ _ #[_,.int .i64 (fc:Int)] wx (fun r w'=>r=.returned (.agg #[.int .i64 p1,.int .i64 p2])/\_) at fr
         change ∀ wx,Below D.heap.size D wx->Calls _ _ #[_,.int .i64 (fd:Int)] wx (fun r w'=>r=.returned (.agg #[.int .i64 q1,.int .i64 q2])/\_) at fs
         change ∀ wx,Below D.heap.size D wx->Calls _ _ _ wx (fun r w'=>r=.returned (.int .i64 (fc:Int))/\_) at cm
         change ∀ wx,Below D.heap.size D wx->Calls _ _ _ wx (fun r w'=>r=.returned (.int .i64 (fd:Int))/\_) at dr
         have y0:D.cell? ⟨F.heap.size,0,none⟩=some (.int .i64 x1):=cr.cell 0
         have y1:D.cell? ⟨F.heap.size,1,none⟩=some (.int .i64 x2):=cr.cell 1
         have ff:=cm D.drew (Below.refl D.heap.size D).drew
         obtain ⟨c4,kb,k1,i5,ep,b1,k7,hy,ib,ic,kd,k8⟩:=zz12 a8 ds b8 cr cd au cm dr fr fs ft cn;obtain ⟨k9,g7⟩:=zz2 co ff;clear a8 ds b8 cr cd au cm dr fr fs ft cn co ff
         go_wp2_with fail
         refine Canon.wp_region_tree [9,11] (fun b'=>b'=F.heap.size) (.seg [0,1,2,3,6,7,8,9,10,11,12] (.alt 4 (.alt 5 (.alt 13 (.alt 14 (.seg [15] (.alt 16 (.alt 17 (.seg [18] .fin) .no) .no)) .no) .no) .no) .no)) mixed (by kernel_rfl) ?_
         refine Canon.tr_seg ?_
         simp only [zmC,zmN,zgZ,zgS]
         go_wp2_with fail
         refine Canon.tr_to (Canon.tr_one ?_)
         simp only [zgZ,zgS]
         go_wp2_with fail
         refine g7.out.mono ?_
         rintro e jp ⟨rfl,a3⟩
         have d3:=(Below.refl D.heap.size D).drew.trans a3
         have dm:=ib.out jp d3
         obtain ⟨ai,bv,e8⟩:=zz3 a3 d3 dm;clear a3 d3 dm
         go_wp2_with fail
         refine Canon.tr_end (fun b' f=>by subst f;exact ai.out.block F.heap.size (by show F.heap.size<D.heap.size;omega)) (Canon.tr_one ?_)
         simp only [zgZ,zgS]
         go_wp2_with fail
         refine e8.out.mono ?_
         rintro e hh ⟨rfl,b2⟩
         have d4:=bv.out.trans (b2.mono bv.out.size)
         have dp:=hy.out hh d4
         have fi:Below D.heap.size D.drew hh:=ai.out.trans (b2.mono bv.out.size)
         obtain ⟨j2,bw,ea,dd⟩:=zz4 b2 d4 dp fi;clear b2 d4 dp fi
         go_wp2_with fail
         refine Canon.tr_end (fun b' f=>by subst f;exact dd.out.block F.heap.size (by omega)) (Canon.tr_one ?_)
         simp only [zgZ,zgS]
         go_wp2_with fail
         refine ea.out.mono ?_
         rintro e hm ⟨rfl,b3⟩
         have d5:=bw.out.trans (b3.mono bw.out.size)
         have dq:=ic.out hm d5
         have fj:Below D.heap.size D.drew hm:=dd.out.trans (b3.mono bw.out.size)
         obtain ⟨j3,bx,eb,de⟩:=zz4 b3 d5 dq fj;clear b3 d5 dq fj
         go_wp2_with fail
         refine Canon.tr_end (fun b' f=>by subst f;exact de.out.block F.heap.size (by omega)) (Canon.tr_one ?_)
         simp only [zgZ,zgS]
         go_wp2_with fail
         refine eb.out.mono ?_
         rintro e fw ⟨rfl,b4⟩
         have fe:=bx.out.trans (b4.mono bx.out.size)
         have fk:Below D.heap.size D.drew fw:=de.out.trans (b4.mono bx.out.size)
         obtain ⟨j4,aj,df⟩:=zz3 b4 fe fk;clear b4 fe fk
         go_wp2_with fail
         refine Canon.tr_end (fun b' f=>by subst f;exact df.out.block F.heap.size (by omega)) (Canon.tr_seg ?_)
         simp only [zmC,zmN,zgZ,zgS]
         go_wp2_with fail
         refine Canon.tr_to (Canon.tr_one ?_)
         simp only [zgZ,zgS]
         go_wp2_with fail
         have f7:Below D.heap.size D.drew (fw.alloc (.cells #[.int .i64 p1,.int .i64 p2,.int .i64 q1,.int .i64 q2] 41)):=df.out.alloc aj.out.size _
         have dc:=zz f7;clear f7
         refine Canon.tr_end (fun b' f=>by subst f;exact dc.out.block F.heap.size (by omega)) (Canon.tr_one ?_)
         simp only [zgZ,zgS]
         have bk:=own_below ep.out aj.out zl
         have ca:=(i5.out.below aj.out (by omega)).alloc (.cells #[.int .i64 p1,.int .i64 p2,.int .i64 q1,.int .i64 q2] 41)
         have ad:=bk.alloc (.cells #[.int .i64 p1,.int .i64 p2,.int .i64 q1,.int .i64 q2] 41)
         have gq:(pairsL N T l (K.take k)).length<=100000:=by
          unfold pairsL
          rw [List.length_map]
          have:=List.length_filter_le (fun e=>decide (e∈l.map nm)) (K.take k)
          rw [List.length_take] at this
          omega
         have ks:=aj.out.size
         have kt:=b1.out.size
         refine append_block _ rfl (.tmp 99) (.tmp 115) 29 rfl w9.heap.size infoPr Tryz.underlying29 rfl (by decide) _ _ _ rfl ad fw.heap.size [.int .i64 p1,.int .i64 p2,.int .i64 q1,.int .i64 q2] rfl (Bk.new _ _ _) rfl (by simp [Value.oneCell']) (by omega) (by omega) (by simp;omega) ?_
         intro v' wE ao fb fl _
         obtain ⟨gv,cv,rfl⟩:=ownsRow_succ ao
         have du:wE.heap[F.heap.size]? = D.drew.heap[F.heap.size]?:=(fl.block F.heap.size (by simp;omega) (fun e9=>by
          rcases own_bk ad ca (by decide) with f | f
          ·exact absurd (e9.trans f) (by simp)
          ·exact f e9.symm)).trans (dc.out.block F.heap.size (by omega))
         have gu:=((b1.out.trans (aj.out.mono (by omega))).alloc (by omega) (.cells #[.int .i64 p1,.int .i64 p2,.int .i64 q1,.int .i64 q2] 41)).trans fb
         have dy:wE.ownsRow w9.heap.size 41 4 (.slice (some ⟨gv,0,none⟩) ((pairsL N T l (K.take k)).length+1) cv) (pairsL N T l (K.take (k+1))).length (quad (pairsL N T l (K.take (k+1)))):=by
          rw [c4.out,List.length_append,quad_snoc]
          exact ao
         obtain ⟨j0,j6,ig,k2,j1,k6,ka,ei,hu,eq⟩:=zz10 bk ca ad gq ao fb fl du gu dy;clear bk ca ad gq ao fb fl du gu dy
         go_wp2_with fail
         refine Canon.tr_end (fun b' f=>by subst f;exact ei.out) (Canon.tr_seg ?_)
         simp only [zmC,zmN,zgZ,zgS]
         go_wp2_with fail
         refine Canon.tr_to (Canon.tr_fin (by rfl) (zF ⟨.inl ⟨_,rfl,rfl,by rw [World.cell?_drew,y1];rfl⟩,zF ⟨.inl ⟨_,rfl,rfl,by rw [World.cell?_drew,y0];rfl⟩,fun _ h=>by cases h⟩⟩) ?_)
         go_wp2_with fail
         exact ⟨⟨k+1,by omega,by simp,eq.out,hu.out⟩,by simp [intOf];omega⟩
       ·obtain rfl:k=K.length:=by omega
        rw [List.take_length] at O
        have bj:=(ef.out.below c6 (by omega)).below (ag.mono (by omega)) (by omega)
        have gw:=dl.trans ((c6.mono (by omega)).trans (ag.mono (by omega)))
        obtain ⟨AW,kf,ix,jv⟩:=own_form a0.wow
        subst ix
        obtain ⟨AP,ke,iu,ju⟩:=own_form O
        subst iu
        have f3:F.cell? ⟨G.heap.size,3,none⟩=some (.int .i64 (M:Nat)):=a0.blk.cell 3
        have f4:=a0.blk.cell 4
        have f5:=a0.blk.cell 5
        have z0:=bj.frozen 0
        have z1:=bj.frozen 1
        have ap:=bj.cell 0
        have aq:=bj.cell 1
        simp only [List.getElem?_cons_zero,List.getElem?_cons_succ] at ap aq
        have l1:=a0.blk.lt
        simp only [List.getElem?_cons_succ,List.getElem?_cons_zero] at f4 f5
        have h3:=(bj.set 0 (.int .i64 (M:Nat))).set 1 (.slice V T.length q)
        obtain ⟨cz,cw,bt,ak,kc⟩:=zz5 bj gw a0 O h3;clear bj gw a0 O h3
        go_wp2_with fail
        refine Canon.wp_region_tree [3,7] (fun b'=>b'=G.heap.size) (.seg [0,4,8] (.alt 1 (.seg [2,3] (.alt 5 (.seg [6,7] (.alt 9 (.seg [10,11,12] .fin) .no)) (.alt 9 (.alt 5 (.seg [6,7,10,11,12] .fin) .no) .no))) (.alt 5 (.seg [6,7] (.alt 1 (.seg [2,3] (.alt 9 (.seg [10,11,12] .fin) .no)) .no)) .no))) mixed (by kernel_rfl) ?_
        have kr:G.heap.size≠w.heap.size+1:=by omega
        refine Canon.tr_seg ?_
        simp only [zmC,zmN,zgZ,zgS]
        go_wp2_with fail
        refine Canon.tr_to (Canon.tr_alt ?_ (Canon.tr_one ?_))
        ·simp only [zgZ,zgS]
         go_wp2_with fail
         refine Canon.tr_end (fun _ _=>rfl) (Canon.tr_seg ?_)
         simp only [zmC,zmN,zgZ,zgS]
         go_wp2_with fail
         refine Canon.tr_to (Canon.tr_alt ?_ (Canon.tr_one ?_))
         ·simp only [zgZ,zgS]
          go_wp2_with fail
          refine Canon.tr_end (fun _ _=>rfl) (Canon.tr_seg ?_)
          simp only [zmC,zmN,zgZ,zgS]
          go_wp2_with fail
          refine Canon.tr_to (Canon.tr_one ?_)
          simp only [zgZ,zgS]
          go_wp2_with fail
          refine Canon.tr_end (fun b' f=>by subst f;exact ((Below.heap_setCell _ ⟨w.heap.size+1,1,none⟩ _ G.heap.size (by show G.heap.size≠w.heap.size+1;omega)).trans (Below.heap_setCell _ ⟨w.heap.size+1,0,none⟩ _ G.heap.size (by show G.heap.size≠w.heap.size+1;omega)))) (Canon.tr_seg ?_)
          simp only [zmC,zmN,zgZ,zgS]
          go_wp2_with fail
          refine Canon.tr_to (Canon.tr_fin (by rfl) (zF ⟨.inl ⟨_,rfl,rfl,by rw [World.cell?_drew,f3];rfl⟩,zF ⟨.inl ⟨_,rfl,rfl,by rw [World.cell?_drew,f5];rfl⟩,fun _ h=>by cases h⟩⟩) ?_)
          go_wp2_with fail
          have bi:=((cz.out.set 0 (.int .i64 (M:Nat))).set 1 (.slice V T.length q)).drew
          have be:=((cw.out.setCell (p:=⟨w.heap.size+1,0,none⟩) (by simp) (.int .i64 (M:Nat))).setCell (p:=⟨w.heap.size+1,1,none⟩) (by simp) (.slice V T.length q)).drew
          have bg:∀ j,j≠w.heap.size+1->((F.setCell ⟨w.heap.size+1,0,none⟩ (.int .i64 (M:Nat))).setCell ⟨w.heap.size+1,1,none⟩ (.slice V T.length q)).drew.heap[j]? = F.heap[j]?:=fun j hj=>(Below.heap_setCell _ ⟨w.heap.size+1,1,none⟩ _ j hj).trans (Below.heap_setCell _ ⟨w.heap.size+1,0,none⟩ _ j hj)
          have d:=along_own bt.out ak.out (by omega) (by omega) bg
          have P:=along_sl d.1 d.2.1 d.2.2
          refine ret_cttt rfl rfl bi Tryz.underlying24 rfl (by kernel_rfl) rfl ⟨⟨_,0,rfl,⟨H.out,fun f=>absurd rfl f,fun _=>⟨.slice V T.length q,_,_,K,?_,P.1,P.2.1,ae.out,P.2.2⟩⟩,fun _ wz9 f=>⟨.slice V T.length q,_,_,K,?_,(along_sl (own_moved d.1 (by omega) f) (own_moved d.2.1 (by omega) f) (own_moved d.2.2 (by omega) f)).1,(along_sl (own_moved d.1 (by omega) f) (own_moved d.2.1 (by omega) f) (own_moved d.2.2 (by omega) f)).2.1,ae.out,(along_sl (own_moved d.1 (by omega) f) (own_moved d.2.1 (by omega) f) (own_moved d.2.2 (by omega) f)).2.2⟩⟩,be⟩
          all_goals (rw [da.out];rfl)
         ·simp only [zgZ,zgS]
          go_wp2_with fail
          refine Canon.tr_end (fun b' f=>by subst f;exact ((Below.heap_setCell _ ⟨w.heap.size+1,1,none⟩ _ G.heap.size (by show G.heap.size≠w.heap.size+1;omega)).trans (Below.heap_setCell _ ⟨w.heap.size+1,0,none⟩ _ G.heap.size (by show G.heap.size≠w.heap.size+1;omega)))) (Canon.tr_one ?_)
          simp only [zgZ,zgS]
          go_wp2_with fail
          refine Canon.tr_end (fun b' f=>by subst f;exact ((Below.heap_setCell _ ⟨w.heap.size+1,1,none⟩ _ G.heap.size (by show G.heap.size≠w.heap.size+1;omega)).trans (Below.heap_setCell _ ⟨w.heap.size+1,0,none⟩ _ G.heap.size (by show G.heap.size≠w.heap.size+1;omega)))) (Canon.tr_seg ?_)
          simp only [zmC,zmN,zgZ,zgS]
          go_wp2_with fail
          refine Canon.tr_to (Canon.tr_fin (by rfl) (zF ⟨.inl ⟨_,rfl,rfl,by rw [World.cell?_drew,f3];rfl⟩,zF ⟨.inl ⟨_,rfl,rfl,by rw [World.cell?_drew,f5];rfl⟩,fun _ h=>by cases h⟩⟩) ?_)
          go_wp2_with fail
          have bi:=((cz.out.set 0 (.int .i64 (M:Nat))).set 1 (.slice V T.length q)).drew
          have be:=((cw.out.setCell (p:=⟨w.heap.size+1,0,none⟩) (by simp) (.int .i64 (M:Nat))).setCell (p:=⟨w.heap.size+1,1,none⟩) (by simp) (.slice V T.length q)).drew
          have bg:∀ j,j≠w.heap.size+1->((F.setCell ⟨w.heap.size+1,0,none⟩ (.int .i64 (M:Nat))).setCell ⟨w.heap.size+1,1,none⟩ (.slice V T.length q)).drew.heap[j]? = F.heap[j]?:=fun j hj=>(Below.heap_setCell _ ⟨w.heap.size+1,1,none⟩ _ j hj).trans (Below.heap_setCell _ ⟨w.heap.size+1,0,none⟩ _ j hj)
          have d:=along_own bt.out ak.out (by omega) (by omega) bg
          have P:=along_sl d.1 d.2.1 d.2.2
          refine ret_cttt rfl rfl bi Tryz.underlying24 rfl (by kernel_rfl) rfl ⟨⟨_,0,rfl,⟨H.out,fun f=>absurd rfl f,fun _=>⟨.slice V T.length q,_,_,K,?_,P.1,P.2.1,ae.out,P.2.2⟩⟩,fun _ wz9 f=>⟨.slice V T.length q,_,_,K,?_,(along_sl (own_moved d.1 (by omega) f) (own_moved d.2.1 (by omega) f) (own_moved d.2.2 (by omega) f)).1,(along_sl (own_moved d.1 (by omega) f) (own_moved d.2.1 (by omega) f) (own_moved d.2.2 (by omega) f)).2.1,ae.out,(along_sl (own_moved d.1 (by omega) f) (own_moved d.2.1 (by omega) f) (own_moved d.2.2 (by omega) f)).2.2⟩⟩,be⟩
          all_goals (rw [da.out];rfl)
        ·simp only [zgZ,zgS]
         go_wp2_with fail
         refine Canon.tr_end (fun _ _=>rfl) (Canon.tr_seg ?_)
         simp only [zmC,zmN,zgZ,zgS]
         go_wp2_with fail
         refine Canon.tr_to (Canon.tr_one ?_)
         simp only [zgZ,zgS]
         go_wp2_with fail
         refine Canon.tr_end (fun _ _=>rfl) (Canon.tr_seg ?_)
         simp only [zmC,zmN,zgZ,zgS]
         go_wp2_with fail
         refine Canon.tr_to (Canon.tr_one ?_)
         simp only [zgZ,zgS]
         go_wp2_with fail
         refine Canon.tr_end (fun b' f=>by subst f;exact ((Below.heap_setCell _ ⟨w.heap.size+1,1,none⟩ _ G.heap.size (by show G.heap.size≠w.heap.size+1;omega)).trans (Below.heap_setCell _ ⟨w.heap.size+1,0,none⟩ _ G.heap.size (by show G.heap.size≠w.heap.size+1;omega)))) (Canon.tr_seg ?_)
         simp only [zmC,zmN,zgZ,zgS]
         go_wp2_with fail
         refine Canon.tr_to (Canon.tr_fin (by rfl) (zF ⟨.inl ⟨_,rfl,rfl,by rw [World.cell?_drew,f3];rfl⟩,zF ⟨.inl ⟨_,rfl,rfl,by rw [World.cell?_drew,f5];rfl⟩,fun _ h=>by cases h⟩⟩) ?_)
         go_wp2_with fail
         have bi:=((cz.out.set 0 (.int .i64 (M:Nat))).set 1 (.slice V T.length q)).drew
         have be:=((cw.out.setCell (p:=⟨w.heap.size+1,0,none⟩) (by simp) (.int .i64 (M:Nat))).setCell (p:=⟨w.heap.size+1,1,none⟩) (by simp) (.slice V T.length q)).drew
         have bg:∀ j,j≠w.heap.size+1->((F.setCell ⟨w.heap.size+1,0,none⟩ (.int .i64 (M:Nat))).setCell ⟨w.heap.size+1,1,none⟩ (.slice V T.length q)).drew.heap[j]? = F.heap[j]?:=fun j hj=>(Below.heap_setCell _ ⟨w.heap.size+1,1,none⟩ _ j hj).trans (Below.heap_setCell _ ⟨w.heap.size+1,0,none⟩ _ j hj)
         have d:=along_own bt.out ak.out (by omega) (by omega) bg
         have P:=along_sl d.1 d.2.1 d.2.2
         refine ret_cttt rfl rfl bi Tryz.underlying24 rfl (by kernel_rfl) rfl ⟨⟨_,0,rfl,⟨H.out,fun f=>absurd rfl f,fun _=>⟨.slice V T.length q,_,_,K,?_,P.1,P.2.1,ae.out,P.2.2⟩⟩,fun _ wz9 f=>⟨.slice V T.length q,_,_,K,?_,(along_sl (own_moved d.1 (by omega) f) (own_moved d.2.1 (by omega) f) (own_moved d.2.2 (by omega) f)).1,(along_sl (own_moved d.1 (by omega) f) (own_moved d.2.1 (by omega) f) (own_moved d.2.2 (by omega) f)).2.1,ae.out,(along_sl (own_moved d.1 (by omega) f) (own_moved d.2.1 (by omega) f) (own_moved d.2.2 (by omega) f)).2.2⟩⟩,be⟩
         all_goals (rw [da.out];rfl)
open Go Go.RowKit Go.Words Go.Mesh
theorem AlongEnd.ok {w':World} {N:Int} {T:List T3} {l:List (Int × Int)} {r:Value} (h:AlongEnd w' N T l r 0):∃ b c pv a,r=.tuple #[.agg #[.int .i64 ((newO N T (l.map nm)).length:Nat),b],c,pv,.int .i64 0]/\CutOk N T l a/\Sl 3 RTri w' w'.heap.size b (newX N T (l.map nm))/\Sl 1 RInt w' w'.heap.size c (newO N T (l.map nm))/\Sl 4 R4 w' w'.heap.size pv (pairsL N T l a):=by
 obtain ⟨o,_,p⟩:=h
 obtain ⟨d,e,f,g⟩:=o.zero
 obtain ⟨b,c,pv,a,i,j,k,m,n⟩:=p rfl
 exact ⟨b,c,pv,a,i,⟨d,e,f,g,m⟩,j,k,n⟩
theorem vt_row {X:List T3} {i k:Nat} (hi:i<X.length) (hk:k<3):Mesh.vt X (3 * i+k)=vx X[i] k:=by
 unfold Mesh.vt
 have e:X.getD ((3 * i+k) / 3) (0,0,0)=X[i]:=by
  rw [show (3 * i+k) / 3=i by omega,List.getD_eq_getElem?_getD,zG hi];rfl
 rw [e,show (3 * i+k) % 3=k by omega]
theorem tri_cell3 {w:World} {B n cap i:Nat} {A:Option Addr} {X:List T3} (h:Sl 3 RTri w B (.slice A n cap) X) (hi:i<X.length) {k:Nat} (hk:k<3) :
  ∃ b o,A=some ⟨b,o,none⟩/\b<B/\w.cell? ⟨b,o+i * 3+k,none⟩=some (.int .i64 (Mesh.vt X (3 * i+k))):=by
 obtain ⟨b,o,a,c,d,e,f⟩:=h.tri_at hi
 refine ⟨b,o,a,c,?_⟩
 rw [vt_row hi hk]
 match k,hk with
 | 0,_=>exact d
 | 1,_=>exact e
 | 2,_=>exact f
end Go.Proofs.YtpbdcppaiafbgaaGreat
