/- Walks: cutter.sectors. -/
import Derived.Deep.Cut
import Derived.Maps.OwnIn
import Derived.Test.YtpbdcppaiafbgaaGreatIA
import Derived.Test.YtpbdcppaiafbgaaGreatGA
set_option maxRecDepth 100000
set_option maxHeartbeats 8000000
namespace Go.Proofs.YtpbdcppaiafbgaaGreat
open Go Go.RowKit Go.Words Go.Mesh
attribute [local go_sem] Oper.semAt_some
theorem tab_next {w:World} {B:Nat} {tv:Value} {N:Int} {T:List T3} (h:Tab w B tv N T) {c:Nat} (hc:c<3 * T.length):Calls Tryz.prog 78 #[tv,.int .i64 (c:Int)] w fun e w'=>e=.returned (.int .i64 (nx c:Int))/\w'=w:=by
 obtain ⟨g,vt,d,f,m,F,a,b,_⟩:=h
 rw [a]
 have:=next_calls b (c:Int)
 rw [tNext_at hc] at this
 exact this
theorem tab_prev {w:World} {B:Nat} {tv:Value} {N:Int} {T:List T3} (h:Tab w B tv N T) {c:Nat} (hc:c<3 * T.length):Calls Tryz.prog 79 #[tv,.int .i64 (c:Int)] w fun e w'=>e=.returned (.int .i64 (pv c:Int))/\w'=w:=by
 obtain ⟨g,vt,d,f,m,F,a,b,_⟩:=h
 rw [a]
 have:=prev_calls b (c:Int)
 rw [tPrev_at hc] at this
 exact this
theorem tab_vertex {w:World} {B:Nat} {tv:Value} {N:Int} {T:List T3} (h:Tab w B tv N T) {c:Nat} (hc:c<3 * T.length):Calls Tryz.prog 77 #[tv,.int .i64 (c:Int)] w fun e w'=>e=.returned (.int .i64 (Mesh.vt T c))/\w'=w:=by
 obtain ⟨g,vt,d,f,m,F,a,b,_⟩:=h
 rw [a]
 have:=vertex_calls b (c:Int)
 rw [tVert_at hc] at this
 exact this
theorem wpIn_cut {F:Fence} {n:Nat} {P:Program} {s:Code} {K:Act->World->Prop} {Q':Exit->Act->World->Prop} {a:Act} {w:World} (R:Act->World->Prop)
  (first:s.wpIn F n P (fun e b c=>e=.normal/\R b c) a w) (rest:∀ b c,R b c->K b c):s.wpIn F n P (Exit.then K Q') a w :=
 wpIn_mono first (by rintro e b c ⟨rfl,h⟩;exact rest b c h)
def pBv (T:List T3) (C:List (Int × Int)) (v:Int) (c:Nat):Bool:=decide (nm (v,vt T (nx c))∈C)
theorem splL_congr {p q:Nat->Bool}:∀ {l:List Nat},(∀ c∈l,p c=q c)->splL p l=splL q l:=fun {l}=>by
 refine gind (motive:=fun l=>(∀ c∈l,p c=q c)->splL p l=splL q l) (fun _=>rfl) (fun l c ih h=>?_) l
 rw [splL_snoc,splL_snoc,ih fun x hx=>h x (List.mem_append_left _ hx)]
 unfold splS
 rw [h c (by simp)]
theorem pBv_ring {T:List T3} {C:List (Int × Int)} {v:Int} {l:List Nat} {inner:Bool} (r:Ring T v l inner):∀ c∈l,pBv T C v c=pB T C c:=fun c hc=>by
 unfold pBv pB
 exact decide_eq_decide.2 (by unfold ctB;rw [((r.mem c).1 hc).2])
def opn (T:List T3) (C:List (Int × Int)) (v:Int):List Nat->Bool
 | []=>false
 | c :: _=>(opp T (pv c)).isSome && !pBv T C v c
theorem opn_ring {T:List T3} {C:List (Int × Int)} {v:Int} {l:List Nat} {inner:Bool} (r:Ring T v l inner):opn T C v l=openL T C l inner:=by
 have b:=r.ne
 have a:=r.head b
 have g:=pBv_ring (C:=C) r
 cases l with
 | nil=>simp at b
 | cons c l =>
  have f:=g c (List.mem_cons_self ..)
  simp only [List.getElem_cons_zero] at a
  show ((opp T (pv c)).isSome && !pBv T C v c)=(inner && !pB T C c)
  rw [f]
  congr 1
  unfold bef at a
  rw [Option.map_eq_none_iff] at a
  cases e:opp T (pv c) with
  | none=>rw [a.1 e];rfl
  | some d =>
   cases inner with
   | true=>rfl
   | false=>rw [a.2 rfl] at e;cases e
theorem splL_lens (p:Nat->Bool) (l:List Nat):∀ r∈(splL p l).1++[(splL p l).2],r.length<=l.length:=by
 refine gind (motive:=fun l=>∀ r∈(splL p l).1++[(splL p l).2],r.length<=l.length) (fun r hr=>?_) (fun l c ih r hr=>?_) l
 ·have e:(splL p []).1++[(splL p []).2]=[[]]:=rfl
  rw [e] at hr
  rw [List.mem_singleton.1 hr];exact Nat.le_refl _
 ·rw [splL_snoc] at hr
  have a:(splL p l).2.length<=l.length:=ih _ (by simp)
  rw [List.length_append]
  unfold splS at hr
  split at hr
  ·rcases List.mem_append.1 hr with h | h
   ·have:=ih r (List.mem_append_left _ h);omega
   ·rw [List.mem_singleton.1 h,List.length_append];omega
  ·split at hr
   ·rcases List.mem_append.1 hr with h | h
    ·have:=ih r h;omega
    ·rw [List.mem_singleton.1 h];simp
   ·rcases List.mem_append.1 hr with h | h
    ·have:=ih r (List.mem_append_left _ h);omega
    ·rw [List.mem_singleton.1 h,List.length_append];omega
theorem splL_fewo (p:Nat->Bool) (l:List Nat):(splL p l).1.length<=l.length:=by
 refine gind (motive:=fun l=>(splL p l).1.length<=l.length) (Nat.le_refl _) (fun l c ih=>?_) l
 rw [splL_snoc,List.length_append]
 unfold splS
 split
 ·simp;omega
 ·split <;> simp <;> omega
theorem infoRowS:(Tryz.prog.info? 28).map (fun i=>(i.zero,i.size,i.bytes))=some (some (.slice none 0 0),1,24):=by kernel_rfl
theorem splL_few (p:Nat->Bool) (l:List Nat):(splL p l).2.length<=l.length:=by
 refine gind (motive:=fun l=>(splL p l).2.length<=l.length) (Nat.le_refl _) (fun l c ih=>?_) l
 rw [splL_snoc,List.length_append]
 unfold splS
 split
 ·simp;omega
 ·split <;> simp;omega
abbrev SecI (w:World) (gb g:Nat) (tg:Option Addr) (v:Int) (T:List T3) (C:List (Int × Int)) (pre:List Nat) (W:World):Prop :=
 SecJ w gb g tg v (splL (pBv T C v) pre).1 (splL (pBv T C v) pre).2 (opn T C v pre) W
theorem secI_of {w:World} {gb g:Nat} {tg:Option Addr} {v:Int} {T:List T3} {C:List (Int × Int)} {l:List Nat} {out:List (List Nat)} {row:List Nat} {op:Bool} {W:World} (h1:splL (pBv T C v) l=(out,row)) (h2:opn T C v l=op) (h:SecJ w gb g tg v out row op W):SecI w gb g tg v T C l W:=by
 unfold SecI;rw [h1,h2];exact h
theorem secI_own (w:World) (gb g:Nat) (tg:Option Addr) (v:Int) (T:List T3) (C:List (Int × Int)) {B:Nat} (hw:gb<=w.heap.size) (hB:gb<=B):OwnFrom B (fun (pre:List (Cor T)) W=>SecI w gb g tg v T C (pre.map (·.1)) W) :=
 fun _ _ _ _ hs hg hr=>SecJ.non hw hB hs hg hr
theorem sectors_calls {w:World} {B g bc be:Nat} {tv sv wv:Value} {N n:Int} {T X:List T3} {L:List (Int × Int)} {O:List Int} (h:Ctr w B g bc be tv N T L n sv wv X O) (hs:Surf N T) (v:Int) (hv:0<=v/\v<N) :
  Calls Tryz.prog 107 #[.pointer (some ⟨g,0,none⟩),.int .i64 v] w fun e z=>(∃ r S,e=.returned r/\Secs T (L.map nm) (hdV T (L.map nm) v) S/\Fresh z w.heap.size r S)/\Below w.heap.size w z:=by
 refine (callsIn_wide (n:=6)).1 ?_
 refine callsIn_of_wp_marks Tryz.func107 rfl trivial ?_ rfl
 simp only [Tryz.ntmps107,List.size_toArray,List.length_cons,List.length_nil,Nat.reduceAdd,Nat.reduceSub,Array.replicate_succ,Array.replicate_zero,List.push_toArray,List.append_toArray,List.nil_append,List.cons_append]
 have j8:=h.blk.lt
 have c0:w.cell? ⟨g,0,none⟩=some tv:=h.blk.cell 0
 have ji:=h.tab
 obtain ⟨s,lc⟩:∃ s,tv=.pointer s:=by
  obtain ⟨g9,_,_,_,_,_,G,_⟩:=h.tab
  exact ⟨_,G⟩
 subst lc
 obtain ⟨d,b6⟩:∃ d,d=w.heap.size:=⟨_,rfl⟩
 obtain ⟨wa,bp⟩:∃ wa,wa=((((w.alloc (.cells #[.pointer (some ⟨g,0,none⟩)] 102)).alloc (.cells #[.int .i64 v] 3)).alloc (.cells #[.slice none 0 0] 78)).alloc (.cells #[.slice none 0 0] 28)).alloc (.cells #[.bool false] 4):=⟨_,rfl⟩
 obtain ⟨Hh,es⟩:=zz2 h ji;clear h ji
 gi_wp2_with fail
 rw [<- b6,<- bp]
 have gg:Below d w wa:=by
  rw [bp,b6];exact (((((Below.refl _ w).alloc (Nat.le_refl _) _).alloc (by simp) _).alloc (by simp;omega) _).alloc (by simp;omega) _).alloc (by simp;omega) _
 have b0:Boxed wa d 102 (.pointer (some ⟨g,0,none⟩)):=by rw [bp];exact ((((boxed_new' b6 _ _).alloc _).alloc _).alloc _).alloc _
 have b1:Boxed wa (d+1) 3 (.int .i64 v):=by rw [bp];exact (((boxed_new' (by simp [b6]) _ _).alloc _).alloc _).alloc _
 have b2:Boxed wa (d+1+1) 78 (.slice none 0 0):=by rw [bp];exact ((boxed_new' (by simp [b6]) _ _).alloc _).alloc _
 have b3:Boxed wa (d+1+1+1) 28 (.slice none 0 0):=by rw [bp];exact (boxed_new' (by simp [b6]) _ _).alloc _
 have b4:Boxed wa (d+1+1+1+1) 4 (.bool false):=by rw [bp];exact boxed_new' (by simp [b6]) _ _
 have e4:wa.heap.size=d+5:=by rw [bp];simp [b6]
 clear bp
 have d0:=b0.cell
 have d1:=b1.cell
 have gu:g<d:=by omega
 have l3:wa.cell? ⟨g,0,none⟩=some (.pointer s):=(gg.cell (p:=⟨g,0,none⟩) gu).trans c0
 obtain ⟨br,ft,ia,ib,ic,ie,ig⟩:=zz7 b6 gg b0 b1 b2 b3 b4;clear b6 gg b0 b1 b2 b3 b4
 refine Canon.Wide.region_tree Canon.wide_wide [4] (fun b=>b<d+5) (.seg [0,4] (.alt 1 (.seg [2,3] (.alt 5 .fin .no)) .no)) (by rfl) mixed (by kernel_rfl) ?_
 refine Canon.tr_seg ?_
 simp only [zmC,zmN,zgZ,zgS]
 go_wp2_with fail
 refine Canon.tr_to (Canon.tr_one ?_)
 simp only [zgZ,zgS]
 go_wp2_with fail
 refine Canon.tr_end (fun _ _=>rfl) (Canon.tr_seg ?_)
 simp only [zmC,zmN,zgZ,zgS]
 go_wp2_with fail
 refine Canon.tr_to (Canon.tr_one ?_)
 simp only [zgZ,zgS]
 go_wp2_with fail
 refine (around_calls _ _ _ rfl).mono ?_
 rintro e w1 ⟨rfl,rfl⟩
 go_wp2_with fail
 have gh:Below d w ((wa.alloc (.cells #[.pointer s] 46)).alloc (.cells #[.int .i64 v] 3)).drew:=(((ft.out.alloc (by omega) _).alloc (by simp;omega) _).drew)
 have iq:=(ia.out.alloc (.cells #[.pointer s] 46)).alloc (.cells #[.int .i64 v] 3)
 have ir:=(ib.out.alloc (.cells #[.pointer s] 46)).alloc (.cells #[.int .i64 v] 3)
 have it:=(ic.out.alloc (.cells #[.pointer s] 46)).alloc (.cells #[.int .i64 v] 3)
 have iu:=(ie.out.alloc (.cells #[.pointer s] 46)).alloc (.cells #[.int .i64 v] 3)
 have iv:=(ig.out.alloc (.cells #[.pointer s] 46)).alloc (.cells #[.int .i64 v] 3)
 have iw:Boxed ((wa.alloc (.cells #[.pointer s] 46)).alloc (.cells #[.int .i64 v] 3)) (d+5) 46 (.pointer s):=(boxed_new' e4.symm _ _).alloc _
 have ix:Boxed ((wa.alloc (.cells #[.pointer s] 46)).alloc (.cells #[.int .i64 v] 3)) (d+5+1) 3 (.int .i64 v):=boxed_new' (by rw [World.size_alloc,e4]) _ _
 have he:((wa.alloc (.cells #[.pointer s] 46)).alloc (.cells #[.int .i64 v] 3)).drew.heap.size=d+7:=by simp [e4]
 have ja:Canon.KeepU (fun b=>b<d+5) wa.drew ((wa.alloc (.cells #[.pointer s] 46)).alloc (.cells #[.int .i64 v] 3)).drew:=fun b hb=>(Below.heap_alloc (wa.alloc (.cells #[.pointer s] 46)) (.cells #[.int .i64 v] 3) b (by simp;omega)).trans (Below.heap_alloc wa (.cells #[.pointer s] 46) b (by omega))
 refine Canon.tr_end ja (Canon.tr_fin (by rfl) (List.forall_mem_cons.2 ⟨.inl ⟨_,rfl,(by show d+1<d+5;omega),by rw [World.cell?_drew,d1];rfl⟩,fun _ h=>by cases h⟩) ?_)
 obtain ⟨w0,bo⟩:∃ w0,w0=((wa.alloc (.cells #[.pointer s] 46)).alloc (.cells #[.int .i64 v] 3)).drew:=⟨_,rfl⟩
 rw [<- bo] at gh he ⊢
 have f0:Boxed w0 d 102 (.pointer (some ⟨g,0,none⟩)):=by rw [bo];exact iq
 have f1:Boxed w0 (d+1) 3 (.int .i64 v):=by rw [bo];exact ir
 have f2:Boxed w0 (d+1+1) 78 (.slice none 0 0):=by rw [bo];exact it
 have f3:Boxed w0 (d+1+1+1) 28 (.slice none 0 0):=by rw [bo];exact iu
 have f4:Boxed w0 (d+1+1+1+1) 4 (.bool false):=by rw [bo];exact iv
 have f5:Boxed w0 (d+5) 46 (.pointer s):=by rw [bo];exact iw
 have f6:Boxed w0 (d+5+1) 3 (.int .i64 v):=by rw [bo];exact ix
 clear iq ir it iu iv iw ix bo ja d0 d1 l3 c0 e4 ft ia ib ic ie ig
 have nd:=Hh.out.le
 have l6:=es.out.le
 have l8:d<=w.heap.size:=by rw [br.out];exact Nat.le_refl _
 have gi:B<=d:=by rw [br.out];exact l6
 have nh:w.heap.size<=d:=by rw [br.out];exact Nat.le_refl _
 have j1:=es.out.below (gh.mono gi) (Nat.le_refl _)
 have l9:d+7<=w0.heap.size:=by omega
 have iy:SecI w d g s v T (L.map nm) [] w0:=⟨f0,f1,f5,⟨_,[],_,f2,World.ownsRow_nil _ _ _ _,f3,⟨rfl,fun i h1 h2=>by simp at h1;subst h1;exact World.ownsRow_nil _ _ _ _,fun i j h1 h2 hne=>by simp at h1 h2;omega⟩⟩,f4,gh,l9⟩
 clear he
 obtain ⟨jp,ju,mw,mx,my,mz,n0⟩:=zz7 iy j1 f0 f1 f2 f3 f4;clear iy j1 f0 f1 f2 f3 f4
 gi_wp2_with fail
 refine wpIn_rangeFunc_ownF rfl (by decide) (gf:=124) (lb:=#[.pointer (some ⟨d+5,0,none⟩),.pointer (some ⟨d+5+1,0,none⟩)]) rfl trivial (enters_of Tryz.func124 (by kernel_rfl) rfl)
  (around_stopsN 5 (by decide) (d+5) (d+5+1) d B (.pointer s) N T v hs gi w0 (by omega) (by omega) (by omega) f5.cell f6.cell (.inl ju.out)) keepB_t (keepB_b (by omega) (by omega)) (Below.refl _ _) (fun _=>rfl)
  (fun F W=>SecI w d g s v T (L.map nm) (F.map (·.1)) W)
  (fun _ _ _=>False)
  ?hI ?hIx ?h0
  (fun x=>{ tmps:=#[.pointer (some ⟨g,0,none⟩),.int .i64 v,.pointer (some ⟨d,0,none⟩),.pointer (some ⟨d+1,0,none⟩),.slice none 0 0,.pointer (some ⟨d+1+1,0,none⟩),.pointer (some ⟨d+1+1+1,0,none⟩),.pointer (some ⟨d+1+1+1+1,0,none⟩),.int .i64 (x.1:Int),undef,undef,.pointer (some ⟨g,0,none⟩),.pointer (some ⟨g,0,none⟩),.pointer (some ⟨g,0,none⟩),.pointer s,.int .i64 v,.func (.func 124) #[] #[.pointer (some ⟨d+5,0,none⟩),.pointer (some ⟨d+5+1,0,none⟩)],.int .i64 (x.1:Int),undef,undef,undef,undef,undef,undef,undef,undef,undef,undef,undef,undef,undef,undef,undef,undef,undef,undef,undef,undef,undef,undef,undef,undef,undef,undef,undef,undef,undef,undef,undef,undef,undef,undef,undef,undef,undef,undef,undef,undef,undef,undef,undef,undef,undef,undef,undef,undef,undef,undef,undef,undef,undef,undef,undef,undef,undef,undef,undef,undef,undef,undef,undef,undef,undef,undef,undef,undef,undef,undef,undef,undef,undef,undef,undef,undef,undef,undef,undef,undef,undef,undef,undef],defers:=[] }) ?assign ?body ?done ?stop
 case hI=>exact secI_own w d g s v T (L.map nm) l8 (by omega)
 case hIx=>exact fun _ _ _ _ _ hs _ _=>hs
 case h0=>exact jp.out
 case assign =>
  intro l x W K hK
  gi_wp2
  exact hK
 case body =>
  intro l F x W hI hN
  have hT:T≠[]:=fun G=>by have h8:=x.2;have h7:=congrArg List.length G;simp only [List.length_nil] at h7;omega
  have bu:Tab W B (.pointer s) N T:=es.out.below (hI.bl.mono gi) (Nat.le_refl _)
  have ng:=hI.sz
  have l7:g<W.heap.size:=by omega
  have d5:W.cell? ⟨g,0,none⟩=some (.pointer s):=(hI.bl.cell (p:=⟨g,0,none⟩) gu).trans (Hh.out.blk.cell 0)
  have d0:=hI.b0.cell
  have d1:=hI.b1.cell
  have je:=fun wz (hz:Below W.heap.size W wz)=>tab_next (bu.below hz bu.le) (c:=x.1) x.2
  have hg:=fun wz (hz:Below W.heap.size W wz)=>tab_vertex (bu.below hz bu.le) (c:=nx x.1) (nx_lt x.2)
  have ct:=fun wz=>named_calls (v,vt T (nx x.1)) wz
  change ∀ wz,Calls _ _ #[.agg #[.int .i64 v,.int .i64 (vt T (nx x.1))]] wz (fun r z=>r=.returned (.agg #[.int .i64 (nm (v,vt T (nx x.1))).1,.int .i64 (nm (v,vt T (nx x.1))).2])/\_) at ct
  obtain ⟨u,hu⟩:∃ u,vt T (nx x.1)=u:=⟨_,rfl⟩
  rw [hu] at hg ct
  obtain ⟨q1,gz⟩:∃ q,(nm (v,u)).1=q:=⟨_,rfl⟩
  obtain ⟨q2,h4⟩:∃ q,(nm (v,u)).2=q:=⟨_,rfl⟩
  rw [gz,h4] at ct
  obtain ⟨e7,ay,a4,I,fb,ik,g7,g8⟩:=zz8 hI bu je hg ct hu gz h4;clear hI bu je hg ct hu gz h4
  gi_wp2_with fail
  refine wpIn_cut (fun a' z=>∃ b,a'={ tmps:=#[.pointer (some ⟨g,0,none⟩),.int .i64 v,.pointer (some ⟨d,0,none⟩),.pointer (some ⟨d+1,0,none⟩),.slice none 0 0,.pointer (some ⟨d+1+1,0,none⟩),.pointer (some ⟨d+1+1+1,0,none⟩),.pointer (some ⟨d+1+1+1+1,0,none⟩),.int .i64 (x.1:Int),.pointer (some ⟨b,0,none⟩),undef,.pointer (some ⟨g,0,none⟩),.pointer (some ⟨g,0,none⟩),.pointer (some ⟨g,0,none⟩),.pointer s,.int .i64 v,.func (.func 124) #[] #[.pointer (some ⟨d+5,0,none⟩),.pointer (some ⟨d+5+1,0,none⟩)],.int .i64 (x.1:Int),.int .i64 v,.pointer (some ⟨g,0,none⟩),.pointer (some ⟨g,0,none⟩),.pointer (some ⟨g,0,none⟩),.pointer s,.pointer (some ⟨g,0,none⟩),.pointer (some ⟨g,0,none⟩),.pointer (some ⟨g,0,none⟩),.pointer s,.int .i64 (x.1:Int),.int .i64 (nx x.1:Int),.int .i64 u,.agg #[.int .i64 v,.int .i64 u],.agg #[.int .i64 q1,.int .i64 q2],undef,undef,undef,undef,undef,undef,undef,undef,undef,undef,undef,undef,undef,undef,undef,undef,undef,undef,undef,undef,undef,undef,undef,undef,undef,undef,undef,undef,undef,undef,undef,undef,undef,undef,undef,undef,undef,undef,undef,undef,undef,undef,undef,undef,undef,undef,undef,undef,undef,undef,undef,undef,undef,undef,undef,undef,undef,undef,undef,undef,undef,undef,undef,undef,undef,undef,undef,undef,undef],defers:=[] }/\Bk z b 39 [.int .i64 q1,.int .i64 q2]/\W.heap.size<=b/\Below W.heap.size W z) ?first6 ?rest6
  case first6 =>
    refine (Canon.wide_round l).region_tree [0,1,4,5,8] (fun b=>b<W.heap.size) (.seg [0,1,5,9] (.alt 2 (.seg [3,4] (.alt 6 (.seg [7,8] (.alt 10 (.alt 11 (.seg [12] (.alt 13 (.alt 14 (.alt 15 .fin .no) .no) (.alt 14 (.alt 13 (.alt 15 .fin .no) .no) .no))) (.alt 14 (.alt 11 (.seg [12] (.alt 13 (.alt 15 .fin .no) .no)) .no) .no)) (.alt 14 (.alt 10 (.alt 11 (.seg [12] (.alt 13 (.alt 15 .fin .no) .no)) .no) .no) .no))) (.alt 14 (.alt 6 (.seg [7,8] (.alt 10 (.alt 11 (.seg [12] (.alt 13 (.alt 15 .fin .no) .no)) .no) .no)) .no) .no))) (.alt 6 (.seg [7,8] (.alt 2 (.seg [3,4] (.alt 10 (.alt 11 (.seg [12] (.alt 13 (.alt 14 (.alt 15 .fin .no) .no) (.alt 14 (.alt 13 (.alt 15 .fin .no) .no) .no))) (.alt 14 (.alt 11 (.seg [12] (.alt 13 (.alt 15 .fin .no) .no)) .no) .no)) (.alt 14 (.alt 10 (.alt 11 (.seg [12] (.alt 13 (.alt 15 .fin .no) .no)) .no) .no) .no))) (.alt 10 (.alt 2 (.seg [3,4] (.alt 11 (.seg [12] (.alt 13 (.alt 14 (.alt 15 .fin .no) .no) (.alt 14 (.alt 13 (.alt 15 .fin .no) .no) .no))) (.alt 14 (.alt 11 (.seg [12] (.alt 13 (.alt 15 .fin .no) .no)) .no) .no))) (.alt 14 (.alt 2 (.seg [3,4] (.alt 11 (.seg [12] (.alt 13 (.alt 15 .fin .no) .no)) .no)) .no) .no)) (.alt 14 (.alt 2 (.seg [3,4] (.alt 10 (.alt 11 (.seg [12] (.alt 13 (.alt 15 .fin .no) .no)) .no) .no)) (.alt 10 (.alt 2 (.seg [3,4] (.alt 11 (.seg [12] (.alt 13 (.alt 15 .fin .no) .no)) .no)) .no) .no)) .no)))) (.alt 14 (.alt 2 (.seg [3,4] (.alt 6 (.seg [7,8] (.alt 10 (.alt 11 (.seg [12] (.alt 13 (.alt 15 .fin .no) .no)) .no) .no)) .no)) (.alt 6 (.seg [7,8] (.alt 2 (.seg [3,4] (.alt 10 (.alt 11 (.seg [12] (.alt 13 (.alt 15 .fin .no) .no)) .no) .no)) (.alt 10 (.alt 2 (.seg [3,4] (.alt 11 (.seg [12] (.alt 13 (.alt 15 .fin .no) .no)) .no)) .no) .no))) .no)) .no)))) (by rfl) mixed (by kernel_rfl) ?_
    refine Canon.tr_seg ?_
    simp only [zmC,zmN,zgZ,zgS]
    go_wp2_with fail
    refine Canon.tr_to (Canon.tr_alt ?zs1 (Canon.tr_alt ?zs2 (Canon.tr_one ?zs3)))
    case' zs1 =>
     simp only [zgZ,zgS]
     go_wp2_with fail
     refine Canon.tr_end (keep_below (below_undrew ((Below.refl W.heap.size W).drew))) (Canon.tr_seg ?_)
     simp only [zmC,zmN,zgZ,zgS]
     go_wp2_with fail
     refine Canon.tr_to (Canon.tr_alt ?zs4 (Canon.tr_one ?zs5))
     case' zs4 =>
      simp only [zgZ,zgS]
      go_wp2_with fail
      refine Canon.tr_end (keep_below (below_undrew ((Below.refl W.heap.size W).drew))) (Canon.tr_seg ?_)
      simp only [zmC,zmN,zgZ,zgS]
      go_wp2_with fail
      refine Canon.tr_to (Canon.tr_alt ?zs6 (Canon.tr_one ?zs7))
      case' zs6 =>
       simp only [zgZ,zgS]
       go_wp2_with fail
       refine (a4.out _ ((Below.refl W.heap.size W).drew)).mono ?_
       rintro e z ⟨rfl,rfl⟩
       go_wp2_with fail
       refine Canon.tr_end (keep_below (below_undrew ((Below.refl W.heap.size W).drew))) (Canon.tr_alt ?zs8 (Canon.tr_one ?zs9))
       case' zs8 =>
        simp only [zgZ,zgS]
        go_wp2_with fail
        refine (I.out _ ((Below.refl W.heap.size W).drew)).mono ?_
        rintro e z ⟨rfl,rfl⟩
        go_wp2_with fail
        refine Canon.tr_end (keep_below (below_undrew ((Below.refl W.heap.size W).drew))) (Canon.tr_seg ?_)
        simp only [zmC,zmN,zgZ,zgS]
        go_wp2_with fail
        refine Canon.tr_to (Canon.tr_alt ?zs10 (Canon.tr_one ?zs11))
        case' zs10 =>
         simp only [zgZ,zgS]
        case' zs11 =>
         simp only [zgZ,zgS]
         go_wp2_with fail
         refine Canon.tr_end (keep_below (below_undrew (((Below.refl W.heap.size W).alloc (Nat.le_refl _) (.cells #[.int .i64 0,.int .i64 0] 39)).drew))) (Canon.tr_one ?_)
       case' zs9 =>
        simp only [zgZ,zgS]
        go_wp2_with fail
        refine Canon.tr_end (keep_below (below_undrew (((Below.refl W.heap.size W).alloc (Nat.le_refl _) (.cells #[.int .i64 0,.int .i64 0] 39)).drew))) (Canon.tr_one ?_)
        simp only [zgZ,zgS]
        go_wp2_with fail
        refine (I.out _ (((Below.refl W.heap.size W).alloc (Nat.le_refl _) (.cells #[.int .i64 0,.int .i64 0] 39)).drew)).mono ?_
        rintro e z ⟨rfl,rfl⟩
        go_wp2_with fail
        refine Canon.tr_end (keep_below (below_undrew (((Below.refl W.heap.size W).alloc (Nat.le_refl _) (.cells #[.int .i64 0,.int .i64 0] 39)).drew))) (Canon.tr_seg ?_)
        simp only [zmC,zmN,zgZ,zgS]
        go_wp2_with fail
        refine Canon.tr_to (Canon.tr_one ?_)
      case' zs7 =>
       simp only [zgZ,zgS]
       go_wp2_with fail
       refine Canon.tr_end (keep_below (below_undrew (((Below.refl W.heap.size W).alloc (Nat.le_refl _) (.cells #[.int .i64 0,.int .i64 0] 39)).drew))) (Canon.tr_one ?_)
       simp only [zgZ,zgS]
       go_wp2_with fail
       refine (a4.out _ (((Below.refl W.heap.size W).alloc (Nat.le_refl _) (.cells #[.int .i64 0,.int .i64 0] 39)).drew)).mono ?_
       rintro e z ⟨rfl,rfl⟩
       go_wp2_with fail
       refine Canon.tr_end (keep_below (below_undrew (((Below.refl W.heap.size W).alloc (Nat.le_refl _) (.cells #[.int .i64 0,.int .i64 0] 39)).drew))) (Canon.tr_one ?_)
       simp only [zgZ,zgS]
       go_wp2_with fail
       refine (I.out _ (((Below.refl W.heap.size W).alloc (Nat.le_refl _) (.cells #[.int .i64 0,.int .i64 0] 39)).drew)).mono ?_
       rintro e z ⟨rfl,rfl⟩
       go_wp2_with fail
       refine Canon.tr_end (keep_below (below_undrew (((Below.refl W.heap.size W).alloc (Nat.le_refl _) (.cells #[.int .i64 0,.int .i64 0] 39)).drew))) (Canon.tr_seg ?_)
       simp only [zmC,zmN,zgZ,zgS]
       go_wp2_with fail
       refine Canon.tr_to (Canon.tr_one ?_)
     case' zs5 =>
      simp only [zgZ,zgS]
      go_wp2_with fail
      refine Canon.tr_end (keep_below (below_undrew (((Below.refl W.heap.size W).alloc (Nat.le_refl _) (.cells #[.int .i64 0,.int .i64 0] 39)).drew))) (Canon.tr_one ?_)
      simp only [zgZ,zgS]
      go_wp2_with fail
      refine Canon.tr_end (keep_below (below_undrew (((Below.refl W.heap.size W).alloc (Nat.le_refl _) (.cells #[.int .i64 0,.int .i64 0] 39)).drew))) (Canon.tr_seg ?_)
      simp only [zmC,zmN,zgZ,zgS]
      go_wp2_with fail
      refine Canon.tr_to (Canon.tr_one ?_)
      simp only [zgZ,zgS]
      go_wp2_with fail
      refine (a4.out _ (((Below.refl W.heap.size W).alloc (Nat.le_refl _) (.cells #[.int .i64 0,.int .i64 0] 39)).drew)).mono ?_
      rintro e z ⟨rfl,rfl⟩
      go_wp2_with fail
      refine Canon.tr_end (keep_below (below_undrew (((Below.refl W.heap.size W).alloc (Nat.le_refl _) (.cells #[.int .i64 0,.int .i64 0] 39)).drew))) (Canon.tr_one ?_)
      simp only [zgZ,zgS]
      go_wp2_with fail
      refine (I.out _ (((Below.refl W.heap.size W).alloc (Nat.le_refl _) (.cells #[.int .i64 0,.int .i64 0] 39)).drew)).mono ?_
      rintro e z ⟨rfl,rfl⟩
      go_wp2_with fail
      refine Canon.tr_end (keep_below (below_undrew (((Below.refl W.heap.size W).alloc (Nat.le_refl _) (.cells #[.int .i64 0,.int .i64 0] 39)).drew))) (Canon.tr_seg ?_)
      simp only [zmC,zmN,zgZ,zgS]
      go_wp2_with fail
      refine Canon.tr_to (Canon.tr_one ?_)
    case' zs2 =>
     simp only [zgZ,zgS]
     go_wp2_with fail
     refine Canon.tr_end (keep_below (below_undrew ((Below.refl W.heap.size W).drew))) (Canon.tr_seg ?_)
     simp only [zmC,zmN,zgZ,zgS]
     go_wp2_with fail
     refine Canon.tr_to (Canon.tr_alt ?zs12 (Canon.tr_alt ?zs13 (Canon.tr_one ?zs14)))
     case' zs12 =>
      simp only [zgZ,zgS]
      go_wp2_with fail
      refine Canon.tr_end (keep_below (below_undrew ((Below.refl W.heap.size W).drew))) (Canon.tr_seg ?_)
      simp only [zmC,zmN,zgZ,zgS]
      go_wp2_with fail
      refine Canon.tr_to (Canon.tr_alt ?zs15 (Canon.tr_one ?zs16))
      case' zs15 =>
       simp only [zgZ,zgS]
       go_wp2_with fail
       refine (a4.out _ ((Below.refl W.heap.size W).drew)).mono ?_
       rintro e z ⟨rfl,rfl⟩
       go_wp2_with fail
       refine Canon.tr_end (keep_below (below_undrew ((Below.refl W.heap.size W).drew))) (Canon.tr_alt ?zs17 (Canon.tr_one ?zs18))
       case' zs17 =>
        simp only [zgZ,zgS]
        go_wp2_with fail
        refine (I.out _ ((Below.refl W.heap.size W).drew)).mono ?_
        rintro e z ⟨rfl,rfl⟩
        go_wp2_with fail
        refine Canon.tr_end (keep_below (below_undrew ((Below.refl W.heap.size W).drew))) (Canon.tr_seg ?_)
        simp only [zmC,zmN,zgZ,zgS]
        go_wp2_with fail
        refine Canon.tr_to (Canon.tr_alt ?zs19 (Canon.tr_one ?zs20))
        case' zs19 =>
         simp only [zgZ,zgS]
        case' zs20 =>
         simp only [zgZ,zgS]
         go_wp2_with fail
         refine Canon.tr_end (keep_below (below_undrew (((Below.refl W.heap.size W).alloc (Nat.le_refl _) (.cells #[.int .i64 0,.int .i64 0] 39)).drew))) (Canon.tr_one ?_)
       case' zs18 =>
        simp only [zgZ,zgS]
        go_wp2_with fail
        refine Canon.tr_end (keep_below (below_undrew (((Below.refl W.heap.size W).alloc (Nat.le_refl _) (.cells #[.int .i64 0,.int .i64 0] 39)).drew))) (Canon.tr_one ?_)
        simp only [zgZ,zgS]
        go_wp2_with fail
        refine (I.out _ (((Below.refl W.heap.size W).alloc (Nat.le_refl _) (.cells #[.int .i64 0,.int .i64 0] 39)).drew)).mono ?_
        rintro e z ⟨rfl,rfl⟩
        go_wp2_with fail
        refine Canon.tr_end (keep_below (below_undrew (((Below.refl W.heap.size W).alloc (Nat.le_refl _) (.cells #[.int .i64 0,.int .i64 0] 39)).drew))) (Canon.tr_seg ?_)
        simp only [zmC,zmN,zgZ,zgS]
        go_wp2_with fail
        refine Canon.tr_to (Canon.tr_one ?_)
      case' zs16 =>
       simp only [zgZ,zgS]
       go_wp2_with fail
       refine Canon.tr_end (keep_below (below_undrew (((Below.refl W.heap.size W).alloc (Nat.le_refl _) (.cells #[.int .i64 0,.int .i64 0] 39)).drew))) (Canon.tr_one ?_)
       simp only [zgZ,zgS]
       go_wp2_with fail
       refine (a4.out _ (((Below.refl W.heap.size W).alloc (Nat.le_refl _) (.cells #[.int .i64 0,.int .i64 0] 39)).drew)).mono ?_
       rintro e z ⟨rfl,rfl⟩
       go_wp2_with fail
       refine Canon.tr_end (keep_below (below_undrew (((Below.refl W.heap.size W).alloc (Nat.le_refl _) (.cells #[.int .i64 0,.int .i64 0] 39)).drew))) (Canon.tr_one ?_)
       simp only [zgZ,zgS]
       go_wp2_with fail
       refine (I.out _ (((Below.refl W.heap.size W).alloc (Nat.le_refl _) (.cells #[.int .i64 0,.int .i64 0] 39)).drew)).mono ?_
       rintro e z ⟨rfl,rfl⟩
       go_wp2_with fail
       refine Canon.tr_end (keep_below (below_undrew (((Below.refl W.heap.size W).alloc (Nat.le_refl _) (.cells #[.int .i64 0,.int .i64 0] 39)).drew))) (Canon.tr_seg ?_)
       simp only [zmC,zmN,zgZ,zgS]
       go_wp2_with fail
       refine Canon.tr_to (Canon.tr_one ?_)
     case' zs13 =>
      simp only [zgZ,zgS]
      go_wp2_with fail
      refine (a4.out _ ((Below.refl W.heap.size W).drew)).mono ?_
      rintro e z ⟨rfl,rfl⟩
      go_wp2_with fail
      refine Canon.tr_end (keep_below (below_undrew ((Below.refl W.heap.size W).drew))) (Canon.tr_alt ?zs21 (Canon.tr_one ?zs22))
      case' zs21 =>
       simp only [zgZ,zgS]
       go_wp2_with fail
       refine Canon.tr_end (keep_below (below_undrew ((Below.refl W.heap.size W).drew))) (Canon.tr_seg ?_)
       simp only [zmC,zmN,zgZ,zgS]
       go_wp2_with fail
       refine Canon.tr_to (Canon.tr_alt ?zs23 (Canon.tr_one ?zs24))
       case' zs23 =>
        simp only [zgZ,zgS]
        go_wp2_with fail
        refine (I.out _ ((Below.refl W.heap.size W).drew)).mono ?_
        rintro e z ⟨rfl,rfl⟩
        go_wp2_with fail
        refine Canon.tr_end (keep_below (below_undrew ((Below.refl W.heap.size W).drew))) (Canon.tr_seg ?_)
        simp only [zmC,zmN,zgZ,zgS]
        go_wp2_with fail
        refine Canon.tr_to (Canon.tr_alt ?zs25 (Canon.tr_one ?zs26))
        case' zs25 =>
         simp only [zgZ,zgS]
        case' zs26 =>
         simp only [zgZ,zgS]
         go_wp2_with fail
         refine Canon.tr_end (keep_below (below_undrew (((Below.refl W.heap.size W).alloc (Nat.le_refl _) (.cells #[.int .i64 0,.int .i64 0] 39)).drew))) (Canon.tr_one ?_)
       case' zs24 =>
        simp only [zgZ,zgS]
        go_wp2_with fail
        refine Canon.tr_end (keep_below (below_undrew (((Below.refl W.heap.size W).alloc (Nat.le_refl _) (.cells #[.int .i64 0,.int .i64 0] 39)).drew))) (Canon.tr_one ?_)
        simp only [zgZ,zgS]
        go_wp2_with fail
        refine (I.out _ (((Below.refl W.heap.size W).alloc (Nat.le_refl _) (.cells #[.int .i64 0,.int .i64 0] 39)).drew)).mono ?_
        rintro e z ⟨rfl,rfl⟩
        go_wp2_with fail
        refine Canon.tr_end (keep_below (below_undrew (((Below.refl W.heap.size W).alloc (Nat.le_refl _) (.cells #[.int .i64 0,.int .i64 0] 39)).drew))) (Canon.tr_seg ?_)
        simp only [zmC,zmN,zgZ,zgS]
        go_wp2_with fail
        refine Canon.tr_to (Canon.tr_one ?_)
      case' zs22 =>
       simp only [zgZ,zgS]
       go_wp2_with fail
       refine Canon.tr_end (keep_below (below_undrew (((Below.refl W.heap.size W).alloc (Nat.le_refl _) (.cells #[.int .i64 0,.int .i64 0] 39)).drew))) (Canon.tr_one ?_)
       simp only [zgZ,zgS]
       go_wp2_with fail
       refine Canon.tr_end (keep_below (below_undrew (((Below.refl W.heap.size W).alloc (Nat.le_refl _) (.cells #[.int .i64 0,.int .i64 0] 39)).drew))) (Canon.tr_seg ?_)
       simp only [zmC,zmN,zgZ,zgS]
       go_wp2_with fail
       refine Canon.tr_to (Canon.tr_one ?_)
       simp only [zgZ,zgS]
       go_wp2_with fail
       refine (I.out _ (((Below.refl W.heap.size W).alloc (Nat.le_refl _) (.cells #[.int .i64 0,.int .i64 0] 39)).drew)).mono ?_
       rintro e z ⟨rfl,rfl⟩
       go_wp2_with fail
       refine Canon.tr_end (keep_below (below_undrew (((Below.refl W.heap.size W).alloc (Nat.le_refl _) (.cells #[.int .i64 0,.int .i64 0] 39)).drew))) (Canon.tr_seg ?_)
       simp only [zmC,zmN,zgZ,zgS]
       go_wp2_with fail
       refine Canon.tr_to (Canon.tr_one ?_)
     case' zs14 =>
      simp only [zgZ,zgS]
      go_wp2_with fail
      refine Canon.tr_end (keep_below (below_undrew (((Below.refl W.heap.size W).alloc (Nat.le_refl _) (.cells #[.int .i64 0,.int .i64 0] 39)).drew))) (Canon.tr_alt ?zs27 (Canon.tr_one ?zs28))
      case' zs27 =>
       simp only [zgZ,zgS]
       go_wp2_with fail
       refine Canon.tr_end (keep_below (below_undrew (((Below.refl W.heap.size W).alloc (Nat.le_refl _) (.cells #[.int .i64 0,.int .i64 0] 39)).drew))) (Canon.tr_seg ?_)
       simp only [zmC,zmN,zgZ,zgS]
       go_wp2_with fail
       refine Canon.tr_to (Canon.tr_one ?_)
       simp only [zgZ,zgS]
       go_wp2_with fail
       refine (a4.out _ (((Below.refl W.heap.size W).alloc (Nat.le_refl _) (.cells #[.int .i64 0,.int .i64 0] 39)).drew)).mono ?_
       rintro e z ⟨rfl,rfl⟩
       go_wp2_with fail
       refine Canon.tr_end (keep_below (below_undrew (((Below.refl W.heap.size W).alloc (Nat.le_refl _) (.cells #[.int .i64 0,.int .i64 0] 39)).drew))) (Canon.tr_one ?_)
       simp only [zgZ,zgS]
       go_wp2_with fail
       refine (I.out _ (((Below.refl W.heap.size W).alloc (Nat.le_refl _) (.cells #[.int .i64 0,.int .i64 0] 39)).drew)).mono ?_
       rintro e z ⟨rfl,rfl⟩
       go_wp2_with fail
       refine Canon.tr_end (keep_below (below_undrew (((Below.refl W.heap.size W).alloc (Nat.le_refl _) (.cells #[.int .i64 0,.int .i64 0] 39)).drew))) (Canon.tr_seg ?_)
       simp only [zmC,zmN,zgZ,zgS]
       go_wp2_with fail
       refine Canon.tr_to (Canon.tr_one ?_)
      case' zs28 =>
       simp only [zgZ,zgS]
       go_wp2_with fail
       refine (a4.out _ (((Below.refl W.heap.size W).alloc (Nat.le_refl _) (.cells #[.int .i64 0,.int .i64 0] 39)).drew)).mono ?_
       rintro e z ⟨rfl,rfl⟩
       go_wp2_with fail
       refine Canon.tr_end (keep_below (below_undrew (((Below.refl W.heap.size W).alloc (Nat.le_refl _) (.cells #[.int .i64 0,.int .i64 0] 39)).drew))) (Canon.tr_one ?_)
       simp only [zgZ,zgS]
       go_wp2_with fail
       refine Canon.tr_end (keep_below (below_undrew (((Below.refl W.heap.size W).alloc (Nat.le_refl _) (.cells #[.int .i64 0,.int .i64 0] 39)).drew))) (Canon.tr_seg ?_)
       simp only [zmC,zmN,zgZ,zgS]
       go_wp2_with fail
       refine Canon.tr_to (Canon.tr_one ?_)
       simp only [zgZ,zgS]
       go_wp2_with fail
       refine (I.out _ (((Below.refl W.heap.size W).alloc (Nat.le_refl _) (.cells #[.int .i64 0,.int .i64 0] 39)).drew)).mono ?_
       rintro e z ⟨rfl,rfl⟩
       go_wp2_with fail
       refine Canon.tr_end (keep_below (below_undrew (((Below.refl W.heap.size W).alloc (Nat.le_refl _) (.cells #[.int .i64 0,.int .i64 0] 39)).drew))) (Canon.tr_seg ?_)
       simp only [zmC,zmN,zgZ,zgS]
       go_wp2_with fail
       refine Canon.tr_to (Canon.tr_one ?_)
    case' zs3 =>
     simp only [zgZ,zgS]
     go_wp2_with fail
     refine Canon.tr_end (keep_below (below_undrew (((Below.refl W.heap.size W).alloc (Nat.le_refl _) (.cells #[.int .i64 0,.int .i64 0] 39)).drew))) (Canon.tr_alt ?zs29 (Canon.tr_one ?zs30))
     case' zs29 =>
      simp only [zgZ,zgS]
      go_wp2_with fail
      refine Canon.tr_end (keep_below (below_undrew (((Below.refl W.heap.size W).alloc (Nat.le_refl _) (.cells #[.int .i64 0,.int .i64 0] 39)).drew))) (Canon.tr_seg ?_)
      simp only [zmC,zmN,zgZ,zgS]
      go_wp2_with fail
      refine Canon.tr_to (Canon.tr_one ?_)
      simp only [zgZ,zgS]
      go_wp2_with fail
      refine Canon.tr_end (keep_below (below_undrew (((Below.refl W.heap.size W).alloc (Nat.le_refl _) (.cells #[.int .i64 0,.int .i64 0] 39)).drew))) (Canon.tr_seg ?_)
      simp only [zmC,zmN,zgZ,zgS]
      go_wp2_with fail
      refine Canon.tr_to (Canon.tr_one ?_)
      simp only [zgZ,zgS]
      go_wp2_with fail
      refine (a4.out _ (((Below.refl W.heap.size W).alloc (Nat.le_refl _) (.cells #[.int .i64 0,.int .i64 0] 39)).drew)).mono ?_
      rintro e z ⟨rfl,rfl⟩
      go_wp2_with fail
      refine Canon.tr_end (keep_below (below_undrew (((Below.refl W.heap.size W).alloc (Nat.le_refl _) (.cells #[.int .i64 0,.int .i64 0] 39)).drew))) (Canon.tr_one ?_)
      simp only [zgZ,zgS]
      go_wp2_with fail
      refine (I.out _ (((Below.refl W.heap.size W).alloc (Nat.le_refl _) (.cells #[.int .i64 0,.int .i64 0] 39)).drew)).mono ?_
      rintro e z ⟨rfl,rfl⟩
      go_wp2_with fail
      refine Canon.tr_end (keep_below (below_undrew (((Below.refl W.heap.size W).alloc (Nat.le_refl _) (.cells #[.int .i64 0,.int .i64 0] 39)).drew))) (Canon.tr_seg ?_)
      simp only [zmC,zmN,zgZ,zgS]
      go_wp2_with fail
      refine Canon.tr_to (Canon.tr_one ?_)
     case' zs30 =>
      simp only [zgZ,zgS]
      go_wp2_with fail
      refine Canon.tr_end (keep_below (below_undrew (((Below.refl W.heap.size W).alloc (Nat.le_refl _) (.cells #[.int .i64 0,.int .i64 0] 39)).drew))) (Canon.tr_seg ?_)
      simp only [zmC,zmN,zgZ,zgS]
      go_wp2_with fail
      refine Canon.tr_to (Canon.tr_alt ?zs31 (Canon.tr_one ?zs32))
      case' zs31 =>
       simp only [zgZ,zgS]
       go_wp2_with fail
       refine Canon.tr_end (keep_below (below_undrew (((Below.refl W.heap.size W).alloc (Nat.le_refl _) (.cells #[.int .i64 0,.int .i64 0] 39)).drew))) (Canon.tr_seg ?_)
       simp only [zmC,zmN,zgZ,zgS]
       go_wp2_with fail
       refine Canon.tr_to (Canon.tr_one ?_)
       simp only [zgZ,zgS]
       go_wp2_with fail
       refine (a4.out _ (((Below.refl W.heap.size W).alloc (Nat.le_refl _) (.cells #[.int .i64 0,.int .i64 0] 39)).drew)).mono ?_
       rintro e z ⟨rfl,rfl⟩
       go_wp2_with fail
       refine Canon.tr_end (keep_below (below_undrew (((Below.refl W.heap.size W).alloc (Nat.le_refl _) (.cells #[.int .i64 0,.int .i64 0] 39)).drew))) (Canon.tr_one ?_)
       simp only [zgZ,zgS]
       go_wp2_with fail
       refine (I.out _ (((Below.refl W.heap.size W).alloc (Nat.le_refl _) (.cells #[.int .i64 0,.int .i64 0] 39)).drew)).mono ?_
       rintro e z ⟨rfl,rfl⟩
       go_wp2_with fail
       refine Canon.tr_end (keep_below (below_undrew (((Below.refl W.heap.size W).alloc (Nat.le_refl _) (.cells #[.int .i64 0,.int .i64 0] 39)).drew))) (Canon.tr_seg ?_)
       simp only [zmC,zmN,zgZ,zgS]
       go_wp2_with fail
       refine Canon.tr_to (Canon.tr_one ?_)
      case' zs32 =>
       simp only [zgZ,zgS]
       go_wp2_with fail
       refine (a4.out _ (((Below.refl W.heap.size W).alloc (Nat.le_refl _) (.cells #[.int .i64 0,.int .i64 0] 39)).drew)).mono ?_
       rintro e z ⟨rfl,rfl⟩
       go_wp2_with fail
       refine Canon.tr_end (keep_below (below_undrew (((Below.refl W.heap.size W).alloc (Nat.le_refl _) (.cells #[.int .i64 0,.int .i64 0] 39)).drew))) (Canon.tr_one ?_)
       simp only [zgZ,zgS]
       go_wp2_with fail
       refine Canon.tr_end (keep_below (below_undrew (((Below.refl W.heap.size W).alloc (Nat.le_refl _) (.cells #[.int .i64 0,.int .i64 0] 39)).drew))) (Canon.tr_seg ?_)
       simp only [zmC,zmN,zgZ,zgS]
       go_wp2_with fail
       refine Canon.tr_to (Canon.tr_one ?_)
       simp only [zgZ,zgS]
       go_wp2_with fail
       refine (I.out _ (((Below.refl W.heap.size W).alloc (Nat.le_refl _) (.cells #[.int .i64 0,.int .i64 0] 39)).drew)).mono ?_
       rintro e z ⟨rfl,rfl⟩
       go_wp2_with fail
       refine Canon.tr_end (keep_below (below_undrew (((Below.refl W.heap.size W).alloc (Nat.le_refl _) (.cells #[.int .i64 0,.int .i64 0] 39)).drew))) (Canon.tr_seg ?_)
       simp only [zmC,zmN,zgZ,zgS]
       go_wp2_with fail
       refine Canon.tr_to (Canon.tr_one ?_)
    all_goals first
     | (
      simp only [zgZ,zgS]
      go_wp2_with fail
      refine (fb.out _).mono ?_
      rintro e w3 ⟨rfl,d9⟩
      have J:=(((Below.refl W.heap.size W).alloc (Nat.le_refl _) (.cells #[.int .i64 0,.int .i64 0] 39)).drew).trans (d9.mono (by simp))
      have ff:=((Bk.new W 39 [.int .i64 0,.int .i64 0]).drew).below d9 (by simp)
      have z0:w3.cell? ⟨W.heap.size,0,none⟩=some (.int .i64 0):=ff.cell 0
      have z1:w3.cell? ⟨W.heap.size,1,none⟩=some (.int .i64 0):=ff.cell 1
      have zf:=ff.frozen
      go_wp2_with fail
      refine Canon.tr_end (keep_below (below_undrew J)) (Canon.tr_one ?_)
      simp only [zgZ,zgS]
      go_wp2_with fail
      refine Canon.tr_end (keep_below (below_undrew ((J.setCell (p:=⟨W.heap.size,0,none⟩) (Nat.le_refl _) (.int .i64 q1)).setCell (p:=⟨W.heap.size,1,none⟩) (Nat.le_refl _) (.int .i64 q2)))) (Canon.tr_fin (by rfl) (List.forall_mem_cons.2 ⟨.inl ⟨_,rfl,(by first | (show d+1<_;omega) | (show d<_;omega) | (show g<_;omega)),by rw [World.cell?_drew,d1];rfl⟩,List.forall_mem_cons.2 ⟨.inl ⟨_,rfl,(by first | (show d+1<_;omega) | (show d<_;omega) | (show g<_;omega)),by rw [World.cell?_drew,d0];rfl⟩,List.forall_mem_cons.2 ⟨.inl ⟨_,rfl,(by first | (show d+1<_;omega) | (show d<_;omega) | (show g<_;omega)),by rw [World.cell?_drew,d5];rfl⟩,List.forall_mem_cons.2 ⟨.inl ⟨_,rfl,(by first | (show d+1<_;omega) | (show d<_;omega) | (show g<_;omega)),by rw [World.cell?_drew,d0];rfl⟩,List.forall_mem_cons.2 ⟨.inl ⟨_,rfl,(by first | (show d+1<_;omega) | (show d<_;omega) | (show g<_;omega)),by rw [World.cell?_drew,d5];rfl⟩,fun _ h=>by cases h⟩⟩⟩⟩⟩) ?_)
      exact ⟨rfl,_,rfl,(ff.set 0 (.int .i64 q1)).set 1 (.int .i64 q2),Nat.le_refl _,(J.setCell (p:=⟨W.heap.size,0,none⟩) (Nat.le_refl _) (.int .i64 q1)).setCell (p:=⟨W.heap.size,1,none⟩) (Nat.le_refl _) (.int .i64 q2)⟩)
     | (
      go_wp2_with fail
      refine (fb.out _).mono ?_
      rintro e w3 ⟨rfl,d9⟩
      have J:=((Below.refl W.heap.size W).drew).trans (d9.mono (Nat.le_refl _))
      go_wp2_with fail
      refine Canon.tr_end (keep_below (below_undrew J)) (Canon.tr_one ?_)
      simp only [zgZ,zgS]
      go_wp2_with fail
      refine Canon.tr_end (keep_below (below_undrew (J.alloc J.size (.cells #[.int .i64 0,.int .i64 0] 39)))) (Canon.tr_one ?_)
      simp only [zgZ,zgS]
      go_wp2_with fail
      refine Canon.tr_end (keep_below (below_undrew (J.alloc J.size (.cells #[.int .i64 q1,.int .i64 q2] 39)))) (Canon.tr_fin (by rfl) (List.forall_mem_cons.2 ⟨.inl ⟨_,rfl,(by first | (show d+1<_;omega) | (show d<_;omega) | (show g<_;omega)),by rw [World.cell?_drew,d1];rfl⟩,List.forall_mem_cons.2 ⟨.inl ⟨_,rfl,(by first | (show d+1<_;omega) | (show d<_;omega) | (show g<_;omega)),by rw [World.cell?_drew,d0];rfl⟩,List.forall_mem_cons.2 ⟨.inl ⟨_,rfl,(by first | (show d+1<_;omega) | (show d<_;omega) | (show g<_;omega)),by rw [World.cell?_drew,d5];rfl⟩,List.forall_mem_cons.2 ⟨.inl ⟨_,rfl,(by first | (show d+1<_;omega) | (show d<_;omega) | (show g<_;omega)),by rw [World.cell?_drew,d0];rfl⟩,List.forall_mem_cons.2 ⟨.inl ⟨_,rfl,(by first | (show d+1<_;omega) | (show d<_;omega) | (show g<_;omega)),by rw [World.cell?_drew,d5];rfl⟩,fun _ h=>by cases h⟩⟩⟩⟩⟩) ?_)
      exact ⟨rfl,_,rfl,Bk.new w3 39 [.int .i64 q1,.int .i64 q2],J.size,J.alloc J.size (.cells #[.int .i64 q1,.int .i64 q2] 39)⟩)
  case rest6 =>
   rintro a' E ⟨b,rfl,j5,ma,da⟩
   have lg:=da.size
   have gj:=e7.out.below da
   have io:E.cell? ⟨g,0,none⟩=some (.pointer s):=(da.cell (p:=⟨g,0,none⟩) l7).trans d5
   have ip:=gj.b0.cell
   have cu:=fun wz (hz:Below E.heap.size E wz)=>opp_calls ((ay.out.below da ay.out.le).below hz (by have:=ay.out.le;omega)) hs (pv x.1:Int)
   rw [tOpp_at (pv_lt x.2)] at cu
   have jf:=fun wz (hz:Below E.heap.size E wz)=>tab_prev ((ay.out.below da ay.out.le).below hz (by have:=ay.out.le;omega)) (c:=x.1) x.2
   have hh:decide (0<=oi (opp T (pv x.1)))=(opp T (pv x.1)).isSome:=oi_nonneg
   obtain ⟨y,hy⟩:∃ y,oi (opp T (pv x.1))=y:=⟨_,rfl⟩
   rw [hy] at cu hh
   have mf:g<E.heap.size:=by omega
   clear d5 d0 d1
   obtain ⟨jq,k8,er,ka,fv,n1⟩:=zz6 gj cu jf hh j5 hy;clear gj cu jf hh j5 hy
   gi_wp2_with fail
   refine wpIn_cut (fun a' z=>a'={ tmps:=#[.pointer (some ⟨g,0,none⟩),.int .i64 v,.pointer (some ⟨d,0,none⟩),.pointer (some ⟨d+1,0,none⟩),.slice none 0 0,.pointer (some ⟨d+1+1,0,none⟩),.pointer (some ⟨d+1+1+1,0,none⟩),.pointer (some ⟨d+1+1+1+1,0,none⟩),.int .i64 (x.1:Int),.pointer (some ⟨b,0,none⟩),.bool (decide (0<=y)),.pointer (some ⟨g,0,none⟩),.pointer (some ⟨g,0,none⟩),.pointer (some ⟨g,0,none⟩),.pointer s,.int .i64 v,.func (.func 124) #[] #[.pointer (some ⟨d+5,0,none⟩),.pointer (some ⟨d+5+1,0,none⟩)],.int .i64 (x.1:Int),.int .i64 v,.pointer (some ⟨g,0,none⟩),.pointer (some ⟨g,0,none⟩),.pointer (some ⟨g,0,none⟩),.pointer s,.pointer (some ⟨g,0,none⟩),.pointer (some ⟨g,0,none⟩),.pointer (some ⟨g,0,none⟩),.pointer s,.int .i64 (x.1:Int),.int .i64 (nx x.1:Int),.int .i64 u,.agg #[.int .i64 v,.int .i64 u],.agg #[.int .i64 q1,.int .i64 q2],.pointer (some ⟨g,0,none⟩),.pointer (some ⟨g,0,none⟩),.pointer (some ⟨g,0,none⟩),.pointer s,.pointer (some ⟨g,0,none⟩),.pointer (some ⟨g,0,none⟩),.pointer (some ⟨g,0,none⟩),.pointer s,.int .i64 (x.1:Int),.int .i64 (pv x.1:Int),.int .i64 y,.bool (decide (0<=y)),undef,undef,undef,undef,undef,undef,undef,undef,undef,undef,undef,undef,undef,undef,undef,undef,undef,undef,undef,undef,undef,undef,undef,undef,undef,undef,undef,undef,undef,undef,undef,undef,undef,undef,undef,undef,undef,undef,undef,undef,undef,undef,undef,undef,undef,undef,undef,undef,undef,undef,undef,undef,undef,undef,undef,undef,undef],defers:=[] }/\Below E.heap.size E z) ?first7 ?rest7
   case first7 =>
    refine (Canon.wide_round l).region_tree [0,3,4,7] (fun b=>b<E.heap.size) (.seg [0,4,8] (.alt 1 (.seg [2,3] (.alt 5 (.seg [6,7] (.alt 9 (.alt 10 (.seg [11,12] .fin) .no) .no)) .no)) (.alt 5 (.seg [6,7] (.alt 1 (.seg [2,3] (.alt 9 (.alt 10 (.seg [11,12] .fin) .no) .no)) (.alt 9 (.alt 1 (.seg [2,3] (.alt 10 (.seg [11,12] .fin) .no)) .no) .no))) .no))) (by rfl) mixed (by kernel_rfl) ?_
    refine Canon.tr_seg ?_
    simp only [zmC,zmN,zgZ,zgS]
    go_wp2_with fail
    refine Canon.tr_to (Canon.tr_alt ?zt1 (Canon.tr_one ?zt2))
    case' zt1 =>
     simp only [zgZ,zgS]
     go_wp2_with fail
     refine Canon.tr_end (keep_below (below_undrew ((Below.refl E.heap.size E).drew))) (Canon.tr_seg ?_)
     simp only [zmC,zmN,zgZ,zgS]
     go_wp2_with fail
     refine Canon.tr_to (Canon.tr_one ?_)
     simp only [zgZ,zgS]
     go_wp2_with fail
     refine Canon.tr_end (keep_below (below_undrew ((Below.refl E.heap.size E).drew))) (Canon.tr_seg ?_)
     simp only [zmC,zmN,zgZ,zgS]
     go_wp2_with fail
     refine Canon.tr_to (Canon.tr_one ?_)
     simp only [zgZ,zgS]
     go_wp2_with fail
     refine (er.out _ ((Below.refl E.heap.size E).drew)).mono ?_
     rintro e z ⟨rfl,rfl⟩
     go_wp2_with fail
     refine Canon.tr_end (keep_below (below_undrew ((Below.refl E.heap.size E).drew))) (Canon.tr_one ?_)
    case' zt2 =>
     simp only [zgZ,zgS]
     go_wp2_with fail
     refine Canon.tr_end (keep_below (below_undrew ((Below.refl E.heap.size E).drew))) (Canon.tr_seg ?_)
     simp only [zmC,zmN,zgZ,zgS]
     go_wp2_with fail
     refine Canon.tr_to (Canon.tr_alt ?zt3 (Canon.tr_one ?zt4))
     case' zt3 =>
      simp only [zgZ,zgS]
      go_wp2_with fail
      refine Canon.tr_end (keep_below (below_undrew ((Below.refl E.heap.size E).drew))) (Canon.tr_seg ?_)
      simp only [zmC,zmN,zgZ,zgS]
      go_wp2_with fail
      refine Canon.tr_to (Canon.tr_one ?_)
      simp only [zgZ,zgS]
      go_wp2_with fail
      refine (er.out _ ((Below.refl E.heap.size E).drew)).mono ?_
      rintro e z ⟨rfl,rfl⟩
      go_wp2_with fail
      refine Canon.tr_end (keep_below (below_undrew ((Below.refl E.heap.size E).drew))) (Canon.tr_one ?_)
     case' zt4 =>
      simp only [zgZ,zgS]
      go_wp2_with fail
      refine (er.out _ ((Below.refl E.heap.size E).drew)).mono ?_
      rintro e z ⟨rfl,rfl⟩
      go_wp2_with fail
      refine Canon.tr_end (keep_below (below_undrew ((Below.refl E.heap.size E).drew))) (Canon.tr_one ?_)
      simp only [zgZ,zgS]
      go_wp2_with fail
      refine Canon.tr_end (keep_below (below_undrew ((Below.refl E.heap.size E).drew))) (Canon.tr_seg ?_)
      simp only [zmC,zmN,zgZ,zgS]
      go_wp2_with fail
      refine Canon.tr_to (Canon.tr_one ?_)
    all_goals
     simp only [zgZ,zgS]
     go_wp2_with fail
     refine (k8.out _ ((Below.refl E.heap.size E).drew)).mono ?_
     rintro e w3 ⟨rfl,d9⟩
     have J:=((Below.refl E.heap.size E).drew).trans (d9.mono (Nat.le_refl _))
     go_wp2_with fail
     refine Canon.tr_end (keep_below (below_undrew J)) (Canon.tr_seg ?_)
     simp only [zmC,zmN,zgZ,zgS]
     go_wp2_with fail
     refine Canon.tr_to (Canon.tr_fin (by rfl) (List.forall_mem_cons.2 ⟨.inl ⟨_,rfl,(by first | (show d<_;omega) | (show g<_;omega)),by rw [World.cell?_drew,ip];rfl⟩,List.forall_mem_cons.2 ⟨.inl ⟨_,rfl,(by first | (show d<_;omega) | (show g<_;omega)),by rw [World.cell?_drew,io];rfl⟩,List.forall_mem_cons.2 ⟨.inl ⟨_,rfl,(by first | (show d<_;omega) | (show g<_;omega)),by rw [World.cell?_drew,ip];rfl⟩,List.forall_mem_cons.2 ⟨.inl ⟨_,rfl,(by first | (show d<_;omega) | (show g<_;omega)),by rw [World.cell?_drew,io];rfl⟩,fun _ h=>by cases h⟩⟩⟩⟩) ?_)
     exact ⟨rfl,rfl,J⟩
   case rest7 =>
    rintro a' Z ⟨rfl,az⟩
    have ni:=az.size
    have ah:=jq.out.below az
    have dt:=da.trans (az.mono lg)
    have dw:=keeps_below dt
    have ba:=fv.out.below az (by have:=fv.out.lt;omega)
    have m9:=ba.lt
    have e0:Z.cell? ⟨b,0,none⟩=some (.int .i64 q1):=ba.cell 0
    have e1:Z.cell? ⟨b,1,none⟩=some (.int .i64 q2):=ba.cell 1
    have n6:=Hh.out
    rw [ka.out]
    obtain ⟨ob,dc⟩:∃ ob,(opp T (pv x.1)).isSome=ob:=⟨_,rfl⟩
    rw [dc]
    have mg:g<Z.heap.size:=by omega
    have gp:Below d w Z:=ah.bl
    obtain ⟨S,d7,d8⟩:=Hh.out.cuts
    have n8:=d7.lt
    have fe:=d7.below gp (by omega)
    have n3:Z.cell? ⟨g,1,none⟩=some (.map (some bc)):=(gp.cell (p:=⟨g,1,none⟩) gu).trans (Hh.out.blk.cell 1)
    have n4:=ah.b0.cell
    have cv:pBv T (L.map nm) v x.1=(Words.look S (q1,q2)).isSome:=by
     unfold pBv
     rw [ik.out,show (q1,q2)=nm (v,u) from Prod.ext g7.out.symm g8.out.symm]
     cases G:(Words.look S (nm (v,u))).isSome with
     | true=>exact decide_eq_true ((d8 _).1 G)
     | false=>exact decide_eq_false fun h8=>by rw [(d8 _).2 h8] at G;cases G
    obtain ⟨vo,V,rv,g1,g2,g3,g4,g5,g6⟩:=ah.len
    have r3:=g3.cell
    have r2:=g1.cell
    have r4:=ah.b4.cell
    have di:=g1.frozen
    have fi:=g3.frozen
    have fj:=ah.b4.frozen
    obtain ⟨i0,hi,df,dg,dh⟩:=info_parts infoInt
    have dx:ok2 (q1,q2):=by
     have ld:=hs.rng (nx x.1) (nx_lt x.2)
     have nf:=hs.nmax
     rw [ik.out] at ld
     have a1:=g7.out
     have a2:=g8.out
     unfold nm at a1 a2
     simp only [] at a1 a2
     exact ⟨by unfold I64;simp only [];omega,by unfold I64;simp only [];omega⟩
    have km:(splL (pBv T (L.map nm) v) (F.map (·.1))).2.length<=100000:=by
     have:=splL_few (pBv T (L.map nm) v) (F.map (·.1))
     rw [List.length_map] at this
     have:=hs.tmax
     omega
    have du:(splL (pBv T (L.map nm) v) (F.map (·.1))).1.length<=50000:=by
     have:=splL_fewo (pBv T (L.map nm) v) (F.map (·.1))
     rw [List.length_map] at this
     have:=hs.tmax
     omega
    by_cases hP:F.map (·.1)=[]
    ·rw [hP] at ah g4 g5 g6
     have H:splL (pBv T (L.map nm) v) []=([],[]):=rfl
     rw [H] at ah g4 g5 g6
     simp only [List.nil_append] at g4
     obtain ⟨A3,b8,rfl,j6⟩:=own_form g5
     simp only [List.length_nil] at r3 j6
     have ks:V=[]:=List.length_eq_zero_iff.1 g6
     subst ks
     have ac:splL (pBv T (L.map nm) v) (F.map (·.1)++[x.1])=([],[x.1]):=by rw [hP,splL_snoc];rfl
     have dd:opn T (L.map nm) v (F.map (·.1)++[x.1])=(ob && !(Words.look S (q1,q2)).isSome):=by rw [hP];show ((opp T (pv x.1)).isSome && !pBv T (L.map nm) v x.1)=_;rw [dc,cv]
     obtain ⟨ax,bd⟩:∃ ax,(Words.look S (q1,q2)).isSome=ax:=⟨_,rfl⟩
     rw [bd] at dd
     obtain ⟨dj,c5,hx,js,jt,eq,k9,bv,ih,ii,d3,ij⟩:=zz12 ah dw ba d7 d8 fe cv g1 g2 g3 g4 g5;obtain ⟨a5,cd,dq,k0,dm⟩:=zz5 ac dd bd dc dx;clear ah dw ba d7 d8 fe cv g1 g2 g3 g4 g5 ac dd bd dc dx
     cases ob with
     | true =>
      gi_wp2_with fail
      refine (Canon.wide_round l).region_tree [6] (fun b'=>b'=b) (.seg [0,1,2,6] (.alt 3 (.seg [4,5] (.alt 7 (.seg [8,9] (.alt 10 .fin .no)) .no)) .no)) (by rfl) mixed (by kernel_rfl) ?_
      refine Canon.tr_seg ?_
      simp only [zmC,zmN,zgZ,zgS]
      go_wp2_with fail
      refine Canon.tr_to (Canon.tr_one ?_)
      simp only [zgZ,zgS]
      go_wp2_with fail
      refine Canon.tr_end (fun _ _=>rfl) (Canon.tr_seg ?_)
      simp only [zmC,zmN,zgZ,zgS]
      go_wp2_with fail
      refine Canon.tr_to (Canon.tr_one ?_)
      simp only [zgZ,zgS]
      refine wpList_lookG _ (by rfl) _ _ 103 rfl 39 4 keyE Tryz.underlying103 zero_bool bc S rfl eq.out.drew (q1,q2) rfl dm.out ?_
      rw [look_yes,dq.out]
      go_wp2_with fail
      refine Canon.tr_end (fun _ _=>rfl) (Canon.tr_seg ?_)
      simp only [zmC,zmN,zgZ,zgS]
      go_wp2_with fail
      refine Canon.tr_to (Canon.tr_one ?_)
      simp only [zgZ,zgS]
      go_wp2_with fail
      refine Canon.tr_end (fun b' hb'=>by subst hb';exact Below.heap_setCell Z ⟨d+1+1+1+1,0,none⟩ (.bool !ax) _ (by show _≠d+1+1+1+1;omega)) (Canon.tr_fin (by rfl) (List.forall_mem_cons.2 ⟨.inl ⟨_,rfl,rfl,by rw [World.cell?_drew,e0];rfl⟩,fun _ h=>by cases h⟩) ?_)
      obtain ⟨a9,cr,cn⟩:=dj.out.mark (!ax)
      have ai:=(c5.out.trans cr).trans (KeepsOthers.drew _)
      have aq:Below d W (Z.setCell ⟨d+1+1+1+1,0,none⟩ (.bool !ax)).drew:=((dt.mono (by omega)).trans cn).drew
      have M:=a9.below (Below.refl _ _).drew
      obtain ⟨W8,bz⟩:∃ W8,W8=(Z.setCell ⟨d+1+1+1+1,0,none⟩ (.bool !ax)).drew:=⟨_,rfl⟩
      rw [<- bz] at ai aq M ⊢
      clear bz r2 r3 r4 di fi fj e0 e1 cr cn a9
      have cc:=zz ai;clear ai
      obtain ⟨jl,jo,eo,k1,Q,k3,k4,k5,k6⟩:=M.len
      have hm:=k3.cell
      have aw:=M.sz
      have ck:=e7.out.b5.cell
      clear k6
      obtain ⟨a6,t,Y,b7⟩:=zz4 k1 Q k4 M;clear k1 Q k4 M
      gi_wp2_with (gi_at_builtin;(refine wpListIn_append_own_at _ rfl _ _ 28 rfl (d+7) 3 i0 (.int .i64 0) 1 8 Tryz.underlying28 hi df dg dh rfl (by decide) eo _ _ rfl (k5.alloc _) ⟨W8.heap.size,0,none⟩ 1 1 [.int .i64 (x.1:Int)] rfl rfl (cell_one_new _ _ _) (by simp [Value.oneCell']) (by unfold maxLen;first | omega | (simp;done) | (simp;omega)) (by first | omega | (simp;done) | (simp;omega)) (by first | omega | (simp;done) | (simp;omega)) ?_;intro v' w1 f m _ bn;obtain ⟨g',cap',rfl⟩:=ownsRow_succ f;obtain ⟨P,-⟩:=own_append (B:=d+1+1+1) k3 (by omega) k5 aw f m;have cp:=P.cell;have cq:=P.frozen))
      obtain ⟨an,cs,co⟩:=b7.out.app a6.out t.out k3 Y.out f m bn
      refine ⟨cc.out.trans cs,⟨aq.trans co,an.b5.cell.trans ck.symm⟩,?_⟩
      show SecI w d g s v T (L.map nm) ((F++[x]).map (·.1)) _
      rw [List.map_append,List.map_cons,List.map_nil]
      exact secI_of a5.out cd.out an
     | false =>
      gi_wp2_with fail
      refine (Canon.wide_round l).region_tree [6] (fun b'=>b'=b) (.seg [0,1,2,6] (.alt 3 (.seg [4,5] (.alt 7 (.seg [8,9] (.alt 10 .fin .no)) .no)) .no)) (by rfl) mixed (by kernel_rfl) ?_
      refine Canon.tr_seg ?_
      simp only [zmC,zmN,zgZ,zgS]
      go_wp2_with fail
      refine Canon.tr_to (Canon.tr_one ?_)
      simp only [zgZ,zgS]
      go_wp2_with fail
      refine Canon.tr_end (fun _ _=>rfl) (Canon.tr_seg ?_)
      simp only [zmC,zmN,zgZ,zgS]
      go_wp2_with fail
      refine Canon.tr_to (Canon.tr_one ?_)
      simp only [zgZ,zgS]
      go_wp2_with fail
      refine Canon.tr_end (fun _ _=>rfl) (Canon.tr_seg ?_)
      simp only [zmC,zmN,zgZ,zgS]
      go_wp2_with fail
      refine Canon.tr_to (Canon.tr_one ?_)
      simp only [zgZ,zgS]
      go_wp2_with fail
      refine Canon.tr_end (fun b' hb'=>by subst hb';exact Below.heap_setCell Z ⟨d+1+1+1+1,0,none⟩ (.bool false) _ (by show _≠d+1+1+1+1;omega)) (Canon.tr_fin (by rfl) (List.forall_mem_cons.2 ⟨.inl ⟨_,rfl,rfl,by rw [World.cell?_drew,e0];rfl⟩,fun _ h=>by cases h⟩) ?_)
      obtain ⟨a9,cr,cn⟩:=dj.out.mark false
      have ai:=(c5.out.trans cr).trans (KeepsOthers.drew _)
      have aq:Below d W (Z.setCell ⟨d+1+1+1+1,0,none⟩ (.bool false)).drew:=((dt.mono (by omega)).trans cn).drew
      have M:=a9.below (Below.refl _ _).drew
      obtain ⟨W8,bz⟩:∃ W8,W8=(Z.setCell ⟨d+1+1+1+1,0,none⟩ (.bool false)).drew:=⟨_,rfl⟩
      rw [<- bz] at ai aq M ⊢
      clear bz r2 r3 r4 di fi fj e0 e1 cr cn a9
      have cc:=zz ai;clear ai
      obtain ⟨jl,jo,eo,k1,Q,k3,k4,k5,k6⟩:=M.len
      have hm:=k3.cell
      have aw:=M.sz
      have ck:=e7.out.b5.cell
      clear k6
      obtain ⟨a6,t,Y,b7⟩:=zz4 k1 Q k4 M;clear k1 Q k4 M
      gi_wp2_with (gi_at_builtin;(refine wpListIn_append_own_at _ rfl _ _ 28 rfl (d+7) 3 i0 (.int .i64 0) 1 8 Tryz.underlying28 hi df dg dh rfl (by decide) eo _ _ rfl (k5.alloc _) ⟨W8.heap.size,0,none⟩ 1 1 [.int .i64 (x.1:Int)] rfl rfl (cell_one_new _ _ _) (by simp [Value.oneCell']) (by unfold maxLen;first | omega | (simp;done) | (simp;omega)) (by first | omega | (simp;done) | (simp;omega)) (by first | omega | (simp;done) | (simp;omega)) ?_;intro v' w1 f m _ bn;obtain ⟨g',cap',rfl⟩:=ownsRow_succ f;obtain ⟨P,-⟩:=own_append (B:=d+1+1+1) k3 (by omega) k5 aw f m;have cp:=P.cell;have cq:=P.frozen))
      obtain ⟨an,cs,co⟩:=b7.out.app a6.out t.out k3 Y.out f m bn
      refine ⟨cc.out.trans cs,⟨aq.trans co,an.b5.cell.trans ck.symm⟩,?_⟩
      show SecI w d g s v T (L.map nm) ((F++[x]).map (·.1)) _
      rw [List.map_append,List.map_cons,List.map_nil]
      exact secI_of a5.out cd.out an
    ·have kk:0<(F.map (·.1)).length:=List.length_pos_iff.2 hP
     have dz:=(splL_rows (pBv T (L.map nm) v) _ kk).1
     have ha:splL (pBv T (L.map nm) v) (F.map (·.1)++[x.1])=splS (pBv T (L.map nm) v) (splL (pBv T (L.map nm) v) (F.map (·.1))) x.1:=splL_snoc _ _ _
     have dd:opn T (L.map nm) v (F.map (·.1)++[x.1])=opn T (L.map nm) v (F.map (·.1)):=by
      cases hq:F.map (·.1) with
      | nil=>exact absurd hq hP
      | cons a l=>rfl
     generalize opn T (L.map nm) v (F.map (·.1))=op at *
     generalize splL (pBv T (L.map nm) v) (F.map (·.1))=sp at *
     obtain ⟨out,row⟩:=sp
     simp only [] at ah g4 g5 g6 dz km du
     have jg:0<row.length:=List.length_pos_iff.2 dz
     obtain ⟨A3,b8,rfl,j6⟩:=own_form g5
     have mm:¬ ((row.length:Int)=0):=by omega
     obtain ⟨ax,bd⟩:∃ ax,(Words.look S (q1,q2)).isSome=ax:=⟨_,rfl⟩
     rw [bd] at cv
     have ac:splL (pBv T (L.map nm) v) (F.map (·.1)++[x.1])=if ax=true then (out++[row],[x.1]) else (out,row++[x.1]):=by
      rw [ha]
      unfold splS
      rw [if_neg (by simp only [];omega),cv]
     clear ha
     obtain ⟨dj,c5,hx,js,jt,eq,k9,bv,ih,ii,d3,ij⟩:=zz12 ah dw ba d7 d8 fe cv g1 g2 g3 g4 g5;obtain ⟨a5,cd,dq,k0,dm,lq⟩:=zz6 ac dd bd dc dx dz;clear ah dw ba d7 d8 fe cv g1 g2 g3 g4 g5 ac dd bd dc dx dz
     gi_wp2_with fail
     all_goals first | (exfalso;omega) | skip
     refine (Canon.wide_round l).region_tree [4] (fun b'=>b'=b) (.seg [0,4] (.alt 1 (.seg [2,3] (.alt 5 .fin .no)) .no)) (by rfl) mixed (by kernel_rfl) ?_
     refine Canon.tr_seg ?_
     simp only [zmC,zmN,zgZ,zgS]
     go_wp2_with fail
     refine Canon.tr_to (Canon.tr_one ?_)
     simp only [zgZ,zgS]
     go_wp2_with fail
     refine Canon.tr_end (fun _ _=>rfl) (Canon.tr_seg ?_)
     simp only [zmC,zmN,zgZ,zgS]
     go_wp2_with fail
     refine Canon.tr_to (Canon.tr_one ?_)
     simp only [zgZ,zgS]
     refine wpList_look _ rfl _ _ 103 rfl 39 4 keyE Tryz.underlying103 zero_bool bc S rfl eq.out.drew (q1,q2) rfl dm.out ?_
     rw [look_yes,dq.out]
     go_wp2_with fail
     refine Canon.tr_end (fun _ _=>rfl) (Canon.tr_fin (by rfl) (List.forall_mem_cons.2 ⟨.inl ⟨_,rfl,rfl,by rw [World.cell?_drew,e0];rfl⟩,fun _ h=>by cases h⟩) ?_)
     have a9:=dj.out.below (Below.refl Z.heap.size Z).drew
     have db:=c5.out.trans (KeepsOthers.drew Z)
     have cm:Below d W Z.drew:=(dt.mono (by omega)).drew
     have mh:=ih.out
     cases ax with
     | false =>
      have ac:=a5.out
      simp only [Bool.false_eq_true,if_false] at ac
      obtain ⟨W8,bz⟩:∃ W8,W8=Z.drew:=⟨_,rfl⟩
      rw [<- bz] at a9 db cm ⊢
      clear bz r2 r3 r4 di fi fj e0 e1 a5
      have M:=a9
      have aq:=cm
      have ai:=db
      clear a9 cm db
      obtain ⟨cc,a5⟩:=zz2 ai ac;clear ai ac
      obtain ⟨jl,jo,eo,k1,Q,k3,k4,k5,k6⟩:=M.len
      have hm:=k3.cell
      have aw:=M.sz
      have ck:=e7.out.b5.cell
      clear k6
      obtain ⟨a6,t,Y,b7⟩:=zz4 k1 Q k4 M;clear k1 Q k4 M
      gi_wp2_with (gi_at_builtin;(refine wpListIn_append_own_at _ rfl _ _ 28 rfl (d+7) 3 i0 (.int .i64 0) 1 8 Tryz.underlying28 hi df dg dh rfl (by decide) eo _ _ rfl (k5.alloc _) ⟨W8.heap.size,0,none⟩ 1 1 [.int .i64 (x.1:Int)] rfl rfl (cell_one_new _ _ _) (by simp [Value.oneCell']) (by unfold maxLen;first | omega | (simp;done) | (simp;omega)) (by first | omega | (simp;done) | (simp;omega)) (by first | omega | (simp;done) | (simp;omega)) ?_;intro v' w1 f m _ bn;obtain ⟨g',cap',rfl⟩:=ownsRow_succ f;obtain ⟨P,-⟩:=own_append (B:=d+1+1+1) k3 (by omega) k5 aw f m;have cp:=P.cell;have cq:=P.frozen))
      obtain ⟨an,cs,co⟩:=b7.out.app a6.out t.out k3 Y.out f m bn
      refine ⟨cc.out.trans cs,⟨aq.trans co,an.b5.cell.trans ck.symm⟩,?_⟩
      show SecI w d g s v T (L.map nm) ((F++[x]).map (·.1)) _
      rw [List.map_append,List.map_cons,List.map_nil]
      exact secI_of a5.out cd.out an
     | true =>
      have ac:=a5.out
      simp only [if_true] at ac
      clear a5
      obtain ⟨j0,hj,ej,el,em⟩:=info_parts infoRowS
      have hd:=a9.sz
      obtain ⟨lm,jn,nk,m1,m2,m3,m4,m5,m6⟩:=a9.len
      obtain ⟨A7,kc,rfl,-⟩:=own_form m5
      have li:=m1.cell
      have lj:=m3.cell
      have lk:=m1.frozen
      have ll:=m3.frozen
      have mq:jn.length<=100000:=by omega
      clear r2 r3 r4 di fi fj
      obtain ⟨W5,j3⟩:∃ W5,W5=Z.drew:=⟨_,rfl⟩
      rw [<- j3] at a9 db cm hd m1 m2 m3 m4 m5 li lj lk ll ⊢
      clear j3
      clear m6 g6
      obtain ⟨jr,jy,il,im,kx,n2,a5⟩:=zz7 a9 db m1 m3 m4 m5 ac;clear a9 db m1 m3 m4 m5 ac
      gi_wp2_with (gi_at_builtin;first
       | (refine wpListIn_append_own_at _ rfl _ _ 78 rfl (d+7) 28 j0 (.slice none 0 0) 1 24 Tryz.underlying78 hj ej el em rfl (by decide) lm _ _ rfl (m2.alloc _) ⟨W5.heap.size,0,none⟩ 1 1 [.slice A7 row.length kc] rfl rfl (cell_one_new _ _ _) (by simp [Value.oneCell']) (by unfold maxLen;omega) (by omega) (by simp;omega) ?_;intro v' w1 f m _ bn;obtain ⟨g',cap',rfl⟩:=ownsRow_succ f;obtain ⟨P,-,-,-,-,kp⟩:=own_append (B:=d+1+1) il.out (by omega) m2 hd f m;have cp:=P.cell;have cq:=P.frozen;have fh:=kp _ _ _ (show d+1+1+1<d+7 by omega) (by omega) im.out;have mb:=fh.cell;have me:=fh.frozen;obtain ⟨M,ai,aq,k1,Q,k3,k4⟩:=jr.out.push il.out m2 im.out kx.out f m;have aw:=M.sz;have hm:=k3.cell;obtain ⟨ly,b7,a6,t,Y⟩:=zz5 fh M k1 Q k4;clear fh M k1 Q k4)
       | go_loud (refine wpListIn_append_own_at _ rfl _ _ 28 rfl (d+7) 3 i0 (.int .i64 0) 1 8 Tryz.underlying28 hi df dg dh rfl (by decide) (.slice none 0 0) 0 [] rfl (World.ownsRow_nil _ _ _ _) ⟨_,0,none⟩ 1 1 [.int .i64 (x.1:Int)] rfl rfl (by have:=cell_one_new ((w1.setCell ⟨d+1+1,0,none⟩ (.slice (some ⟨g',0,none⟩) (jn.length+1) cap')).setCell ⟨d+1+1+1,0,none⟩ (.slice none 0 0)) (.int .i64 (x.1:Int)) 3;simpa using this) (by simp [Value.oneCell']) (by unfold maxLen;omega) (by omega) (by have:=aw;simp at this ⊢;omega) ?_;intro v2 w2 af ee _ kl;obtain ⟨n5,lr,rfl⟩:=ownsRow_succ af;obtain ⟨jj,-⟩:=own_append (B:=d+1+1+1) k3 (by omega) (World.ownsRow_nil _ _ _ _) aw af ee;have na:=jj.cell;have nc:=jj.frozen))
      obtain ⟨an,cs,co⟩:=b7.out.app (row:=[]) a6.out t.out k3 Y.out af ee kl
      have ck:=e7.out.b5.cell
      refine ⟨(jy.out.trans ai).trans cs,⟨(cm.trans aq).trans co,an.b5.cell.trans ck.symm⟩,?_⟩
      show SecI w d g s v T (L.map nm) ((F++[x]).map (·.1)) _
      rw [List.map_append,List.map_cons,List.map_nil]
      exact secI_of a5.out cd.out an
 case done =>
  intro D ys W hD lf hI hK
  obtain ⟨ko,ca⟩:=hs.ring_in hv
  have iz:SecI w d g s v T (L.map nm) (ringAt T N v) W:=by rw [<- lf];exact hI
  clear hI
  have gt:=pBv_ring (C:=L.map nm) ca
  have jh:=splL_congr gt
  have cu:=opn_ring (C:=L.map nm) ca
  have e2:∀ S,S.Perm (rows0 T (L.map nm) (ringAt T N v) (innerAt T N v))->S.Pairwise (fun x y=>¬ minL y<minL x)->Secs T (L.map nm) (hdV T (L.map nm) v) S:=fun S h1 h2=>ca.secs hs h1 h2
  have cw:rows0 T (L.map nm) (ringAt T N v) (innerAt T N v)=mrgL (openL T (L.map nm) (ringAt T N v) (innerAt T N v)) ((splL (pBv T (L.map nm) v) (ringAt T N v)).1++[(splL (pBv T (L.map nm) v) (ringAt T N v)).2]):=by unfold rows0;rw [jh]
  have d6:SecJ w d g s v (splL (pBv T (L.map nm) v) (ringAt T N v)).1 (splL (pBv T (L.map nm) v) (ringAt T N v)).2 (openL T (L.map nm) (ringAt T N v) (innerAt T N v)) W:=by rw [<- cu];exact iz
  have c8:∀ r∈(splL (pBv T (L.map nm) v) (ringAt T N v)).1++[(splL (pBv T (L.map nm) v) (ringAt T N v)).2],r≠[]/\r.length<=50000/\∀ c∈r,c<=50000:=by
   intro r hr
   have h1:=splL_lens _ _ r hr
   have h2:=hs.ring_len v
   have h3:=hs.tmax
   obtain ⟨q,hq⟩:=List.getElem?_of_mem hr
   obtain ⟨k1,Q⟩:=(splL_rows (pBv T (L.map nm) v) (ringAt T N v) ko).2.2 q r hq
   refine ⟨k1,by omega,fun c hc=>?_⟩
   obtain ⟨i,hi,rfl,_⟩:=(Q c).1 hc
   have:=((ca.mem _).1 (List.getElem_mem hi)).1
   omega
  have du:(splL (pBv T (L.map nm) v) (ringAt T N v)).1.length<=50000:=by
   have:=splL_fewo (pBv T (L.map nm) v) (ringAt T N v)
   have:=hs.ring_len v
   have:=hs.tmax
   omega
  rw [cw] at e2
  generalize openL T (L.map nm) (ringAt T N v) (innerAt T N v)=op at *
  generalize splL (pBv T (L.map nm) v) (ringAt T N v)=sp at *
  obtain ⟨out,row⟩:=sp
  simp only [] at e2 d6 c8 du
  clear iz gt jh cu cw
  obtain ⟨vo,V,rv,g1,g2,g3,g4,g5,g6⟩:=d6.len
  have j8:V.length<=50000:=by omega
  have ez:=d6.sz
  have r2:=g1.cell
  have r3:=g3.cell
  have di:=g1.frozen
  have r4:=d6.b4.cell
  obtain ⟨j0,hj,ej,el,em⟩:=info_parts infoRowS
  have ey:=c8 row (by simp)
  obtain ⟨a3,b8,rfl,-,-⟩:=own_some g5 (List.length_pos_iff.2 ey.1)
  obtain ⟨ln,gw⟩:∃ ln,ln=V.length:=⟨_,rfl⟩
  rw [<- gw] at g2
  have mj:ln<=50000:=by omega
  have h6:=Lib.hid g6
  have c2:=Lib.hid gw
  clear g6 gw j8
  have n7:d+7<=D:=by omega
  obtain ⟨c6,bj,ep,bv,ii,d3,ij,fd⟩:=zz8 e2 c8 d6 g1 g3 g4 g5 ey;clear e2 c8 d6 g1 g3 g4 g5 ey
  by_cases ei:op=true/\0<ln
  case neg =>
   have e3:∀ S,S.Perm (out++[row])->S.Pairwise (fun x y=>¬ minL y<minL x)->Secs T (L.map nm) (hdV T (L.map nm) v) S:=fun S h1 h2=>c6.out S (by
    unfold mrgL
    rw [if_neg (fun G=>ei ⟨G.1,by have:=G.2;simp at this;have:=h6.out;have:=c2.out;omega⟩)]
    exact h1) h2
   clear c6
   cases op with
   | false =>
    clear ei
    have dp:=zz e3;clear e3
    gi_wp2_with (gi_at_builtin;refine wpListIn_append_own_at _ rfl _ _ 78 rfl (d+7) 28 j0 (.slice none 0 0) 1 24 Tryz.underlying78 hj ej el em rfl (by decide) vo ln V rfl (g2.alloc _) ⟨W.heap.size,0,none⟩ 1 1 [.slice (some ⟨a3,0,none⟩) row.length b8] rfl rfl (cell_one_new _ _ _) (by simp [Value.oneCell']) (by unfold maxLen;omega) (by omega) (by simp;omega) ?_;intro v' w1 f m _ bn;obtain ⟨gr,cap',rfl⟩:=ownsRow_succ f;have eh:=c2.out;subst eh;obtain ⟨P,-⟩:=own_append (B:=d+1+1) bv.out (by omega) g2 ez f m;have cp:=P.cell;have cq:=P.frozen;obtain ⟨k1,Q,k4,k5,k6,k7⟩:=ep.out.tell bv.out g2 d3.out f m;have hl:=k5.cell;obtain ⟨a6,t,Y,gc,d4,bw⟩:=zz6 k1 Q k4 k5 k6 k7;clear k1 Q k4 k5 k6 k7)
    have ev:=(t.out.lt gr rfl).1
    have c3:=sortrows_calls (Ls:=out++[row]) t.out (by have:=h6.out;simp;omega) (by omega) (by omega) (fam_rowAt Y.out bj.out t.out)
    refine ⟨trivial,(callsIn_wide.2 c3).mono ?_⟩
    clear c3
    rintro e W5 ⟨rfl,o,jm,bx,ab,au,U,c1,a7⟩
    have ap:=a6.out.kept o (fun H=>by injection H with H;omega)
    have jk:=ap.cell
    have ao:W5.heap[D]? = some (.deferred (some [])):=(d4.out.trans (KeepsOthers.of_grownBy o (own_cells t.out))).same _ _ hK rfl
    have R:Below d w W5:=bw.out.grown o (by have:=bw.out.size;omega) (fun k H=>by injection H with H;omega)
    have aa:=rows_back (o':=.deferred none) (lo:=w.heap.size) (by omega) U (by rw [ab.length_eq,List.length_append];have:=h6.out;simp only [List.length_cons,List.length_nil];omega) o a7 ao rfl
    have av:=dp.out bx ab au
    have ar:Below w.heap.size w (W5.putObj D (.deferred none)):=by
     rw [<- br.out]
     exact R.trans (belowK_b (w:=w0) (by omega) W5 D _ _ hD ao rfl rfl)
    obtain ⟨am,bm,bi,fu,f9,g0,ga,eb,fy,fc,ea⟩:=zz11 aa av ar ap o ab au U c1 a7 R;clear aa av ar ap o ab au U c1 a7 R
    gi_wp2_with fail
    refine ⟨by simp,.inl ⟨_,_,rfl,run_takeDeferred ao,?_⟩⟩
    refine ⟨_,results_tmp rfl _ _ _,⟨.slice (some ⟨gr,0,none⟩) (V.length+1) cap',bx,rfl,bm.out,am.out⟩,bi.out⟩
   | true =>
    have h0:ln<=0:=by have:¬ (0<ln):=fun G=>ei ⟨rfl,G⟩;omega
    clear ei
    have dp:=zz e3;clear e3
    gi_wp2_with (gi_at_builtin;refine wpListIn_append_own_at _ rfl _ _ 78 rfl (d+7) 28 j0 (.slice none 0 0) 1 24 Tryz.underlying78 hj ej el em rfl (by decide) vo ln V rfl (g2.alloc _) ⟨W.heap.size,0,none⟩ 1 1 [.slice (some ⟨a3,0,none⟩) row.length b8] rfl rfl (cell_one_new _ _ _) (by simp [Value.oneCell']) (by unfold maxLen;omega) (by omega) (by simp;omega) ?_;intro v' w1 f m _ bn;obtain ⟨gr,cap',rfl⟩:=ownsRow_succ f;have eh:=c2.out;subst eh;obtain ⟨P,-⟩:=own_append (B:=d+1+1) bv.out (by omega) g2 ez f m;have cp:=P.cell;have cq:=P.frozen;obtain ⟨k1,Q,k4,k5,k6,k7⟩:=ep.out.tell bv.out g2 d3.out f m;have hl:=k5.cell;obtain ⟨a6,t,Y,gc,d4,bw⟩:=zz6 k1 Q k4 k5 k6 k7;clear k1 Q k4 k5 k6 k7)
    all_goals first | (exfalso;omega) | skip
    have ev:=(t.out.lt gr rfl).1
    have c3:=sortrows_calls (Ls:=out++[row]) t.out (by have:=h6.out;simp;omega) (by omega) (by omega) (fam_rowAt Y.out bj.out t.out)
    refine ⟨trivial,(callsIn_wide.2 c3).mono ?_⟩
    clear c3
    rintro e W5 ⟨rfl,o,jm,bx,ab,au,U,c1,a7⟩
    have ap:=a6.out.kept o (fun H=>by injection H with H;omega)
    have jk:=ap.cell
    have ao:W5.heap[D]? = some (.deferred (some [])):=(d4.out.trans (KeepsOthers.of_grownBy o (own_cells t.out))).same _ _ hK rfl
    have R:Below d w W5:=bw.out.grown o (by have:=bw.out.size;omega) (fun k H=>by injection H with H;omega)
    have aa:=rows_back (o':=.deferred none) (lo:=w.heap.size) (by omega) U (by rw [ab.length_eq,List.length_append];have:=h6.out;simp only [List.length_cons,List.length_nil];omega) o a7 ao rfl
    have av:=dp.out bx ab au
    have ar:Below w.heap.size w (W5.putObj D (.deferred none)):=by
     rw [<- br.out]
     exact R.trans (belowK_b (w:=w0) (by omega) W5 D _ _ hD ao rfl rfl)
    obtain ⟨am,bm,bi,fu,f9,g0,ga,eb,fy,fc,ea⟩:=zz11 aa av ar ap o ab au U c1 a7 R;clear aa av ar ap o ab au U c1 a7 R
    gi_wp2_with fail
    refine ⟨by simp,.inl ⟨_,_,rfl,run_takeDeferred ao,?_⟩⟩
    refine ⟨_,results_tmp rfl _ _ _,⟨.slice (some ⟨gr,0,none⟩) (V.length+1) cap',bx,rfl,bm.out,am.out⟩,bi.out⟩
  case pos =>
   obtain ⟨rfl,mi⟩:=ei
   obtain ⟨r0,out2,bb⟩:∃ r0 out2,out=r0 :: out2:=by
    have G:0<out.length:=by have:=h6.out;have:=c2.out;omega
    exact ⟨out[0],out.tail,by cases out with
     | nil=>simp at G
     | cons a l=>rfl⟩
   obtain ⟨v0,vs2,de⟩:∃ v0 vs2,V=v0 :: vs2:=by
    have G:0<V.length:=by have:=c2.out;omega
    exact ⟨V[0],V.tail,by cases V with
     | nil=>simp at G
     | cons a l=>rfl⟩
   have cw:=bj.out r0 (by rw [bb];simp)
   have fg:=d3.out.own 0 (by simp) (by simp)
   simp only [bb,de,List.cons_append,List.getElem_cons_zero] at fg
   obtain ⟨a0,dr,rfl,-,-⟩:=own_some fg (List.length_pos_iff.2 cw.1)
   have jb:out2.length=vs2.length:=by have:=h6.out;rw [bb,de] at this;simpa using this.symm
   have h5:∀ S,S.Perm ((row++r0) :: out2)->S.Pairwise (fun x y=>¬ minL y<minL x)->Secs T (L.map nm) (hdV T (L.map nm) v) S:=fun S h1 h2=>c6.out S (by
    have e:mrgL true (out++[row])=(row++r0) :: out2:=by
     unfold mrgL
     rw [if_pos ⟨rfl,by rw [bb];simp⟩,bb]
     simp
    rw [e];exact h1) h2
   clear c6
   have ml:=cw.2.1
   have mn:=fd.out.2.1
   have mo:vs2.length<=50000:=by have:=c2.out;rw [de,List.length_cons] at this;omega
   have gx:ln=vs2.length+1:=by have:=c2.out;rw [de,List.length_cons] at this;exact this
   obtain ⟨i2,lx,lv,fx,dn,ce,i1⟩:=zz7 h5 cw fg jb bb de gx;clear h5 cw fg jb bb de gx
   gi_wp2_with (gi_at_builtin;refine wpListIn_append_own_at _ rfl _ _ 78 rfl (d+7) 28 j0 (.slice none 0 0) 1 24 Tryz.underlying78 hj ej el em rfl (by decide) vo ln V rfl (g2.alloc _) ⟨W.heap.size,0,none⟩ 1 1 [.slice (some ⟨a3,0,none⟩) row.length b8] rfl rfl (cell_one_new _ _ _) (by simp [Value.oneCell']) (by unfold maxLen;omega) (by omega) (by simp;omega) ?_;intro v' w1 f m _ bn;obtain ⟨gr,cap',rfl⟩:=ownsRow_succ f;have eh:=c2.out;subst eh;obtain ⟨P,-⟩:=own_append (B:=d+1+1) bv.out (by omega) g2 ez f m;have cp:=P.cell;have cq:=P.frozen;obtain ⟨k1,Q,k4,k5,k6,k7⟩:=ep.out.tell bv.out g2 d3.out f m;have hl:=k5.cell;obtain ⟨a6,t,Y,gc,d4,bw⟩:=zz6 k1 Q k4 k5 k6 k7;clear k1 Q k4 k5 k6 k7)
   all_goals first | (exfalso;omega) | skip
   obtain ⟨W4,j2⟩:∃ W4,W4=w1.setCell ⟨d+1+1,0,none⟩ (.slice (some ⟨gr,0,none⟩) (V.length+1) cap'):=⟨_,rfl⟩
   rw [<- j2] at a6 t Y d4 bw ⊢
   clear j2 cp cq gc hl r2 r3 r4 di
   have Q:=t.out
   have ev:=Q.lt gr rfl
   have j7:V.length+1<=cap':=by
    obtain ⟨A,c9,H,G⟩:=own_form Q
    have:cap'=c9:=by injection H
    omega
   have cb:=fam_last Y.out
   have n9:=cb.lt a3 rfl
   have gy:W4.ownsRow (d+7) 3 1 (.slice (some ⟨a0,0,none⟩) r0.length dr) r0.length (r0.map Words.encI):=by
    have G:=Y.out.own 0 (by simp) (by simp)
    simp only [dn.out,ce.out,List.cons_append,List.getElem_cons_zero] at G
    exact G
   have cl:W4.cell? ⟨gr,V.length,none⟩=some (.slice (some ⟨a3,0,none⟩) row.length b8):=by rw [Q.cellAt _ (by omega)];simp
   have cz:W4.cell? ⟨gr,0,none⟩=some (.slice (some ⟨a0,0,none⟩) r0.length dr):=by rw [Q.cellAt 0 (by omega),ce.out];rfl
   have kb:=a6.out.cell
   have gm:=own_add gy
   have jc:=i1.out
   obtain ⟨i0,hi,df,dg,dh⟩:=info_parts infoInt
   have mk:gr≠a3:=fun H=>by
    subst H
    rcases own_apart Q cb (by decide) with G | G
    ·cases G
    ·exact G rfl
   obtain ⟨t,bk,lw,ht,jx,dl⟩:=zz6 Q cb gy gm j7 jc;clear Q cb gy gm j7 jc
   refine Canon.wide_wide.region_tree [0] (fun b=>b=d+1+1) (.seg [0,1,2,3,4,5,6,7,8,9] (.alt 10 (.seg [11] (.alt 12 .fin .no)) .no)) (by rfl) mixed (by kernel_rfl) ?_
   refine Canon.tr_seg ?_
   simp only [zmC,zmN,zgZ,zgS]
   go_wp2_with fail
   refine Canon.tr_to (Canon.tr_one ?_)
   simp only [zgZ,zgS]
   refine wpList_append_own_at _ rfl _ _ 28 rfl (d+7) 3 i0 (.int .i64 0) 1 8 Tryz.underlying28 hi df dg dh rfl (by decide) (.slice (some ⟨a3,0,none⟩) row.length b8) row.length (row.map Words.encI) rfl (own_drew bk.out) ⟨a0,0,none⟩ r0.length dr (r0.map Words.encI) rfl (by simp) (fun j u hj=>by rw [World.cell?_drew];exact ht.out j u hj) (fun u hu=>by obtain ⟨c,-,rfl⟩:=List.mem_map.1 hu;rfl) (by unfold maxLen;omega) (by omega) (by show d+7<=W4.heap.size;omega) ?_
   intro v2 w2 af bt _ _
   have jg:=List.length_pos_iff.2 fd.out.1
   obtain ⟨a2,cg,rfl,-,-⟩:=own_some af (Nat.add_pos_left jg _)
   have ev:=t.out.lt gr rfl
   have m8:=bk.out.lt a3 rfl
   have jd:d+1+1≠a3:=by omega
   have mr:W4.heap.size<=w2.heap.size:=bt.size
   have dv:=(own_drew t.out).kept bt (own_apart (own_drew bk.out) (own_drew t.out) (by decide))
   have gn:Boxed w2 (d+1+1) 78 (.slice (some ⟨gr,0,none⟩) (V.length+1) cap'):=Boxed.kept (W:=W4.drew) a6.out bt (fun H=>jd (by simpa [Value.ownBlock] using H))
   have j9:=bt.block (d+1+1) (by show d+1+1<W4.heap.size;omega) (fun H=>jd (by simpa [Value.ownBlock] using H))
   have kz:=dv.cellAt 0 (by omega)
   rw [ce.out] at kz
   simp only [List.cons_append,List.getElem?_cons_zero] at kz
   have nj:=dv.frozenAt 0
   obtain ⟨lp,hw,fw,fz,dk⟩:=zz5 dv gn j9 af bt;clear dv gn j9 af bt
   go_wp2_with fail
   refine Canon.tr_end (fun b hb=>by subst hb;exact fw.out) (Canon.tr_seg ?_)
   simp only [zmC,zmN,zgZ,zgS]
   go_wp2_with fail
   refine Canon.tr_to (Canon.tr_one ?_)
   simp only [zgZ,zgS]
   go_wp2_with fail
   refine Canon.tr_end (fun b hb=>?_) (Canon.tr_fin (by rfl) (List.forall_mem_cons.2 ⟨.inl ⟨_,rfl,(by show d+1+1=d+1+1;rfl),by rw [World.cell?_drew,kb];rfl⟩,fun _ h=>by cases h⟩) ?_)
   ·subst hb
    exact (Below.heap_setCell w2 ⟨gr,0,none⟩ (.slice (some ⟨a2,0,none⟩) (row.length+r0.length) cg) (d+1+1) (by show d+1+1≠gr;omega)).trans fw.out
   obtain ⟨Z,j4⟩:∃ Z,Z=w2.setCell ⟨gr,0,none⟩ (.slice (some ⟨a2,0,none⟩) (row.length+r0.length) cg):=⟨_,rfl⟩
   have gv:=(KeepsOthers.drew W4).trans ((KeepsOthers.of_grownBy dk.out (own_cells (own_drew bk.out))).trans (KeepsOthers.setCell w2 ⟨gr,0,none⟩ (.slice (some ⟨a2,0,none⟩) (row.length+r0.length) cg)))
   have gq:Below d w (w2.setCell ⟨gr,0,none⟩ (.slice (some ⟨a2,0,none⟩) (row.length+r0.length) cg)):=((bw.out.drew.grown dk.out (by show d<=W4.heap.size;omega) (fun k H=>by have e8:a3=k:=(by simpa [Value.ownBlock] using H);omega))).setCell (p:=⟨gr,0,none⟩) (by show d<=gr;omega) _
   have az:Boxed (w2.setCell ⟨gr,0,none⟩ (.slice (some ⟨a2,0,none⟩) (row.length+r0.length) cg)) (d+1+1) 78 (.slice (some ⟨gr,0,none⟩) (V.length+1) cap'):=hw.out.kept (grownBy_setCell' w2 gr _) (fun H=>by injection H with H;omega)
   have ex:=merged (b:=d+1+1) (gr:=gr) (cap':=cap') (v0:=.slice (some ⟨a0,0,none⟩) r0.length dr) (vs2:=vs2) (r0:=r0) (out2:=out2) (by omega) (.slice (some ⟨gr,0,none⟩) V.length cap') (by have G:=t.out;rw [dl.out,ce.out] at G;exact G) (by have G:=Y.out;rw [ce.out,dn.out] at G;exact G) dk.out fz.out (by have G:=bj.out;rw [dn.out] at G;exact G)
   rw [<- j4] at gv gq az ex ⊢
   have c7:=az.cell
   have f7:=az.frozen
   clear j4
   have md:V.length<=cap':=by have:=jx.out;omega
   obtain ⟨jz,jw,jv,fa⟩:=zz4 gv gq az ex;clear gv gq az ex
   gi_wp2_with fail
   obtain ⟨nl,mp,dy,kr⟩:=fa.out
   have kn:=jz.out.trans (KeepsOthers.setCell Z ⟨d+1+1,0,none⟩ (.slice (some ⟨gr,0,none⟩) V.length cap'))
   have gs:Below d w (Z.setCell ⟨d+1+1,0,none⟩ (.slice (some ⟨gr,0,none⟩) V.length cap')):=jw.out.setCell (p:=⟨d+1+1,0,none⟩) (by show d<=d+1+1;omega) _
   have aq:Boxed (Z.setCell ⟨d+1+1,0,none⟩ (.slice (some ⟨gr,0,none⟩) V.length cap')) (d+1+1) 78 (.slice (some ⟨gr,0,none⟩) V.length cap'):=jv.out.set _
   rw [<- dl.out] at dy
   clear fa
   generalize Z.setCell ⟨d+1+1,0,none⟩ (.slice (some ⟨gr,0,none⟩) V.length cap')=W8 at *
   have c3:=sortrows_calls (Ls:=(row++r0) :: out2) dy (by rw [List.length_cons,fx.out,<- dl.out]) (by omega) (by omega) kr
   refine ⟨trivial,(callsIn_wide.2 c3).mono ?_⟩
   clear c3
   rintro e W5 ⟨rfl,o,jm,bx,ab,au,U,c1,a7⟩
   have ap:=aq.kept o (fun H=>by injection H with H;omega)
   have jk:=ap.cell
   have ao:W5.heap[D]? = some (.deferred (some [])):=((d4.out.trans kn).trans (KeepsOthers.of_grownBy o (own_cells dy))).same _ _ hK rfl
   have R:Below d w W5:=gs.grown o (by have:=gs.size;omega) (fun k H=>by injection H with H;omega)
   have aa:=rows_back (o':=.deferred none) (lo:=w.heap.size) (by omega) U (by rw [ab.length_eq,List.length_cons,fx.out,<- dl.out]) o a7 ao rfl
   have av:=i2.out bx ab au
   have ar:Below w.heap.size w (W5.putObj D (.deferred none)):=by
    rw [<- br.out]
    exact R.trans (belowK_b (w:=w0) (by omega) W5 D _ _ hD ao rfl rfl)
   obtain ⟨am,bm,bi,fu,f9,g0,ga,eb,fy,fc,ea⟩:=zz11 aa av ar ap o ab au U c1 a7 R;clear aa av ar ap o ab au U c1 a7 R
   gi_wp2_with fail
   refine ⟨by simp,.inl ⟨_,_,rfl,run_takeDeferred ao,?_⟩⟩
   refine ⟨_,results_tmp rfl _ _ _,⟨.slice (some ⟨gr,0,none⟩) V.length cap',bx,rfl,bm.out,am.out⟩,bi.out⟩
 case stop =>
  rintro D c F W _ _ h _
  exact h.elim
end Go.Proofs.YtpbdcppaiafbgaaGreat
