/- Walks: cutter.sectors. -/
import Derived.Deep.Cut
import Derived.Maps.OwnIn
import Derived.Test.YtpbdcppaiafbgaaGreatIA
import Derived.Test.YtpbdcppaiafbgaaGreatGA
namespace Go.Proofs.YtpbdcppaiafbgaaGreat
open Go Go.RowKit Go.Words Go.Mesh
attribute [local go_sem] Oper.semAt_some
theorem tab_next {w : World} {B : Nat} {tv : Value} {N : Int} {T : List T3} (h : Tab w B tv N T) {c : Nat} (hc : c < 3 * T.length) : Calls Tryz.prog 78 #[tv, .int .i64 (c : Int)] w fun e w' => e = .returned (.int .i64 (nx c : Int)) ∧ w' = w := by
  obtain ⟨g, vt, gm, vf, m, F, hg9, h8, _⟩ := h
  rw [hg9]
  have := next_calls h8 (c : Int)
  rw [tNext_at hc] at this
  exact this
theorem tab_prev {w : World} {B : Nat} {tv : Value} {N : Int} {T : List T3} (h : Tab w B tv N T) {c : Nat} (hc : c < 3 * T.length) : Calls Tryz.prog 79 #[tv, .int .i64 (c : Int)] w fun e w' => e = .returned (.int .i64 (pv c : Int)) ∧ w' = w := by
  obtain ⟨g, vt, gm, vf, m, F, hg9, h8, _⟩ := h
  rw [hg9]
  have := prev_calls h8 (c : Int)
  rw [tPrev_at hc] at this
  exact this
theorem tab_vertex {w : World} {B : Nat} {tv : Value} {N : Int} {T : List T3} (h : Tab w B tv N T) {c : Nat} (hc : c < 3 * T.length) : Calls Tryz.prog 77 #[tv, .int .i64 (c : Int)] w fun e w' => e = .returned (.int .i64 (Mesh.vt T c)) ∧ w' = w := by
  obtain ⟨g, vt, gm, vf, m, F, hg9, h8, _⟩ := h
  rw [hg9]
  have := vertex_calls h8 (c : Int)
  rw [tVert_at hc] at this
  exact this
theorem wpIn_cut {F : Fence} {n : Nat} {P : Program} {s : Code} {K : Act → World → Prop} {Q' : Exit → Act → World → Prop} {a : Act} {w : World} (R : Act → World → Prop)
    (first : s.wpIn F n P (fun e a' w' => e = .normal ∧ R a' w') a w) (rest : ∀ a' w', R a' w' → K a' w') : s.wpIn F n P (Exit.then K Q') a w :=
  wpIn_mono first (by rintro e a' w' ⟨rfl, h⟩; exact rest a' w' h)
def pBv (T : List T3) (C : List (Int × Int)) (v : Int) (c : Nat) : Bool := decide (nm (v, vt T (nx c)) ∈ C)
theorem splL_congr {p q : Nat → Bool} : ∀ {l : List Nat}, (∀ c ∈ l, p c = q c) → splL p l = splL q l := fun {l} => by
  refine gind (motive := fun l => (∀ c ∈ l, p c = q c) → splL p l = splL q l) (fun _ => rfl) (fun l c ih h => ?_) l
  rw [splL_snoc, splL_snoc, ih fun x hx => h x (List.mem_append_left _ hx)]
  unfold splS
  rw [h c (by simp)]
theorem pBv_ring {T : List T3} {C : List (Int × Int)} {v : Int} {l : List Nat} {inner : Bool} (r : Ring T v l inner) : ∀ c ∈ l, pBv T C v c = pB T C c := fun c hc => by
  unfold pBv pB
  exact decide_eq_decide.2 (by unfold ctB; rw [((r.mem c).1 hc).2])
def opn (T : List T3) (C : List (Int × Int)) (v : Int) : List Nat → Bool
  | [] => false
  | c :: _ => (opp T (pv c)).isSome && !pBv T C v c
theorem opn_ring {T : List T3} {C : List (Int × Int)} {v : Int} {l : List Nat} {inner : Bool} (r : Ring T v l inner) : opn T C v l = openL T C l inner := by
  have hne := r.ne
  have hh := r.head hne
  have hc := pBv_ring (C := C) r
  cases l with
  | nil => simp at hne
  | cons c l =>
    have h0 := hc c (List.mem_cons_self ..)
    simp only [List.getElem_cons_zero] at hh
    show ((opp T (pv c)).isSome && !pBv T C v c) = (inner && !pB T C c)
    rw [h0]
    congr 1
    unfold bef at hh
    rw [Option.map_eq_none_iff] at hh
    cases ho : opp T (pv c) with
    | none => rw [hh.1 ho]; rfl
    | some d =>
      cases inner with
      | true => rfl
      | false => rw [hh.2 rfl] at ho; cases ho
theorem splL_lens (p : Nat → Bool) (l : List Nat) : ∀ r ∈ (splL p l).1 ++ [(splL p l).2], r.length ≤ l.length := by
  refine gind (motive := fun l => ∀ r ∈ (splL p l).1 ++ [(splL p l).2], r.length ≤ l.length) (fun r hr => ?_) (fun l c ih r hr => ?_) l
  · have e : (splL p []).1 ++ [(splL p []).2] = [[]] := rfl
    rw [e] at hr
    rw [List.mem_singleton.1 hr]; exact Nat.le_refl _
  · rw [splL_snoc] at hr
    have h2 : (splL p l).2.length ≤ l.length := ih _ (by simp)
    rw [List.length_append]
    unfold splS at hr
    split at hr
    · rcases List.mem_append.1 hr with h | h
      · have := ih r (List.mem_append_left _ h); omega
      · rw [List.mem_singleton.1 h, List.length_append]; omega
    · split at hr
      · rcases List.mem_append.1 hr with h | h
        · have := ih r h; omega
        · rw [List.mem_singleton.1 h]; simp
      · rcases List.mem_append.1 hr with h | h
        · have := ih r (List.mem_append_left _ h); omega
        · rw [List.mem_singleton.1 h, List.length_append]; omega
theorem splL_fewo (p : Nat → Bool) (l : List Nat) : (splL p l).1.length ≤ l.length := by
  refine gind (motive := fun l => (splL p l).1.length ≤ l.length) (Nat.le_refl _) (fun l c ih => ?_) l
  rw [splL_snoc, List.length_append]
  unfold splS
  split
  · simp; omega
  · split <;> simp <;> omega
theorem infoRowS : (Tryz.prog.info? 28).map (fun i => (i.zero, i.size, i.bytes)) = some (some (.slice none 0 0), 1, 24) := by kernel_rfl
theorem splL_few (p : Nat → Bool) (l : List Nat) : (splL p l).2.length ≤ l.length := by
  refine gind (motive := fun l => (splL p l).2.length ≤ l.length) (Nat.le_refl _) (fun l c ih => ?_) l
  rw [splL_snoc, List.length_append]
  unfold splS
  split
  · simp; omega
  · split <;> simp; omega
abbrev SecI (w : World) (gb g : Nat) (tg : Option Addr) (v : Int) (T : List T3) (C : List (Int × Int)) (pre : List Nat) (W : World) : Prop :=
  SecJ w gb g tg v (splL (pBv T C v) pre).1 (splL (pBv T C v) pre).2 (opn T C v pre) W
theorem secI_of {w : World} {gb g : Nat} {tg : Option Addr} {v : Int} {T : List T3} {C : List (Int × Int)} {l : List Nat} {out : List (List Nat)} {row : List Nat} {op : Bool} {W : World} (h1 : splL (pBv T C v) l = (out, row)) (h2 : opn T C v l = op) (h : SecJ w gb g tg v out row op W) : SecI w gb g tg v T C l W := by
  unfold SecI; rw [h1, h2]; exact h
theorem secI_own (w : World) (gb g : Nat) (tg : Option Addr) (v : Int) (T : List T3) (C : List (Int × Int)) {B : Nat} (hw : gb ≤ w.heap.size) (hB : gb ≤ B) : OwnFrom B (fun (pre : List (Cor T)) W => SecI w gb g tg v T C (pre.map (·.1)) W) :=
  fun _ _ _ _ hs hg hr => SecJ.non hw hB hs hg hr
set_option maxRecDepth 40000 in
set_option maxHeartbeats 8000000 in
theorem sectors_calls {w : World} {B g bc be : Nat} {tv sv wv : Value} {N n : Int} {T X : List T3} {L : List (Int × Int)} {O : List Int} (h : Ctr w B g bc be tv N T L n sv wv X O) (hs : Surf N T) (v : Int) (hv : 0 ≤ v ∧ v < N) :
    Calls Tryz.prog 107 #[.pointer (some ⟨g, 0, none⟩), .int .i64 v] w fun e w' => (∃ r S, e = .returned r ∧ Secs T (L.map nm) (hdV T (L.map nm) v) S ∧ Fresh w' w.heap.size r S) ∧ Below w.heap.size w w' := by
  refine (callsIn_wide (n := 6)).1 ?_
  refine callsIn_of_wp_marks Tryz.func107 rfl trivial ?_ rfl
  simp only [Tryz.ntmps107, List.size_toArray, List.length_cons, List.length_nil, Nat.reduceAdd, Nat.reduceSub, Array.replicate_succ, Array.replicate_zero, List.push_toArray, List.append_toArray, List.nil_append, List.cons_append]
  have hgl := h.blk.lt
  have c0 : w.cell? ⟨g, 0, none⟩ = some tv := h.blk.cell 0
  have htb := h.tab
  obtain ⟨tg, htg⟩ : ∃ tg, tv = .pointer tg := by
    obtain ⟨g9, _, _, _, _, _, h9, _⟩ := h.tab
    exact ⟨_, h9⟩
  subst htg
  obtain ⟨gb, hgb⟩ : ∃ gb, gb = w.heap.size := ⟨_, rfl⟩
  obtain ⟨wa, hwa⟩ : ∃ wa, wa = ((((w.alloc (.cells #[.pointer (some ⟨g, 0, none⟩)] 102)).alloc (.cells #[.int .i64 v] 3)).alloc (.cells #[.slice none 0 0] 78)).alloc (.cells #[.slice none 0 0] 28)).alloc (.cells #[.bool false] 4) := ⟨_, rfl⟩
  have Hh := Lib.hid h; clear h; have Hhtb := Lib.hid htb; clear htb
  gi_wp2_with fail
  rw [← hgb, ← hwa]
  have hB1 : Below gb w wa := by
    rw [hwa, hgb]; exact (((((Below.refl _ w).alloc (Nat.le_refl _) _).alloc (by simp) _).alloc (by simp; omega) _).alloc (by simp; omega) _).alloc (by simp; omega) _
  have b0 : Boxed wa gb 102 (.pointer (some ⟨g, 0, none⟩)) := by rw [hwa]; exact ((((boxed_new' hgb _ _).alloc _).alloc _).alloc _).alloc _
  have b1 : Boxed wa (gb + 1) 3 (.int .i64 v) := by rw [hwa]; exact (((boxed_new' (by simp [hgb]) _ _).alloc _).alloc _).alloc _
  have b2 : Boxed wa (gb + 1 + 1) 78 (.slice none 0 0) := by rw [hwa]; exact ((boxed_new' (by simp [hgb]) _ _).alloc _).alloc _
  have b3 : Boxed wa (gb + 1 + 1 + 1) 28 (.slice none 0 0) := by rw [hwa]; exact (boxed_new' (by simp [hgb]) _ _).alloc _
  have b4 : Boxed wa (gb + 1 + 1 + 1 + 1) 4 (.bool false) := by rw [hwa]; exact boxed_new' (by simp [hgb]) _ _
  have hsza : wa.heap.size = gb + 5 := by rw [hwa]; simp [hgb]
  clear hwa
  have d0 := b0.cell
  have d1 := b1.cell
  have hga : g < gb := by omega
  have c0a : wa.cell? ⟨g, 0, none⟩ = some (.pointer tg) := (hB1.cell (p := ⟨g, 0, none⟩) hga).trans c0
  have Hhgb := Lib.hid hgb; clear hgb; have HhB1 := Lib.hid hB1; clear hB1; have Hb0 := Lib.hid b0; clear b0; have Hb1 := Lib.hid b1; clear b1; have Hb2 := Lib.hid b2; clear b2; have Hb3 := Lib.hid b3; clear b3; have Hb4 := Lib.hid b4; clear b4
  refine Go.Canon.Wide.region_tree Go.Canon.wide_wide [4] (fun b => b < gb + 5) (.seg [0,4] (.alt 1 (.seg [2,3] (.alt 5 .fin .no)) .no)) (by rfl) mixed (by kernel_rfl) ?_
  refine Go.Canon.tr_seg ?_
  simp only [List.map_cons, List.map_nil, List.getD_cons_zero, List.getD_cons_succ]
  go_wp2_with fail
  refine Go.Canon.tr_to (Go.Canon.tr_one ?_)
  simp only [List.getD_cons_zero, List.getD_cons_succ]
  go_wp2_with fail
  refine Go.Canon.tr_end (fun _ _ => rfl) (Go.Canon.tr_seg ?_)
  simp only [List.map_cons, List.map_nil, List.getD_cons_zero, List.getD_cons_succ]
  go_wp2_with fail
  refine Go.Canon.tr_to (Go.Canon.tr_one ?_)
  simp only [List.getD_cons_zero, List.getD_cons_succ]
  go_wp2_with fail
  refine (around_calls _ _ _ rfl).mono ?_
  rintro e w1 ⟨rfl, rfl⟩
  go_wp2_with fail
  have hB2 : Below gb w ((wa.alloc (.cells #[.pointer tg] 46)).alloc (.cells #[.int .i64 v] 3)).drew := (((HhB1.out.alloc (by omega) _).alloc (by simp; omega) _).drew)
  have f0' := (Hb0.out.alloc (.cells #[.pointer tg] 46)).alloc (.cells #[.int .i64 v] 3)
  have f1' := (Hb1.out.alloc (.cells #[.pointer tg] 46)).alloc (.cells #[.int .i64 v] 3)
  have f2' := (Hb2.out.alloc (.cells #[.pointer tg] 46)).alloc (.cells #[.int .i64 v] 3)
  have f3' := (Hb3.out.alloc (.cells #[.pointer tg] 46)).alloc (.cells #[.int .i64 v] 3)
  have f4' := (Hb4.out.alloc (.cells #[.pointer tg] 46)).alloc (.cells #[.int .i64 v] 3)
  have f5' : Boxed ((wa.alloc (.cells #[.pointer tg] 46)).alloc (.cells #[.int .i64 v] 3)) (gb + 5) 46 (.pointer tg) := (boxed_new' hsza.symm _ _).alloc _
  have f6' : Boxed ((wa.alloc (.cells #[.pointer tg] 46)).alloc (.cells #[.int .i64 v] 3)) (gb + 5 + 1) 3 (.int .i64 v) := boxed_new' (by rw [World.size_alloc, hsza]) _ _
  have hszb : ((wa.alloc (.cells #[.pointer tg] 46)).alloc (.cells #[.int .i64 v] 3)).drew.heap.size = gb + 7 := by simp [hsza]
  have hkp : Go.Canon.KeepU (fun b => b < gb + 5) wa.drew ((wa.alloc (.cells #[.pointer tg] 46)).alloc (.cells #[.int .i64 v] 3)).drew := fun b hb => (Below.heap_alloc (wa.alloc (.cells #[.pointer tg] 46)) (.cells #[.int .i64 v] 3) b (by simp; omega)).trans (Below.heap_alloc wa (.cells #[.pointer tg] 46) b (by omega))
  refine Go.Canon.tr_end hkp (Go.Canon.tr_fin (by rfl) (List.forall_mem_cons.2 ⟨.inl ⟨_, rfl, (by show gb + 1 < gb + 5; omega), by rw [World.cell?_drew, d1]; rfl⟩, fun _ h => by cases h⟩) ?_)
  obtain ⟨w0, hw0⟩ : ∃ w0, w0 = ((wa.alloc (.cells #[.pointer tg] 46)).alloc (.cells #[.int .i64 v] 3)).drew := ⟨_, rfl⟩
  rw [← hw0] at hB2 hszb ⊢
  have f0 : Boxed w0 gb 102 (.pointer (some ⟨g, 0, none⟩)) := by rw [hw0]; exact f0'
  have f1 : Boxed w0 (gb + 1) 3 (.int .i64 v) := by rw [hw0]; exact f1'
  have f2 : Boxed w0 (gb + 1 + 1) 78 (.slice none 0 0) := by rw [hw0]; exact f2'
  have f3 : Boxed w0 (gb + 1 + 1 + 1) 28 (.slice none 0 0) := by rw [hw0]; exact f3'
  have f4 : Boxed w0 (gb + 1 + 1 + 1 + 1) 4 (.bool false) := by rw [hw0]; exact f4'
  have f5 : Boxed w0 (gb + 5) 46 (.pointer tg) := by rw [hw0]; exact f5'
  have f6 : Boxed w0 (gb + 5 + 1) 3 (.int .i64 v) := by rw [hw0]; exact f6'
  clear f0' f1' f2' f3' f4' f5' f6' hw0 hkp d0 d1 c0a c0 hsza HhB1 Hb0 Hb1 Hb2 Hb3 Hb4
  have hle := Hh.out.le
  have hBw := Hhtb.out.le
  have hgs : gb ≤ w.heap.size := by rw [Hhgb.out]; exact Nat.le_refl _
  have hBn : B ≤ gb := by rw [Hhgb.out]; exact hBw
  have hwg : w.heap.size ≤ gb := by rw [Hhgb.out]; exact Nat.le_refl _
  have hT2 := Hhtb.out.below (hB2.mono hBn) (Nat.le_refl _)
  have hlt : gb + 7 ≤ w0.heap.size := by omega
  have hI0 : SecI w gb g tg v T (L.map nm) [] w0 := ⟨f0, f1, f5, ⟨_, [], _, f2, World.ownsRow_nil _ _ _ _, f3, ⟨rfl, fun i h1 h2 => by simp at h1; subst h1; exact World.ownsRow_nil _ _ _ _, fun i j h1 h2 hne => by simp at h1 h2; omega⟩⟩, f4, hB2, hlt⟩
  clear hszb
  have HhI0 := Lib.hid hI0; clear hI0; have HhT2 := Lib.hid hT2; clear hT2; have Hf0 := Lib.hid f0; clear f0; have Hf1 := Lib.hid f1; clear f1; have Hf2 := Lib.hid f2; clear f2; have Hf3 := Lib.hid f3; clear f3; have Hf4 := Lib.hid f4; clear f4
  gi_wp2_with fail
  refine wpIn_rangeFunc_ownF rfl (by decide) (gf := 124) (lb := #[.pointer (some ⟨gb + 5, 0, none⟩), .pointer (some ⟨gb + 5 + 1, 0, none⟩)]) rfl trivial (enters_of Tryz.func124 (by kernel_rfl) rfl)
    (around_stopsN 5 (by decide) (gb + 5) (gb + 5 + 1) gb B (.pointer tg) N T v hs hBn w0 (by omega) (by omega) (by omega) f5.cell f6.cell (.inl HhT2.out)) keepB_t (keepB_b (by omega) (by omega)) (Below.refl _ _) (fun _ => rfl)
    (fun pre W => SecI w gb g tg v T (L.map nm) (pre.map (·.1)) W)
    (fun _ _ _ => False)
    ?hI ?hIx ?h0
    (fun x => { tmps := #[.pointer (some ⟨g, 0, none⟩), .int .i64 v, .pointer (some ⟨gb, 0, none⟩), .pointer (some ⟨gb + 1, 0, none⟩), .slice none 0 0, .pointer (some ⟨gb + 1 + 1, 0, none⟩), .pointer (some ⟨gb + 1 + 1 + 1, 0, none⟩), .pointer (some ⟨gb + 1 + 1 + 1 + 1, 0, none⟩), .int .i64 (x.1 : Int), undef, undef, .pointer (some ⟨g, 0, none⟩), .pointer (some ⟨g, 0, none⟩), .pointer (some ⟨g, 0, none⟩), .pointer tg, .int .i64 v, .func (.func 124) #[] #[.pointer (some ⟨gb + 5, 0, none⟩), .pointer (some ⟨gb + 5 + 1, 0, none⟩)], .int .i64 (x.1 : Int), undef, undef, undef, undef, undef, undef, undef, undef, undef, undef, undef, undef, undef, undef, undef, undef, undef, undef, undef, undef, undef, undef, undef, undef, undef, undef, undef, undef, undef, undef, undef, undef, undef, undef, undef, undef, undef, undef, undef, undef, undef, undef, undef, undef, undef, undef, undef, undef, undef, undef, undef, undef, undef, undef, undef, undef, undef, undef, undef, undef, undef, undef, undef, undef, undef, undef, undef, undef, undef, undef, undef, undef, undef, undef, undef, undef, undef, undef, undef, undef, undef, undef, undef], defers := [] }) ?assign ?body ?done ?stop
  case hI => exact secI_own w gb g tg v T (L.map nm) hgs (by omega)
  case hIx => exact fun _ _ _ _ _ hs _ _ => hs
  case h0 => exact HhI0.out
  case assign =>
    intro l x W K hK
    gi_wp2
    exact hK
  case body =>
    intro l pre x W hI hN
    have hT : T ≠ [] := fun h9 => by have h8 := x.2; have h7 := congrArg List.length h9; simp only [List.length_nil] at h7; omega
    have htbW : Tab W B (.pointer tg) N T := Hhtb.out.below (hI.bl.mono hBn) (Nat.le_refl _)
    have hsz := hI.sz
    have hgW : g < W.heap.size := by omega
    have c0W : W.cell? ⟨g, 0, none⟩ = some (.pointer tg) := (hI.bl.cell (p := ⟨g, 0, none⟩) hga).trans (Hh.out.blk.cell 0)
    have d0 := hI.b0.cell
    have d1 := hI.b1.cell
    have hnx := fun wz (hz : Below W.heap.size W wz) => tab_next (htbW.below hz htbW.le) (c := x.1) x.2
    have hvx := fun wz (hz : Below W.heap.size W wz) => tab_vertex (htbW.below hz htbW.le) (c := nx x.1) (nx_lt x.2)
    have hnmd := fun wz => named_calls (v, vt T (nx x.1)) wz
    change ∀ wz, Calls _ _ #[.agg #[.int .i64 v, .int .i64 (vt T (nx x.1))]] wz (fun r w' => r = .returned (.agg #[.int .i64 (nm (v, vt T (nx x.1))).1, .int .i64 (nm (v, vt T (nx x.1))).2]) ∧ _) at hnmd
    obtain ⟨u, hu⟩ : ∃ u, vt T (nx x.1) = u := ⟨_, rfl⟩
    rw [hu] at hvx hnmd
    obtain ⟨q1, hq1⟩ : ∃ q, (nm (v, u)).1 = q := ⟨_, rfl⟩
    obtain ⟨q2, hq2⟩ : ∃ q, (nm (v, u)).2 = q := ⟨_, rfl⟩
    rw [hq1, hq2] at hnmd
    have HhI := Lib.hid hI; clear hI; have HhtbW := Lib.hid htbW; clear htbW; have Hhnx := Lib.hid hnx; clear hnx; have Hhvx := Lib.hid hvx; clear hvx; have Hhnmd := Lib.hid hnmd; clear hnmd; have Hhu := Lib.hid hu; clear hu; have Hhq1 := Lib.hid hq1; clear hq1; have Hhq2 := Lib.hid hq2; clear hq2
    gi_wp2_with fail
    refine wpIn_cut (fun a' w' => ∃ b, a' = { tmps := #[.pointer (some ⟨g, 0, none⟩), .int .i64 v, .pointer (some ⟨gb, 0, none⟩), .pointer (some ⟨gb + 1, 0, none⟩), .slice none 0 0, .pointer (some ⟨gb + 1 + 1, 0, none⟩), .pointer (some ⟨gb + 1 + 1 + 1, 0, none⟩), .pointer (some ⟨gb + 1 + 1 + 1 + 1, 0, none⟩), .int .i64 (x.1 : Int), .pointer (some ⟨b, 0, none⟩), undef, .pointer (some ⟨g, 0, none⟩), .pointer (some ⟨g, 0, none⟩), .pointer (some ⟨g, 0, none⟩), .pointer tg, .int .i64 v, .func (.func 124) #[] #[.pointer (some ⟨gb + 5, 0, none⟩), .pointer (some ⟨gb + 5 + 1, 0, none⟩)], .int .i64 (x.1 : Int), .int .i64 v, .pointer (some ⟨g, 0, none⟩), .pointer (some ⟨g, 0, none⟩), .pointer (some ⟨g, 0, none⟩), .pointer tg, .pointer (some ⟨g, 0, none⟩), .pointer (some ⟨g, 0, none⟩), .pointer (some ⟨g, 0, none⟩), .pointer tg, .int .i64 (x.1 : Int), .int .i64 (nx x.1 : Int), .int .i64 u, .agg #[.int .i64 v, .int .i64 u], .agg #[.int .i64 q1, .int .i64 q2], undef, undef, undef, undef, undef, undef, undef, undef, undef, undef, undef, undef, undef, undef, undef, undef, undef, undef, undef, undef, undef, undef, undef, undef, undef, undef, undef, undef, undef, undef, undef, undef, undef, undef, undef, undef, undef, undef, undef, undef, undef, undef, undef, undef, undef, undef, undef, undef, undef, undef, undef, undef, undef, undef, undef, undef, undef, undef, undef, undef, undef, undef, undef, undef, undef, undef, undef, undef, undef], defers := [] } ∧ Bk w' b 39 [.int .i64 q1, .int .i64 q2] ∧ W.heap.size ≤ b ∧ Below W.heap.size W w') ?first6 ?rest6
    case first6 =>
        refine (Go.Canon.wide_round l).region_tree [0, 1, 4, 5, 8] (fun b => b < W.heap.size) (.seg [0,1,5,9] (.alt 2 (.seg [3,4] (.alt 6 (.seg [7,8] (.alt 10 (.alt 11 (.seg [12] (.alt 13 (.alt 14 (.alt 15 .fin .no) .no) (.alt 14 (.alt 13 (.alt 15 .fin .no) .no) .no))) (.alt 14 (.alt 11 (.seg [12] (.alt 13 (.alt 15 .fin .no) .no)) .no) .no)) (.alt 14 (.alt 10 (.alt 11 (.seg [12] (.alt 13 (.alt 15 .fin .no) .no)) .no) .no) .no))) (.alt 14 (.alt 6 (.seg [7,8] (.alt 10 (.alt 11 (.seg [12] (.alt 13 (.alt 15 .fin .no) .no)) .no) .no)) .no) .no))) (.alt 6 (.seg [7,8] (.alt 2 (.seg [3,4] (.alt 10 (.alt 11 (.seg [12] (.alt 13 (.alt 14 (.alt 15 .fin .no) .no) (.alt 14 (.alt 13 (.alt 15 .fin .no) .no) .no))) (.alt 14 (.alt 11 (.seg [12] (.alt 13 (.alt 15 .fin .no) .no)) .no) .no)) (.alt 14 (.alt 10 (.alt 11 (.seg [12] (.alt 13 (.alt 15 .fin .no) .no)) .no) .no) .no))) (.alt 10 (.alt 2 (.seg [3,4] (.alt 11 (.seg [12] (.alt 13 (.alt 14 (.alt 15 .fin .no) .no) (.alt 14 (.alt 13 (.alt 15 .fin .no) .no) .no))) (.alt 14 (.alt 11 (.seg [12] (.alt 13 (.alt 15 .fin .no) .no)) .no) .no))) (.alt 14 (.alt 2 (.seg [3,4] (.alt 11 (.seg [12] (.alt 13 (.alt 15 .fin .no) .no)) .no)) .no) .no)) (.alt 14 (.alt 2 (.seg [3,4] (.alt 10 (.alt 11 (.seg [12] (.alt 13 (.alt 15 .fin .no) .no)) .no) .no)) (.alt 10 (.alt 2 (.seg [3,4] (.alt 11 (.seg [12] (.alt 13 (.alt 15 .fin .no) .no)) .no)) .no) .no)) .no)))) (.alt 14 (.alt 2 (.seg [3,4] (.alt 6 (.seg [7,8] (.alt 10 (.alt 11 (.seg [12] (.alt 13 (.alt 15 .fin .no) .no)) .no) .no)) .no)) (.alt 6 (.seg [7,8] (.alt 2 (.seg [3,4] (.alt 10 (.alt 11 (.seg [12] (.alt 13 (.alt 15 .fin .no) .no)) .no) .no)) (.alt 10 (.alt 2 (.seg [3,4] (.alt 11 (.seg [12] (.alt 13 (.alt 15 .fin .no) .no)) .no)) .no) .no))) .no)) .no)))) (by rfl) mixed (by kernel_rfl) ?_
        refine Go.Canon.tr_seg ?_
        simp only [List.map_cons, List.map_nil, List.getD_cons_zero, List.getD_cons_succ]
        go_wp2_with fail
        refine Go.Canon.tr_to (Go.Canon.tr_alt ?_ (Go.Canon.tr_alt ?_ (Go.Canon.tr_one ?_)))
        · simp only [List.getD_cons_zero, List.getD_cons_succ]
          go_wp2_with fail
          refine Go.Canon.tr_end (keep_below (below_undrew ((Below.refl W.heap.size W).drew))) (Go.Canon.tr_seg ?_)
          simp only [List.map_cons, List.map_nil, List.getD_cons_zero, List.getD_cons_succ]
          go_wp2_with fail
          refine Go.Canon.tr_to (Go.Canon.tr_alt ?_ (Go.Canon.tr_one ?_))
          · simp only [List.getD_cons_zero, List.getD_cons_succ]
            go_wp2_with fail
            refine Go.Canon.tr_end (keep_below (below_undrew ((Below.refl W.heap.size W).drew))) (Go.Canon.tr_seg ?_)
            simp only [List.map_cons, List.map_nil, List.getD_cons_zero, List.getD_cons_succ]
            go_wp2_with fail
            refine Go.Canon.tr_to (Go.Canon.tr_alt ?_ (Go.Canon.tr_one ?_))
            · simp only [List.getD_cons_zero, List.getD_cons_succ]
              go_wp2_with fail
              refine (Hhnx.out _ ((Below.refl W.heap.size W).drew)).mono ?_
              rintro e w' ⟨rfl, rfl⟩
              go_wp2_with fail
              refine Go.Canon.tr_end (keep_below (below_undrew ((Below.refl W.heap.size W).drew))) (Go.Canon.tr_alt ?_ (Go.Canon.tr_one ?_))
              · simp only [List.getD_cons_zero, List.getD_cons_succ]
                go_wp2_with fail
                refine (Hhvx.out _ ((Below.refl W.heap.size W).drew)).mono ?_
                rintro e w' ⟨rfl, rfl⟩
                go_wp2_with fail
                refine Go.Canon.tr_end (keep_below (below_undrew ((Below.refl W.heap.size W).drew))) (Go.Canon.tr_seg ?_)
                simp only [List.map_cons, List.map_nil, List.getD_cons_zero, List.getD_cons_succ]
                go_wp2_with fail
                refine Go.Canon.tr_to (Go.Canon.tr_alt ?_ (Go.Canon.tr_one ?_))
                · simp only [List.getD_cons_zero, List.getD_cons_succ]
                  go_wp2_with fail
                  refine (Hhnmd.out _).mono ?_
                  rintro e w3 ⟨rfl, hb3⟩
                  have hb3' := ((Below.refl W.heap.size W).drew).trans (hb3.mono (Nat.le_refl _))
                  go_wp2_with fail
                  refine Go.Canon.tr_end (keep_below (below_undrew hb3')) (Go.Canon.tr_one ?_)
                  simp only [List.getD_cons_zero, List.getD_cons_succ]
                  go_wp2_with fail
                  refine Go.Canon.tr_end (keep_below (below_undrew (hb3'.alloc hb3'.size (.cells #[.int .i64 0, .int .i64 0] 39)))) (Go.Canon.tr_one ?_)
                  simp only [List.getD_cons_zero, List.getD_cons_succ]
                  go_wp2_with fail
                  refine Go.Canon.tr_end (keep_below (below_undrew (hb3'.alloc hb3'.size (.cells #[.int .i64 q1, .int .i64 q2] 39)))) (Go.Canon.tr_fin (by rfl) (List.forall_mem_cons.2 ⟨.inl ⟨_, rfl, (by first | (show gb + 1 < _; omega) | (show gb < _; omega) | (show g < _; omega)), by rw [World.cell?_drew, d1]; rfl⟩, List.forall_mem_cons.2 ⟨.inl ⟨_, rfl, (by first | (show gb + 1 < _; omega) | (show gb < _; omega) | (show g < _; omega)), by rw [World.cell?_drew, d0]; rfl⟩, List.forall_mem_cons.2 ⟨.inl ⟨_, rfl, (by first | (show gb + 1 < _; omega) | (show gb < _; omega) | (show g < _; omega)), by rw [World.cell?_drew, c0W]; rfl⟩, List.forall_mem_cons.2 ⟨.inl ⟨_, rfl, (by first | (show gb + 1 < _; omega) | (show gb < _; omega) | (show g < _; omega)), by rw [World.cell?_drew, d0]; rfl⟩, List.forall_mem_cons.2 ⟨.inl ⟨_, rfl, (by first | (show gb + 1 < _; omega) | (show gb < _; omega) | (show g < _; omega)), by rw [World.cell?_drew, c0W]; rfl⟩, fun _ h => by cases h⟩⟩⟩⟩⟩) ?_)
                  exact ⟨rfl, _, rfl, Bk.new w3 39 [.int .i64 q1, .int .i64 q2], hb3'.size, hb3'.alloc hb3'.size (.cells #[.int .i64 q1, .int .i64 q2] 39)⟩
                · simp only [List.getD_cons_zero, List.getD_cons_succ]
                  go_wp2_with fail
                  refine Go.Canon.tr_end (keep_below (below_undrew (((Below.refl W.heap.size W).alloc (Nat.le_refl _) (.cells #[.int .i64 0, .int .i64 0] 39)).drew))) (Go.Canon.tr_one ?_)
                  simp only [List.getD_cons_zero, List.getD_cons_succ]
                  go_wp2_with fail
                  refine (Hhnmd.out _).mono ?_
                  rintro e w3 ⟨rfl, hb3⟩
                  have hb3' := (((Below.refl W.heap.size W).alloc (Nat.le_refl _) (.cells #[.int .i64 0, .int .i64 0] 39)).drew).trans (hb3.mono (by simp))
                  have hk3 := ((Bk.new W 39 [.int .i64 0, .int .i64 0]).drew).below hb3 (by simp)
                  have z0 : w3.cell? ⟨W.heap.size, 0, none⟩ = some (.int .i64 0) := hk3.cell 0
                  have z1 : w3.cell? ⟨W.heap.size, 1, none⟩ = some (.int .i64 0) := hk3.cell 1
                  have zf := hk3.frozen
                  go_wp2_with fail
                  refine Go.Canon.tr_end (keep_below (below_undrew hb3')) (Go.Canon.tr_one ?_)
                  simp only [List.getD_cons_zero, List.getD_cons_succ]
                  go_wp2_with fail
                  refine Go.Canon.tr_end (keep_below (below_undrew ((hb3'.setCell (p := ⟨W.heap.size, 0, none⟩) (Nat.le_refl _) (.int .i64 q1)).setCell (p := ⟨W.heap.size, 1, none⟩) (Nat.le_refl _) (.int .i64 q2)))) (Go.Canon.tr_fin (by rfl) (List.forall_mem_cons.2 ⟨.inl ⟨_, rfl, (by first | (show gb + 1 < _; omega) | (show gb < _; omega) | (show g < _; omega)), by rw [World.cell?_drew, d1]; rfl⟩, List.forall_mem_cons.2 ⟨.inl ⟨_, rfl, (by first | (show gb + 1 < _; omega) | (show gb < _; omega) | (show g < _; omega)), by rw [World.cell?_drew, d0]; rfl⟩, List.forall_mem_cons.2 ⟨.inl ⟨_, rfl, (by first | (show gb + 1 < _; omega) | (show gb < _; omega) | (show g < _; omega)), by rw [World.cell?_drew, c0W]; rfl⟩, List.forall_mem_cons.2 ⟨.inl ⟨_, rfl, (by first | (show gb + 1 < _; omega) | (show gb < _; omega) | (show g < _; omega)), by rw [World.cell?_drew, d0]; rfl⟩, List.forall_mem_cons.2 ⟨.inl ⟨_, rfl, (by first | (show gb + 1 < _; omega) | (show gb < _; omega) | (show g < _; omega)), by rw [World.cell?_drew, c0W]; rfl⟩, fun _ h => by cases h⟩⟩⟩⟩⟩) ?_)
                  exact ⟨rfl, _, rfl, (hk3.set 0 (.int .i64 q1)).set 1 (.int .i64 q2), Nat.le_refl _, (hb3'.setCell (p := ⟨W.heap.size, 0, none⟩) (Nat.le_refl _) (.int .i64 q1)).setCell (p := ⟨W.heap.size, 1, none⟩) (Nat.le_refl _) (.int .i64 q2)⟩
              · simp only [List.getD_cons_zero, List.getD_cons_succ]
                go_wp2_with fail
                refine Go.Canon.tr_end (keep_below (below_undrew (((Below.refl W.heap.size W).alloc (Nat.le_refl _) (.cells #[.int .i64 0, .int .i64 0] 39)).drew))) (Go.Canon.tr_one ?_)
                simp only [List.getD_cons_zero, List.getD_cons_succ]
                go_wp2_with fail
                refine (Hhvx.out _ (((Below.refl W.heap.size W).alloc (Nat.le_refl _) (.cells #[.int .i64 0, .int .i64 0] 39)).drew)).mono ?_
                rintro e w' ⟨rfl, rfl⟩
                go_wp2_with fail
                refine Go.Canon.tr_end (keep_below (below_undrew (((Below.refl W.heap.size W).alloc (Nat.le_refl _) (.cells #[.int .i64 0, .int .i64 0] 39)).drew))) (Go.Canon.tr_seg ?_)
                simp only [List.map_cons, List.map_nil, List.getD_cons_zero, List.getD_cons_succ]
                go_wp2_with fail
                refine Go.Canon.tr_to (Go.Canon.tr_one ?_)
                simp only [List.getD_cons_zero, List.getD_cons_succ]
                go_wp2_with fail
                refine (Hhnmd.out _).mono ?_
                rintro e w3 ⟨rfl, hb3⟩
                have hb3' := (((Below.refl W.heap.size W).alloc (Nat.le_refl _) (.cells #[.int .i64 0, .int .i64 0] 39)).drew).trans (hb3.mono (by simp))
                have hk3 := ((Bk.new W 39 [.int .i64 0, .int .i64 0]).drew).below hb3 (by simp)
                have z0 : w3.cell? ⟨W.heap.size, 0, none⟩ = some (.int .i64 0) := hk3.cell 0
                have z1 : w3.cell? ⟨W.heap.size, 1, none⟩ = some (.int .i64 0) := hk3.cell 1
                have zf := hk3.frozen
                go_wp2_with fail
                refine Go.Canon.tr_end (keep_below (below_undrew hb3')) (Go.Canon.tr_one ?_)
                simp only [List.getD_cons_zero, List.getD_cons_succ]
                go_wp2_with fail
                refine Go.Canon.tr_end (keep_below (below_undrew ((hb3'.setCell (p := ⟨W.heap.size, 0, none⟩) (Nat.le_refl _) (.int .i64 q1)).setCell (p := ⟨W.heap.size, 1, none⟩) (Nat.le_refl _) (.int .i64 q2)))) (Go.Canon.tr_fin (by rfl) (List.forall_mem_cons.2 ⟨.inl ⟨_, rfl, (by first | (show gb + 1 < _; omega) | (show gb < _; omega) | (show g < _; omega)), by rw [World.cell?_drew, d1]; rfl⟩, List.forall_mem_cons.2 ⟨.inl ⟨_, rfl, (by first | (show gb + 1 < _; omega) | (show gb < _; omega) | (show g < _; omega)), by rw [World.cell?_drew, d0]; rfl⟩, List.forall_mem_cons.2 ⟨.inl ⟨_, rfl, (by first | (show gb + 1 < _; omega) | (show gb < _; omega) | (show g < _; omega)), by rw [World.cell?_drew, c0W]; rfl⟩, List.forall_mem_cons.2 ⟨.inl ⟨_, rfl, (by first | (show gb + 1 < _; omega) | (show gb < _; omega) | (show g < _; omega)), by rw [World.cell?_drew, d0]; rfl⟩, List.forall_mem_cons.2 ⟨.inl ⟨_, rfl, (by first | (show gb + 1 < _; omega) | (show gb < _; omega) | (show g < _; omega)), by rw [World.cell?_drew, c0W]; rfl⟩, fun _ h => by cases h⟩⟩⟩⟩⟩) ?_)
                exact ⟨rfl, _, rfl, (hk3.set 0 (.int .i64 q1)).set 1 (.int .i64 q2), Nat.le_refl _, (hb3'.setCell (p := ⟨W.heap.size, 0, none⟩) (Nat.le_refl _) (.int .i64 q1)).setCell (p := ⟨W.heap.size, 1, none⟩) (Nat.le_refl _) (.int .i64 q2)⟩
            · simp only [List.getD_cons_zero, List.getD_cons_succ]
              go_wp2_with fail
              refine Go.Canon.tr_end (keep_below (below_undrew (((Below.refl W.heap.size W).alloc (Nat.le_refl _) (.cells #[.int .i64 0, .int .i64 0] 39)).drew))) (Go.Canon.tr_one ?_)
              simp only [List.getD_cons_zero, List.getD_cons_succ]
              go_wp2_with fail
              refine (Hhnx.out _ (((Below.refl W.heap.size W).alloc (Nat.le_refl _) (.cells #[.int .i64 0, .int .i64 0] 39)).drew)).mono ?_
              rintro e w' ⟨rfl, rfl⟩
              go_wp2_with fail
              refine Go.Canon.tr_end (keep_below (below_undrew (((Below.refl W.heap.size W).alloc (Nat.le_refl _) (.cells #[.int .i64 0, .int .i64 0] 39)).drew))) (Go.Canon.tr_one ?_)
              simp only [List.getD_cons_zero, List.getD_cons_succ]
              go_wp2_with fail
              refine (Hhvx.out _ (((Below.refl W.heap.size W).alloc (Nat.le_refl _) (.cells #[.int .i64 0, .int .i64 0] 39)).drew)).mono ?_
              rintro e w' ⟨rfl, rfl⟩
              go_wp2_with fail
              refine Go.Canon.tr_end (keep_below (below_undrew (((Below.refl W.heap.size W).alloc (Nat.le_refl _) (.cells #[.int .i64 0, .int .i64 0] 39)).drew))) (Go.Canon.tr_seg ?_)
              simp only [List.map_cons, List.map_nil, List.getD_cons_zero, List.getD_cons_succ]
              go_wp2_with fail
              refine Go.Canon.tr_to (Go.Canon.tr_one ?_)
              simp only [List.getD_cons_zero, List.getD_cons_succ]
              go_wp2_with fail
              refine (Hhnmd.out _).mono ?_
              rintro e w3 ⟨rfl, hb3⟩
              have hb3' := (((Below.refl W.heap.size W).alloc (Nat.le_refl _) (.cells #[.int .i64 0, .int .i64 0] 39)).drew).trans (hb3.mono (by simp))
              have hk3 := ((Bk.new W 39 [.int .i64 0, .int .i64 0]).drew).below hb3 (by simp)
              have z0 : w3.cell? ⟨W.heap.size, 0, none⟩ = some (.int .i64 0) := hk3.cell 0
              have z1 : w3.cell? ⟨W.heap.size, 1, none⟩ = some (.int .i64 0) := hk3.cell 1
              have zf := hk3.frozen
              go_wp2_with fail
              refine Go.Canon.tr_end (keep_below (below_undrew hb3')) (Go.Canon.tr_one ?_)
              simp only [List.getD_cons_zero, List.getD_cons_succ]
              go_wp2_with fail
              refine Go.Canon.tr_end (keep_below (below_undrew ((hb3'.setCell (p := ⟨W.heap.size, 0, none⟩) (Nat.le_refl _) (.int .i64 q1)).setCell (p := ⟨W.heap.size, 1, none⟩) (Nat.le_refl _) (.int .i64 q2)))) (Go.Canon.tr_fin (by rfl) (List.forall_mem_cons.2 ⟨.inl ⟨_, rfl, (by first | (show gb + 1 < _; omega) | (show gb < _; omega) | (show g < _; omega)), by rw [World.cell?_drew, d1]; rfl⟩, List.forall_mem_cons.2 ⟨.inl ⟨_, rfl, (by first | (show gb + 1 < _; omega) | (show gb < _; omega) | (show g < _; omega)), by rw [World.cell?_drew, d0]; rfl⟩, List.forall_mem_cons.2 ⟨.inl ⟨_, rfl, (by first | (show gb + 1 < _; omega) | (show gb < _; omega) | (show g < _; omega)), by rw [World.cell?_drew, c0W]; rfl⟩, List.forall_mem_cons.2 ⟨.inl ⟨_, rfl, (by first | (show gb + 1 < _; omega) | (show gb < _; omega) | (show g < _; omega)), by rw [World.cell?_drew, d0]; rfl⟩, List.forall_mem_cons.2 ⟨.inl ⟨_, rfl, (by first | (show gb + 1 < _; omega) | (show gb < _; omega) | (show g < _; omega)), by rw [World.cell?_drew, c0W]; rfl⟩, fun _ h => by cases h⟩⟩⟩⟩⟩) ?_)
              exact ⟨rfl, _, rfl, (hk3.set 0 (.int .i64 q1)).set 1 (.int .i64 q2), Nat.le_refl _, (hb3'.setCell (p := ⟨W.heap.size, 0, none⟩) (Nat.le_refl _) (.int .i64 q1)).setCell (p := ⟨W.heap.size, 1, none⟩) (Nat.le_refl _) (.int .i64 q2)⟩
          · simp only [List.getD_cons_zero, List.getD_cons_succ]
            go_wp2_with fail
            refine Go.Canon.tr_end (keep_below (below_undrew (((Below.refl W.heap.size W).alloc (Nat.le_refl _) (.cells #[.int .i64 0, .int .i64 0] 39)).drew))) (Go.Canon.tr_one ?_)
            simp only [List.getD_cons_zero, List.getD_cons_succ]
            go_wp2_with fail
            refine Go.Canon.tr_end (keep_below (below_undrew (((Below.refl W.heap.size W).alloc (Nat.le_refl _) (.cells #[.int .i64 0, .int .i64 0] 39)).drew))) (Go.Canon.tr_seg ?_)
            simp only [List.map_cons, List.map_nil, List.getD_cons_zero, List.getD_cons_succ]
            go_wp2_with fail
            refine Go.Canon.tr_to (Go.Canon.tr_one ?_)
            simp only [List.getD_cons_zero, List.getD_cons_succ]
            go_wp2_with fail
            refine (Hhnx.out _ (((Below.refl W.heap.size W).alloc (Nat.le_refl _) (.cells #[.int .i64 0, .int .i64 0] 39)).drew)).mono ?_
            rintro e w' ⟨rfl, rfl⟩
            go_wp2_with fail
            refine Go.Canon.tr_end (keep_below (below_undrew (((Below.refl W.heap.size W).alloc (Nat.le_refl _) (.cells #[.int .i64 0, .int .i64 0] 39)).drew))) (Go.Canon.tr_one ?_)
            simp only [List.getD_cons_zero, List.getD_cons_succ]
            go_wp2_with fail
            refine (Hhvx.out _ (((Below.refl W.heap.size W).alloc (Nat.le_refl _) (.cells #[.int .i64 0, .int .i64 0] 39)).drew)).mono ?_
            rintro e w' ⟨rfl, rfl⟩
            go_wp2_with fail
            refine Go.Canon.tr_end (keep_below (below_undrew (((Below.refl W.heap.size W).alloc (Nat.le_refl _) (.cells #[.int .i64 0, .int .i64 0] 39)).drew))) (Go.Canon.tr_seg ?_)
            simp only [List.map_cons, List.map_nil, List.getD_cons_zero, List.getD_cons_succ]
            go_wp2_with fail
            refine Go.Canon.tr_to (Go.Canon.tr_one ?_)
            simp only [List.getD_cons_zero, List.getD_cons_succ]
            go_wp2_with fail
            refine (Hhnmd.out _).mono ?_
            rintro e w3 ⟨rfl, hb3⟩
            have hb3' := (((Below.refl W.heap.size W).alloc (Nat.le_refl _) (.cells #[.int .i64 0, .int .i64 0] 39)).drew).trans (hb3.mono (by simp))
            have hk3 := ((Bk.new W 39 [.int .i64 0, .int .i64 0]).drew).below hb3 (by simp)
            have z0 : w3.cell? ⟨W.heap.size, 0, none⟩ = some (.int .i64 0) := hk3.cell 0
            have z1 : w3.cell? ⟨W.heap.size, 1, none⟩ = some (.int .i64 0) := hk3.cell 1
            have zf := hk3.frozen
            go_wp2_with fail
            refine Go.Canon.tr_end (keep_below (below_undrew hb3')) (Go.Canon.tr_one ?_)
            simp only [List.getD_cons_zero, List.getD_cons_succ]
            go_wp2_with fail
            refine Go.Canon.tr_end (keep_below (below_undrew ((hb3'.setCell (p := ⟨W.heap.size, 0, none⟩) (Nat.le_refl _) (.int .i64 q1)).setCell (p := ⟨W.heap.size, 1, none⟩) (Nat.le_refl _) (.int .i64 q2)))) (Go.Canon.tr_fin (by rfl) (List.forall_mem_cons.2 ⟨.inl ⟨_, rfl, (by first | (show gb + 1 < _; omega) | (show gb < _; omega) | (show g < _; omega)), by rw [World.cell?_drew, d1]; rfl⟩, List.forall_mem_cons.2 ⟨.inl ⟨_, rfl, (by first | (show gb + 1 < _; omega) | (show gb < _; omega) | (show g < _; omega)), by rw [World.cell?_drew, d0]; rfl⟩, List.forall_mem_cons.2 ⟨.inl ⟨_, rfl, (by first | (show gb + 1 < _; omega) | (show gb < _; omega) | (show g < _; omega)), by rw [World.cell?_drew, c0W]; rfl⟩, List.forall_mem_cons.2 ⟨.inl ⟨_, rfl, (by first | (show gb + 1 < _; omega) | (show gb < _; omega) | (show g < _; omega)), by rw [World.cell?_drew, d0]; rfl⟩, List.forall_mem_cons.2 ⟨.inl ⟨_, rfl, (by first | (show gb + 1 < _; omega) | (show gb < _; omega) | (show g < _; omega)), by rw [World.cell?_drew, c0W]; rfl⟩, fun _ h => by cases h⟩⟩⟩⟩⟩) ?_)
            exact ⟨rfl, _, rfl, (hk3.set 0 (.int .i64 q1)).set 1 (.int .i64 q2), Nat.le_refl _, (hb3'.setCell (p := ⟨W.heap.size, 0, none⟩) (Nat.le_refl _) (.int .i64 q1)).setCell (p := ⟨W.heap.size, 1, none⟩) (Nat.le_refl _) (.int .i64 q2)⟩
        · simp only [List.getD_cons_zero, List.getD_cons_succ]
          go_wp2_with fail
          refine Go.Canon.tr_end (keep_below (below_undrew ((Below.refl W.heap.size W).drew))) (Go.Canon.tr_seg ?_)
          simp only [List.map_cons, List.map_nil, List.getD_cons_zero, List.getD_cons_succ]
          go_wp2_with fail
          refine Go.Canon.tr_to (Go.Canon.tr_alt ?_ (Go.Canon.tr_alt ?_ (Go.Canon.tr_one ?_)))
          · simp only [List.getD_cons_zero, List.getD_cons_succ]
            go_wp2_with fail
            refine Go.Canon.tr_end (keep_below (below_undrew ((Below.refl W.heap.size W).drew))) (Go.Canon.tr_seg ?_)
            simp only [List.map_cons, List.map_nil, List.getD_cons_zero, List.getD_cons_succ]
            go_wp2_with fail
            refine Go.Canon.tr_to (Go.Canon.tr_alt ?_ (Go.Canon.tr_one ?_))
            · simp only [List.getD_cons_zero, List.getD_cons_succ]
              go_wp2_with fail
              refine (Hhnx.out _ ((Below.refl W.heap.size W).drew)).mono ?_
              rintro e w' ⟨rfl, rfl⟩
              go_wp2_with fail
              refine Go.Canon.tr_end (keep_below (below_undrew ((Below.refl W.heap.size W).drew))) (Go.Canon.tr_alt ?_ (Go.Canon.tr_one ?_))
              · simp only [List.getD_cons_zero, List.getD_cons_succ]
                go_wp2_with fail
                refine (Hhvx.out _ ((Below.refl W.heap.size W).drew)).mono ?_
                rintro e w' ⟨rfl, rfl⟩
                go_wp2_with fail
                refine Go.Canon.tr_end (keep_below (below_undrew ((Below.refl W.heap.size W).drew))) (Go.Canon.tr_seg ?_)
                simp only [List.map_cons, List.map_nil, List.getD_cons_zero, List.getD_cons_succ]
                go_wp2_with fail
                refine Go.Canon.tr_to (Go.Canon.tr_alt ?_ (Go.Canon.tr_one ?_))
                · simp only [List.getD_cons_zero, List.getD_cons_succ]
                  go_wp2_with fail
                  refine (Hhnmd.out _).mono ?_
                  rintro e w3 ⟨rfl, hb3⟩
                  have hb3' := ((Below.refl W.heap.size W).drew).trans (hb3.mono (Nat.le_refl _))
                  go_wp2_with fail
                  refine Go.Canon.tr_end (keep_below (below_undrew hb3')) (Go.Canon.tr_one ?_)
                  simp only [List.getD_cons_zero, List.getD_cons_succ]
                  go_wp2_with fail
                  refine Go.Canon.tr_end (keep_below (below_undrew (hb3'.alloc hb3'.size (.cells #[.int .i64 0, .int .i64 0] 39)))) (Go.Canon.tr_one ?_)
                  simp only [List.getD_cons_zero, List.getD_cons_succ]
                  go_wp2_with fail
                  refine Go.Canon.tr_end (keep_below (below_undrew (hb3'.alloc hb3'.size (.cells #[.int .i64 q1, .int .i64 q2] 39)))) (Go.Canon.tr_fin (by rfl) (List.forall_mem_cons.2 ⟨.inl ⟨_, rfl, (by first | (show gb + 1 < _; omega) | (show gb < _; omega) | (show g < _; omega)), by rw [World.cell?_drew, d1]; rfl⟩, List.forall_mem_cons.2 ⟨.inl ⟨_, rfl, (by first | (show gb + 1 < _; omega) | (show gb < _; omega) | (show g < _; omega)), by rw [World.cell?_drew, d0]; rfl⟩, List.forall_mem_cons.2 ⟨.inl ⟨_, rfl, (by first | (show gb + 1 < _; omega) | (show gb < _; omega) | (show g < _; omega)), by rw [World.cell?_drew, c0W]; rfl⟩, List.forall_mem_cons.2 ⟨.inl ⟨_, rfl, (by first | (show gb + 1 < _; omega) | (show gb < _; omega) | (show g < _; omega)), by rw [World.cell?_drew, d0]; rfl⟩, List.forall_mem_cons.2 ⟨.inl ⟨_, rfl, (by first | (show gb + 1 < _; omega) | (show gb < _; omega) | (show g < _; omega)), by rw [World.cell?_drew, c0W]; rfl⟩, fun _ h => by cases h⟩⟩⟩⟩⟩) ?_)
                  exact ⟨rfl, _, rfl, Bk.new w3 39 [.int .i64 q1, .int .i64 q2], hb3'.size, hb3'.alloc hb3'.size (.cells #[.int .i64 q1, .int .i64 q2] 39)⟩
                · simp only [List.getD_cons_zero, List.getD_cons_succ]
                  go_wp2_with fail
                  refine Go.Canon.tr_end (keep_below (below_undrew (((Below.refl W.heap.size W).alloc (Nat.le_refl _) (.cells #[.int .i64 0, .int .i64 0] 39)).drew))) (Go.Canon.tr_one ?_)
                  simp only [List.getD_cons_zero, List.getD_cons_succ]
                  go_wp2_with fail
                  refine (Hhnmd.out _).mono ?_
                  rintro e w3 ⟨rfl, hb3⟩
                  have hb3' := (((Below.refl W.heap.size W).alloc (Nat.le_refl _) (.cells #[.int .i64 0, .int .i64 0] 39)).drew).trans (hb3.mono (by simp))
                  have hk3 := ((Bk.new W 39 [.int .i64 0, .int .i64 0]).drew).below hb3 (by simp)
                  have z0 : w3.cell? ⟨W.heap.size, 0, none⟩ = some (.int .i64 0) := hk3.cell 0
                  have z1 : w3.cell? ⟨W.heap.size, 1, none⟩ = some (.int .i64 0) := hk3.cell 1
                  have zf := hk3.frozen
                  go_wp2_with fail
                  refine Go.Canon.tr_end (keep_below (below_undrew hb3')) (Go.Canon.tr_one ?_)
                  simp only [List.getD_cons_zero, List.getD_cons_succ]
                  go_wp2_with fail
                  refine Go.Canon.tr_end (keep_below (below_undrew ((hb3'.setCell (p := ⟨W.heap.size, 0, none⟩) (Nat.le_refl _) (.int .i64 q1)).setCell (p := ⟨W.heap.size, 1, none⟩) (Nat.le_refl _) (.int .i64 q2)))) (Go.Canon.tr_fin (by rfl) (List.forall_mem_cons.2 ⟨.inl ⟨_, rfl, (by first | (show gb + 1 < _; omega) | (show gb < _; omega) | (show g < _; omega)), by rw [World.cell?_drew, d1]; rfl⟩, List.forall_mem_cons.2 ⟨.inl ⟨_, rfl, (by first | (show gb + 1 < _; omega) | (show gb < _; omega) | (show g < _; omega)), by rw [World.cell?_drew, d0]; rfl⟩, List.forall_mem_cons.2 ⟨.inl ⟨_, rfl, (by first | (show gb + 1 < _; omega) | (show gb < _; omega) | (show g < _; omega)), by rw [World.cell?_drew, c0W]; rfl⟩, List.forall_mem_cons.2 ⟨.inl ⟨_, rfl, (by first | (show gb + 1 < _; omega) | (show gb < _; omega) | (show g < _; omega)), by rw [World.cell?_drew, d0]; rfl⟩, List.forall_mem_cons.2 ⟨.inl ⟨_, rfl, (by first | (show gb + 1 < _; omega) | (show gb < _; omega) | (show g < _; omega)), by rw [World.cell?_drew, c0W]; rfl⟩, fun _ h => by cases h⟩⟩⟩⟩⟩) ?_)
                  exact ⟨rfl, _, rfl, (hk3.set 0 (.int .i64 q1)).set 1 (.int .i64 q2), Nat.le_refl _, (hb3'.setCell (p := ⟨W.heap.size, 0, none⟩) (Nat.le_refl _) (.int .i64 q1)).setCell (p := ⟨W.heap.size, 1, none⟩) (Nat.le_refl _) (.int .i64 q2)⟩
              · simp only [List.getD_cons_zero, List.getD_cons_succ]
                go_wp2_with fail
                refine Go.Canon.tr_end (keep_below (below_undrew (((Below.refl W.heap.size W).alloc (Nat.le_refl _) (.cells #[.int .i64 0, .int .i64 0] 39)).drew))) (Go.Canon.tr_one ?_)
                simp only [List.getD_cons_zero, List.getD_cons_succ]
                go_wp2_with fail
                refine (Hhvx.out _ (((Below.refl W.heap.size W).alloc (Nat.le_refl _) (.cells #[.int .i64 0, .int .i64 0] 39)).drew)).mono ?_
                rintro e w' ⟨rfl, rfl⟩
                go_wp2_with fail
                refine Go.Canon.tr_end (keep_below (below_undrew (((Below.refl W.heap.size W).alloc (Nat.le_refl _) (.cells #[.int .i64 0, .int .i64 0] 39)).drew))) (Go.Canon.tr_seg ?_)
                simp only [List.map_cons, List.map_nil, List.getD_cons_zero, List.getD_cons_succ]
                go_wp2_with fail
                refine Go.Canon.tr_to (Go.Canon.tr_one ?_)
                simp only [List.getD_cons_zero, List.getD_cons_succ]
                go_wp2_with fail
                refine (Hhnmd.out _).mono ?_
                rintro e w3 ⟨rfl, hb3⟩
                have hb3' := (((Below.refl W.heap.size W).alloc (Nat.le_refl _) (.cells #[.int .i64 0, .int .i64 0] 39)).drew).trans (hb3.mono (by simp))
                have hk3 := ((Bk.new W 39 [.int .i64 0, .int .i64 0]).drew).below hb3 (by simp)
                have z0 : w3.cell? ⟨W.heap.size, 0, none⟩ = some (.int .i64 0) := hk3.cell 0
                have z1 : w3.cell? ⟨W.heap.size, 1, none⟩ = some (.int .i64 0) := hk3.cell 1
                have zf := hk3.frozen
                go_wp2_with fail
                refine Go.Canon.tr_end (keep_below (below_undrew hb3')) (Go.Canon.tr_one ?_)
                simp only [List.getD_cons_zero, List.getD_cons_succ]
                go_wp2_with fail
                refine Go.Canon.tr_end (keep_below (below_undrew ((hb3'.setCell (p := ⟨W.heap.size, 0, none⟩) (Nat.le_refl _) (.int .i64 q1)).setCell (p := ⟨W.heap.size, 1, none⟩) (Nat.le_refl _) (.int .i64 q2)))) (Go.Canon.tr_fin (by rfl) (List.forall_mem_cons.2 ⟨.inl ⟨_, rfl, (by first | (show gb + 1 < _; omega) | (show gb < _; omega) | (show g < _; omega)), by rw [World.cell?_drew, d1]; rfl⟩, List.forall_mem_cons.2 ⟨.inl ⟨_, rfl, (by first | (show gb + 1 < _; omega) | (show gb < _; omega) | (show g < _; omega)), by rw [World.cell?_drew, d0]; rfl⟩, List.forall_mem_cons.2 ⟨.inl ⟨_, rfl, (by first | (show gb + 1 < _; omega) | (show gb < _; omega) | (show g < _; omega)), by rw [World.cell?_drew, c0W]; rfl⟩, List.forall_mem_cons.2 ⟨.inl ⟨_, rfl, (by first | (show gb + 1 < _; omega) | (show gb < _; omega) | (show g < _; omega)), by rw [World.cell?_drew, d0]; rfl⟩, List.forall_mem_cons.2 ⟨.inl ⟨_, rfl, (by first | (show gb + 1 < _; omega) | (show gb < _; omega) | (show g < _; omega)), by rw [World.cell?_drew, c0W]; rfl⟩, fun _ h => by cases h⟩⟩⟩⟩⟩) ?_)
                exact ⟨rfl, _, rfl, (hk3.set 0 (.int .i64 q1)).set 1 (.int .i64 q2), Nat.le_refl _, (hb3'.setCell (p := ⟨W.heap.size, 0, none⟩) (Nat.le_refl _) (.int .i64 q1)).setCell (p := ⟨W.heap.size, 1, none⟩) (Nat.le_refl _) (.int .i64 q2)⟩
            · simp only [List.getD_cons_zero, List.getD_cons_succ]
              go_wp2_with fail
              refine Go.Canon.tr_end (keep_below (below_undrew (((Below.refl W.heap.size W).alloc (Nat.le_refl _) (.cells #[.int .i64 0, .int .i64 0] 39)).drew))) (Go.Canon.tr_one ?_)
              simp only [List.getD_cons_zero, List.getD_cons_succ]
              go_wp2_with fail
              refine (Hhnx.out _ (((Below.refl W.heap.size W).alloc (Nat.le_refl _) (.cells #[.int .i64 0, .int .i64 0] 39)).drew)).mono ?_
              rintro e w' ⟨rfl, rfl⟩
              go_wp2_with fail
              refine Go.Canon.tr_end (keep_below (below_undrew (((Below.refl W.heap.size W).alloc (Nat.le_refl _) (.cells #[.int .i64 0, .int .i64 0] 39)).drew))) (Go.Canon.tr_one ?_)
              simp only [List.getD_cons_zero, List.getD_cons_succ]
              go_wp2_with fail
              refine (Hhvx.out _ (((Below.refl W.heap.size W).alloc (Nat.le_refl _) (.cells #[.int .i64 0, .int .i64 0] 39)).drew)).mono ?_
              rintro e w' ⟨rfl, rfl⟩
              go_wp2_with fail
              refine Go.Canon.tr_end (keep_below (below_undrew (((Below.refl W.heap.size W).alloc (Nat.le_refl _) (.cells #[.int .i64 0, .int .i64 0] 39)).drew))) (Go.Canon.tr_seg ?_)
              simp only [List.map_cons, List.map_nil, List.getD_cons_zero, List.getD_cons_succ]
              go_wp2_with fail
              refine Go.Canon.tr_to (Go.Canon.tr_one ?_)
              simp only [List.getD_cons_zero, List.getD_cons_succ]
              go_wp2_with fail
              refine (Hhnmd.out _).mono ?_
              rintro e w3 ⟨rfl, hb3⟩
              have hb3' := (((Below.refl W.heap.size W).alloc (Nat.le_refl _) (.cells #[.int .i64 0, .int .i64 0] 39)).drew).trans (hb3.mono (by simp))
              have hk3 := ((Bk.new W 39 [.int .i64 0, .int .i64 0]).drew).below hb3 (by simp)
              have z0 : w3.cell? ⟨W.heap.size, 0, none⟩ = some (.int .i64 0) := hk3.cell 0
              have z1 : w3.cell? ⟨W.heap.size, 1, none⟩ = some (.int .i64 0) := hk3.cell 1
              have zf := hk3.frozen
              go_wp2_with fail
              refine Go.Canon.tr_end (keep_below (below_undrew hb3')) (Go.Canon.tr_one ?_)
              simp only [List.getD_cons_zero, List.getD_cons_succ]
              go_wp2_with fail
              refine Go.Canon.tr_end (keep_below (below_undrew ((hb3'.setCell (p := ⟨W.heap.size, 0, none⟩) (Nat.le_refl _) (.int .i64 q1)).setCell (p := ⟨W.heap.size, 1, none⟩) (Nat.le_refl _) (.int .i64 q2)))) (Go.Canon.tr_fin (by rfl) (List.forall_mem_cons.2 ⟨.inl ⟨_, rfl, (by first | (show gb + 1 < _; omega) | (show gb < _; omega) | (show g < _; omega)), by rw [World.cell?_drew, d1]; rfl⟩, List.forall_mem_cons.2 ⟨.inl ⟨_, rfl, (by first | (show gb + 1 < _; omega) | (show gb < _; omega) | (show g < _; omega)), by rw [World.cell?_drew, d0]; rfl⟩, List.forall_mem_cons.2 ⟨.inl ⟨_, rfl, (by first | (show gb + 1 < _; omega) | (show gb < _; omega) | (show g < _; omega)), by rw [World.cell?_drew, c0W]; rfl⟩, List.forall_mem_cons.2 ⟨.inl ⟨_, rfl, (by first | (show gb + 1 < _; omega) | (show gb < _; omega) | (show g < _; omega)), by rw [World.cell?_drew, d0]; rfl⟩, List.forall_mem_cons.2 ⟨.inl ⟨_, rfl, (by first | (show gb + 1 < _; omega) | (show gb < _; omega) | (show g < _; omega)), by rw [World.cell?_drew, c0W]; rfl⟩, fun _ h => by cases h⟩⟩⟩⟩⟩) ?_)
              exact ⟨rfl, _, rfl, (hk3.set 0 (.int .i64 q1)).set 1 (.int .i64 q2), Nat.le_refl _, (hb3'.setCell (p := ⟨W.heap.size, 0, none⟩) (Nat.le_refl _) (.int .i64 q1)).setCell (p := ⟨W.heap.size, 1, none⟩) (Nat.le_refl _) (.int .i64 q2)⟩
          · simp only [List.getD_cons_zero, List.getD_cons_succ]
            go_wp2_with fail
            refine (Hhnx.out _ ((Below.refl W.heap.size W).drew)).mono ?_
            rintro e w' ⟨rfl, rfl⟩
            go_wp2_with fail
            refine Go.Canon.tr_end (keep_below (below_undrew ((Below.refl W.heap.size W).drew))) (Go.Canon.tr_alt ?_ (Go.Canon.tr_one ?_))
            · simp only [List.getD_cons_zero, List.getD_cons_succ]
              go_wp2_with fail
              refine Go.Canon.tr_end (keep_below (below_undrew ((Below.refl W.heap.size W).drew))) (Go.Canon.tr_seg ?_)
              simp only [List.map_cons, List.map_nil, List.getD_cons_zero, List.getD_cons_succ]
              go_wp2_with fail
              refine Go.Canon.tr_to (Go.Canon.tr_alt ?_ (Go.Canon.tr_one ?_))
              · simp only [List.getD_cons_zero, List.getD_cons_succ]
                go_wp2_with fail
                refine (Hhvx.out _ ((Below.refl W.heap.size W).drew)).mono ?_
                rintro e w' ⟨rfl, rfl⟩
                go_wp2_with fail
                refine Go.Canon.tr_end (keep_below (below_undrew ((Below.refl W.heap.size W).drew))) (Go.Canon.tr_seg ?_)
                simp only [List.map_cons, List.map_nil, List.getD_cons_zero, List.getD_cons_succ]
                go_wp2_with fail
                refine Go.Canon.tr_to (Go.Canon.tr_alt ?_ (Go.Canon.tr_one ?_))
                · simp only [List.getD_cons_zero, List.getD_cons_succ]
                  go_wp2_with fail
                  refine (Hhnmd.out _).mono ?_
                  rintro e w3 ⟨rfl, hb3⟩
                  have hb3' := ((Below.refl W.heap.size W).drew).trans (hb3.mono (Nat.le_refl _))
                  go_wp2_with fail
                  refine Go.Canon.tr_end (keep_below (below_undrew hb3')) (Go.Canon.tr_one ?_)
                  simp only [List.getD_cons_zero, List.getD_cons_succ]
                  go_wp2_with fail
                  refine Go.Canon.tr_end (keep_below (below_undrew (hb3'.alloc hb3'.size (.cells #[.int .i64 0, .int .i64 0] 39)))) (Go.Canon.tr_one ?_)
                  simp only [List.getD_cons_zero, List.getD_cons_succ]
                  go_wp2_with fail
                  refine Go.Canon.tr_end (keep_below (below_undrew (hb3'.alloc hb3'.size (.cells #[.int .i64 q1, .int .i64 q2] 39)))) (Go.Canon.tr_fin (by rfl) (List.forall_mem_cons.2 ⟨.inl ⟨_, rfl, (by first | (show gb + 1 < _; omega) | (show gb < _; omega) | (show g < _; omega)), by rw [World.cell?_drew, d1]; rfl⟩, List.forall_mem_cons.2 ⟨.inl ⟨_, rfl, (by first | (show gb + 1 < _; omega) | (show gb < _; omega) | (show g < _; omega)), by rw [World.cell?_drew, d0]; rfl⟩, List.forall_mem_cons.2 ⟨.inl ⟨_, rfl, (by first | (show gb + 1 < _; omega) | (show gb < _; omega) | (show g < _; omega)), by rw [World.cell?_drew, c0W]; rfl⟩, List.forall_mem_cons.2 ⟨.inl ⟨_, rfl, (by first | (show gb + 1 < _; omega) | (show gb < _; omega) | (show g < _; omega)), by rw [World.cell?_drew, d0]; rfl⟩, List.forall_mem_cons.2 ⟨.inl ⟨_, rfl, (by first | (show gb + 1 < _; omega) | (show gb < _; omega) | (show g < _; omega)), by rw [World.cell?_drew, c0W]; rfl⟩, fun _ h => by cases h⟩⟩⟩⟩⟩) ?_)
                  exact ⟨rfl, _, rfl, Bk.new w3 39 [.int .i64 q1, .int .i64 q2], hb3'.size, hb3'.alloc hb3'.size (.cells #[.int .i64 q1, .int .i64 q2] 39)⟩
                · simp only [List.getD_cons_zero, List.getD_cons_succ]
                  go_wp2_with fail
                  refine Go.Canon.tr_end (keep_below (below_undrew (((Below.refl W.heap.size W).alloc (Nat.le_refl _) (.cells #[.int .i64 0, .int .i64 0] 39)).drew))) (Go.Canon.tr_one ?_)
                  simp only [List.getD_cons_zero, List.getD_cons_succ]
                  go_wp2_with fail
                  refine (Hhnmd.out _).mono ?_
                  rintro e w3 ⟨rfl, hb3⟩
                  have hb3' := (((Below.refl W.heap.size W).alloc (Nat.le_refl _) (.cells #[.int .i64 0, .int .i64 0] 39)).drew).trans (hb3.mono (by simp))
                  have hk3 := ((Bk.new W 39 [.int .i64 0, .int .i64 0]).drew).below hb3 (by simp)
                  have z0 : w3.cell? ⟨W.heap.size, 0, none⟩ = some (.int .i64 0) := hk3.cell 0
                  have z1 : w3.cell? ⟨W.heap.size, 1, none⟩ = some (.int .i64 0) := hk3.cell 1
                  have zf := hk3.frozen
                  go_wp2_with fail
                  refine Go.Canon.tr_end (keep_below (below_undrew hb3')) (Go.Canon.tr_one ?_)
                  simp only [List.getD_cons_zero, List.getD_cons_succ]
                  go_wp2_with fail
                  refine Go.Canon.tr_end (keep_below (below_undrew ((hb3'.setCell (p := ⟨W.heap.size, 0, none⟩) (Nat.le_refl _) (.int .i64 q1)).setCell (p := ⟨W.heap.size, 1, none⟩) (Nat.le_refl _) (.int .i64 q2)))) (Go.Canon.tr_fin (by rfl) (List.forall_mem_cons.2 ⟨.inl ⟨_, rfl, (by first | (show gb + 1 < _; omega) | (show gb < _; omega) | (show g < _; omega)), by rw [World.cell?_drew, d1]; rfl⟩, List.forall_mem_cons.2 ⟨.inl ⟨_, rfl, (by first | (show gb + 1 < _; omega) | (show gb < _; omega) | (show g < _; omega)), by rw [World.cell?_drew, d0]; rfl⟩, List.forall_mem_cons.2 ⟨.inl ⟨_, rfl, (by first | (show gb + 1 < _; omega) | (show gb < _; omega) | (show g < _; omega)), by rw [World.cell?_drew, c0W]; rfl⟩, List.forall_mem_cons.2 ⟨.inl ⟨_, rfl, (by first | (show gb + 1 < _; omega) | (show gb < _; omega) | (show g < _; omega)), by rw [World.cell?_drew, d0]; rfl⟩, List.forall_mem_cons.2 ⟨.inl ⟨_, rfl, (by first | (show gb + 1 < _; omega) | (show gb < _; omega) | (show g < _; omega)), by rw [World.cell?_drew, c0W]; rfl⟩, fun _ h => by cases h⟩⟩⟩⟩⟩) ?_)
                  exact ⟨rfl, _, rfl, (hk3.set 0 (.int .i64 q1)).set 1 (.int .i64 q2), Nat.le_refl _, (hb3'.setCell (p := ⟨W.heap.size, 0, none⟩) (Nat.le_refl _) (.int .i64 q1)).setCell (p := ⟨W.heap.size, 1, none⟩) (Nat.le_refl _) (.int .i64 q2)⟩
              · simp only [List.getD_cons_zero, List.getD_cons_succ]
                go_wp2_with fail
                refine Go.Canon.tr_end (keep_below (below_undrew (((Below.refl W.heap.size W).alloc (Nat.le_refl _) (.cells #[.int .i64 0, .int .i64 0] 39)).drew))) (Go.Canon.tr_one ?_)
                simp only [List.getD_cons_zero, List.getD_cons_succ]
                go_wp2_with fail
                refine (Hhvx.out _ (((Below.refl W.heap.size W).alloc (Nat.le_refl _) (.cells #[.int .i64 0, .int .i64 0] 39)).drew)).mono ?_
                rintro e w' ⟨rfl, rfl⟩
                go_wp2_with fail
                refine Go.Canon.tr_end (keep_below (below_undrew (((Below.refl W.heap.size W).alloc (Nat.le_refl _) (.cells #[.int .i64 0, .int .i64 0] 39)).drew))) (Go.Canon.tr_seg ?_)
                simp only [List.map_cons, List.map_nil, List.getD_cons_zero, List.getD_cons_succ]
                go_wp2_with fail
                refine Go.Canon.tr_to (Go.Canon.tr_one ?_)
                simp only [List.getD_cons_zero, List.getD_cons_succ]
                go_wp2_with fail
                refine (Hhnmd.out _).mono ?_
                rintro e w3 ⟨rfl, hb3⟩
                have hb3' := (((Below.refl W.heap.size W).alloc (Nat.le_refl _) (.cells #[.int .i64 0, .int .i64 0] 39)).drew).trans (hb3.mono (by simp))
                have hk3 := ((Bk.new W 39 [.int .i64 0, .int .i64 0]).drew).below hb3 (by simp)
                have z0 : w3.cell? ⟨W.heap.size, 0, none⟩ = some (.int .i64 0) := hk3.cell 0
                have z1 : w3.cell? ⟨W.heap.size, 1, none⟩ = some (.int .i64 0) := hk3.cell 1
                have zf := hk3.frozen
                go_wp2_with fail
                refine Go.Canon.tr_end (keep_below (below_undrew hb3')) (Go.Canon.tr_one ?_)
                simp only [List.getD_cons_zero, List.getD_cons_succ]
                go_wp2_with fail
                refine Go.Canon.tr_end (keep_below (below_undrew ((hb3'.setCell (p := ⟨W.heap.size, 0, none⟩) (Nat.le_refl _) (.int .i64 q1)).setCell (p := ⟨W.heap.size, 1, none⟩) (Nat.le_refl _) (.int .i64 q2)))) (Go.Canon.tr_fin (by rfl) (List.forall_mem_cons.2 ⟨.inl ⟨_, rfl, (by first | (show gb + 1 < _; omega) | (show gb < _; omega) | (show g < _; omega)), by rw [World.cell?_drew, d1]; rfl⟩, List.forall_mem_cons.2 ⟨.inl ⟨_, rfl, (by first | (show gb + 1 < _; omega) | (show gb < _; omega) | (show g < _; omega)), by rw [World.cell?_drew, d0]; rfl⟩, List.forall_mem_cons.2 ⟨.inl ⟨_, rfl, (by first | (show gb + 1 < _; omega) | (show gb < _; omega) | (show g < _; omega)), by rw [World.cell?_drew, c0W]; rfl⟩, List.forall_mem_cons.2 ⟨.inl ⟨_, rfl, (by first | (show gb + 1 < _; omega) | (show gb < _; omega) | (show g < _; omega)), by rw [World.cell?_drew, d0]; rfl⟩, List.forall_mem_cons.2 ⟨.inl ⟨_, rfl, (by first | (show gb + 1 < _; omega) | (show gb < _; omega) | (show g < _; omega)), by rw [World.cell?_drew, c0W]; rfl⟩, fun _ h => by cases h⟩⟩⟩⟩⟩) ?_)
                exact ⟨rfl, _, rfl, (hk3.set 0 (.int .i64 q1)).set 1 (.int .i64 q2), Nat.le_refl _, (hb3'.setCell (p := ⟨W.heap.size, 0, none⟩) (Nat.le_refl _) (.int .i64 q1)).setCell (p := ⟨W.heap.size, 1, none⟩) (Nat.le_refl _) (.int .i64 q2)⟩
            · simp only [List.getD_cons_zero, List.getD_cons_succ]
              go_wp2_with fail
              refine Go.Canon.tr_end (keep_below (below_undrew (((Below.refl W.heap.size W).alloc (Nat.le_refl _) (.cells #[.int .i64 0, .int .i64 0] 39)).drew))) (Go.Canon.tr_one ?_)
              simp only [List.getD_cons_zero, List.getD_cons_succ]
              go_wp2_with fail
              refine Go.Canon.tr_end (keep_below (below_undrew (((Below.refl W.heap.size W).alloc (Nat.le_refl _) (.cells #[.int .i64 0, .int .i64 0] 39)).drew))) (Go.Canon.tr_seg ?_)
              simp only [List.map_cons, List.map_nil, List.getD_cons_zero, List.getD_cons_succ]
              go_wp2_with fail
              refine Go.Canon.tr_to (Go.Canon.tr_one ?_)
              simp only [List.getD_cons_zero, List.getD_cons_succ]
              go_wp2_with fail
              refine (Hhvx.out _ (((Below.refl W.heap.size W).alloc (Nat.le_refl _) (.cells #[.int .i64 0, .int .i64 0] 39)).drew)).mono ?_
              rintro e w' ⟨rfl, rfl⟩
              go_wp2_with fail
              refine Go.Canon.tr_end (keep_below (below_undrew (((Below.refl W.heap.size W).alloc (Nat.le_refl _) (.cells #[.int .i64 0, .int .i64 0] 39)).drew))) (Go.Canon.tr_seg ?_)
              simp only [List.map_cons, List.map_nil, List.getD_cons_zero, List.getD_cons_succ]
              go_wp2_with fail
              refine Go.Canon.tr_to (Go.Canon.tr_one ?_)
              simp only [List.getD_cons_zero, List.getD_cons_succ]
              go_wp2_with fail
              refine (Hhnmd.out _).mono ?_
              rintro e w3 ⟨rfl, hb3⟩
              have hb3' := (((Below.refl W.heap.size W).alloc (Nat.le_refl _) (.cells #[.int .i64 0, .int .i64 0] 39)).drew).trans (hb3.mono (by simp))
              have hk3 := ((Bk.new W 39 [.int .i64 0, .int .i64 0]).drew).below hb3 (by simp)
              have z0 : w3.cell? ⟨W.heap.size, 0, none⟩ = some (.int .i64 0) := hk3.cell 0
              have z1 : w3.cell? ⟨W.heap.size, 1, none⟩ = some (.int .i64 0) := hk3.cell 1
              have zf := hk3.frozen
              go_wp2_with fail
              refine Go.Canon.tr_end (keep_below (below_undrew hb3')) (Go.Canon.tr_one ?_)
              simp only [List.getD_cons_zero, List.getD_cons_succ]
              go_wp2_with fail
              refine Go.Canon.tr_end (keep_below (below_undrew ((hb3'.setCell (p := ⟨W.heap.size, 0, none⟩) (Nat.le_refl _) (.int .i64 q1)).setCell (p := ⟨W.heap.size, 1, none⟩) (Nat.le_refl _) (.int .i64 q2)))) (Go.Canon.tr_fin (by rfl) (List.forall_mem_cons.2 ⟨.inl ⟨_, rfl, (by first | (show gb + 1 < _; omega) | (show gb < _; omega) | (show g < _; omega)), by rw [World.cell?_drew, d1]; rfl⟩, List.forall_mem_cons.2 ⟨.inl ⟨_, rfl, (by first | (show gb + 1 < _; omega) | (show gb < _; omega) | (show g < _; omega)), by rw [World.cell?_drew, d0]; rfl⟩, List.forall_mem_cons.2 ⟨.inl ⟨_, rfl, (by first | (show gb + 1 < _; omega) | (show gb < _; omega) | (show g < _; omega)), by rw [World.cell?_drew, c0W]; rfl⟩, List.forall_mem_cons.2 ⟨.inl ⟨_, rfl, (by first | (show gb + 1 < _; omega) | (show gb < _; omega) | (show g < _; omega)), by rw [World.cell?_drew, d0]; rfl⟩, List.forall_mem_cons.2 ⟨.inl ⟨_, rfl, (by first | (show gb + 1 < _; omega) | (show gb < _; omega) | (show g < _; omega)), by rw [World.cell?_drew, c0W]; rfl⟩, fun _ h => by cases h⟩⟩⟩⟩⟩) ?_)
              exact ⟨rfl, _, rfl, (hk3.set 0 (.int .i64 q1)).set 1 (.int .i64 q2), Nat.le_refl _, (hb3'.setCell (p := ⟨W.heap.size, 0, none⟩) (Nat.le_refl _) (.int .i64 q1)).setCell (p := ⟨W.heap.size, 1, none⟩) (Nat.le_refl _) (.int .i64 q2)⟩
          · simp only [List.getD_cons_zero, List.getD_cons_succ]
            go_wp2_with fail
            refine Go.Canon.tr_end (keep_below (below_undrew (((Below.refl W.heap.size W).alloc (Nat.le_refl _) (.cells #[.int .i64 0, .int .i64 0] 39)).drew))) (Go.Canon.tr_alt ?_ (Go.Canon.tr_one ?_))
            · simp only [List.getD_cons_zero, List.getD_cons_succ]
              go_wp2_with fail
              refine Go.Canon.tr_end (keep_below (below_undrew (((Below.refl W.heap.size W).alloc (Nat.le_refl _) (.cells #[.int .i64 0, .int .i64 0] 39)).drew))) (Go.Canon.tr_seg ?_)
              simp only [List.map_cons, List.map_nil, List.getD_cons_zero, List.getD_cons_succ]
              go_wp2_with fail
              refine Go.Canon.tr_to (Go.Canon.tr_one ?_)
              simp only [List.getD_cons_zero, List.getD_cons_succ]
              go_wp2_with fail
              refine (Hhnx.out _ (((Below.refl W.heap.size W).alloc (Nat.le_refl _) (.cells #[.int .i64 0, .int .i64 0] 39)).drew)).mono ?_
              rintro e w' ⟨rfl, rfl⟩
              go_wp2_with fail
              refine Go.Canon.tr_end (keep_below (below_undrew (((Below.refl W.heap.size W).alloc (Nat.le_refl _) (.cells #[.int .i64 0, .int .i64 0] 39)).drew))) (Go.Canon.tr_one ?_)
              simp only [List.getD_cons_zero, List.getD_cons_succ]
              go_wp2_with fail
              refine (Hhvx.out _ (((Below.refl W.heap.size W).alloc (Nat.le_refl _) (.cells #[.int .i64 0, .int .i64 0] 39)).drew)).mono ?_
              rintro e w' ⟨rfl, rfl⟩
              go_wp2_with fail
              refine Go.Canon.tr_end (keep_below (below_undrew (((Below.refl W.heap.size W).alloc (Nat.le_refl _) (.cells #[.int .i64 0, .int .i64 0] 39)).drew))) (Go.Canon.tr_seg ?_)
              simp only [List.map_cons, List.map_nil, List.getD_cons_zero, List.getD_cons_succ]
              go_wp2_with fail
              refine Go.Canon.tr_to (Go.Canon.tr_one ?_)
              simp only [List.getD_cons_zero, List.getD_cons_succ]
              go_wp2_with fail
              refine (Hhnmd.out _).mono ?_
              rintro e w3 ⟨rfl, hb3⟩
              have hb3' := (((Below.refl W.heap.size W).alloc (Nat.le_refl _) (.cells #[.int .i64 0, .int .i64 0] 39)).drew).trans (hb3.mono (by simp))
              have hk3 := ((Bk.new W 39 [.int .i64 0, .int .i64 0]).drew).below hb3 (by simp)
              have z0 : w3.cell? ⟨W.heap.size, 0, none⟩ = some (.int .i64 0) := hk3.cell 0
              have z1 : w3.cell? ⟨W.heap.size, 1, none⟩ = some (.int .i64 0) := hk3.cell 1
              have zf := hk3.frozen
              go_wp2_with fail
              refine Go.Canon.tr_end (keep_below (below_undrew hb3')) (Go.Canon.tr_one ?_)
              simp only [List.getD_cons_zero, List.getD_cons_succ]
              go_wp2_with fail
              refine Go.Canon.tr_end (keep_below (below_undrew ((hb3'.setCell (p := ⟨W.heap.size, 0, none⟩) (Nat.le_refl _) (.int .i64 q1)).setCell (p := ⟨W.heap.size, 1, none⟩) (Nat.le_refl _) (.int .i64 q2)))) (Go.Canon.tr_fin (by rfl) (List.forall_mem_cons.2 ⟨.inl ⟨_, rfl, (by first | (show gb + 1 < _; omega) | (show gb < _; omega) | (show g < _; omega)), by rw [World.cell?_drew, d1]; rfl⟩, List.forall_mem_cons.2 ⟨.inl ⟨_, rfl, (by first | (show gb + 1 < _; omega) | (show gb < _; omega) | (show g < _; omega)), by rw [World.cell?_drew, d0]; rfl⟩, List.forall_mem_cons.2 ⟨.inl ⟨_, rfl, (by first | (show gb + 1 < _; omega) | (show gb < _; omega) | (show g < _; omega)), by rw [World.cell?_drew, c0W]; rfl⟩, List.forall_mem_cons.2 ⟨.inl ⟨_, rfl, (by first | (show gb + 1 < _; omega) | (show gb < _; omega) | (show g < _; omega)), by rw [World.cell?_drew, d0]; rfl⟩, List.forall_mem_cons.2 ⟨.inl ⟨_, rfl, (by first | (show gb + 1 < _; omega) | (show gb < _; omega) | (show g < _; omega)), by rw [World.cell?_drew, c0W]; rfl⟩, fun _ h => by cases h⟩⟩⟩⟩⟩) ?_)
              exact ⟨rfl, _, rfl, (hk3.set 0 (.int .i64 q1)).set 1 (.int .i64 q2), Nat.le_refl _, (hb3'.setCell (p := ⟨W.heap.size, 0, none⟩) (Nat.le_refl _) (.int .i64 q1)).setCell (p := ⟨W.heap.size, 1, none⟩) (Nat.le_refl _) (.int .i64 q2)⟩
            · simp only [List.getD_cons_zero, List.getD_cons_succ]
              go_wp2_with fail
              refine (Hhnx.out _ (((Below.refl W.heap.size W).alloc (Nat.le_refl _) (.cells #[.int .i64 0, .int .i64 0] 39)).drew)).mono ?_
              rintro e w' ⟨rfl, rfl⟩
              go_wp2_with fail
              refine Go.Canon.tr_end (keep_below (below_undrew (((Below.refl W.heap.size W).alloc (Nat.le_refl _) (.cells #[.int .i64 0, .int .i64 0] 39)).drew))) (Go.Canon.tr_one ?_)
              simp only [List.getD_cons_zero, List.getD_cons_succ]
              go_wp2_with fail
              refine Go.Canon.tr_end (keep_below (below_undrew (((Below.refl W.heap.size W).alloc (Nat.le_refl _) (.cells #[.int .i64 0, .int .i64 0] 39)).drew))) (Go.Canon.tr_seg ?_)
              simp only [List.map_cons, List.map_nil, List.getD_cons_zero, List.getD_cons_succ]
              go_wp2_with fail
              refine Go.Canon.tr_to (Go.Canon.tr_one ?_)
              simp only [List.getD_cons_zero, List.getD_cons_succ]
              go_wp2_with fail
              refine (Hhvx.out _ (((Below.refl W.heap.size W).alloc (Nat.le_refl _) (.cells #[.int .i64 0, .int .i64 0] 39)).drew)).mono ?_
              rintro e w' ⟨rfl, rfl⟩
              go_wp2_with fail
              refine Go.Canon.tr_end (keep_below (below_undrew (((Below.refl W.heap.size W).alloc (Nat.le_refl _) (.cells #[.int .i64 0, .int .i64 0] 39)).drew))) (Go.Canon.tr_seg ?_)
              simp only [List.map_cons, List.map_nil, List.getD_cons_zero, List.getD_cons_succ]
              go_wp2_with fail
              refine Go.Canon.tr_to (Go.Canon.tr_one ?_)
              simp only [List.getD_cons_zero, List.getD_cons_succ]
              go_wp2_with fail
              refine (Hhnmd.out _).mono ?_
              rintro e w3 ⟨rfl, hb3⟩
              have hb3' := (((Below.refl W.heap.size W).alloc (Nat.le_refl _) (.cells #[.int .i64 0, .int .i64 0] 39)).drew).trans (hb3.mono (by simp))
              have hk3 := ((Bk.new W 39 [.int .i64 0, .int .i64 0]).drew).below hb3 (by simp)
              have z0 : w3.cell? ⟨W.heap.size, 0, none⟩ = some (.int .i64 0) := hk3.cell 0
              have z1 : w3.cell? ⟨W.heap.size, 1, none⟩ = some (.int .i64 0) := hk3.cell 1
              have zf := hk3.frozen
              go_wp2_with fail
              refine Go.Canon.tr_end (keep_below (below_undrew hb3')) (Go.Canon.tr_one ?_)
              simp only [List.getD_cons_zero, List.getD_cons_succ]
              go_wp2_with fail
              refine Go.Canon.tr_end (keep_below (below_undrew ((hb3'.setCell (p := ⟨W.heap.size, 0, none⟩) (Nat.le_refl _) (.int .i64 q1)).setCell (p := ⟨W.heap.size, 1, none⟩) (Nat.le_refl _) (.int .i64 q2)))) (Go.Canon.tr_fin (by rfl) (List.forall_mem_cons.2 ⟨.inl ⟨_, rfl, (by first | (show gb + 1 < _; omega) | (show gb < _; omega) | (show g < _; omega)), by rw [World.cell?_drew, d1]; rfl⟩, List.forall_mem_cons.2 ⟨.inl ⟨_, rfl, (by first | (show gb + 1 < _; omega) | (show gb < _; omega) | (show g < _; omega)), by rw [World.cell?_drew, d0]; rfl⟩, List.forall_mem_cons.2 ⟨.inl ⟨_, rfl, (by first | (show gb + 1 < _; omega) | (show gb < _; omega) | (show g < _; omega)), by rw [World.cell?_drew, c0W]; rfl⟩, List.forall_mem_cons.2 ⟨.inl ⟨_, rfl, (by first | (show gb + 1 < _; omega) | (show gb < _; omega) | (show g < _; omega)), by rw [World.cell?_drew, d0]; rfl⟩, List.forall_mem_cons.2 ⟨.inl ⟨_, rfl, (by first | (show gb + 1 < _; omega) | (show gb < _; omega) | (show g < _; omega)), by rw [World.cell?_drew, c0W]; rfl⟩, fun _ h => by cases h⟩⟩⟩⟩⟩) ?_)
              exact ⟨rfl, _, rfl, (hk3.set 0 (.int .i64 q1)).set 1 (.int .i64 q2), Nat.le_refl _, (hb3'.setCell (p := ⟨W.heap.size, 0, none⟩) (Nat.le_refl _) (.int .i64 q1)).setCell (p := ⟨W.heap.size, 1, none⟩) (Nat.le_refl _) (.int .i64 q2)⟩
        · simp only [List.getD_cons_zero, List.getD_cons_succ]
          go_wp2_with fail
          refine Go.Canon.tr_end (keep_below (below_undrew (((Below.refl W.heap.size W).alloc (Nat.le_refl _) (.cells #[.int .i64 0, .int .i64 0] 39)).drew))) (Go.Canon.tr_alt ?_ (Go.Canon.tr_one ?_))
          · simp only [List.getD_cons_zero, List.getD_cons_succ]
            go_wp2_with fail
            refine Go.Canon.tr_end (keep_below (below_undrew (((Below.refl W.heap.size W).alloc (Nat.le_refl _) (.cells #[.int .i64 0, .int .i64 0] 39)).drew))) (Go.Canon.tr_seg ?_)
            simp only [List.map_cons, List.map_nil, List.getD_cons_zero, List.getD_cons_succ]
            go_wp2_with fail
            refine Go.Canon.tr_to (Go.Canon.tr_one ?_)
            simp only [List.getD_cons_zero, List.getD_cons_succ]
            go_wp2_with fail
            refine Go.Canon.tr_end (keep_below (below_undrew (((Below.refl W.heap.size W).alloc (Nat.le_refl _) (.cells #[.int .i64 0, .int .i64 0] 39)).drew))) (Go.Canon.tr_seg ?_)
            simp only [List.map_cons, List.map_nil, List.getD_cons_zero, List.getD_cons_succ]
            go_wp2_with fail
            refine Go.Canon.tr_to (Go.Canon.tr_one ?_)
            simp only [List.getD_cons_zero, List.getD_cons_succ]
            go_wp2_with fail
            refine (Hhnx.out _ (((Below.refl W.heap.size W).alloc (Nat.le_refl _) (.cells #[.int .i64 0, .int .i64 0] 39)).drew)).mono ?_
            rintro e w' ⟨rfl, rfl⟩
            go_wp2_with fail
            refine Go.Canon.tr_end (keep_below (below_undrew (((Below.refl W.heap.size W).alloc (Nat.le_refl _) (.cells #[.int .i64 0, .int .i64 0] 39)).drew))) (Go.Canon.tr_one ?_)
            simp only [List.getD_cons_zero, List.getD_cons_succ]
            go_wp2_with fail
            refine (Hhvx.out _ (((Below.refl W.heap.size W).alloc (Nat.le_refl _) (.cells #[.int .i64 0, .int .i64 0] 39)).drew)).mono ?_
            rintro e w' ⟨rfl, rfl⟩
            go_wp2_with fail
            refine Go.Canon.tr_end (keep_below (below_undrew (((Below.refl W.heap.size W).alloc (Nat.le_refl _) (.cells #[.int .i64 0, .int .i64 0] 39)).drew))) (Go.Canon.tr_seg ?_)
            simp only [List.map_cons, List.map_nil, List.getD_cons_zero, List.getD_cons_succ]
            go_wp2_with fail
            refine Go.Canon.tr_to (Go.Canon.tr_one ?_)
            simp only [List.getD_cons_zero, List.getD_cons_succ]
            go_wp2_with fail
            refine (Hhnmd.out _).mono ?_
            rintro e w3 ⟨rfl, hb3⟩
            have hb3' := (((Below.refl W.heap.size W).alloc (Nat.le_refl _) (.cells #[.int .i64 0, .int .i64 0] 39)).drew).trans (hb3.mono (by simp))
            have hk3 := ((Bk.new W 39 [.int .i64 0, .int .i64 0]).drew).below hb3 (by simp)
            have z0 : w3.cell? ⟨W.heap.size, 0, none⟩ = some (.int .i64 0) := hk3.cell 0
            have z1 : w3.cell? ⟨W.heap.size, 1, none⟩ = some (.int .i64 0) := hk3.cell 1
            have zf := hk3.frozen
            go_wp2_with fail
            refine Go.Canon.tr_end (keep_below (below_undrew hb3')) (Go.Canon.tr_one ?_)
            simp only [List.getD_cons_zero, List.getD_cons_succ]
            go_wp2_with fail
            refine Go.Canon.tr_end (keep_below (below_undrew ((hb3'.setCell (p := ⟨W.heap.size, 0, none⟩) (Nat.le_refl _) (.int .i64 q1)).setCell (p := ⟨W.heap.size, 1, none⟩) (Nat.le_refl _) (.int .i64 q2)))) (Go.Canon.tr_fin (by rfl) (List.forall_mem_cons.2 ⟨.inl ⟨_, rfl, (by first | (show gb + 1 < _; omega) | (show gb < _; omega) | (show g < _; omega)), by rw [World.cell?_drew, d1]; rfl⟩, List.forall_mem_cons.2 ⟨.inl ⟨_, rfl, (by first | (show gb + 1 < _; omega) | (show gb < _; omega) | (show g < _; omega)), by rw [World.cell?_drew, d0]; rfl⟩, List.forall_mem_cons.2 ⟨.inl ⟨_, rfl, (by first | (show gb + 1 < _; omega) | (show gb < _; omega) | (show g < _; omega)), by rw [World.cell?_drew, c0W]; rfl⟩, List.forall_mem_cons.2 ⟨.inl ⟨_, rfl, (by first | (show gb + 1 < _; omega) | (show gb < _; omega) | (show g < _; omega)), by rw [World.cell?_drew, d0]; rfl⟩, List.forall_mem_cons.2 ⟨.inl ⟨_, rfl, (by first | (show gb + 1 < _; omega) | (show gb < _; omega) | (show g < _; omega)), by rw [World.cell?_drew, c0W]; rfl⟩, fun _ h => by cases h⟩⟩⟩⟩⟩) ?_)
            exact ⟨rfl, _, rfl, (hk3.set 0 (.int .i64 q1)).set 1 (.int .i64 q2), Nat.le_refl _, (hb3'.setCell (p := ⟨W.heap.size, 0, none⟩) (Nat.le_refl _) (.int .i64 q1)).setCell (p := ⟨W.heap.size, 1, none⟩) (Nat.le_refl _) (.int .i64 q2)⟩
          · simp only [List.getD_cons_zero, List.getD_cons_succ]
            go_wp2_with fail
            refine Go.Canon.tr_end (keep_below (below_undrew (((Below.refl W.heap.size W).alloc (Nat.le_refl _) (.cells #[.int .i64 0, .int .i64 0] 39)).drew))) (Go.Canon.tr_seg ?_)
            simp only [List.map_cons, List.map_nil, List.getD_cons_zero, List.getD_cons_succ]
            go_wp2_with fail
            refine Go.Canon.tr_to (Go.Canon.tr_alt ?_ (Go.Canon.tr_one ?_))
            · simp only [List.getD_cons_zero, List.getD_cons_succ]
              go_wp2_with fail
              refine Go.Canon.tr_end (keep_below (below_undrew (((Below.refl W.heap.size W).alloc (Nat.le_refl _) (.cells #[.int .i64 0, .int .i64 0] 39)).drew))) (Go.Canon.tr_seg ?_)
              simp only [List.map_cons, List.map_nil, List.getD_cons_zero, List.getD_cons_succ]
              go_wp2_with fail
              refine Go.Canon.tr_to (Go.Canon.tr_one ?_)
              simp only [List.getD_cons_zero, List.getD_cons_succ]
              go_wp2_with fail
              refine (Hhnx.out _ (((Below.refl W.heap.size W).alloc (Nat.le_refl _) (.cells #[.int .i64 0, .int .i64 0] 39)).drew)).mono ?_
              rintro e w' ⟨rfl, rfl⟩
              go_wp2_with fail
              refine Go.Canon.tr_end (keep_below (below_undrew (((Below.refl W.heap.size W).alloc (Nat.le_refl _) (.cells #[.int .i64 0, .int .i64 0] 39)).drew))) (Go.Canon.tr_one ?_)
              simp only [List.getD_cons_zero, List.getD_cons_succ]
              go_wp2_with fail
              refine (Hhvx.out _ (((Below.refl W.heap.size W).alloc (Nat.le_refl _) (.cells #[.int .i64 0, .int .i64 0] 39)).drew)).mono ?_
              rintro e w' ⟨rfl, rfl⟩
              go_wp2_with fail
              refine Go.Canon.tr_end (keep_below (below_undrew (((Below.refl W.heap.size W).alloc (Nat.le_refl _) (.cells #[.int .i64 0, .int .i64 0] 39)).drew))) (Go.Canon.tr_seg ?_)
              simp only [List.map_cons, List.map_nil, List.getD_cons_zero, List.getD_cons_succ]
              go_wp2_with fail
              refine Go.Canon.tr_to (Go.Canon.tr_one ?_)
              simp only [List.getD_cons_zero, List.getD_cons_succ]
              go_wp2_with fail
              refine (Hhnmd.out _).mono ?_
              rintro e w3 ⟨rfl, hb3⟩
              have hb3' := (((Below.refl W.heap.size W).alloc (Nat.le_refl _) (.cells #[.int .i64 0, .int .i64 0] 39)).drew).trans (hb3.mono (by simp))
              have hk3 := ((Bk.new W 39 [.int .i64 0, .int .i64 0]).drew).below hb3 (by simp)
              have z0 : w3.cell? ⟨W.heap.size, 0, none⟩ = some (.int .i64 0) := hk3.cell 0
              have z1 : w3.cell? ⟨W.heap.size, 1, none⟩ = some (.int .i64 0) := hk3.cell 1
              have zf := hk3.frozen
              go_wp2_with fail
              refine Go.Canon.tr_end (keep_below (below_undrew hb3')) (Go.Canon.tr_one ?_)
              simp only [List.getD_cons_zero, List.getD_cons_succ]
              go_wp2_with fail
              refine Go.Canon.tr_end (keep_below (below_undrew ((hb3'.setCell (p := ⟨W.heap.size, 0, none⟩) (Nat.le_refl _) (.int .i64 q1)).setCell (p := ⟨W.heap.size, 1, none⟩) (Nat.le_refl _) (.int .i64 q2)))) (Go.Canon.tr_fin (by rfl) (List.forall_mem_cons.2 ⟨.inl ⟨_, rfl, (by first | (show gb + 1 < _; omega) | (show gb < _; omega) | (show g < _; omega)), by rw [World.cell?_drew, d1]; rfl⟩, List.forall_mem_cons.2 ⟨.inl ⟨_, rfl, (by first | (show gb + 1 < _; omega) | (show gb < _; omega) | (show g < _; omega)), by rw [World.cell?_drew, d0]; rfl⟩, List.forall_mem_cons.2 ⟨.inl ⟨_, rfl, (by first | (show gb + 1 < _; omega) | (show gb < _; omega) | (show g < _; omega)), by rw [World.cell?_drew, c0W]; rfl⟩, List.forall_mem_cons.2 ⟨.inl ⟨_, rfl, (by first | (show gb + 1 < _; omega) | (show gb < _; omega) | (show g < _; omega)), by rw [World.cell?_drew, d0]; rfl⟩, List.forall_mem_cons.2 ⟨.inl ⟨_, rfl, (by first | (show gb + 1 < _; omega) | (show gb < _; omega) | (show g < _; omega)), by rw [World.cell?_drew, c0W]; rfl⟩, fun _ h => by cases h⟩⟩⟩⟩⟩) ?_)
              exact ⟨rfl, _, rfl, (hk3.set 0 (.int .i64 q1)).set 1 (.int .i64 q2), Nat.le_refl _, (hb3'.setCell (p := ⟨W.heap.size, 0, none⟩) (Nat.le_refl _) (.int .i64 q1)).setCell (p := ⟨W.heap.size, 1, none⟩) (Nat.le_refl _) (.int .i64 q2)⟩
            · simp only [List.getD_cons_zero, List.getD_cons_succ]
              go_wp2_with fail
              refine (Hhnx.out _ (((Below.refl W.heap.size W).alloc (Nat.le_refl _) (.cells #[.int .i64 0, .int .i64 0] 39)).drew)).mono ?_
              rintro e w' ⟨rfl, rfl⟩
              go_wp2_with fail
              refine Go.Canon.tr_end (keep_below (below_undrew (((Below.refl W.heap.size W).alloc (Nat.le_refl _) (.cells #[.int .i64 0, .int .i64 0] 39)).drew))) (Go.Canon.tr_one ?_)
              simp only [List.getD_cons_zero, List.getD_cons_succ]
              go_wp2_with fail
              refine Go.Canon.tr_end (keep_below (below_undrew (((Below.refl W.heap.size W).alloc (Nat.le_refl _) (.cells #[.int .i64 0, .int .i64 0] 39)).drew))) (Go.Canon.tr_seg ?_)
              simp only [List.map_cons, List.map_nil, List.getD_cons_zero, List.getD_cons_succ]
              go_wp2_with fail
              refine Go.Canon.tr_to (Go.Canon.tr_one ?_)
              simp only [List.getD_cons_zero, List.getD_cons_succ]
              go_wp2_with fail
              refine (Hhvx.out _ (((Below.refl W.heap.size W).alloc (Nat.le_refl _) (.cells #[.int .i64 0, .int .i64 0] 39)).drew)).mono ?_
              rintro e w' ⟨rfl, rfl⟩
              go_wp2_with fail
              refine Go.Canon.tr_end (keep_below (below_undrew (((Below.refl W.heap.size W).alloc (Nat.le_refl _) (.cells #[.int .i64 0, .int .i64 0] 39)).drew))) (Go.Canon.tr_seg ?_)
              simp only [List.map_cons, List.map_nil, List.getD_cons_zero, List.getD_cons_succ]
              go_wp2_with fail
              refine Go.Canon.tr_to (Go.Canon.tr_one ?_)
              simp only [List.getD_cons_zero, List.getD_cons_succ]
              go_wp2_with fail
              refine (Hhnmd.out _).mono ?_
              rintro e w3 ⟨rfl, hb3⟩
              have hb3' := (((Below.refl W.heap.size W).alloc (Nat.le_refl _) (.cells #[.int .i64 0, .int .i64 0] 39)).drew).trans (hb3.mono (by simp))
              have hk3 := ((Bk.new W 39 [.int .i64 0, .int .i64 0]).drew).below hb3 (by simp)
              have z0 : w3.cell? ⟨W.heap.size, 0, none⟩ = some (.int .i64 0) := hk3.cell 0
              have z1 : w3.cell? ⟨W.heap.size, 1, none⟩ = some (.int .i64 0) := hk3.cell 1
              have zf := hk3.frozen
              go_wp2_with fail
              refine Go.Canon.tr_end (keep_below (below_undrew hb3')) (Go.Canon.tr_one ?_)
              simp only [List.getD_cons_zero, List.getD_cons_succ]
              go_wp2_with fail
              refine Go.Canon.tr_end (keep_below (below_undrew ((hb3'.setCell (p := ⟨W.heap.size, 0, none⟩) (Nat.le_refl _) (.int .i64 q1)).setCell (p := ⟨W.heap.size, 1, none⟩) (Nat.le_refl _) (.int .i64 q2)))) (Go.Canon.tr_fin (by rfl) (List.forall_mem_cons.2 ⟨.inl ⟨_, rfl, (by first | (show gb + 1 < _; omega) | (show gb < _; omega) | (show g < _; omega)), by rw [World.cell?_drew, d1]; rfl⟩, List.forall_mem_cons.2 ⟨.inl ⟨_, rfl, (by first | (show gb + 1 < _; omega) | (show gb < _; omega) | (show g < _; omega)), by rw [World.cell?_drew, d0]; rfl⟩, List.forall_mem_cons.2 ⟨.inl ⟨_, rfl, (by first | (show gb + 1 < _; omega) | (show gb < _; omega) | (show g < _; omega)), by rw [World.cell?_drew, c0W]; rfl⟩, List.forall_mem_cons.2 ⟨.inl ⟨_, rfl, (by first | (show gb + 1 < _; omega) | (show gb < _; omega) | (show g < _; omega)), by rw [World.cell?_drew, d0]; rfl⟩, List.forall_mem_cons.2 ⟨.inl ⟨_, rfl, (by first | (show gb + 1 < _; omega) | (show gb < _; omega) | (show g < _; omega)), by rw [World.cell?_drew, c0W]; rfl⟩, fun _ h => by cases h⟩⟩⟩⟩⟩) ?_)
              exact ⟨rfl, _, rfl, (hk3.set 0 (.int .i64 q1)).set 1 (.int .i64 q2), Nat.le_refl _, (hb3'.setCell (p := ⟨W.heap.size, 0, none⟩) (Nat.le_refl _) (.int .i64 q1)).setCell (p := ⟨W.heap.size, 1, none⟩) (Nat.le_refl _) (.int .i64 q2)⟩
    case rest6 =>
      rintro a' W6 ⟨b, rfl, hbk, hble, hb6⟩
      have hz6 := hb6.size
      have hI6 := HhI.out.below hb6
      have c06 : W6.cell? ⟨g, 0, none⟩ = some (.pointer tg) := (hb6.cell (p := ⟨g, 0, none⟩) hgW).trans c0W
      have d06 := hI6.b0.cell
      have hop := fun wz (hz : Below W6.heap.size W6 wz) => opp_calls ((HhtbW.out.below hb6 HhtbW.out.le).below hz (by have := HhtbW.out.le; omega)) hs (pv x.1 : Int)
      rw [tOpp_at (pv_lt x.2)] at hop
      have hpr := fun wz (hz : Below W6.heap.size W6 wz) => tab_prev ((HhtbW.out.below hb6 HhtbW.out.le).below hz (by have := HhtbW.out.le; omega)) (c := x.1) x.2
      have hyy : decide (0 ≤ oi (opp T (pv x.1))) = (opp T (pv x.1)).isSome := oi_nonneg
      obtain ⟨y, hy⟩ : ∃ y, oi (opp T (pv x.1)) = y := ⟨_, rfl⟩
      rw [hy] at hop hyy
      have hgW6 : g < W6.heap.size := by omega
      clear c0W d0 d1
      have HhI6 := Lib.hid hI6; clear hI6; have Hhop := Lib.hid hop; clear hop; have Hhpr := Lib.hid hpr; clear hpr; have Hhyy := Lib.hid hyy; clear hyy; have Hhbk := Lib.hid hbk; clear hbk; have Hhy := Lib.hid hy; clear hy
      gi_wp2_with fail
      refine wpIn_cut (fun a' w' => a' = { tmps := #[.pointer (some ⟨g, 0, none⟩), .int .i64 v, .pointer (some ⟨gb, 0, none⟩), .pointer (some ⟨gb + 1, 0, none⟩), .slice none 0 0, .pointer (some ⟨gb + 1 + 1, 0, none⟩), .pointer (some ⟨gb + 1 + 1 + 1, 0, none⟩), .pointer (some ⟨gb + 1 + 1 + 1 + 1, 0, none⟩), .int .i64 (x.1 : Int), .pointer (some ⟨b, 0, none⟩), .bool (decide (0 ≤ y)), .pointer (some ⟨g, 0, none⟩), .pointer (some ⟨g, 0, none⟩), .pointer (some ⟨g, 0, none⟩), .pointer tg, .int .i64 v, .func (.func 124) #[] #[.pointer (some ⟨gb + 5, 0, none⟩), .pointer (some ⟨gb + 5 + 1, 0, none⟩)], .int .i64 (x.1 : Int), .int .i64 v, .pointer (some ⟨g, 0, none⟩), .pointer (some ⟨g, 0, none⟩), .pointer (some ⟨g, 0, none⟩), .pointer tg, .pointer (some ⟨g, 0, none⟩), .pointer (some ⟨g, 0, none⟩), .pointer (some ⟨g, 0, none⟩), .pointer tg, .int .i64 (x.1 : Int), .int .i64 (nx x.1 : Int), .int .i64 u, .agg #[.int .i64 v, .int .i64 u], .agg #[.int .i64 q1, .int .i64 q2], .pointer (some ⟨g, 0, none⟩), .pointer (some ⟨g, 0, none⟩), .pointer (some ⟨g, 0, none⟩), .pointer tg, .pointer (some ⟨g, 0, none⟩), .pointer (some ⟨g, 0, none⟩), .pointer (some ⟨g, 0, none⟩), .pointer tg, .int .i64 (x.1 : Int), .int .i64 (pv x.1 : Int), .int .i64 y, .bool (decide (0 ≤ y)), undef, undef, undef, undef, undef, undef, undef, undef, undef, undef, undef, undef, undef, undef, undef, undef, undef, undef, undef, undef, undef, undef, undef, undef, undef, undef, undef, undef, undef, undef, undef, undef, undef, undef, undef, undef, undef, undef, undef, undef, undef, undef, undef, undef, undef, undef, undef, undef, undef, undef, undef, undef, undef, undef, undef, undef, undef], defers := [] } ∧ Below W6.heap.size W6 w') ?first7 ?rest7
      case first7 =>
        refine (Go.Canon.wide_round l).region_tree [0, 3, 4, 7] (fun b => b < W6.heap.size) (.seg [0,4,8] (.alt 1 (.seg [2,3] (.alt 5 (.seg [6,7] (.alt 9 (.alt 10 (.seg [11,12] .fin) .no) .no)) .no)) (.alt 5 (.seg [6,7] (.alt 1 (.seg [2,3] (.alt 9 (.alt 10 (.seg [11,12] .fin) .no) .no)) (.alt 9 (.alt 1 (.seg [2,3] (.alt 10 (.seg [11,12] .fin) .no)) .no) .no))) .no))) (by rfl) mixed (by kernel_rfl) ?_
        refine Go.Canon.tr_seg ?_
        simp only [List.map_cons, List.map_nil, List.getD_cons_zero, List.getD_cons_succ]
        go_wp2_with fail
        refine Go.Canon.tr_to (Go.Canon.tr_alt ?_ (Go.Canon.tr_one ?_))
        · simp only [List.getD_cons_zero, List.getD_cons_succ]
          go_wp2_with fail
          refine Go.Canon.tr_end (keep_below (below_undrew ((Below.refl W6.heap.size W6).drew))) (Go.Canon.tr_seg ?_)
          simp only [List.map_cons, List.map_nil, List.getD_cons_zero, List.getD_cons_succ]
          go_wp2_with fail
          refine Go.Canon.tr_to (Go.Canon.tr_one ?_)
          simp only [List.getD_cons_zero, List.getD_cons_succ]
          go_wp2_with fail
          refine Go.Canon.tr_end (keep_below (below_undrew ((Below.refl W6.heap.size W6).drew))) (Go.Canon.tr_seg ?_)
          simp only [List.map_cons, List.map_nil, List.getD_cons_zero, List.getD_cons_succ]
          go_wp2_with fail
          refine Go.Canon.tr_to (Go.Canon.tr_one ?_)
          simp only [List.getD_cons_zero, List.getD_cons_succ]
          go_wp2_with fail
          refine (Hhpr.out _ ((Below.refl W6.heap.size W6).drew)).mono ?_
          rintro e w' ⟨rfl, rfl⟩
          go_wp2_with fail
          refine Go.Canon.tr_end (keep_below (below_undrew ((Below.refl W6.heap.size W6).drew))) (Go.Canon.tr_one ?_)
          simp only [List.getD_cons_zero, List.getD_cons_succ]
          go_wp2_with fail
          refine (Hhop.out _ ((Below.refl W6.heap.size W6).drew)).mono ?_
          rintro e w3 ⟨rfl, hb3⟩
          have hb3' := ((Below.refl W6.heap.size W6).drew).trans (hb3.mono (Nat.le_refl _))
          go_wp2_with fail
          refine Go.Canon.tr_end (keep_below (below_undrew hb3')) (Go.Canon.tr_seg ?_)
          simp only [List.map_cons, List.map_nil, List.getD_cons_zero, List.getD_cons_succ]
          go_wp2_with fail
          refine Go.Canon.tr_to (Go.Canon.tr_fin (by rfl) (List.forall_mem_cons.2 ⟨.inl ⟨_, rfl, (by first | (show gb < _; omega) | (show g < _; omega)), by rw [World.cell?_drew, d06]; rfl⟩, List.forall_mem_cons.2 ⟨.inl ⟨_, rfl, (by first | (show gb < _; omega) | (show g < _; omega)), by rw [World.cell?_drew, c06]; rfl⟩, List.forall_mem_cons.2 ⟨.inl ⟨_, rfl, (by first | (show gb < _; omega) | (show g < _; omega)), by rw [World.cell?_drew, d06]; rfl⟩, List.forall_mem_cons.2 ⟨.inl ⟨_, rfl, (by first | (show gb < _; omega) | (show g < _; omega)), by rw [World.cell?_drew, c06]; rfl⟩, fun _ h => by cases h⟩⟩⟩⟩) ?_)
          exact ⟨rfl, rfl, hb3'⟩
        · simp only [List.getD_cons_zero, List.getD_cons_succ]
          go_wp2_with fail
          refine Go.Canon.tr_end (keep_below (below_undrew ((Below.refl W6.heap.size W6).drew))) (Go.Canon.tr_seg ?_)
          simp only [List.map_cons, List.map_nil, List.getD_cons_zero, List.getD_cons_succ]
          go_wp2_with fail
          refine Go.Canon.tr_to (Go.Canon.tr_alt ?_ (Go.Canon.tr_one ?_))
          · simp only [List.getD_cons_zero, List.getD_cons_succ]
            go_wp2_with fail
            refine Go.Canon.tr_end (keep_below (below_undrew ((Below.refl W6.heap.size W6).drew))) (Go.Canon.tr_seg ?_)
            simp only [List.map_cons, List.map_nil, List.getD_cons_zero, List.getD_cons_succ]
            go_wp2_with fail
            refine Go.Canon.tr_to (Go.Canon.tr_one ?_)
            simp only [List.getD_cons_zero, List.getD_cons_succ]
            go_wp2_with fail
            refine (Hhpr.out _ ((Below.refl W6.heap.size W6).drew)).mono ?_
            rintro e w' ⟨rfl, rfl⟩
            go_wp2_with fail
            refine Go.Canon.tr_end (keep_below (below_undrew ((Below.refl W6.heap.size W6).drew))) (Go.Canon.tr_one ?_)
            simp only [List.getD_cons_zero, List.getD_cons_succ]
            go_wp2_with fail
            refine (Hhop.out _ ((Below.refl W6.heap.size W6).drew)).mono ?_
            rintro e w3 ⟨rfl, hb3⟩
            have hb3' := ((Below.refl W6.heap.size W6).drew).trans (hb3.mono (Nat.le_refl _))
            go_wp2_with fail
            refine Go.Canon.tr_end (keep_below (below_undrew hb3')) (Go.Canon.tr_seg ?_)
            simp only [List.map_cons, List.map_nil, List.getD_cons_zero, List.getD_cons_succ]
            go_wp2_with fail
            refine Go.Canon.tr_to (Go.Canon.tr_fin (by rfl) (List.forall_mem_cons.2 ⟨.inl ⟨_, rfl, (by first | (show gb < _; omega) | (show g < _; omega)), by rw [World.cell?_drew, d06]; rfl⟩, List.forall_mem_cons.2 ⟨.inl ⟨_, rfl, (by first | (show gb < _; omega) | (show g < _; omega)), by rw [World.cell?_drew, c06]; rfl⟩, List.forall_mem_cons.2 ⟨.inl ⟨_, rfl, (by first | (show gb < _; omega) | (show g < _; omega)), by rw [World.cell?_drew, d06]; rfl⟩, List.forall_mem_cons.2 ⟨.inl ⟨_, rfl, (by first | (show gb < _; omega) | (show g < _; omega)), by rw [World.cell?_drew, c06]; rfl⟩, fun _ h => by cases h⟩⟩⟩⟩) ?_)
            exact ⟨rfl, rfl, hb3'⟩
          · simp only [List.getD_cons_zero, List.getD_cons_succ]
            go_wp2_with fail
            refine (Hhpr.out _ ((Below.refl W6.heap.size W6).drew)).mono ?_
            rintro e w' ⟨rfl, rfl⟩
            go_wp2_with fail
            refine Go.Canon.tr_end (keep_below (below_undrew ((Below.refl W6.heap.size W6).drew))) (Go.Canon.tr_one ?_)
            simp only [List.getD_cons_zero, List.getD_cons_succ]
            go_wp2_with fail
            refine Go.Canon.tr_end (keep_below (below_undrew ((Below.refl W6.heap.size W6).drew))) (Go.Canon.tr_seg ?_)
            simp only [List.map_cons, List.map_nil, List.getD_cons_zero, List.getD_cons_succ]
            go_wp2_with fail
            refine Go.Canon.tr_to (Go.Canon.tr_one ?_)
            simp only [List.getD_cons_zero, List.getD_cons_succ]
            go_wp2_with fail
            refine (Hhop.out _ ((Below.refl W6.heap.size W6).drew)).mono ?_
            rintro e w3 ⟨rfl, hb3⟩
            have hb3' := ((Below.refl W6.heap.size W6).drew).trans (hb3.mono (Nat.le_refl _))
            go_wp2_with fail
            refine Go.Canon.tr_end (keep_below (below_undrew hb3')) (Go.Canon.tr_seg ?_)
            simp only [List.map_cons, List.map_nil, List.getD_cons_zero, List.getD_cons_succ]
            go_wp2_with fail
            refine Go.Canon.tr_to (Go.Canon.tr_fin (by rfl) (List.forall_mem_cons.2 ⟨.inl ⟨_, rfl, (by first | (show gb < _; omega) | (show g < _; omega)), by rw [World.cell?_drew, d06]; rfl⟩, List.forall_mem_cons.2 ⟨.inl ⟨_, rfl, (by first | (show gb < _; omega) | (show g < _; omega)), by rw [World.cell?_drew, c06]; rfl⟩, List.forall_mem_cons.2 ⟨.inl ⟨_, rfl, (by first | (show gb < _; omega) | (show g < _; omega)), by rw [World.cell?_drew, d06]; rfl⟩, List.forall_mem_cons.2 ⟨.inl ⟨_, rfl, (by first | (show gb < _; omega) | (show g < _; omega)), by rw [World.cell?_drew, c06]; rfl⟩, fun _ h => by cases h⟩⟩⟩⟩) ?_)
            exact ⟨rfl, rfl, hb3'⟩
      case rest7 =>
        rintro a' W7 ⟨rfl, hb7⟩
        have hz7 := hb7.size
        have hI7 := HhI6.out.below hb7
        have hb67 := hb6.trans (hb7.mono hz6)
        have hk67 := keeps_below hb67
        have hbk7 := Hhbk.out.below hb7 (by have := Hhbk.out.lt; omega)
        have hbl7 := hbk7.lt
        have e0 : W7.cell? ⟨b, 0, none⟩ = some (.int .i64 q1) := hbk7.cell 0
        have e1 : W7.cell? ⟨b, 1, none⟩ = some (.int .i64 q2) := hbk7.cell 1
        have hC7 := Hh.out
        rw [Hhyy.out]
        obtain ⟨ob, hob⟩ : ∃ ob, (opp T (pv x.1)).isSome = ob := ⟨_, rfl⟩
        rw [hob]
        have hgW7 : g < W7.heap.size := by omega
        have hbW7 : Below gb w W7 := hI7.bl
        obtain ⟨S, hS1, hS2⟩ := Hh.out.cuts
        have hSl := hS1.lt
        have hS7 := hS1.below hbW7 (by omega)
        have cm7 : W7.cell? ⟨g, 1, none⟩ = some (.map (some bc)) := (hbW7.cell (p := ⟨g, 1, none⟩) hga).trans (Hh.out.blk.cell 1)
        have d07 := hI7.b0.cell
        have hpc : pBv T (L.map nm) v x.1 = (Words.look S (q1, q2)).isSome := by
          unfold pBv
          rw [Hhu.out, show (q1, q2) = nm (v, u) from Prod.ext Hhq1.out.symm Hhq2.out.symm]
          cases h9 : (Words.look S (nm (v, u))).isSome with
          | true => exact decide_eq_true ((hS2 _).1 h9)
          | false => exact decide_eq_false fun h8 => by rw [(hS2 _).2 h8] at h9; cases h9
        obtain ⟨vo, vs, rv, g1, g2, g3, g4, g5, g6⟩ := hI7.len
        have r3 := g3.cell
        have r2 := g1.cell
        have r4 := hI7.b4.cell
        have zf2 := g1.frozen
        have zf3 := g3.frozen
        have zf4 := hI7.b4.frozen
        obtain ⟨i0, hi, hz0, hz1, hz2⟩ := info_parts infoInt
        have hok7 : ok2 (q1, q2) := by
          have hu2 := hs.rng (nx x.1) (nx_lt x.2)
          have hn2 := hs.nmax
          rw [Hhu.out] at hu2
          have a1 := Hhq1.out
          have a2 := Hhq2.out
          unfold nm at a1 a2
          simp only [] at a1 a2
          exact ⟨by unfold I64; simp only []; omega, by unfold I64; simp only []; omega⟩
        have hfew : (splL (pBv T (L.map nm) v) (pre.map (·.1))).2.length ≤ 100000 := by
          have := splL_few (pBv T (L.map nm) v) (pre.map (·.1))
          rw [List.length_map] at this
          have := hs.tmax
          omega
        have hfewo : (splL (pBv T (L.map nm) v) (pre.map (·.1))).1.length ≤ 50000 := by
          have := splL_fewo (pBv T (L.map nm) v) (pre.map (·.1))
          rw [List.length_map] at this
          have := hs.tmax
          omega
        by_cases hP : pre.map (·.1) = []
        · rw [hP] at hI7 g4 g5 g6
          have e9 : splL (pBv T (L.map nm) v) [] = ([], []) := rfl
          rw [e9] at hI7 g4 g5 g6
          simp only [List.nil_append] at g4
          obtain ⟨A3, cap3, rfl, hc3⟩ := own_form g5
          simp only [List.length_nil] at r3 hc3
          have hvs0 : vs = [] := List.length_eq_zero_iff.1 g6
          subst hvs0
          have hsn : splL (pBv T (L.map nm) v) (pre.map (·.1) ++ [x.1]) = ([], [x.1]) := by rw [hP, splL_snoc]; rfl
          have hon : opn T (L.map nm) v (pre.map (·.1) ++ [x.1]) = (ob && !(Words.look S (q1, q2)).isSome) := by rw [hP]; show ((opp T (pv x.1)).isSome && !pBv T (L.map nm) v x.1) = _; rw [hob, hpc]
          obtain ⟨yes, hyes⟩ : ∃ yes, (Words.look S (q1, q2)).isSome = yes := ⟨_, rfl⟩
          rw [hyes] at hon
          have HhI7 := Lib.hid hI7; clear hI7; have Hhk67 := Lib.hid hk67; clear hk67; have Hhbk7 := Lib.hid hbk7; clear hbk7; have HhS1 := Lib.hid hS1; clear hS1; have HhS2 := Lib.hid hS2; clear hS2; have HhS7 := Lib.hid hS7; clear hS7; have Hhpc := Lib.hid hpc; clear hpc; have Hg1 := Lib.hid g1; clear g1; have Hg2 := Lib.hid g2; clear g2; have Hg3 := Lib.hid g3; clear g3; have Hg4 := Lib.hid g4; clear g4; have Hg5 := Lib.hid g5; clear g5; have Hhsn := Lib.hid hsn; clear hsn; have Hhon := Lib.hid hon; clear hon; have Hhyes := Lib.hid hyes; clear hyes; have Hhob := Lib.hid hob; clear hob; have Hhok7 := Lib.hid hok7; clear hok7
          cases ob with
          | true =>
            gi_wp2_with fail
            refine (Go.Canon.wide_round l).region_tree [6] (fun b' => b' = b) (.seg [0,1,2,6] (.alt 3 (.seg [4,5] (.alt 7 (.seg [8,9] (.alt 10 .fin .no)) .no)) .no)) (by rfl) mixed (by kernel_rfl) ?_
            refine Go.Canon.tr_seg ?_
            simp only [List.map_cons, List.map_nil, List.getD_cons_zero, List.getD_cons_succ]
            go_wp2_with fail
            refine Go.Canon.tr_to (Go.Canon.tr_one ?_)
            simp only [List.getD_cons_zero, List.getD_cons_succ]
            go_wp2_with fail
            refine Go.Canon.tr_end (fun _ _ => rfl) (Go.Canon.tr_seg ?_)
            simp only [List.map_cons, List.map_nil, List.getD_cons_zero, List.getD_cons_succ]
            go_wp2_with fail
            refine Go.Canon.tr_to (Go.Canon.tr_one ?_)
            simp only [List.getD_cons_zero, List.getD_cons_succ]
            refine wpList_lookG _ (by rfl) _ _ 103 rfl 39 4 keyE Tryz.underlying103 zero_bool bc S rfl HhS7.out.drew (q1, q2) rfl Hhok7.out ?_
            rw [look_yes, Hhyes.out]
            go_wp2_with fail
            refine Go.Canon.tr_end (fun _ _ => rfl) (Go.Canon.tr_seg ?_)
            simp only [List.map_cons, List.map_nil, List.getD_cons_zero, List.getD_cons_succ]
            go_wp2_with fail
            refine Go.Canon.tr_to (Go.Canon.tr_one ?_)
            simp only [List.getD_cons_zero, List.getD_cons_succ]
            go_wp2_with fail
            refine Go.Canon.tr_end (fun b' hb' => by subst hb'; exact Below.heap_setCell W7 ⟨gb + 1 + 1 + 1 + 1, 0, none⟩ (.bool !yes) _ (by show _ ≠ gb + 1 + 1 + 1 + 1; omega)) (Go.Canon.tr_fin (by rfl) (List.forall_mem_cons.2 ⟨.inl ⟨_, rfl, rfl, by rw [World.cell?_drew, e0]; rfl⟩, fun _ h => by cases h⟩) ?_)
            obtain ⟨hJ7, hk7m, hb7m⟩ := HhI7.out.mark (!yes)
            have hk8 := (Hhk67.out.trans hk7m).trans (KeepsOthers.drew _)
            have hb8 : Below gb W (W7.setCell ⟨gb + 1 + 1 + 1 + 1, 0, none⟩ (.bool !yes)).drew := ((hb67.mono (by omega)).trans hb7m).drew
            have hJ8 := hJ7.below (Below.refl _ _).drew
            obtain ⟨W8, hW8⟩ : ∃ W8, W8 = (W7.setCell ⟨gb + 1 + 1 + 1 + 1, 0, none⟩ (.bool !yes)).drew := ⟨_, rfl⟩
            rw [← hW8] at hk8 hb8 hJ8 ⊢
            clear hW8 r2 r3 r4 zf2 zf3 zf4 e0 e1 hk7m hb7m hJ7
            have Hhk8 := Lib.hid hk8; clear hk8
            obtain ⟨vo8, vs8, rv8, k1, k2, k3, k4, k5, k6⟩ := hJ8.len
            have kc3 := k3.cell
            have hsz8 := hJ8.sz
            have hI5 := HhI.out.b5.cell
            clear k6
            have Hk1 := Lib.hid k1; clear k1; have Hk2 := Lib.hid k2; clear k2; have Hk4 := Lib.hid k4; clear k4; have HhJ8 := Lib.hid hJ8; clear hJ8
            gi_wp2_with (gi_at_builtin; (refine wpListIn_append_own_at _ rfl _ _ 28 rfl (gb + 7) 3 i0 (.int .i64 0) 1 8 Tryz.underlying28 hi hz0 hz1 hz2 rfl (by decide) rv8 _ _ rfl (k5.alloc _) ⟨W8.heap.size, 0, none⟩ 1 1 [.int .i64 (x.1 : Int)] rfl rfl (cell_one_new _ _ _) (by simp [Value.oneCell']) (by unfold maxLen; first | omega | (simp; done) | (simp; omega)) (by first | omega | (simp; done) | (simp; omega)) (by first | omega | (simp; done) | (simp; omega)) ?_; intro v' w1 hown' hgrow _ hat; obtain ⟨g', cap', rfl⟩ := ownsRow_succ hown'; obtain ⟨hv1, -⟩ := own_append (B := gb + 1 + 1 + 1) k3 (by omega) k5 hsz8 hown' hgrow; have hc1 := hv1.cell; have hf1 := hv1.frozen))
            obtain ⟨hJ9, hk9, hb9⟩ := HhJ8.out.app Hk1.out Hk2.out k3 Hk4.out hown' hgrow hat
            refine ⟨Hhk8.out.trans hk9, ⟨hb8.trans hb9, hJ9.b5.cell.trans hI5.symm⟩, ?_⟩
            show SecI w gb g tg v T (L.map nm) ((pre ++ [x]).map (·.1)) _
            rw [List.map_append, List.map_cons, List.map_nil]
            exact secI_of Hhsn.out Hhon.out hJ9
          | false =>
            gi_wp2_with fail
            refine (Go.Canon.wide_round l).region_tree [6] (fun b' => b' = b) (.seg [0,1,2,6] (.alt 3 (.seg [4,5] (.alt 7 (.seg [8,9] (.alt 10 .fin .no)) .no)) .no)) (by rfl) mixed (by kernel_rfl) ?_
            refine Go.Canon.tr_seg ?_
            simp only [List.map_cons, List.map_nil, List.getD_cons_zero, List.getD_cons_succ]
            go_wp2_with fail
            refine Go.Canon.tr_to (Go.Canon.tr_one ?_)
            simp only [List.getD_cons_zero, List.getD_cons_succ]
            go_wp2_with fail
            refine Go.Canon.tr_end (fun _ _ => rfl) (Go.Canon.tr_seg ?_)
            simp only [List.map_cons, List.map_nil, List.getD_cons_zero, List.getD_cons_succ]
            go_wp2_with fail
            refine Go.Canon.tr_to (Go.Canon.tr_one ?_)
            simp only [List.getD_cons_zero, List.getD_cons_succ]
            go_wp2_with fail
            refine Go.Canon.tr_end (fun _ _ => rfl) (Go.Canon.tr_seg ?_)
            simp only [List.map_cons, List.map_nil, List.getD_cons_zero, List.getD_cons_succ]
            go_wp2_with fail
            refine Go.Canon.tr_to (Go.Canon.tr_one ?_)
            simp only [List.getD_cons_zero, List.getD_cons_succ]
            go_wp2_with fail
            refine Go.Canon.tr_end (fun b' hb' => by subst hb'; exact Below.heap_setCell W7 ⟨gb + 1 + 1 + 1 + 1, 0, none⟩ (.bool false) _ (by show _ ≠ gb + 1 + 1 + 1 + 1; omega)) (Go.Canon.tr_fin (by rfl) (List.forall_mem_cons.2 ⟨.inl ⟨_, rfl, rfl, by rw [World.cell?_drew, e0]; rfl⟩, fun _ h => by cases h⟩) ?_)
            obtain ⟨hJ7, hk7m, hb7m⟩ := HhI7.out.mark false
            have hk8 := (Hhk67.out.trans hk7m).trans (KeepsOthers.drew _)
            have hb8 : Below gb W (W7.setCell ⟨gb + 1 + 1 + 1 + 1, 0, none⟩ (.bool false)).drew := ((hb67.mono (by omega)).trans hb7m).drew
            have hJ8 := hJ7.below (Below.refl _ _).drew
            obtain ⟨W8, hW8⟩ : ∃ W8, W8 = (W7.setCell ⟨gb + 1 + 1 + 1 + 1, 0, none⟩ (.bool false)).drew := ⟨_, rfl⟩
            rw [← hW8] at hk8 hb8 hJ8 ⊢
            clear hW8 r2 r3 r4 zf2 zf3 zf4 e0 e1 hk7m hb7m hJ7
            have Hhk8 := Lib.hid hk8; clear hk8
            obtain ⟨vo8, vs8, rv8, k1, k2, k3, k4, k5, k6⟩ := hJ8.len
            have kc3 := k3.cell
            have hsz8 := hJ8.sz
            have hI5 := HhI.out.b5.cell
            clear k6
            have Hk1 := Lib.hid k1; clear k1; have Hk2 := Lib.hid k2; clear k2; have Hk4 := Lib.hid k4; clear k4; have HhJ8 := Lib.hid hJ8; clear hJ8
            gi_wp2_with (gi_at_builtin; (refine wpListIn_append_own_at _ rfl _ _ 28 rfl (gb + 7) 3 i0 (.int .i64 0) 1 8 Tryz.underlying28 hi hz0 hz1 hz2 rfl (by decide) rv8 _ _ rfl (k5.alloc _) ⟨W8.heap.size, 0, none⟩ 1 1 [.int .i64 (x.1 : Int)] rfl rfl (cell_one_new _ _ _) (by simp [Value.oneCell']) (by unfold maxLen; first | omega | (simp; done) | (simp; omega)) (by first | omega | (simp; done) | (simp; omega)) (by first | omega | (simp; done) | (simp; omega)) ?_; intro v' w1 hown' hgrow _ hat; obtain ⟨g', cap', rfl⟩ := ownsRow_succ hown'; obtain ⟨hv1, -⟩ := own_append (B := gb + 1 + 1 + 1) k3 (by omega) k5 hsz8 hown' hgrow; have hc1 := hv1.cell; have hf1 := hv1.frozen))
            obtain ⟨hJ9, hk9, hb9⟩ := HhJ8.out.app Hk1.out Hk2.out k3 Hk4.out hown' hgrow hat
            refine ⟨Hhk8.out.trans hk9, ⟨hb8.trans hb9, hJ9.b5.cell.trans hI5.symm⟩, ?_⟩
            show SecI w gb g tg v T (L.map nm) ((pre ++ [x]).map (·.1)) _
            rw [List.map_append, List.map_cons, List.map_nil]
            exact secI_of Hhsn.out Hhon.out hJ9
        · have hPne : 0 < (pre.map (·.1)).length := List.length_pos_iff.2 hP
          have hrne := (splL_rows (pBv T (L.map nm) v) _ hPne).1
          have hsn0 : splL (pBv T (L.map nm) v) (pre.map (·.1) ++ [x.1]) = splS (pBv T (L.map nm) v) (splL (pBv T (L.map nm) v) (pre.map (·.1))) x.1 := splL_snoc _ _ _
          have hon : opn T (L.map nm) v (pre.map (·.1) ++ [x.1]) = opn T (L.map nm) v (pre.map (·.1)) := by
            cases hq : pre.map (·.1) with
            | nil => exact absurd hq hP
            | cons a l => rfl
          generalize opn T (L.map nm) v (pre.map (·.1)) = op at *
          generalize splL (pBv T (L.map nm) v) (pre.map (·.1)) = sp at *
          obtain ⟨out, row⟩ := sp
          simp only [] at hI7 g4 g5 g6 hrne hfew hfewo
          have hrl : 0 < row.length := List.length_pos_iff.2 hrne
          obtain ⟨A3, cap3, rfl, hc3⟩ := own_form g5
          have hrl2 : ¬ ((row.length : Int) = 0) := by omega
          obtain ⟨yes, hyes⟩ : ∃ yes, (Words.look S (q1, q2)).isSome = yes := ⟨_, rfl⟩
          rw [hyes] at hpc
          have hsn : splL (pBv T (L.map nm) v) (pre.map (·.1) ++ [x.1]) = if yes = true then (out ++ [row], [x.1]) else (out, row ++ [x.1]) := by
            rw [hsn0]
            unfold splS
            rw [if_neg (by simp only []; omega), hpc]
          clear hsn0
          have HhI7 := Lib.hid hI7; clear hI7; have Hhk67 := Lib.hid hk67; clear hk67; have Hhbk7 := Lib.hid hbk7; clear hbk7; have HhS1 := Lib.hid hS1; clear hS1; have HhS2 := Lib.hid hS2; clear hS2; have HhS7 := Lib.hid hS7; clear hS7; have Hhpc := Lib.hid hpc; clear hpc; have Hg1 := Lib.hid g1; clear g1; have Hg2 := Lib.hid g2; clear g2; have Hg3 := Lib.hid g3; clear g3; have Hg4 := Lib.hid g4; clear g4; have Hg5 := Lib.hid g5; clear g5; have Hhsn := Lib.hid hsn; clear hsn; have Hhon := Lib.hid hon; clear hon; have Hhyes := Lib.hid hyes; clear hyes; have Hhob := Lib.hid hob; clear hob; have Hhok7 := Lib.hid hok7; clear hok7; have Hhrne := Lib.hid hrne; clear hrne
          gi_wp2_with fail
          all_goals first | (exfalso; omega) | skip
          refine (Go.Canon.wide_round l).region_tree [4] (fun b' => b' = b) (.seg [0,4] (.alt 1 (.seg [2,3] (.alt 5 .fin .no)) .no)) (by rfl) mixed (by kernel_rfl) ?_
          refine Go.Canon.tr_seg ?_
          simp only [List.map_cons, List.map_nil, List.getD_cons_zero, List.getD_cons_succ]
          go_wp2_with fail
          refine Go.Canon.tr_to (Go.Canon.tr_one ?_)
          simp only [List.getD_cons_zero, List.getD_cons_succ]
          go_wp2_with fail
          refine Go.Canon.tr_end (fun _ _ => rfl) (Go.Canon.tr_seg ?_)
          simp only [List.map_cons, List.map_nil, List.getD_cons_zero, List.getD_cons_succ]
          go_wp2_with fail
          refine Go.Canon.tr_to (Go.Canon.tr_one ?_)
          simp only [List.getD_cons_zero, List.getD_cons_succ]
          refine wpList_look _ rfl _ _ 103 rfl 39 4 keyE Tryz.underlying103 zero_bool bc S rfl HhS7.out.drew (q1, q2) rfl Hhok7.out ?_
          rw [look_yes, Hhyes.out]
          go_wp2_with fail
          refine Go.Canon.tr_end (fun _ _ => rfl) (Go.Canon.tr_fin (by rfl) (List.forall_mem_cons.2 ⟨.inl ⟨_, rfl, rfl, by rw [World.cell?_drew, e0]; rfl⟩, fun _ h => by cases h⟩) ?_)
          have hJ7 := HhI7.out.below (Below.refl W7.heap.size W7).drew
          have hk7 := Hhk67.out.trans (KeepsOthers.drew W7)
          have hb7d : Below gb W W7.drew := (hb67.mono (by omega)).drew
          have hgd2 := Hg2.out
          cases yes with
          | false =>
            have hsn := Hhsn.out
            simp only [Bool.false_eq_true, if_false] at hsn
            obtain ⟨W8, hW8⟩ : ∃ W8, W8 = W7.drew := ⟨_, rfl⟩
            rw [← hW8] at hJ7 hk7 hb7d ⊢
            clear hW8 r2 r3 r4 zf2 zf3 zf4 e0 e1 Hhsn
            have hJ8 := hJ7
            have hb8 := hb7d
            have hk8 := hk7
            clear hJ7 hb7d hk7
            have Hhk8 := Lib.hid hk8; clear hk8; have Hhsn := Lib.hid hsn; clear hsn
            obtain ⟨vo8, vs8, rv8, k1, k2, k3, k4, k5, k6⟩ := hJ8.len
            have kc3 := k3.cell
            have hsz8 := hJ8.sz
            have hI5 := HhI.out.b5.cell
            clear k6
            have Hk1 := Lib.hid k1; clear k1; have Hk2 := Lib.hid k2; clear k2; have Hk4 := Lib.hid k4; clear k4; have HhJ8 := Lib.hid hJ8; clear hJ8
            gi_wp2_with (gi_at_builtin; (refine wpListIn_append_own_at _ rfl _ _ 28 rfl (gb + 7) 3 i0 (.int .i64 0) 1 8 Tryz.underlying28 hi hz0 hz1 hz2 rfl (by decide) rv8 _ _ rfl (k5.alloc _) ⟨W8.heap.size, 0, none⟩ 1 1 [.int .i64 (x.1 : Int)] rfl rfl (cell_one_new _ _ _) (by simp [Value.oneCell']) (by unfold maxLen; first | omega | (simp; done) | (simp; omega)) (by first | omega | (simp; done) | (simp; omega)) (by first | omega | (simp; done) | (simp; omega)) ?_; intro v' w1 hown' hgrow _ hat; obtain ⟨g', cap', rfl⟩ := ownsRow_succ hown'; obtain ⟨hv1, -⟩ := own_append (B := gb + 1 + 1 + 1) k3 (by omega) k5 hsz8 hown' hgrow; have hc1 := hv1.cell; have hf1 := hv1.frozen))
            obtain ⟨hJ9, hk9, hb9⟩ := HhJ8.out.app Hk1.out Hk2.out k3 Hk4.out hown' hgrow hat
            refine ⟨Hhk8.out.trans hk9, ⟨hb8.trans hb9, hJ9.b5.cell.trans hI5.symm⟩, ?_⟩
            show SecI w gb g tg v T (L.map nm) ((pre ++ [x]).map (·.1)) _
            rw [List.map_append, List.map_cons, List.map_nil]
            exact secI_of Hhsn.out Hhon.out hJ9
          | true =>
            have hsn := Hhsn.out
            simp only [if_true] at hsn
            clear Hhsn
            obtain ⟨j0, hj, hy0, hy1, hy2⟩ := info_parts infoRowS
            have hsz7 := hJ7.sz
            obtain ⟨vo7, vs7, rv7, m1, m2, m3, m4, m5, m6⟩ := hJ7.len
            obtain ⟨A7, cap7, rfl, -⟩ := own_form m5
            have mc2 := m1.cell
            have mc3 := m3.cell
            have mz2 := m1.frozen
            have mz3 := m3.frozen
            have hvs7 : vs7.length ≤ 100000 := by omega
            clear r2 r3 r4 zf2 zf3 zf4
            obtain ⟨W5, hW5⟩ : ∃ W5, W5 = W7.drew := ⟨_, rfl⟩
            rw [← hW5] at hJ7 hk7 hb7d hsz7 m1 m2 m3 m4 m5 mc2 mc3 mz2 mz3 ⊢
            clear hW5
            clear m6 g6
            have HhJ7 := Lib.hid hJ7; clear hJ7; have Hhk7 := Lib.hid hk7; clear hk7; have Hm1 := Lib.hid m1; clear m1; have Hm3 := Lib.hid m3; clear m3; have Hm4 := Lib.hid m4; clear m4; have Hm5 := Lib.hid m5; clear m5; have Hhsn := Lib.hid hsn; clear hsn
            gi_wp2_with (gi_at_builtin; first
              | (refine wpListIn_append_own_at _ rfl _ _ 78 rfl (gb + 7) 28 j0 (.slice none 0 0) 1 24 Tryz.underlying78 hj hy0 hy1 hy2 rfl (by decide) vo7 _ _ rfl (m2.alloc _) ⟨W5.heap.size, 0, none⟩ 1 1 [.slice A7 row.length cap7] rfl rfl (cell_one_new _ _ _) (by simp [Value.oneCell']) (by unfold maxLen; omega) (by omega) (by simp; omega) ?_; intro v' w1 hown' hgrow _ hat; obtain ⟨g', cap', rfl⟩ := ownsRow_succ hown'; obtain ⟨hv1, -, -, -, -, hoth⟩ := own_append (B := gb + 1 + 1) Hm1.out (by omega) m2 hsz7 hown' hgrow; have hc1 := hv1.cell; have hf1 := hv1.frozen; have hv3 := hoth _ _ _ (show gb + 1 + 1 + 1 < gb + 7 by omega) (by omega) Hm3.out; have hc3' := hv3.cell; have hf3' := hv3.frozen; obtain ⟨hJ8, hk8, hb8, k1, k2, k3, k4⟩ := HhJ7.out.push Hm1.out m2 Hm3.out Hm4.out hown' hgrow; have hsz8 := hJ8.sz; have kc3 := k3.cell; have Hhv3 := Lib.hid hv3; clear hv3; have HhJ8 := Lib.hid hJ8; clear hJ8; have Hk1 := Lib.hid k1; clear k1; have Hk2 := Lib.hid k2; clear k2; have Hk4 := Lib.hid k4; clear k4)
              | go_loud (refine wpListIn_append_own_at _ rfl _ _ 28 rfl (gb + 7) 3 i0 (.int .i64 0) 1 8 Tryz.underlying28 hi hz0 hz1 hz2 rfl (by decide) (.slice none 0 0) 0 [] rfl (World.ownsRow_nil _ _ _ _) ⟨_, 0, none⟩ 1 1 [.int .i64 (x.1 : Int)] rfl rfl (by have := cell_one_new ((w1.setCell ⟨gb + 1 + 1, 0, none⟩ (.slice (some ⟨g', 0, none⟩) (vs7.length + 1) cap')).setCell ⟨gb + 1 + 1 + 1, 0, none⟩ (.slice none 0 0)) (.int .i64 (x.1 : Int)) 3; simpa using this) (by simp [Value.oneCell']) (by unfold maxLen; omega) (by omega) (by have := hsz8; simp at this ⊢; omega) ?_; intro v2 w2 hown2 hgrow2 _ hat2; obtain ⟨g2', cap2', rfl⟩ := ownsRow_succ hown2; obtain ⟨hv2, -⟩ := own_append (B := gb + 1 + 1 + 1) k3 (by omega) (World.ownsRow_nil _ _ _ _) hsz8 hown2 hgrow2; have hc2 := hv2.cell; have hf2 := hv2.frozen))
            obtain ⟨hJ9, hk9, hb9⟩ := HhJ8.out.app (row := []) Hk1.out Hk2.out k3 Hk4.out hown2 hgrow2 hat2
            have hI5 := HhI.out.b5.cell
            refine ⟨(Hhk7.out.trans hk8).trans hk9, ⟨(hb7d.trans hb8).trans hb9, hJ9.b5.cell.trans hI5.symm⟩, ?_⟩
            show SecI w gb g tg v T (L.map nm) ((pre ++ [x]).map (·.1)) _
            rw [List.map_append, List.map_cons, List.map_nil]
            exact secI_of Hhsn.out Hhon.out hJ9
  case done =>
    intro D ys W hD hys hI hK
    obtain ⟨hlne, hring⟩ := hs.ring_in hv
    have hI2 : SecI w gb g tg v T (L.map nm) (ringAt T N v) W := by rw [← hys]; exact hI
    clear hI
    have hcon := pBv_ring (C := L.map nm) hring
    have hsp := splL_congr hcon
    have hop := opn_ring (C := L.map nm) hring
    have hrw0 : ∀ S, S.Perm (rows0 T (L.map nm) (ringAt T N v) (innerAt T N v)) → S.Pairwise (fun x y => ¬ minL y < minL x) → Secs T (L.map nm) (hdV T (L.map nm) v) S := fun S h1 h2 => hring.secs hs h1 h2
    have hr0 : rows0 T (L.map nm) (ringAt T N v) (innerAt T N v) = mrgL (openL T (L.map nm) (ringAt T N v) (innerAt T N v)) ((splL (pBv T (L.map nm) v) (ringAt T N v)).1 ++ [(splL (pBv T (L.map nm) v) (ringAt T N v)).2]) := by unfold rows0; rw [hsp]
    have hI3 : SecJ w gb g tg v (splL (pBv T (L.map nm) v) (ringAt T N v)).1 (splL (pBv T (L.map nm) v) (ringAt T N v)).2 (openL T (L.map nm) (ringAt T N v) (innerAt T N v)) W := by rw [← hop]; exact hI2
    -- the rows are not empty, and of few small numbers
    have hgood : ∀ r ∈ (splL (pBv T (L.map nm) v) (ringAt T N v)).1 ++ [(splL (pBv T (L.map nm) v) (ringAt T N v)).2], r ≠ [] ∧ r.length ≤ 50000 ∧ ∀ c ∈ r, c ≤ 50000 := by
      intro r hr
      have h1 := splL_lens _ _ r hr
      have h2 := hs.ring_len v
      have h3 := hs.tmax
      obtain ⟨q, hq⟩ := List.getElem?_of_mem hr
      obtain ⟨k1, k2⟩ := (splL_rows (pBv T (L.map nm) v) (ringAt T N v) hlne).2.2 q r hq
      refine ⟨k1, by omega, fun c hc => ?_⟩
      obtain ⟨i, hi, rfl, _⟩ := (k2 c).1 hc
      have := ((hring.mem _).1 (List.getElem_mem hi)).1
      omega
    have hfewo : (splL (pBv T (L.map nm) v) (ringAt T N v)).1.length ≤ 50000 := by
      have := splL_fewo (pBv T (L.map nm) v) (ringAt T N v)
      have := hs.ring_len v
      have := hs.tmax
      omega
    rw [hr0] at hrw0
    generalize openL T (L.map nm) (ringAt T N v) (innerAt T N v) = op at *
    generalize splL (pBv T (L.map nm) v) (ringAt T N v) = sp at *
    obtain ⟨out, row⟩ := sp
    simp only [] at hrw0 hI3 hgood hfewo
    clear hI2 hcon hsp hop hr0
    obtain ⟨vo, vs, rv, g1, g2, g3, g4, g5, g6⟩ := hI3.len
    have hgl : vs.length ≤ 50000 := by omega
    have hsz3 := hI3.sz
    have r2 := g1.cell
    have r3 := g3.cell
    have zf2 := g1.frozen
    have r4 := hI3.b4.cell
    obtain ⟨j0, hj, hy0, hy1, hy2⟩ := info_parts infoRowS
    have hrow := hgood row (by simp)
    obtain ⟨a3, cap3, rfl, -, -⟩ := own_some g5 (List.length_pos_iff.2 hrow.1)
    obtain ⟨ln, hln⟩ : ∃ ln, ln = vs.length := ⟨_, rfl⟩
    rw [← hln] at g2
    have hln9 : ln ≤ 50000 := by omega
    have h6 := Lib.hid g6
    have hl6 := Lib.hid hln
    clear g6 hln hgl
    have hD' : gb + 7 ≤ D := by omega
    have Hhrw0 := Lib.hid hrw0; clear hrw0; have Hhgood := Lib.hid hgood; clear hgood; have HhI3 := Lib.hid hI3; clear hI3; have Hg1 := Lib.hid g1; clear g1; have Hg3 := Lib.hid g3; clear g3; have Hg4 := Lib.hid g4; clear g4; have Hg5 := Lib.hid g5; clear g5; have Hhrow := Lib.hid hrow; clear hrow
    by_cases hmg : op = true ∧ 0 < ln
    case neg =>
      have hrwn : ∀ S, S.Perm (out ++ [row]) → S.Pairwise (fun x y => ¬ minL y < minL x) → Secs T (L.map nm) (hdV T (L.map nm) v) S := fun S h1 h2 => Hhrw0.out S (by
        unfold mrgL
        rw [if_neg (fun h9 => hmg ⟨h9.1, by have := h9.2; simp at this; have := h6.out; have := hl6.out; omega⟩)]
        exact h1) h2
      clear Hhrw0
      cases op with
      | false =>
        clear hmg
        have Hhrwn := Lib.hid hrwn; clear hrwn
        gi_wp2_with (gi_at_builtin; refine wpListIn_append_own_at _ rfl _ _ 78 rfl (gb + 7) 28 j0 (.slice none 0 0) 1 24 Tryz.underlying78 hj hy0 hy1 hy2 rfl (by decide) vo ln vs rfl (g2.alloc _) ⟨W.heap.size, 0, none⟩ 1 1 [.slice (some ⟨a3, 0, none⟩) row.length cap3] rfl rfl (cell_one_new _ _ _) (by simp [Value.oneCell']) (by unfold maxLen; omega) (by omega) (by simp; omega) ?_; intro v' w1 hown' hgrow _ hat; obtain ⟨gr, cap', rfl⟩ := ownsRow_succ hown'; have hl7 := hl6.out; subst hl7; obtain ⟨hv1, -⟩ := own_append (B := gb + 1 + 1) Hg1.out (by omega) g2 hsz3 hown' hgrow; have hc1 := hv1.cell; have hf1 := hv1.frozen; obtain ⟨k1, k2, k4, k5, k6, k7⟩ := HhI3.out.tell Hg1.out g2 Hg4.out hown' hgrow; have kb4 := k5.cell; have Hk1 := Lib.hid k1; clear k1; have Hk2 := Lib.hid k2; clear k2; have Hk4 := Lib.hid k4; clear k4; have Hk5 := Lib.hid k5; clear k5; have Hk6 := Lib.hid k6; clear k6; have Hk7 := Lib.hid k7; clear k7)
        have hgr7 := (Hk2.out.lt gr rfl).1
        have hsr := sortrows_calls (Ls := out ++ [row]) Hk2.out (by have := h6.out; simp; omega) (by omega) (by omega) (fam_rowAt Hk4.out Hhgood.out Hk2.out)
        refine ⟨trivial, (callsIn_wide.2 hsr).mono ?_⟩
        clear hsr
        rintro e W5 ⟨rfl, hgr5, vs5, Ls5, hp5, hs5, hown5, hl5, hra5⟩
        have hb5 := Hk1.out.kept hgr5 (fun e9 => by injection e9 with e9; omega)
        have kb5 := hb5.cell
        have hK5 : W5.heap[D]? = some (.deferred (some [])) := (Hk6.out.trans (KeepsOthers.of_grownBy hgr5 (own_cells Hk2.out))).same _ _ hK rfl
        have hbel5 : Below gb w W5 := Hk7.out.grown hgr5 (by have := Hk7.out.size; omega) (fun k e9 => by injection e9 with e9; omega)
        have hback := rows_back (o' := .deferred none) (lo := w.heap.size) (by omega) hown5 (by rw [hp5.length_eq, List.length_append]; have := h6.out; simp only [List.length_cons, List.length_nil]; omega) hgr5 hra5 hK5 rfl
        have hsec := Hhrwn.out Ls5 hp5 hs5
        have hfin : Below w.heap.size w (W5.putObj D (.deferred none)) := by
          rw [← Hhgb.out]
          exact hbel5.trans (belowK_b (w := w0) (by omega) W5 D _ _ hD hK5 rfl rfl)
        have Hhback := Lib.hid hback; clear hback; have Hhsec := Lib.hid hsec; clear hsec; have Hhfin := Lib.hid hfin; clear hfin; have Hhb5 := Lib.hid hb5; clear hb5; have Hhgr5 := Lib.hid hgr5; clear hgr5; have Hhp5 := Lib.hid hp5; clear hp5; have Hhs5 := Lib.hid hs5; clear hs5; have Hhown5 := Lib.hid hown5; clear hown5; have Hhl5 := Lib.hid hl5; clear hl5; have Hhra5 := Lib.hid hra5; clear hra5; have Hhbel5 := Lib.hid hbel5; clear hbel5
        gi_wp2_with fail
        refine ⟨by simp, .inl ⟨_, _, rfl, run_takeDeferred hK5, ?_⟩⟩
        refine ⟨_, results_tmp rfl _ _ _, ⟨.slice (some ⟨gr, 0, none⟩) (vs.length + 1) cap', Ls5, rfl, Hhsec.out, Hhback.out⟩, Hhfin.out⟩
      | true =>
        have h0 : ln ≤ 0 := by have : ¬ (0 < ln) := fun h9 => hmg ⟨rfl, h9⟩; omega
        clear hmg
        have Hhrwn := Lib.hid hrwn; clear hrwn
        gi_wp2_with (gi_at_builtin; refine wpListIn_append_own_at _ rfl _ _ 78 rfl (gb + 7) 28 j0 (.slice none 0 0) 1 24 Tryz.underlying78 hj hy0 hy1 hy2 rfl (by decide) vo ln vs rfl (g2.alloc _) ⟨W.heap.size, 0, none⟩ 1 1 [.slice (some ⟨a3, 0, none⟩) row.length cap3] rfl rfl (cell_one_new _ _ _) (by simp [Value.oneCell']) (by unfold maxLen; omega) (by omega) (by simp; omega) ?_; intro v' w1 hown' hgrow _ hat; obtain ⟨gr, cap', rfl⟩ := ownsRow_succ hown'; have hl7 := hl6.out; subst hl7; obtain ⟨hv1, -⟩ := own_append (B := gb + 1 + 1) Hg1.out (by omega) g2 hsz3 hown' hgrow; have hc1 := hv1.cell; have hf1 := hv1.frozen; obtain ⟨k1, k2, k4, k5, k6, k7⟩ := HhI3.out.tell Hg1.out g2 Hg4.out hown' hgrow; have kb4 := k5.cell; have Hk1 := Lib.hid k1; clear k1; have Hk2 := Lib.hid k2; clear k2; have Hk4 := Lib.hid k4; clear k4; have Hk5 := Lib.hid k5; clear k5; have Hk6 := Lib.hid k6; clear k6; have Hk7 := Lib.hid k7; clear k7)
        all_goals first | (exfalso; omega) | skip
        have hgr7 := (Hk2.out.lt gr rfl).1
        have hsr := sortrows_calls (Ls := out ++ [row]) Hk2.out (by have := h6.out; simp; omega) (by omega) (by omega) (fam_rowAt Hk4.out Hhgood.out Hk2.out)
        refine ⟨trivial, (callsIn_wide.2 hsr).mono ?_⟩
        clear hsr
        rintro e W5 ⟨rfl, hgr5, vs5, Ls5, hp5, hs5, hown5, hl5, hra5⟩
        have hb5 := Hk1.out.kept hgr5 (fun e9 => by injection e9 with e9; omega)
        have kb5 := hb5.cell
        have hK5 : W5.heap[D]? = some (.deferred (some [])) := (Hk6.out.trans (KeepsOthers.of_grownBy hgr5 (own_cells Hk2.out))).same _ _ hK rfl
        have hbel5 : Below gb w W5 := Hk7.out.grown hgr5 (by have := Hk7.out.size; omega) (fun k e9 => by injection e9 with e9; omega)
        have hback := rows_back (o' := .deferred none) (lo := w.heap.size) (by omega) hown5 (by rw [hp5.length_eq, List.length_append]; have := h6.out; simp only [List.length_cons, List.length_nil]; omega) hgr5 hra5 hK5 rfl
        have hsec := Hhrwn.out Ls5 hp5 hs5
        have hfin : Below w.heap.size w (W5.putObj D (.deferred none)) := by
          rw [← Hhgb.out]
          exact hbel5.trans (belowK_b (w := w0) (by omega) W5 D _ _ hD hK5 rfl rfl)
        have Hhback := Lib.hid hback; clear hback; have Hhsec := Lib.hid hsec; clear hsec; have Hhfin := Lib.hid hfin; clear hfin; have Hhb5 := Lib.hid hb5; clear hb5; have Hhgr5 := Lib.hid hgr5; clear hgr5; have Hhp5 := Lib.hid hp5; clear hp5; have Hhs5 := Lib.hid hs5; clear hs5; have Hhown5 := Lib.hid hown5; clear hown5; have Hhl5 := Lib.hid hl5; clear hl5; have Hhra5 := Lib.hid hra5; clear hra5; have Hhbel5 := Lib.hid hbel5; clear hbel5
        gi_wp2_with fail
        refine ⟨by simp, .inl ⟨_, _, rfl, run_takeDeferred hK5, ?_⟩⟩
        refine ⟨_, results_tmp rfl _ _ _, ⟨.slice (some ⟨gr, 0, none⟩) (vs.length + 1) cap', Ls5, rfl, Hhsec.out, Hhback.out⟩, Hhfin.out⟩
    case pos =>
      obtain ⟨rfl, hln0⟩ := hmg
      obtain ⟨r0, out2, hout⟩ : ∃ r0 out2, out = r0 :: out2 := by
        have h9 : 0 < out.length := by have := h6.out; have := hl6.out; omega
        exact ⟨out[0], out.tail, by cases out with
          | nil => simp at h9
          | cons a l => rfl⟩
      obtain ⟨v0, vs2, hvs⟩ : ∃ v0 vs2, vs = v0 :: vs2 := by
        have h9 : 0 < vs.length := by have := hl6.out; omega
        exact ⟨vs[0], vs.tail, by cases vs with
          | nil => simp at h9
          | cons a l => rfl⟩
      have hr0 := Hhgood.out r0 (by rw [hout]; simp)
      have ho0 := Hg4.out.own 0 (by simp) (by simp)
      simp only [hout, hvs, List.cons_append, List.getElem_cons_zero] at ho0
      obtain ⟨a0, cap0, rfl, -, -⟩ := own_some ho0 (List.length_pos_iff.2 hr0.1)
      have hl2 : out2.length = vs2.length := by have := h6.out; rw [hout, hvs] at this; simpa using this.symm
      have hrwm : ∀ S, S.Perm ((row ++ r0) :: out2) → S.Pairwise (fun x y => ¬ minL y < minL x) → Secs T (L.map nm) (hdV T (L.map nm) v) S := fun S h1 h2 => Hhrw0.out S (by
        have e : mrgL true (out ++ [row]) = (row ++ r0) :: out2 := by
          unfold mrgL
          rw [if_pos ⟨rfl, by rw [hout]; simp⟩, hout]
          simp
        rw [e]; exact h1) h2
      clear Hhrw0
      have hr09 := hr0.2.1
      have hrw9 := Hhrow.out.2.1
      have hvl2 : vs2.length ≤ 50000 := by have := hl6.out; rw [hvs, List.length_cons] at this; omega
      have hlv2 : ln = vs2.length + 1 := by have := hl6.out; rw [hvs, List.length_cons] at this; exact this
      have Hhrwm := Lib.hid hrwm; clear hrwm; have Hhr0 := Lib.hid hr0; clear hr0; have Hho0 := Lib.hid ho0; clear ho0; have Hhl2 := Lib.hid hl2; clear hl2; have Hhout := Lib.hid hout; clear hout; have Hhvs := Lib.hid hvs; clear hvs; have Hhlv2 := Lib.hid hlv2; clear hlv2
      gi_wp2_with (gi_at_builtin; refine wpListIn_append_own_at _ rfl _ _ 78 rfl (gb + 7) 28 j0 (.slice none 0 0) 1 24 Tryz.underlying78 hj hy0 hy1 hy2 rfl (by decide) vo ln vs rfl (g2.alloc _) ⟨W.heap.size, 0, none⟩ 1 1 [.slice (some ⟨a3, 0, none⟩) row.length cap3] rfl rfl (cell_one_new _ _ _) (by simp [Value.oneCell']) (by unfold maxLen; omega) (by omega) (by simp; omega) ?_; intro v' w1 hown' hgrow _ hat; obtain ⟨gr, cap', rfl⟩ := ownsRow_succ hown'; have hl7 := hl6.out; subst hl7; obtain ⟨hv1, -⟩ := own_append (B := gb + 1 + 1) Hg1.out (by omega) g2 hsz3 hown' hgrow; have hc1 := hv1.cell; have hf1 := hv1.frozen; obtain ⟨k1, k2, k4, k5, k6, k7⟩ := HhI3.out.tell Hg1.out g2 Hg4.out hown' hgrow; have kb4 := k5.cell; have Hk1 := Lib.hid k1; clear k1; have Hk2 := Lib.hid k2; clear k2; have Hk4 := Lib.hid k4; clear k4; have Hk5 := Lib.hid k5; clear k5; have Hk6 := Lib.hid k6; clear k6; have Hk7 := Lib.hid k7; clear k7)
      all_goals first | (exfalso; omega) | skip
      obtain ⟨W4, hW4⟩ : ∃ W4, W4 = w1.setCell ⟨gb + 1 + 1, 0, none⟩ (.slice (some ⟨gr, 0, none⟩) (vs.length + 1) cap') := ⟨_, rfl⟩
      rw [← hW4] at Hk1 Hk2 Hk4 Hk6 Hk7 ⊢
      clear hW4 hc1 hf1 Hk5 kb4 r2 r3 r4 zf2
      have k2 := Hk2.out
      have hgr7 := k2.lt gr rfl
      have hcp : vs.length + 1 ≤ cap' := by
        obtain ⟨A, c9, e9, h9⟩ := own_form k2
        have : cap' = c9 := by injection e9
        omega
      have hrow4 := fam_last Hk4.out
      have ha3 := hrow4.lt a3 rfl
      have ho4 : W4.ownsRow (gb + 7) 3 1 (.slice (some ⟨a0, 0, none⟩) r0.length cap0) r0.length (r0.map Words.encI) := by
        have h9 := Hk4.out.own 0 (by simp) (by simp)
        simp only [Hhout.out, Hhvs.out, List.cons_append, List.getElem_cons_zero] at h9
        exact h9
      have cl : W4.cell? ⟨gr, vs.length, none⟩ = some (.slice (some ⟨a3, 0, none⟩) row.length cap3) := by rw [k2.cellAt _ (by omega)]; simp
      have cz : W4.cell? ⟨gr, 0, none⟩ = some (.slice (some ⟨a0, 0, none⟩) r0.length cap0) := by rw [k2.cellAt 0 (by omega), Hhvs.out]; rfl
      have kb := Hk1.out.cell
      have hadd := own_add ho4
      have hlo := Hhlv2.out
      obtain ⟨i0, hi, hz0, hz1, hz2⟩ := info_parts infoInt
      have hne3 : gr ≠ a3 := fun e9 => by
        subst e9
        rcases own_apart k2 hrow4 (by decide) with h9 | h9
        · cases h9
        · exact h9 rfl
      have Hk2 := Lib.hid k2; clear k2; have Hhrow4 := Lib.hid hrow4; clear hrow4; have Hho4 := Lib.hid ho4; clear ho4; have Hhadd := Lib.hid hadd; clear hadd; have Hhcp := Lib.hid hcp; clear hcp; have Hhlo := Lib.hid hlo; clear hlo
      refine Go.Canon.wide_wide.region_tree [0] (fun b => b = gb + 1 + 1) (.seg [0,1,2,3,4,5,6,7,8,9] (.alt 10 (.seg [11] (.alt 12 .fin .no)) .no)) (by rfl) mixed (by kernel_rfl) ?_
      refine Go.Canon.tr_seg ?_
      simp only [List.map_cons, List.map_nil, List.getD_cons_zero, List.getD_cons_succ]
      go_wp2_with fail
      refine Go.Canon.tr_to (Go.Canon.tr_one ?_)
      simp only [List.getD_cons_zero, List.getD_cons_succ]
      refine wpList_append_own_at _ rfl _ _ 28 rfl (gb + 7) 3 i0 (.int .i64 0) 1 8 Tryz.underlying28 hi hz0 hz1 hz2 rfl (by decide) (.slice (some ⟨a3, 0, none⟩) row.length cap3) row.length (row.map Words.encI) rfl (own_drew Hhrow4.out) ⟨a0, 0, none⟩ r0.length cap0 (r0.map Words.encI) rfl (by simp) (fun j u hj => by rw [World.cell?_drew]; exact Hhadd.out j u hj) (fun u hu => by obtain ⟨c, -, rfl⟩ := List.mem_map.1 hu; rfl) (by unfold maxLen; omega) (by omega) (by show gb + 7 ≤ W4.heap.size; omega) ?_
      intro v2 w2 hown2 hgr2 _ _
      have hrl := List.length_pos_iff.2 Hhrow.out.1
      obtain ⟨a2, cap2, rfl, -, -⟩ := own_some hown2 (Nat.add_pos_left hrl _)
      have hgr7 := Hk2.out.lt gr rfl
      have ha37 := Hhrow4.out.lt a3 rfl
      have hn3 : gb + 1 + 1 ≠ a3 := by omega
      have hz2' : W4.heap.size ≤ w2.heap.size := hgr2.size
      have hk2w := (own_drew Hk2.out).kept hgr2 (own_apart (own_drew Hhrow4.out) (own_drew Hk2.out) (by decide))
      have hb2w : Boxed w2 (gb + 1 + 1) 78 (.slice (some ⟨gr, 0, none⟩) (vs.length + 1) cap') := Boxed.kept (W := W4.drew) Hk1.out hgr2 (fun e9 => hn3 (by simpa [Value.ownBlock] using e9))
      have hkB := hgr2.block (gb + 1 + 1) (by show gb + 1 + 1 < W4.heap.size; omega) (fun e9 => hn3 (by simpa [Value.ownBlock] using e9))
      have kz := hk2w.cellAt 0 (by omega)
      rw [Hhvs.out] at kz
      simp only [List.cons_append, List.getElem?_cons_zero] at kz
      have kzf := hk2w.frozenAt 0
      have Hhk2w := Lib.hid hk2w; clear hk2w; have Hhb2w := Lib.hid hb2w; clear hb2w; have HhkB := Lib.hid hkB; clear hkB; have Hhown2 := Lib.hid hown2; clear hown2; have Hhgr2 := Lib.hid hgr2; clear hgr2
      go_wp2_with fail
      refine Go.Canon.tr_end (fun b hb => by subst hb; exact HhkB.out) (Go.Canon.tr_seg ?_)
      simp only [List.map_cons, List.map_nil, List.getD_cons_zero, List.getD_cons_succ]
      go_wp2_with fail
      refine Go.Canon.tr_to (Go.Canon.tr_one ?_)
      simp only [List.getD_cons_zero, List.getD_cons_succ]
      go_wp2_with fail
      refine Go.Canon.tr_end (fun b hb => ?_) (Go.Canon.tr_fin (by rfl) (List.forall_mem_cons.2 ⟨.inl ⟨_, rfl, (by show gb + 1 + 1 = gb + 1 + 1; rfl), by rw [World.cell?_drew, kb]; rfl⟩, fun _ h => by cases h⟩) ?_)
      · subst hb
        exact (Below.heap_setCell w2 ⟨gr, 0, none⟩ (.slice (some ⟨a2, 0, none⟩) (row.length + r0.length) cap2) (gb + 1 + 1) (by show gb + 1 + 1 ≠ gr; omega)).trans HhkB.out
      obtain ⟨W7, hW7⟩ : ∃ W7, W7 = w2.setCell ⟨gr, 0, none⟩ (.slice (some ⟨a2, 0, none⟩) (row.length + r0.length) cap2) := ⟨_, rfl⟩
      have hkw := (KeepsOthers.drew W4).trans ((KeepsOthers.of_grownBy Hhgr2.out (own_cells (own_drew Hhrow4.out))).trans (KeepsOthers.setCell w2 ⟨gr, 0, none⟩ (.slice (some ⟨a2, 0, none⟩) (row.length + r0.length) cap2)))
      have hbb : Below gb w (w2.setCell ⟨gr, 0, none⟩ (.slice (some ⟨a2, 0, none⟩) (row.length + r0.length) cap2)) := ((Hk7.out.drew.grown Hhgr2.out (by show gb ≤ W4.heap.size; omega) (fun k e9 => by have e8 : a3 = k := (by simpa [Value.ownBlock] using e9); omega))).setCell (p := ⟨gr, 0, none⟩) (by show gb ≤ gr; omega) _
      have hb7 : Boxed (w2.setCell ⟨gr, 0, none⟩ (.slice (some ⟨a2, 0, none⟩) (row.length + r0.length) cap2)) (gb + 1 + 1) 78 (.slice (some ⟨gr, 0, none⟩) (vs.length + 1) cap') := Hhb2w.out.kept (grownBy_setCell' w2 gr _) (fun e9 => by injection e9 with e9; omega)
      have hmer := merged (b := gb + 1 + 1) (gr := gr) (cap' := cap') (v0 := .slice (some ⟨a0, 0, none⟩) r0.length cap0) (vs2 := vs2) (r0 := r0) (out2 := out2) (by omega) (.slice (some ⟨gr, 0, none⟩) vs.length cap') (by have h9 := Hk2.out; rw [Hhlo.out, Hhvs.out] at h9; exact h9) (by have h9 := Hk4.out; rw [Hhvs.out, Hhout.out] at h9; exact h9) Hhgr2.out Hhown2.out (by have h9 := Hhgood.out; rw [Hhout.out] at h9; exact h9)
      rw [← hW7] at hkw hbb hb7 hmer ⊢
      have c7 := hb7.cell
      have f7 := hb7.frozen
      clear hW7
      have hcp2 : vs.length ≤ cap' := by have := Hhcp.out; omega
      have Hhkw := Lib.hid hkw; clear hkw; have Hhbb := Lib.hid hbb; clear hbb; have Hhb7 := Lib.hid hb7; clear hb7; have Hhmer := Lib.hid hmer; clear hmer
      gi_wp2_with fail
      obtain ⟨vs9, hvl9, hown9, hra9⟩ := Hhmer.out
      have hkw8 := Hhkw.out.trans (KeepsOthers.setCell W7 ⟨gb + 1 + 1, 0, none⟩ (.slice (some ⟨gr, 0, none⟩) vs.length cap'))
      have hbb8 : Below gb w (W7.setCell ⟨gb + 1 + 1, 0, none⟩ (.slice (some ⟨gr, 0, none⟩) vs.length cap')) := Hhbb.out.setCell (p := ⟨gb + 1 + 1, 0, none⟩) (by show gb ≤ gb + 1 + 1; omega) _
      have hb8 : Boxed (W7.setCell ⟨gb + 1 + 1, 0, none⟩ (.slice (some ⟨gr, 0, none⟩) vs.length cap')) (gb + 1 + 1) 78 (.slice (some ⟨gr, 0, none⟩) vs.length cap') := Hhb7.out.set _
      rw [← Hhlo.out] at hown9
      clear Hhmer
      generalize W7.setCell ⟨gb + 1 + 1, 0, none⟩ (.slice (some ⟨gr, 0, none⟩) vs.length cap') = W8 at *
      have hsr := sortrows_calls (Ls := (row ++ r0) :: out2) hown9 (by rw [List.length_cons, Hhl2.out, ← Hhlo.out]) (by omega) (by omega) hra9
      refine ⟨trivial, (callsIn_wide.2 hsr).mono ?_⟩
      clear hsr
      rintro e W5 ⟨rfl, hgr5, vs5, Ls5, hp5, hs5, hown5, hl5, hra5⟩
      have hb5 := hb8.kept hgr5 (fun e9 => by injection e9 with e9; omega)
      have kb5 := hb5.cell
      have hK5 : W5.heap[D]? = some (.deferred (some [])) := ((Hk6.out.trans hkw8).trans (KeepsOthers.of_grownBy hgr5 (own_cells hown9))).same _ _ hK rfl
      have hbel5 : Below gb w W5 := hbb8.grown hgr5 (by have := hbb8.size; omega) (fun k e9 => by injection e9 with e9; omega)
      have hback := rows_back (o' := .deferred none) (lo := w.heap.size) (by omega) hown5 (by rw [hp5.length_eq, List.length_cons, Hhl2.out, ← Hhlo.out]) hgr5 hra5 hK5 rfl
      have hsec := Hhrwm.out Ls5 hp5 hs5
      have hfin : Below w.heap.size w (W5.putObj D (.deferred none)) := by
        rw [← Hhgb.out]
        exact hbel5.trans (belowK_b (w := w0) (by omega) W5 D _ _ hD hK5 rfl rfl)
      have Hhback := Lib.hid hback; clear hback; have Hhsec := Lib.hid hsec; clear hsec; have Hhfin := Lib.hid hfin; clear hfin; have Hhb5 := Lib.hid hb5; clear hb5; have Hhgr5 := Lib.hid hgr5; clear hgr5; have Hhp5 := Lib.hid hp5; clear hp5; have Hhs5 := Lib.hid hs5; clear hs5; have Hhown5 := Lib.hid hown5; clear hown5; have Hhl5 := Lib.hid hl5; clear hl5; have Hhra5 := Lib.hid hra5; clear hra5; have Hhbel5 := Lib.hid hbel5; clear hbel5
      gi_wp2_with fail
      refine ⟨by simp, .inl ⟨_, _, rfl, run_takeDeferred hK5, ?_⟩⟩
      refine ⟨_, results_tmp rfl _ _ _, ⟨.slice (some ⟨gr, 0, none⟩) vs.length cap', Ls5, rfl, Hhsec.out, Hhback.out⟩, Hhfin.out⟩
  case stop =>
    rintro D c pre W _ _ h _
    exact h.elim
end Go.Proofs.YtpbdcppaiafbgaaGreat
