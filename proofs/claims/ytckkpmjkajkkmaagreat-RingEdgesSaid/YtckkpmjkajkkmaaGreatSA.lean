/- Walks: edges told apart, and sorted (soup.Edges). -/
import Derived.Test.YtckkpmjkajkkmaaGreatMD
namespace Go.Mesh
/-- Edges are told by their first number, then by their second. -/
def cmpE (x y : Int × Int) : Int := if cmpI x.1 y.1 ≠ 0 then cmpI x.1 y.1 else cmpI x.2 y.2
def ltE (x y : Int × Int) : Prop := x.1 < y.1 ∨ (x.1 = y.1 ∧ x.2 < y.2)
instance (x y : Int × Int) : Decidable (ltE x y) := inferInstanceAs (Decidable (_ ∨ _))
theorem cmpE_neg (x y : Int × Int) : cmpE x y < 0 ↔ ltE x y := by
  have h1 := cmpI_neg x.1 y.1
  have h2 := cmpI_neg x.2 y.2
  have h3 := cmpI_zero x.1 y.1
  unfold cmpE ltE
  split <;> omega
def flat2 (l : List (Int × Int)) : List Value := l.flatMap fun t => [.int .i64 t.1, .int .i64 t.2]
theorem flat2_at (l : List (Int × Int)) : ∀ (i : Nat) (b : Int × Int), l[i]? = some b → ((flat2 l).drop (i * 2)).take 2 = [.int .i64 b.1, .int .i64 b.2] := by
  induction l with
  | nil => intro i b h; simp at h
  | cons x l ih =>
    intro i b h
    cases i with
    | zero =>
      have : x = b := by simpa using h
      subst this
      simp [flat2]
    | succ i =>
      have h2 := ih i b (by simpa using h)
      rw [show (i + 1) * 2 = i * 2 + 1 + 1 by omega]
      simp only [flat2, List.flatMap_cons, List.cons_append, List.nil_append, List.drop_succ_cons]
      exact h2
theorem flat2_len (l : List (Int × Int)) : (flat2 l).length = l.length * 2 := by
  induction l with
  | nil => rfl
  | cons x l ih => unfold flat2 at *; rw [List.flatMap_cons, List.length_append, ih]; simp; omega
theorem flat2_snoc (l : List (Int × Int)) (e : Int × Int) : flat2 (l ++ [e]) = flat2 l ++ [.int .i64 e.1, .int .i64 e.2] := by unfold flat2; rw [List.flatMap_append]; simp
end Go.Mesh
namespace Go.Proofs.YtckkpmjkajkkmaaGreat
open Go Go.RowKit Go.Words Go.Mesh Go.Shelf Go.Sort Go.Lib

set_option maxHeartbeats 2000000 in
theorem order2_calls (x y : Int × Int) (W : World) : Calls Tryz.prog 16 #[enc2 x, enc2 y] W fun e w' => e = .returned (.int .i64 (cmpE x y)) ∧ ∃ q os', w' = grow (W.drewN q) os' := by
  obtain ⟨x1, x2⟩ := x
  obtain ⟨y1, y2⟩ := y
  have hcw : cmpE (x1, x2) (y1, y2) = if cmpI x1 y1 ≠ 0 then cmpI x1 y1 else cmpI x2 y2 := rfl
  have ha := fun w => compare_calls x1 y1 w
  have hb := fun w => compare_calls x2 y2 w
  rw [hcw]
  generalize cmpI x1 y1 = c at *
  generalize cmpI x2 y2 = d at *
  have ho := fun g w h0 h1 => or_calls g c d w h0 h1
  generalize (if c ≠ 0 then c else d) = r at *
  show Calls Tryz.prog 16 #[.agg #[.int .i64 x1, .int .i64 x2], .agg #[.int .i64 y1, .int .i64 y2]] W _
  have Hha := Lib.hid ha; clear ha; have Hhb := Lib.hid hb; clear hb; have Hho := Lib.hid ho; clear ho; have Hhcw := Lib.hid hcw; clear hcw
  go_enter Tryz.func16, Tryz.ntmps16
  go_wp2_with (refine Go.Canon.wp_region_plan [6,8] (· < W.heap.size + 2) [0,1,2,3,5,6,7,8] [[[4],[9],[10],[11],[12]]] mixed (by kernel_rfl) (List.forall_mem_cons.2 ⟨?_, fun _ h => by cases h⟩))
  refine Go.Canon.seg_begin ?_
  simp only [List.map_cons, List.map_nil, List.getD_cons_zero, List.getD_cons_succ]
  go_wp2_with fail
  refine (Hha.out _).mono ?_
  rintro e w1 ⟨rfl, rfl⟩
  have kb : Go.Canon.KeepU (· < W.heap.size + 2) ((W.alloc (.cells #[.int .i64 x1, .int .i64 x2] 34)).alloc (.cells #[.int .i64 y1, .int .i64 y2] 34)).drew ((W.alloc (.cells #[.int .i64 x1, .int .i64 x2] 34)).alloc (.cells #[.int .i64 y1, .int .i64 y2] 34)).drew := keep_below (RowKit.Below.refl _ _)
  have kb2 : Go.Canon.KeepU (· < W.heap.size + 2) ((W.alloc (.cells #[.int .i64 x1, .int .i64 x2] 34)).alloc (.cells #[.int .i64 y1, .int .i64 y2] 34)).drew (((W.alloc (.cells #[.int .i64 x1, .int .i64 x2] 34)).alloc (.cells #[.int .i64 y1, .int .i64 y2] 34)).alloc (.cells #[.int .i64 c, .int .i64 d] 3)).drew := keep_below (RowKit.Below.alloc (B := W.heap.size + 2) (a := ((W.alloc (.cells #[.int .i64 x1, .int .i64 x2] 34)).alloc (.cells #[.int .i64 y1, .int .i64 y2] 34)).drew) (RowKit.Below.refl _ _) (by simp) (.cells #[.int .i64 c, .int .i64 d] 3))
  have hlit := (Bk.new' (n := W.heap.size + 2) (w := (W.alloc (.cells #[.int .i64 x1, .int .i64 x2] 34)).alloc (.cells #[.int .i64 y1, .int .i64 y2] 34)) 3 [.int .i64 c, .int .i64 d] (by simp)).drew
  have Hkb := Lib.hid kb; clear kb; have Hkb2 := Lib.hid kb2; clear kb2; have Hhlit := Lib.hid hlit; clear hlit
  go_wp2_with fail
  refine Go.Canon.seg_end Hkb.out (Go.Canon.seg_begin ?_)
  simp only [List.map_cons, List.map_nil, List.getD_cons_zero, List.getD_cons_succ]
  go_wp2_with fail
  refine (Hhb.out _).mono ?_
  rintro e w1 ⟨rfl, rfl⟩
  go_wp2_with fail
  refine Go.Canon.seg_end Hkb.out (Go.Canon.seg_begin ?_)
  simp only [List.map_cons, List.map_nil, List.getD_cons_zero, List.getD_cons_succ]
  go_wp2_with fail
  refine Go.Canon.seg_end Hkb2.out (Go.Canon.seg_begin ?_)
  simp only [List.map_cons, List.map_nil, List.getD_cons_zero, List.getD_cons_succ]
  go_wp2_with fail
  refine (Hho.out _ _ ?_ ?_).mono ?_
  · exact Hhlit.out.cell 0
  · exact Hhlit.out.cell 1
  rintro e w1 ⟨rfl, rfl⟩
  go_wp2_with fail
  refine Go.Canon.seg_end Hkb2.out (Go.Canon.seg_begin ?_)
  simp only [List.map_cons, List.map_nil, List.getD_cons_zero, List.getD_cons_succ]
  go_wp2_with fail
  refine Go.Canon.seg_end Hkb2.out (Go.Canon.seg_done (by rfl) (List.forall_mem_cons.2 ⟨.inl ⟨_, rfl, by simp, by simp⟩, List.forall_mem_cons.2 ⟨.inl ⟨_, rfl, by simp, by simp⟩, fun _ h => by cases h⟩⟩) ?_)
  go_wp2_with fail
  go_ret
  exact ⟨rfl, 1, #[.cells #[.int .i64 x1, .int .i64 x2] 34, .cells #[.int .i64 y1, .int .i64 y2] 34, .cells #[.int .i64 c, .int .i64 d] 3], by rw [alloc_eq_grow, alloc_eq_grow, alloc_eq_grow, grow_grow, grow_grow]; rfl⟩

def encP (x : Int × Int) : List Value := [.int .i64 x.1, .int .i64 x.2]
theorem ltP (x y : Int × Int) : ltOf cmpE x y = decide (ltE x y) := by
  unfold ltOf
  rw [Bool.eq_iff_iff, decide_eq_true_eq, decide_eq_true_eq]
  exact cmpE_neg x y
theorem swoE : SWO (ltOf cmpE) where
  irrefl x := by rw [ltP]; simp [ltE]
  trans x y z h1 h2 := by
    rw [ltP, decide_eq_true_eq] at h1 h2 ⊢
    unfold ltE at *
    omega
  ntrans x y z h1 h2 := by
    rw [ltP, decide_eq_false_iff_not] at h1 h2 ⊢
    unfold ltE at *
    omega
theorem flatK_flat2 (L : List (Int × Int)) : flatK encP 2 L.toArray = (flat2 L).toArray := by
  apply Array.ext
  · simp [flat2_len]
  · intro j h1 h2
    have hj : j < L.length * 2 := by simpa using h1
    have hq : j / 2 < L.length := by omega
    rw [show (flatK encP 2 L.toArray)[j] = (flatK encP 2 L.toArray)[j]! from (getElem!_pos (flatK encP 2 L.toArray) j h1).symm, get_flatK _ _ _ _ (by simpa using hj)]
    have hd : L.toArray[j / 2]! = L[j / 2] := by simp [getElem!_pos, hq]
    rw [hd]
    have h3 := flat2_at L (j / 2) L[j / 2] (List.getElem?_eq_getElem hq)
    have h4 := congrArg (fun l : List Value => l[j % 2]?) h3
    rw [List.getElem?_take, if_pos (by omega), List.getElem?_drop, show j / 2 * 2 + j % 2 = j from by omega] at h4
    have h5 : (flat2 L)[j]? = some ((flat2 L).toArray[j]) := by
      rw [List.getElem?_eq_getElem (by rw [flat2_len]; exact hj)]; simp
    rw [h5] at h4
    have h6 : (encP L[j / 2])[j % 2]? = some ((flat2 L).toArray[j]) := h4.symm
    have hlt : j % 2 < (encP L[j / 2]).length := by unfold encP; simp; omega
    rw [List.getElem?_eq_getElem hlt] at h6
    injection h6 with h6
    rw [getElem!_pos (encP L[j / 2]) (j % 2) hlt, h6]


theorem sorted_pair {d' : Array (Int × Int)} {n : Nat} (h : SortedIn (ltOf cmpE) 0 n d') (hn : d'.size = n) : d'.toList.Pairwise (fun x y => ¬ ltE y x) := by
  rw [List.pairwise_iff_getElem]
  intro i j hi hj hij
  have := h i j (by omega) hij (by simpa [hn] using hj)
  rw [ltP] at this
  simp at hi hj
  simpa [getElem!_pos, hi, hj] using this
set_option maxHeartbeats 1000000 in
theorem sortedge_calls (L : List (Int × Int)) (g cap base : Nat) (w : World) (h : w.ownsRow base 34 2 (.slice (some ⟨g, 0, none⟩) L.length cap) L.length (flat2 L)) (hl : L.length ≤ 603979776) :
    Calls Tryz.prog 34 #[.slice (some ⟨g, 0, none⟩) L.length cap, .func (.func 16) #[] #[]] w fun e w' =>
      e = .returned (.tuple #[]) ∧ (∃ L' : List (Int × Int), L'.Perm L ∧ L'.length = L.length ∧ L'.Pairwise (fun x y => ¬ ltE y x) ∧ w'.ownsRow base 34 2 (.slice (some ⟨g, 0, none⟩) L.length cap) L.length (flat2 L')) ∧ w.grownBy w' (some g) := by
  have eg : ∀ args w, (callFunc 16 args).run Tryz.prog w = .ok (.enter 16 args) w := enters_of Tryz.func16 (by kernel_rfl) rfl
  have hlay : CmpLays Tryz.prog 16 #[] encP 2 cmpE g 0 L.toArray.size w := fun m os dk _ x y => order2_calls x y _
  have hH : HoldsK encP 2 w g 0 L.toArray := by
    unfold HoldsK
    rw [flatK_flat2]
    intro j hj
    have hj : j < L.length * 2 := by simpa [flat2_len] using hj
    rw [Nat.zero_add]
    refine ⟨?_, h.frozenAt j⟩
    rw [h.cellAt j hj, List.getElem?_eq_getElem (by rw [flat2_len]; exact hj)]
    simp [getElem!_pos, flat2_len, hj]
  have hcon := AnyQ.slices_SortFunc Tryz.sortEdge 2 Tryz.isAgg34 Tryz.sizeOf34 encP (fun _ => rfl) (fun x v hv => by simp [encP] at hv; rcases hv with rfl | rfl <;> rfl) cmpE swoE 16 #[] g 0 cap L.toArray w eg hlay hH (h.lt g rfl).2 (by simp; omega)
  change Calls Tryz.prog 34 _ _ _ at hcon
  refine hcon.mono ?_
  rintro e w' ⟨rfl, d', n, os, hp, hso, rfl⟩
  have hsz : d'.size = L.length := by have := hp.1; simpa using this
  have hperm : d'.toList.Perm L := by
    have := hp.2.2
    have e1 : d'.extract 0 L.toArray.size = d' := by rw [show L.toArray.size = d'.size from by simp [hsz]]; simp
    have e2 : L.toArray.extract 0 L.toArray.size = L.toArray := by simp
    rw [e1, e2] at this
    simpa using this
  refine ⟨rfl, ⟨d'.toList, hperm, by simpa using hsz, sorted_pair hso hsz, ?_⟩, grown_sorted id _⟩
  have hf : flatK encP 2 d' = (flat2 d'.toList).toArray := by rw [← flatK_flat2]
  have := own_sorted (m := n) (os := os) (flatK encP 2 d') h (by simp [hsz])
  rw [hf] at this
  unfold sortWorldK putRowK
  rw [hf]
  simpa using this
end Go.Proofs.YtckkpmjkajkkmaaGreat
