/- Walks: the law's list of corners around a vertex. -/
import Derived.Maps.AppendAt
import Derived.Test.YtckkpmjkajkkmaaGreatTI
import Derived.Test.YtckkpmjkajkkmaaGreatTreeL
namespace Go.Proofs.YtckkpmjkajkkmaaGreat
open Go Go.RowKit Go.Words Go.Mesh
attribute [local go_sem] Oper.semAt_some

theorem infoInt : (Tryz.prog.info? 3).map (fun i => (i.zero, i.size, i.bytes)) = some (some (.int .i64 0), 1, 8) := by kernel_rfl
def nvals (l : List Nat) : List Value := l.map fun (x : Nat) => .int .i64 (x : Int)
theorem boxed_new' {w : World} {n : Nat} (hn : n = w.heap.size) (t : TypeId) (v : Value) : Boxed (w.alloc (.cells #[v] t)) n t v := by subst hn; exact Boxed.new w t v
/-- An append to a row whose blocks lie at or behind r; the variable's box lies ahead of r. -/
theorem own_append {W w1 : World} {r B : Nat} {t e : TypeId} {size : Nat} {v v' : Value} {k m : Nat} {xs ys : List Value} {tmp : Obj}
    (hv : Boxed W B t v) (hBr : B < r) (hrow : W.ownsRow r e size v k xs) (hrW : r ≤ W.heap.size) (hown' : w1.ownsRow r e size v' m ys) (hgrow : (W.alloc tmp).grownBy w1 v.ownBlock) :
    Boxed w1 B t v ∧ Boxed (w1.setCell ⟨B, 0, none⟩ v') B t v' ∧ (w1.setCell ⟨B, 0, none⟩ v').ownsRow r e size v' m ys ∧ KeepsOthers W (w1.setCell ⟨B, 0, none⟩ v') ∧ (∀ n₀, n₀ ≤ B → Below n₀ W (w1.setCell ⟨B, 0, none⟩ v')) ∧
    (∀ B' t' u, B' < r → B' ≠ B → Boxed W B' t' u → Boxed (w1.setCell ⟨B, 0, none⟩ v') B' t' u) := by
  have hlt : ∀ B', B' < r → some B' ≠ v.ownBlock := fun B' h e => by have := (hrow.lt B' e.symm).1; omega
  have hlt' : ∀ B', B' < r → some B' ≠ v'.ownBlock := fun B' h e => by have := (hown'.lt B' e.symm).1; omega
  have hv1 : Boxed w1 B t v := (hv.alloc tmp).kept hgrow (hlt B hBr)
  refine ⟨hv1, hv1.set v', hown'.kept (grownBy_setCell' w1 B v') (.inr (hlt' B hBr).symm), ?_, fun n₀ hn => ?_, fun B' t' u h1 h2 h3 => ?_⟩
  · refine ((KeepsOthers.alloc W tmp).trans (KeepsOthers.of_grownBy hgrow fun j o ej hj => ?_)).trans (KeepsOthers.setCell _ _ _)
    rcases (hrow.alloc tmp).2 with ⟨rfl, _⟩ | ⟨g, cap, cur, rfl, _, hgb, _⟩
    · simp [Value.ownBlock] at ej
    · obtain rfl : g = j := by simpa [Value.ownBlock] using ej
      rw [hgb] at hj; cases hj; rfl
  · refine (((Below.refl n₀ W).alloc (by omega) tmp).grown hgrow (by simp; omega) fun j ej => ?_).setCell (p := ⟨B, 0, none⟩) hn v'
    have := (hrow.lt j ej).1
    omega
  · exact ((h3.alloc tmp).kept hgrow (hlt B' h1)).other h2 v'
theorem func_nil (k : Nat) (a b : Value) (w : World) : Sem.run Tryz.prog (binOp .eql 54 (.func (.func k) #[] #[a, b]) .nilFunc) w = .ok (.bool false) w := by kernel_rfl

set_option maxRecDepth 20000 in
set_option maxHeartbeats 1000000 in
theorem list_calls {w : World} {B : Nat} {tv : Value} {N : Int} {T : List T3} (h : TabN w B tv N T) (hs : Surf N T) (v : Int) (most : Nat) (hm : 1 ≤ most) (hmost : most < 1000000) :
    Calls Tryz.prog 11 #[tv, .int .i64 v, .int .i64 (most : Int)] w fun e w' => (∃ r, e = .returned r ∧ w'.ownsRow w.heap.size 3 1 r ((ringAt T N v).take most).length (nvals ((ringAt T N v).take most))) ∧ Below w.heap.size w w' := by
  refine (callsIn_wide (n := 6)).1 ?_
  refine callsIn_of_wp_marks Tryz.func11 rfl trivial ?_ rfl
  simp only [Tryz.ntmps11, List.size_toArray, List.length_cons, List.length_nil, Nat.reduceAdd, Nat.reduceSub, Array.replicate_succ, Array.replicate_zero, List.push_toArray, List.append_toArray, List.nil_append, List.cons_append]
  obtain ⟨t, rfl⟩ := h.form
  have hfn := func_nil
  gi_wp2_with fail
  refine ⟨trivial, (callsIn_wide.2 (around_calls _ _ _ rfl)).mono ?_⟩
  rintro e w1 ⟨rfl, rfl⟩
  gi_wp2_with fail
  obtain ⟨gb, hgb⟩ : ∃ gb, gb = w.heap.size := ⟨_, rfl⟩
  rw [← hgb]
  obtain ⟨w0, hw0⟩ : ∃ w0, w0 = ((((w.alloc (.cells #[.int .i64 (most : Int)] 3)).alloc (.cells #[.slice none 0 0] 30)).alloc (.cells #[.pointer t] 26)).alloc (.cells #[.int .i64 v] 3)) := ⟨_, rfl⟩
  have hB1 : Below w.heap.size w w0 := by
    rw [hw0]; exact ((((Below.refl _ w).alloc (Nat.le_refl _) _).alloc (by simp) _).alloc (by simp; omega) _).alloc (by simp; omega) _
  have b0 : Boxed w0 gb 3 (.int .i64 (most : Int)) := by rw [hw0]; exact (((boxed_new' hgb _ _).alloc _).alloc _).alloc _
  have b1 : Boxed w0 (gb + 1) 30 (.slice none 0 0) := by rw [hw0]; exact ((boxed_new' (by simp [hgb]) _ _).alloc _).alloc _
  have b2 : Boxed w0 (gb + 1 + 1) 26 (.pointer t) := by rw [hw0]; exact (boxed_new' (by simp [hgb]) _ _).alloc _
  have b3 : Boxed w0 (gb + 1 + 1 + 1) 3 (.int .i64 v) := by rw [hw0]; exact boxed_new' (by simp [hgb]) _ _
  have hsz : w0.heap.size = gb + 4 := by rw [hw0]; simp [hgb]
  rw [← hw0]
  clear hw0
  have hle := h.le
  have hlt : gb ≤ w0.heap.size ∧ gb + 1 + 1 < w0.heap.size ∧ gb + 1 + 1 + 1 < w0.heap.size ∧ B ≤ gb ∧ gb + 4 ≤ w0.heap.size := by omega
  clear hsz hle
  have htab := h.below hB1 h.le
  have Hhgb := Lib.hid hgb; clear hgb; have Hh := Lib.hid h; clear h; have Hb3 := Lib.hid b3; clear b3
  refine wpIn_rangeFunc_ownF rfl (by decide) (gf := 37) (lb := #[.pointer (some ⟨gb + 1 + 1, 0, none⟩), .pointer (some ⟨gb + 1 + 1 + 1, 0, none⟩)]) rfl trivial (enters_of Tryz.func37 (by kernel_rfl) rfl)
    (around_stopsN 5 (by decide) (gb + 1 + 1) (gb + 1 + 1 + 1) gb B (.pointer t) N T v hs hlt.2.2.2.1 w0 hlt.2.1 hlt.2.2.1 hlt.1 b2.cell Hb3.out.cell htab) keepB_t (keepB_b hlt.1 hlt.2.1) (Below.refl _ _) (fun _ => rfl)
    (fun pre W => (((∃ vv, Boxed W (gb + 1) 30 vv ∧ W.ownsRow (gb + 4) 3 1 vv pre.length (nvals (pre.map (·.1))) ∧ True) ∧ Boxed W gb 3 (.int .i64 (most : Int))) ∧ Boxed W (gb + 1 + 1) 26 (.pointer t)) ∧ Below gb w W ∧ gb + 4 ≤ W.heap.size ∧ pre.length < most)
    (fun c pre W => c = .exit 0 ∧ (∃ vv, Boxed W (gb + 1) 30 vv ∧ W.ownsRow (gb + 4) 3 1 vv pre.length (nvals (pre.map (·.1))) ∧ True) ∧ Below gb w W ∧ pre.length = most)
    ?hI ?hIx ?h0
    (fun x => { tmps := #[.pointer t, .int .i64 v, .int .i64 (most : Int), undef, undef, .pointer (some ⟨gb, 0, none⟩), .slice none 0 0, .pointer (some ⟨gb + 1, 0, none⟩), .func (.func 37) #[] #[.pointer (some ⟨gb + 1 + 1, 0, none⟩), .pointer (some ⟨gb + 1 + 1 + 1, 0, none⟩)], .int .i64 (x.1 : Int), .pointer t, .int .i64 v, .func (.func 37) #[] #[.pointer (some ⟨gb + 1 + 1, 0, none⟩), .pointer (some ⟨gb + 1 + 1 + 1, 0, none⟩)], .func (.func 37) #[] #[.pointer (some ⟨gb + 1 + 1, 0, none⟩), .pointer (some ⟨gb + 1 + 1 + 1, 0, none⟩)], .bool false, undef, .func (.func 37) #[] #[.pointer (some ⟨gb + 1 + 1, 0, none⟩), .pointer (some ⟨gb + 1 + 1 + 1, 0, none⟩)], .int .i64 (x.1 : Int), undef, undef, undef, undef, undef, undef, undef, undef, undef], defers := [] }) ?assign ?body ?done ?stop
  case hI =>
    refine OwnFrom.and (OwnFrom.and (OwnFrom.and (Own.from (holdsRow_own (gb + 4) (gb + 1) _ _ 1 (fun pre : List (Cor T) => pre.length) (fun pre : List (Cor T) => nvals (pre.map (·.1))) (fun _ _ => True)) _) (Own.from (boxed_own gb _ fun _ : List (Cor T) => Value.int .i64 (most : Int)) _)) (Own.from (boxed_own (gb + 1 + 1) _ fun _ : List (Cor T) => Value.pointer t) _)) (OwnFrom.and (ownFrom_below (by rw [Hhgb.out]; exact Nat.le_refl _) hlt.1) (OwnFrom.and ?_ (ownFrom_pure _ fun pre : List (Cor T) => pre.length < most)))
    exact fun _ A C row hs hg _ => Nat.le_trans hs hg.size
  case hIx =>
    intro c
    exact OwnFrom.and (ownFrom_pure _ fun _ : List (Cor T) => c = Code.exit 0) (OwnFrom.and (Own.from (holdsRow_own (gb + 4) (gb + 1) _ _ 1 (fun pre : List (Cor T) => pre.length) (fun pre : List (Cor T) => nvals (pre.map (·.1))) (fun _ _ => True)) _) (OwnFrom.and (ownFrom_below (by rw [Hhgb.out]; exact Nat.le_refl _) hlt.1) (ownFrom_pure _ fun pre : List (Cor T) => pre.length = most)))
  case h0 =>
    exact ⟨⟨⟨⟨_, b1, World.ownsRow_nil _ _ _ _, trivial⟩, b0⟩, b2⟩, by rw [Hhgb.out]; exact hB1, hlt.2.2.2.2, hm⟩
  case assign =>
    intro l x W K hK
    gi_wp2
    exact hK
  case body =>
    rintro l pre x W ⟨⟨⟨⟨vv, hv, hrow, -⟩, hb0⟩, hb2⟩, hbl, hge, hlen⟩ hN
    obtain ⟨i0, hi, hz0, hz1, hz2⟩ := info_parts infoInt
    have hc := hv.cell
    have hc0 := hb0.cell
    have hml : pre.length + 1 ≤ maxLen := by unfold maxLen; omega
    gi_wp2_with (gi_at_builtin; refine wpListIn_append_own _ rfl _ _ 30 rfl (gb + 4) 3 i0 (.int .i64 0) 1 8 Tryz.underlying30 hi hz0 hz1 hz2 rfl (by decide) _ _ _ rfl (hrow.alloc _) ⟨W.heap.size, 0, none⟩ 1 1 [.int .i64 (x.1 : Int)] rfl rfl (cell_one_new _ _ _) (by simp [Value.oneCell']) (by omega) (by omega) (by have := hbl.size; simp; omega) ?_; intro v' w1 hown' hgrow _; obtain ⟨g', cap', rfl⟩ := ownsRow_succ hown'; obtain ⟨hv1, hv2, hr2, hk2, hbb, hoth⟩ := own_append hv (by omega) hrow hge hown' hgrow; have hc1 := hv1.cell; have hf1 := hv1.frozen; have hc3 := (hoth _ _ _ (by omega) (by omega) hb0).cell)
    · have hr3 : (w1.setCell ⟨gb + 1, 0, none⟩ (.slice (some ⟨g', 0, none⟩) (pre.length + 1) cap')).ownsRow (gb + 4) 3 1 (.slice (some ⟨g', 0, none⟩) (pre.length + 1) cap') (pre ++ [x]).length (nvals ((pre ++ [x]).map (·.1))) := by simpa [nvals] using hr2
      rename_i h9
      exact ⟨hk2, rfl, ⟨_, hv2, hr3, trivial⟩, hbl.trans (hbb gb (by omega)), by rw [List.length_append]; simp only [List.length_cons, List.length_nil]; omega⟩
    · have hr3 : (w1.setCell ⟨gb + 1, 0, none⟩ (.slice (some ⟨g', 0, none⟩) (pre.length + 1) cap')).ownsRow (gb + 4) 3 1 (.slice (some ⟨g', 0, none⟩) (pre.length + 1) cap') (pre ++ [x]).length (nvals ((pre ++ [x]).map (·.1))) := by simpa [nvals] using hr2
      rename_i h9
      have hb2' := hoth _ _ _ (by omega) (by omega) hb2
      have hb0' := hoth _ _ _ (by omega) (by omega) hb0
      exact ⟨hk2, ⟨hbb gb (by omega), hb2'.cell.trans hb2.cell.symm⟩, ⟨⟨⟨_, hv2, hr3, trivial⟩, hb0'⟩, hb2'⟩, hbl.trans (hbb gb (by omega)), Nat.le_trans hge hk2.size, by rw [List.length_append]; simp only [List.length_cons, List.length_nil]; omega⟩
  case done =>
    rintro D ys W hD hys ⟨⟨⟨⟨vv, hv, hrow, -⟩, hb0⟩, hb2⟩, hbl, hge, hlen⟩ hK
    have hc := hv.cell
    gi_wp2
    refine ⟨by simp, .inl ⟨_, _, rfl, run_takeDeferred hK, ?_⟩⟩
    have hl : ys.length = (ringAt T N v).length := by rw [← hys, List.length_map]
    have e : (ringAt T N v).take most = ys.map (·.1) := by rw [List.take_of_length_le (by omega), hys]
    refine ⟨_, results_tmp rfl _ _ _, ⟨_, rfl, ?_⟩, ?_⟩
    · rw [e, List.length_map, ← Hhgb.out]
      exact ownsRow_putObj (own_base hrow (by omega)) _ hK rfl
    · rw [← Hhgb.out]
      exact hbl.trans (belowK_b (w := w0) hlt.1 W D _ _ hD hK rfl rfl)
  case stop =>
    rintro D c pre W hD hpre ⟨rfl, ⟨vv, hv, hrow, -⟩, hbl, hlen⟩ hK
    have hc := hv.cell
    gi_wp2
    refine ⟨by simp, .inl ⟨_, _, rfl, run_takeDeferred hK, ?_⟩⟩
    have e : (ringAt T N v).take most = pre.map (·.1) := by
      have := List.prefix_iff_eq_take.1 hpre
      rw [List.length_map, hlen] at this
      exact this.symm
    refine ⟨_, results_tmp rfl _ _ _, ⟨_, rfl, ?_⟩, ?_⟩
    · rw [e, List.length_map, ← Hhgb.out]
      exact ownsRow_putObj (own_base hrow (by omega)) _ hK rfl
    · rw [← Hhgb.out]
      exact hbl.trans (belowK_b (w := w0) hlt.1 W D _ _ hD hK rfl rfl)
end Go.Proofs.YtckkpmjkajkkmaaGreat
