/- Walks: the order of witnesses. -/
import Derived.Test.YtckkpmjkajkkmaaCA
namespace Go.Mesh
def cmpI (x y : Int) : Int := if x < y then -1 else if y < x then 1 else 0
/-- Witnesses are told by their second number, then by their first. -/
def cmpW (x y : T3) : Int := if cmpI x.2.2 y.2.2 ≠ 0 then cmpI x.2.2 y.2.2 else cmpI x.2.1 y.2.1
end Go.Mesh
namespace Go.Proofs.Ytckkpmjkajkkmaa
open Go Go.RowKit Go.Words Go.Mesh Go.Shelf Go.Sort

set_option maxHeartbeats 1000000 in
theorem compare_calls (x y : Int) (w : World) : Calls Try.prog 101 #[.int .i64 x, .int .i64 y] w fun e w' => e = .returned (.int .i64 (cmpI x y)) ∧ w' = w := by
  unfold cmpI
  rcases (show x < y ∨ (¬ x < y ∧ y < x) ∨ (¬ x < y ∧ ¬ y < x) by omega) with h | ⟨h, h2⟩ | ⟨h, h2⟩
  · rw [if_pos h]
    go_enter Try.func101, Try.ntmps101
    go_wp2
    go_ret
    exact ⟨rfl, rfl⟩
  · rw [if_neg h, if_pos h2]
    go_enter Try.func101, Try.ntmps101
    go_wp2
    go_ret
    exact ⟨rfl, rfl⟩
  · rw [if_neg h, if_neg h2]
    go_enter Try.func101, Try.ntmps101
    go_wp2
    go_ret
    exact ⟨rfl, rfl⟩

set_option maxHeartbeats 1000000 in
theorem or_calls (g : Nat) (x y : Int) (w : World) (h0 : w.cell? ⟨g, 0, none⟩ = some (.int .i64 x)) (h1 : w.cell? ⟨g, 1, none⟩ = some (.int .i64 y)) :
    Calls Try.prog 100 #[.slice (some ⟨g, 0, none⟩) 2 2] w fun e w' => e = .returned (.int .i64 (if x ≠ 0 then x else y)) ∧ w' = w := by
  by_cases hx : x = 0
  · subst hx
    by_cases hy : y = 0
    · subst hy
      rw [if_neg (by simp)]
      go_enter Try.func100, Try.ntmps100
      go_wp2
      refine wp_loop_rounds 3 ?_
      rw [rounds_succ]
      go_wp2
      rw [rounds_succ]
      go_wp2
      rw [rounds_succ]
      go_wp2
      go_ret
      exact ⟨rfl, rfl⟩
    · rw [if_neg (by simp)]
      go_enter Try.func100, Try.ntmps100
      go_wp2
      refine wp_loop_rounds 3 ?_
      rw [rounds_succ]
      go_wp2
      rw [rounds_succ]
      go_wp2
      go_ret
      exact ⟨rfl, rfl⟩
  · rw [if_pos hx]
    go_enter Try.func100, Try.ntmps100
    go_wp2
    refine wp_loop_rounds 3 ?_
    rw [rounds_succ]
    go_wp2
    go_ret
    exact ⟨rfl, rfl⟩

set_option maxHeartbeats 2000000 in
theorem order_calls (x y : T3) (W : World) : Calls Try.prog 99 #[enc3 x, enc3 y] W fun e w' => e = .returned (.int .i64 (cmpW x y)) ∧ ∃ q os', w' = grow (W.drewN q) os' := by
  obtain ⟨x1, x2, x3⟩ := x
  obtain ⟨y1, y2, y3⟩ := y
  have hcw : cmpW (x1, x2, x3) (y1, y2, y3) = if cmpI x3 y3 ≠ 0 then cmpI x3 y3 else cmpI x2 y2 := rfl
  have ha := fun w => compare_calls x3 y3 w
  have hb := fun w => compare_calls x2 y2 w
  rw [hcw]
  generalize cmpI x3 y3 = c at *
  generalize cmpI x2 y2 = d at *
  have ho := fun g w h0 h1 => or_calls g c d w h0 h1
  generalize (if c ≠ 0 then c else d) = r at *
  show Calls Try.prog 99 #[.agg #[.int .i64 x1, .int .i64 x2, .int .i64 x3], .agg #[.int .i64 y1, .int .i64 y2, .int .i64 y3]] W _
  have Hha := Lib.hid ha; clear ha; have Hhb := Lib.hid hb; clear hb; have Hho := Lib.hid ho; clear ho; have Hhcw := Lib.hid hcw; clear hcw
  go_enter Try.func99, Try.ntmps99
  go_wp2_with (refine Go.Canon.wp_region_plan [6,8] (· < W.heap.size + 2) [0,1,2,3,5,6,7,8] [[[4],[9],[10],[11],[12]]] mixed (by kernel_rfl) (List.forall_mem_cons.2 ⟨?_, fun _ h => by cases h⟩))
  refine Go.Canon.seg_begin ?_
  simp only [List.map_cons, List.map_nil, List.getD_cons_zero, List.getD_cons_succ]
  go_wp2_with fail
  refine (Hha.out _).mono ?_
  rintro e w1 ⟨rfl, rfl⟩
  have kb : Go.Canon.KeepU (· < W.heap.size + 2) ((W.alloc (.cells #[.int .i64 x1, .int .i64 x2, .int .i64 x3] 61)).alloc (.cells #[.int .i64 y1, .int .i64 y2, .int .i64 y3] 61)).drew ((W.alloc (.cells #[.int .i64 x1, .int .i64 x2, .int .i64 x3] 61)).alloc (.cells #[.int .i64 y1, .int .i64 y2, .int .i64 y3] 61)).drew := keep_below (RowKit.Below.refl _ _)
  have kb2 : Go.Canon.KeepU (· < W.heap.size + 2) ((W.alloc (.cells #[.int .i64 x1, .int .i64 x2, .int .i64 x3] 61)).alloc (.cells #[.int .i64 y1, .int .i64 y2, .int .i64 y3] 61)).drew (((W.alloc (.cells #[.int .i64 x1, .int .i64 x2, .int .i64 x3] 61)).alloc (.cells #[.int .i64 y1, .int .i64 y2, .int .i64 y3] 61)).alloc (.cells #[.int .i64 c, .int .i64 d] 3)).drew := keep_below (RowKit.Below.alloc (B := W.heap.size + 2) (a := ((W.alloc (.cells #[.int .i64 x1, .int .i64 x2, .int .i64 x3] 61)).alloc (.cells #[.int .i64 y1, .int .i64 y2, .int .i64 y3] 61)).drew) (RowKit.Below.refl _ _) (by simp) (.cells #[.int .i64 c, .int .i64 d] 3))
  have hlit := (Bk.new' (n := W.heap.size + 2) (w := (W.alloc (.cells #[.int .i64 x1, .int .i64 x2, .int .i64 x3] 61)).alloc (.cells #[.int .i64 y1, .int .i64 y2, .int .i64 y3] 61)) 3 [.int .i64 c, .int .i64 d] (by simp)).drew
  have Hkb := Lib.hid kb; clear kb; have Hkb2 := Lib.hid kb2; clear kb2; have Hhlit := Lib.hid hlit; clear hlit
  go_wp2_with fail
  refine Go.Canon.seg_end Hkb.out (Go.Canon.seg_begin ?_)
  simp only [List.map_cons, List.map_nil, List.getD_cons_zero, List.getD_cons_succ]
  go_wp2_with fail
  refine (Hhb.out _).mono ?_
  rintro e w1 ⟨rfl, rfl⟩
  go_wp2_with fail
  refine Go.Canon.seg_end Hkb.out (Go.Canon.seg_begin ?_)
  simp only [List.map_cons, List.map_nil, List.getD_cons_zero, List.getD_cons_succ]
  go_wp2_with fail
  refine Go.Canon.seg_end Hkb2.out (Go.Canon.seg_begin ?_)
  simp only [List.map_cons, List.map_nil, List.getD_cons_zero, List.getD_cons_succ]
  go_wp2_with fail
  refine (Hho.out _ _ ?_ ?_).mono ?_
  · exact Hhlit.out.cell 0
  · exact Hhlit.out.cell 1
  rintro e w1 ⟨rfl, rfl⟩
  go_wp2_with fail
  refine Go.Canon.seg_end Hkb2.out (Go.Canon.seg_begin ?_)
  simp only [List.map_cons, List.map_nil, List.getD_cons_zero, List.getD_cons_succ]
  go_wp2_with fail
  refine Go.Canon.seg_end Hkb2.out (Go.Canon.seg_done (by rfl) (List.forall_mem_cons.2 ⟨.inl ⟨_, rfl, by simp, by simp⟩, List.forall_mem_cons.2 ⟨.inl ⟨_, rfl, by simp, by simp⟩, fun _ h => by cases h⟩⟩) ?_)
  go_wp2_with fail
  go_ret
  exact ⟨rfl, 1, #[.cells #[.int .i64 x1, .int .i64 x2, .int .i64 x3] 61, .cells #[.int .i64 y1, .int .i64 y2, .int .i64 y3] 61, .cells #[.int .i64 c, .int .i64 d] 3], by rw [alloc_eq_grow, alloc_eq_grow, alloc_eq_grow, grow_grow, grow_grow]; rfl⟩
end Go.Proofs.Ytckkpmjkajkkmaa
