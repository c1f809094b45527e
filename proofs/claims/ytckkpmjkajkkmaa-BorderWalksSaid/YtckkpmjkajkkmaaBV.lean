/- Walks: ref08's Alike and Ints. -/
import Derived.Test.YtckkpmjkajkkmaaBP
namespace Go.Proofs.Ytckkpmjkajkkmaa
open Go Go.RowKit Go.Words Go.Mesh

theorem edge_run (x1 x2 y1 y2 : Int) (w : World) : Sem.run Try.prog (Op.equalIn 10000 69 (.agg #[.int .i64 x1, .int .i64 x2]) (.agg #[.int .i64 y1, .int .i64 y2])) w = .ok (decide ((x1, x2) = (y1, y2))) w := by
  obtain ⟨i, hi, _⟩ := info_parts info_int
  have hp : Try.prog.plainKey 3 = true := by kernel_rfl
  have hc : Try.prog.cellsOf 3 = 1 := by kernel_rfl
  rw [show (10000 : Nat) = 9999 + 1 from rfl, run_equalIn_array w 9999 _ _ Try.underlying69 hi, hc, show List.range 2 = [0, 1] from rfl]
  have a0 : Sem.run Try.prog (part 3 #[.int .i64 x1, .int .i64 x2] (0 * 1)) w = .ok (.int .i64 x1) w := run_part_plain w hp rfl
  have a1 : Sem.run Try.prog (part 3 #[.int .i64 x1, .int .i64 x2] (1 * 1)) w = .ok (.int .i64 x2) w := run_part_plain w hp rfl
  have b0 : Sem.run Try.prog (part 3 #[.int .i64 y1, .int .i64 y2] (0 * 1)) w = .ok (.int .i64 y1) w := run_part_plain w hp rfl
  have b1 : Sem.run Try.prog (part 3 #[.int .i64 y1, .int .i64 y2] (1 * 1)) w = .ok (.int .i64 y2) w := run_part_plain w hp rfl
  have e0 : Sem.run Try.prog (Op.equalIn 9999 3 (.int .i64 x1) (.int .i64 y1)) w = .ok (x1 == y1) w := run_equalIn_int w 9998 3 .i64 .i64 x1 y1 Try.underlying3
  have e1 : Sem.run Try.prog (Op.equalIn 9999 3 (.int .i64 x2) (.int .i64 y2)) w = .ok (x2 == y2) w := run_equalIn_int w 9998 3 .i64 .i64 x2 y2 Try.underlying3
  simp only [Op.eqItems, Sem.run_bind, a0, b0, e0, Result.andThen_ok]
  by_cases h1 : x1 = y1
  · subst h1
    simp only [beq_self_eq_true, Bool.not_true, Bool.false_eq_true, if_false, Sem.run_bind, a1, b1, e1, Result.andThen_ok]
    by_cases h2 : x2 = y2
    · subst h2
      simp
    · have : (x2 == y2) = false := by simpa using h2
      simp [h2]
  · have : (x1 == y1) = false := by simpa using h1
    simp [h1]
set_option maxRecDepth 20000 in
set_option maxHeartbeats 1000000 in
theorem ints08_calls {w : World} {B : Nat} {va vb : Value} {la lb : List Int} (ha : Sl 1 RInt w B va la) (hb : Sl 1 RInt w B vb lb) (hB0 : B ≤ w.heap.size) (hla : la.length ≤ 1000000) :
    Calls Try.prog 39 #[va, vb] w fun e w' => e = .returned (.bool (decide (la = lb))) ∧ Below w.heap.size w w' := by
  obtain ⟨A, cap, rfl, hcap⟩ := ha.form
  obtain ⟨C, cap2, rfl, hcap2⟩ := hb.form
  by_cases hll : la.length = lb.length
  case neg =>
    rw [decide_eq_false (fun h9 => hll (by rw [h9]))]
    have hll1 : (la.length : Int) ≠ (lb.length : Int) := by omega
    have Hha := Lib.hid ha; have Hhb := Lib.hid hb; clear ha hb
    go_enter Try.func39, Try.ntmps39
    go_wp2
    go_ret
    exact ⟨rfl, Below.refl _ _⟩
  case pos =>
    have hll1 : (la.length : Int) = (lb.length : Int) := by omega
    rw [← hll] at hcap2 ⊢
    have Hha := Lib.hid ha; have Hhb := Lib.hid hb; have Hhll := Lib.hid hll; have Hhll1 := Lib.hid hll1; clear ha hb hll hll1
    go_enter Try.func39, Try.ntmps39
    go_wp2_with fail
    go_loopw [5] (fun i wr => ∃ k : Nat, k ≤ la.length ∧ i = .int .i64 k ∧ la.take k = lb.take k ∧ Below w.heap.size w wr) (fun i _ => la.length - (intOf i).toNat)
    case atStart => exact ⟨0, by omega, rfl, rfl, Below.refl _ _⟩
    case round =>
      obtain ⟨k, hk, rfl, hpre, hbel⟩ := hrel
      by_cases hlt : k < la.length
      · have hlt2 : k < lb.length := by have := Hhll.out; omega
        have h1 := Hha.out.below keeps_int (hbel.mono hB0)
        have h2 := Hhb.out.below keeps_int (hbel.mono hB0)
        rw [← Hhll.out] at h2
        obtain ⟨b1, o1, rfl, hb1, c1⟩ := h1.int_at hlt
        obtain ⟨b2, o2, rfl, hb2, c2⟩ := h2.int_at hlt2
        have hstep : la[k] = lb[k] → la.take (k + 1) = lb.take (k + 1) := fun h9 => by rw [List.take_succ_eq_append_getElem hlt, List.take_succ_eq_append_getElem hlt2, hpre, h9]
        have hne : la[k] ≠ lb[k] → ¬ la = lb := fun h9 h8 => h9 (by subst h8; rfl)
        generalize la[k] = x at *
        generalize lb[k] = y at *
        have Hh1 := Lib.hid h1; have Hh2 := Lib.hid h2; have Hhpre := Lib.hid hpre; have Hhstep := Lib.hid hstep; have Hhne := Lib.hid hne; clear h1 h2 hpre hstep hne
        by_cases hxy : x = y
        · have hs2 := Hhstep.out hxy
          subst hxy
          have Hhs2 := Lib.hid hs2; clear hs2
          go_wp2_with (first | (refine Go.Canon.wp_region_text mixed (by kernel_rfl) ?_) | (refine Go.Canon.chk (by rfl) ?_))
          exact ⟨⟨k + 1, by omega, by simp, Hhs2.out, hbel.drew⟩, by simp [intOf]; omega⟩
        · have hn := Hhne.out hxy
          have Hhn := Lib.hid hn; clear hn
          go_wp2_with (first | (refine Go.Canon.wp_region_text mixed (by kernel_rfl) ?_) | (refine Go.Canon.chk (by rfl) ?_))
          go_ret
          exact ⟨ret_bool (decide_eq_false Hhn.out).symm, hbel.drew⟩
      · obtain rfl : k = la.length := by omega
        have he : la = lb := by rw [List.take_length, Hhll.out, List.take_length] at hpre; exact hpre
        have Hhe := Lib.hid he; have Hhpre := Lib.hid hpre; clear he hpre
        go_wp2_with fail
        go_ret
        exact ⟨ret_bool (decide_eq_true Hhe.out).symm, hbel⟩
set_option maxRecDepth 20000 in
set_option maxHeartbeats 1000000 in
theorem alike_calls {w : World} {B : Nat} {va vb : Value} {la lb : List (Int × Int)} (ha : Sl 2 RPair w B va la) (hb : Sl 2 RPair w B vb lb) (hB0 : B ≤ w.heap.size) (hla : la.length ≤ 1000000) :
    Calls Try.prog 30 #[va, vb] w fun e w' => e = .returned (.bool (decide (la = lb))) ∧ Below w.heap.size w w' := by
  obtain ⟨A, cap, rfl, hcap⟩ := ha.form
  obtain ⟨C, cap2, rfl, hcap2⟩ := hb.form
  by_cases hll : la.length = lb.length
  case neg =>
    rw [decide_eq_false (fun h9 => hll (by rw [h9]))]
    have hll1 : (la.length : Int) ≠ (lb.length : Int) := by omega
    have Hha := Lib.hid ha; have Hhb := Lib.hid hb; clear ha hb
    go_enter Try.func30, Try.ntmps30
    go_wp2
    go_ret
    exact ⟨rfl, Below.refl _ _⟩
  case pos =>
    have hll1 : (la.length : Int) = (lb.length : Int) := by omega
    rw [← hll] at hcap2 ⊢
    have Hha := Lib.hid ha; have Hhb := Lib.hid hb; have Hhll := Lib.hid hll; have Hhll1 := Lib.hid hll1; clear ha hb hll hll1
    go_enter Try.func30, Try.ntmps30
    go_wp2_with fail
    go_loopw [5] (fun i wr => ∃ k : Nat, k ≤ la.length ∧ i = .int .i64 k ∧ la.take k = lb.take k ∧ Below w.heap.size w wr) (fun i _ => la.length - (intOf i).toNat)
    case atStart => exact ⟨0, by omega, rfl, rfl, Below.refl _ _⟩
    case round =>
      obtain ⟨k, hk, rfl, hpre, hbel⟩ := hrel
      by_cases hlt : k < la.length
      · have hlt2 : k < lb.length := by have := Hhll.out; omega
        have h1 := Hha.out.below keeps_pair (hbel.mono hB0)
        have h2 := Hhb.out.below keeps_pair (hbel.mono hB0)
        rw [← Hhll.out] at h2
        obtain ⟨b1, o1, rfl, hb1, c1, c1'⟩ := h1.pair_at hlt
        obtain ⟨b2, o2, rfl, hb2, c2, c2'⟩ := h2.pair_at hlt2
        have hstep : la[k] = lb[k] → la.take (k + 1) = lb.take (k + 1) := fun h9 => by rw [List.take_succ_eq_append_getElem hlt, List.take_succ_eq_append_getElem hlt2, hpre, h9]
        have hne : la[k] ≠ lb[k] → ¬ la = lb := fun h9 h8 => h9 (by subst h8; rfl)
        generalize la[k] = x at *
        generalize lb[k] = y at *
        obtain ⟨x1, x2⟩ := x
        obtain ⟨y1, y2⟩ := y
        simp only [] at c1 c1' c2 c2'
        have hr9 := edge_run x1 x2 y1 y2 wr.drew
        have Hh1 := Lib.hid h1; have Hh2 := Lib.hid h2; have Hhpre := Lib.hid hpre; have Hhstep := Lib.hid hstep; have Hhne := Lib.hid hne; clear h1 h2 hpre hstep hne
        by_cases hxy : (x1, x2) = (y1, y2)
        · have hs2 := Hhstep.out hxy
          rw [decide_eq_true hxy] at hr9
          have Hhs2 := Lib.hid hs2; clear hs2
          clear hxy
          go_wp2_with fail
          refine Go.Canon.wp_region_tree [] (fun _ => False) (.seg [0,1,2,3,4,5,6,7] (.alt 8 .fin .no)) mixed (by kernel_rfl) ?_
          refine Go.Canon.tr_seg ?_
          simp only [List.map_cons, List.map_nil, List.getD_cons_zero, List.getD_cons_succ]
          go_wp2_with fail
          refine Go.Canon.tr_to (Go.Canon.tr_one ?_)
          simp only [List.getD_cons_zero, List.getD_cons_succ]
          go_wp2_with fail
          refine Go.Canon.tr_end (fun b h9 => h9.elim) (Go.Canon.tr_fin (by rfl) (fun _ h => by cases h) ?_)
          go_wp2_with fail
          exact ⟨⟨k + 1, by omega, by simp, Hhs2.out, hbel.drew⟩, by simp [intOf]; omega⟩
        · have hn := Hhne.out hxy
          rw [decide_eq_false hxy] at hr9
          have Hhn := Lib.hid hn; have Hhxy := Lib.hid hxy; clear hn hxy
          go_wp2_with fail
          refine Go.Canon.wp_region_tree [] (fun _ => False) (.seg [0,1,2,3,4,5,6,7] (.alt 8 .fin .no)) mixed (by kernel_rfl) ?_
          refine Go.Canon.tr_seg ?_
          simp only [List.map_cons, List.map_nil, List.getD_cons_zero, List.getD_cons_succ]
          go_wp2_with fail
          refine Go.Canon.tr_to (Go.Canon.tr_one ?_)
          simp only [List.getD_cons_zero, List.getD_cons_succ]
          go_wp2_with fail
          refine Go.Canon.tr_end (fun b h9 => h9.elim) (Go.Canon.tr_fin (by rfl) (fun _ h => by cases h) ?_)
          go_wp2_with fail
          go_ret
          exact ⟨ret_bool (decide_eq_false Hhn.out).symm, hbel.drew⟩
      · obtain rfl : k = la.length := by omega
        have he : la = lb := by rw [List.take_length, Hhll.out, List.take_length] at hpre; exact hpre
        have Hhe := Lib.hid he; have Hhpre := Lib.hid hpre; clear he hpre
        go_wp2_with fail
        go_ret
        exact ⟨ret_bool (decide_eq_true Hhe.out).symm, hbel⟩
end Go.Proofs.Ytckkpmjkajkkmaa
