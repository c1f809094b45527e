/- Walks: law20's given, plainRuns; ref20's SameRuns; ref08's Ints, Same. -/
import Derived.Test.YtdljcemnbbamcaaFI
import Derived.Test.YtdljcemnbbamcaaFJ
import Derived.Test.YtdljcemnbbamcaaFK
namespace Go.Proofs.Ytdljcemnbbamcaa
open Go Go.RowKit Go.Words Go.Mesh

theorem edge_run20 (x1 x2 y1 y2 : Int) (w : World) : Sem.run Try.prog (Op.equalIn 10000 47 (.agg #[.int .i64 x1, .int .i64 x2]) (.agg #[.int .i64 y1, .int .i64 y2])) w = .ok (decide ((x1, x2) = (y1, y2))) w := by
  obtain ⟨i, hi, _⟩ := info_parts info_int
  have hp : Try.prog.plainKey 3 = true := by kernel_rfl
  have hc : Try.prog.cellsOf 3 = 1 := by kernel_rfl
  rw [show (10000 : Nat) = 9999 + 1 from rfl, run_equalIn_array w 9999 _ _ Try.underlying47 hi, hc, show List.range 2 = [0, 1] from rfl]
  have a0 : Sem.run Try.prog (part 3 #[.int .i64 x1, .int .i64 x2] (0 * 1)) w = .ok (.int .i64 x1) w := run_part_plain w hp rfl
  have a1 : Sem.run Try.prog (part 3 #[.int .i64 x1, .int .i64 x2] (1 * 1)) w = .ok (.int .i64 x2) w := run_part_plain w hp rfl
  have b0 : Sem.run Try.prog (part 3 #[.int .i64 y1, .int .i64 y2] (0 * 1)) w = .ok (.int .i64 y1) w := run_part_plain w hp rfl
  have b1 : Sem.run Try.prog (part 3 #[.int .i64 y1, .int .i64 y2] (1 * 1)) w = .ok (.int .i64 y2) w := run_part_plain w hp rfl
  have e0 : Sem.run Try.prog (Op.equalIn 9999 3 (.int .i64 x1) (.int .i64 y1)) w = .ok (x1 == y1) w := run_equalIn_int w 9998 3 .i64 .i64 x1 y1 Try.underlying3
  have e1 : Sem.run Try.prog (Op.equalIn 9999 3 (.int .i64 x2) (.int .i64 y2)) w = .ok (x2 == y2) w := run_equalIn_int w 9998 3 .i64 .i64 x2 y2 Try.underlying3
  simp only [Op.eqItems, Sem.run_bind, a0, b0, e0, Result.andThen_ok]
  by_cases h1 : x1 = y1
  · subst h1
    simp only [beq_self_eq_true, Bool.not_true, Bool.false_eq_true, if_false, Sem.run_bind, a1, b1, e1, Result.andThen_ok]
    by_cases h2 : x2 = y2
    · subst h2
      simp
    · have : (x2 == y2) = false := by simpa using h2
      simp [h2]
  · have : (x1 == y1) = false := by simpa using h1
    simp [h1]
theorem tri_run20 (x1 x2 x3 y1 y2 y3 : Int) (w : World) : Sem.run Try.prog (Op.equalIn 10000 57 (.agg #[.int .i64 x1, .int .i64 x2, .int .i64 x3]) (.agg #[.int .i64 y1, .int .i64 y2, .int .i64 y3])) w = .ok (decide ((x1, x2, x3) = (y1, y2, y3))) w := by
  obtain ⟨i, hi, _⟩ := info_parts info_int
  have hp : Try.prog.plainKey 3 = true := by kernel_rfl
  have hc : Try.prog.cellsOf 3 = 1 := by kernel_rfl
  rw [show (10000 : Nat) = 9999 + 1 from rfl, run_equalIn_array w 9999 _ _ Try.underlying57 hi, hc, show List.range 3 = [0, 1, 2] from rfl]
  have a0 : Sem.run Try.prog (part 3 #[.int .i64 x1, .int .i64 x2, .int .i64 x3] (0 * 1)) w = .ok (.int .i64 x1) w := run_part_plain w hp rfl
  have a1 : Sem.run Try.prog (part 3 #[.int .i64 x1, .int .i64 x2, .int .i64 x3] (1 * 1)) w = .ok (.int .i64 x2) w := run_part_plain w hp rfl
  have a2 : Sem.run Try.prog (part 3 #[.int .i64 x1, .int .i64 x2, .int .i64 x3] (2 * 1)) w = .ok (.int .i64 x3) w := run_part_plain w hp rfl
  have b0 : Sem.run Try.prog (part 3 #[.int .i64 y1, .int .i64 y2, .int .i64 y3] (0 * 1)) w = .ok (.int .i64 y1) w := run_part_plain w hp rfl
  have b1 : Sem.run Try.prog (part 3 #[.int .i64 y1, .int .i64 y2, .int .i64 y3] (1 * 1)) w = .ok (.int .i64 y2) w := run_part_plain w hp rfl
  have b2 : Sem.run Try.prog (part 3 #[.int .i64 y1, .int .i64 y2, .int .i64 y3] (2 * 1)) w = .ok (.int .i64 y3) w := run_part_plain w hp rfl
  have e : ∀ x y : Int, Sem.run Try.prog (Op.equalIn 9999 3 (.int .i64 x) (.int .i64 y)) w = .ok (x == y) w := fun x y => run_equalIn_int w 9998 3 .i64 .i64 x y Try.underlying3
  simp only [Op.eqItems, Sem.run_bind, a0, b0, e, Result.andThen_ok]
  by_cases h1 : x1 = y1
  · subst h1
    simp only [beq_self_eq_true, Bool.not_true, Bool.false_eq_true, if_false, Sem.run_bind, a1, b1, e, Result.andThen_ok]
    by_cases h2 : x2 = y2
    · subst h2
      simp only [beq_self_eq_true, Bool.not_true, Bool.false_eq_true, if_false, Sem.run_bind, a2, b2, e, Result.andThen_ok]
      by_cases h3 : x3 = y3
      · subst h3
        simp
      · have : (x3 == y3) = false := by simpa using h3
        simp [h3]
    · have : (x2 == y2) = false := by simpa using h2
      simp [h2]
  · have : (x1 == y1) = false := by simpa using h1
    simp [h1]
set_option maxRecDepth 20000 in
set_option maxHeartbeats 1000000 in
theorem ints20_calls {w : World} {B : Nat} {va vb : Value} {la lb : List Int} (ha : Sl 1 RInt w B va la) (hb : Sl 1 RInt w B vb lb) (hB0 : B ≤ w.heap.size) (hla : la.length ≤ 1000000) :
    Calls Try.prog 12 #[va, vb] w fun e w' => e = .returned (.bool (decide (la = lb))) ∧ Below w.heap.size w w' := by
  obtain ⟨A, cap, rfl, hcap⟩ := ha.form
  obtain ⟨C, cap2, rfl, hcap2⟩ := hb.form
  by_cases hll : la.length = lb.length
  case neg =>
    rw [decide_eq_false (fun h9 => hll (by rw [h9]))]
    have hll1 : (la.length : Int) ≠ (lb.length : Int) := by omega
    have Hha := Lib.hid ha; have Hhb := Lib.hid hb; clear ha hb
    go_enter Try.func12, Try.ntmps12
    go_wp2
    go_ret
    exact ⟨rfl, Below.refl _ _⟩
  case pos =>
    have hll1 : (la.length : Int) = (lb.length : Int) := by omega
    rw [← hll] at hcap2 ⊢
    have Hha := Lib.hid ha; have Hhb := Lib.hid hb; have Hhll := Lib.hid hll; have Hhll1 := Lib.hid hll1; clear ha hb hll hll1
    go_enter Try.func12, Try.ntmps12
    go_wp2_with fail
    go_loopw [5] (fun i wr => ∃ k : Nat, k ≤ la.length ∧ i = .int .i64 k ∧ la.take k = lb.take k ∧ Below w.heap.size w wr) (fun i _ => la.length - (intOf i).toNat)
    case atStart => exact ⟨0, by omega, rfl, rfl, Below.refl _ _⟩
    case round =>
      obtain ⟨k, hk, rfl, hpre, hbel⟩ := hrel
      by_cases hlt : k < la.length
      · have hlt2 : k < lb.length := by have := Hhll.out; omega
        have h1 := Hha.out.below keeps_int (hbel.mono hB0)
        have h2 := Hhb.out.below keeps_int (hbel.mono hB0)
        rw [← Hhll.out] at h2
        obtain ⟨b1, o1, rfl, hb1, c1⟩ := h1.int_at hlt
        obtain ⟨b2, o2, rfl, hb2, c2⟩ := h2.int_at hlt2
        have hstep : la[k] = lb[k] → la.take (k + 1) = lb.take (k + 1) := fun h9 => by rw [List.take_succ_eq_append_getElem hlt, List.take_succ_eq_append_getElem hlt2, hpre, h9]
        have hne : la[k] ≠ lb[k] → ¬ la = lb := fun h9 h8 => h9 (by subst h8; rfl)
        generalize la[k] = x at *
        generalize lb[k] = y at *
        have Hh1 := Lib.hid h1; have Hh2 := Lib.hid h2; have Hhpre := Lib.hid hpre; have Hhstep := Lib.hid hstep; have Hhne := Lib.hid hne; clear h1 h2 hpre hstep hne
        by_cases hxy : x = y
        · have hs2 := Hhstep.out hxy
          subst hxy
          have Hhs2 := Lib.hid hs2; clear hs2
          go_wp2_with (first | (refine Go.Canon.wp_region_text mixed (by kernel_rfl) ?_) | (refine Go.Canon.chk (by rfl) ?_))
          exact ⟨⟨k + 1, by omega, by simp, Hhs2.out, hbel.drew⟩, by simp [intOf]; omega⟩
        · have hn := Hhne.out hxy
          have Hhn := Lib.hid hn; clear hn
          go_wp2_with (first | (refine Go.Canon.wp_region_text mixed (by kernel_rfl) ?_) | (refine Go.Canon.chk (by rfl) ?_))
          go_ret
          exact ⟨ret_bool (decide_eq_false Hhn.out).symm, hbel.drew⟩
      · obtain rfl : k = la.length := by omega
        have he : la = lb := by rw [List.take_length, Hhll.out, List.take_length] at hpre; exact hpre
        have Hhe := Lib.hid he; have Hhpre := Lib.hid hpre; clear he hpre
        go_wp2_with fail
        go_ret
        exact ⟨ret_bool (decide_eq_true Hhe.out).symm, hbel⟩
set_option maxRecDepth 20000 in
set_option maxHeartbeats 1000000 in
theorem sameruns_calls {w : World} {B : Nat} {va vb : Value} {la lb : List T3} (ha : Sl 3 RTri w B va la) (hb : Sl 3 RTri w B vb lb) (hB0 : B ≤ w.heap.size) (hla : la.length ≤ 1000000) :
    Calls Try.prog 15 #[va, vb] w fun e w' => e = .returned (.bool (decide (la = lb))) ∧ Below w.heap.size w w' := by
  obtain ⟨A, cap, rfl, hcap⟩ := ha.form
  obtain ⟨C, cap2, rfl, hcap2⟩ := hb.form
  by_cases hll : la.length = lb.length
  case neg =>
    rw [decide_eq_false (fun h9 => hll (by rw [h9]))]
    have hll1 : (la.length : Int) ≠ (lb.length : Int) := by omega
    have Hha := Lib.hid ha; have Hhb := Lib.hid hb; clear ha hb
    go_enter Try.func15, Try.ntmps15
    go_wp2
    go_ret
    exact ⟨rfl, Below.refl _ _⟩
  case pos =>
    have hll1 : (la.length : Int) = (lb.length : Int) := by omega
    rw [← hll] at hcap2 ⊢
    have Hha := Lib.hid ha; have Hhb := Lib.hid hb; have Hhll := Lib.hid hll; have Hhll1 := Lib.hid hll1; clear ha hb hll hll1
    go_enter Try.func15, Try.ntmps15
    go_wp2_with fail
    go_loopw [5] (fun i wr => ∃ k : Nat, k ≤ la.length ∧ i = .int .i64 k ∧ la.take k = lb.take k ∧ Below w.heap.size w wr) (fun i _ => la.length - (intOf i).toNat)
    case atStart => exact ⟨0, by omega, rfl, rfl, Below.refl _ _⟩
    case round =>
      obtain ⟨k, hk, rfl, hpre, hbel⟩ := hrel
      by_cases hlt : k < la.length
      · have hlt2 : k < lb.length := by have := Hhll.out; omega
        have h1 := Hha.out.below keeps_tri (hbel.mono hB0)
        have h2 := Hhb.out.below keeps_tri (hbel.mono hB0)
        rw [← Hhll.out] at h2
        obtain ⟨b1, o1, rfl, hb1, c1, c2, c3⟩ := h1.tri_at hlt
        obtain ⟨b2, o2, rfl, hb2, d1, d2, d3⟩ := h2.tri_at hlt2
        have hstep : la[k] = lb[k] → la.take (k + 1) = lb.take (k + 1) := fun h9 => by rw [List.take_succ_eq_append_getElem hlt, List.take_succ_eq_append_getElem hlt2, hpre, h9]
        have hne : la[k] ≠ lb[k] → ¬ la = lb := fun h9 h8 => h9 (by subst h8; rfl)
        generalize la[k] = x at *
        generalize lb[k] = y at *
        obtain ⟨x1, x2, x3⟩ := x
        obtain ⟨y1, y2, y3⟩ := y
        simp only [] at c1 c2 c3 d1 d2 d3
        have Hh1 := Lib.hid h1; have Hh2 := Lib.hid h2; have Hhpre := Lib.hid hpre; clear h1 h2 hpre
        by_cases e1 : x1 = y1
        · subst e1
          by_cases e2 : x2 = y2
          · subst e2
            by_cases e3 : x3 = y3
            · subst e3
              have hs2 := hstep rfl
              have g1 : (x1 == x1) = true := beq_self_eq_true _
              have g2 : (x2 == x2) = true := beq_self_eq_true _
              have g3 : (x3 == x3) = true := beq_self_eq_true _
              have Hhs2 := Lib.hid hs2; have Hhstep := Lib.hid hstep; have Hhne := Lib.hid hne; clear hs2 hstep hne
              go_wp2_with (first | (refine Go.Canon.wp_region_text mixed (by kernel_rfl) ?_) | (refine Go.Canon.chk (by rfl) ?_))
              exact ⟨⟨k + 1, by omega, by simp, Hhs2.out, hbel.drew⟩, by simp [intOf]; omega⟩
            · have hn := hne (fun h9 => e3 (by injection h9 with _ h9; injection h9))
              have g3 : (x3 == y3) = false := by rw [beq_eq_false_iff_ne]; exact e3
              have Hhn := Lib.hid hn; have Hhstep := Lib.hid hstep; have Hhne := Lib.hid hne; clear hn hstep hne
              go_wp2_with (first | (refine Go.Canon.wp_region_text mixed (by kernel_rfl) ?_) | (refine Go.Canon.chk (by rfl) ?_))
              go_ret
              exact ⟨ret_bool (decide_eq_false Hhn.out).symm, hbel.drew⟩
          · have hn := hne (fun h9 => e2 (by injection h9 with _ h9; injection h9))
            have g3 : (x2 == y2) = false := by rw [beq_eq_false_iff_ne]; exact e2
            have Hhn := Lib.hid hn; have Hhstep := Lib.hid hstep; have Hhne := Lib.hid hne; clear hn hstep hne
            go_wp2_with (first | (refine Go.Canon.wp_region_text mixed (by kernel_rfl) ?_) | (refine Go.Canon.chk (by rfl) ?_))
            go_ret
            exact ⟨ret_bool (decide_eq_false Hhn.out).symm, hbel.drew⟩
        · have hn := hne (fun h9 => e1 (by injection h9))
          have g3 : (x1 == y1) = false := by rw [beq_eq_false_iff_ne]; exact e1
          have Hhn := Lib.hid hn; have Hhstep := Lib.hid hstep; have Hhne := Lib.hid hne; clear hn hstep hne
          go_wp2_with (first | (refine Go.Canon.wp_region_text mixed (by kernel_rfl) ?_) | (refine Go.Canon.chk (by rfl) ?_))
          go_ret
          exact ⟨ret_bool (decide_eq_false Hhn.out).symm, hbel.drew⟩
      · obtain rfl : k = la.length := by omega
        have he : la = lb := by rw [List.take_length, Hhll.out, List.take_length] at hpre; exact hpre
        have Hhe := Lib.hid he; have Hhpre := Lib.hid hpre; clear he hpre
        go_wp2_with fail
        go_ret
        exact ⟨ret_bool (decide_eq_true Hhe.out).symm, hbel⟩
theorem sl_own_3 {w : World} {base : Nat} {e : TypeId} {v : Value} {l : List T3} (h : w.ownsRow base e 3 v l.length (flat3 l)) : Sl 3 RTri w w.heap.size v l :=
  Sl.of_own h fun i a hi => flat3_at l i a hi
set_option maxRecDepth 20000 in
set_option maxHeartbeats 1000000 in
theorem same20_calls {w : World} {B : Nat} {va vb : Value} {Na Nb : Int} {la lb : List T3} (ha : Sl 3 RTri w B va la) (hb : Sl 3 RTri w B vb lb) (hB0 : B ≤ w.heap.size) (hla : la.length ≤ 1000000) :
    Calls Try.prog 11 #[.agg #[.int .i64 Na, va], .agg #[.int .i64 Nb, vb]] w fun e w' => e = .returned (.bool (decide (Na = Nb ∧ la = lb))) ∧ Below w.heap.size w w' := by
  obtain ⟨A, cap, rfl, hcap⟩ := ha.form
  obtain ⟨C, cap2, rfl, hcap2⟩ := hb.form
  have hb1 := fun n => ((Below.refl w.heap.size w).alloc (Nat.le_refl _) (.cells #[.int .i64 Na, .slice A la.length cap] 24)).alloc (by simp) (.cells #[.int .i64 Nb, .slice C n cap2] 24)
  by_cases hNN : Na = Nb
  case neg =>
    rw [decide_eq_false (fun h9 => hNN h9.1)]
    have hb1 := hb1 lb.length
    have hnb : (Na != Nb) = true := bne_iff_ne.2 hNN
    have Hha := Lib.hid ha; have Hhb := Lib.hid hb; have Hhb1 := Lib.hid hb1; clear ha hb hb1
    go_enter Try.func11, Try.ntmps11
    go_wp2_with fail
    go_ret
    exact ⟨rfl, Hhb1.out⟩
  subst hNN
  have hnb : (Na != Na) = false := by simp
  by_cases hll : la.length = lb.length
  case neg =>
    rw [decide_eq_false (fun h9 => hll (by rw [h9.2]))]
    have hll1 : (la.length : Int) ≠ (lb.length : Int) := by omega
    have hll2 : ((la.length : Int) != (lb.length : Int)) = true := bne_iff_ne.2 hll1
    have hb1 := hb1 lb.length
    have Hha := Lib.hid ha; have Hhb := Lib.hid hb; have Hhb1 := Lib.hid hb1; clear ha hb hb1
    go_enter Try.func11, Try.ntmps11
    go_wp2_with fail
    go_ret
    exact ⟨rfl, Hhb1.out⟩
  case pos =>
    rw [← hll] at hcap2 ⊢
    have hb1 := hb1 la.length
    have hk1 := (Bk.new w 24 [.int .i64 Na, .slice A la.length cap]).alloc (.cells #[.int .i64 Na, .slice C la.length cap2] 24)
    have hk2 := Bk.new' (n := w.heap.size + 1) (w := w.alloc (.cells #[.int .i64 Na, .slice A la.length cap] 24)) 24 [.int .i64 Na, .slice C la.length cap2] (by simp)
    have Hha := Lib.hid ha; have Hhb := Lib.hid hb; have Hhll := Lib.hid hll; have Hhb1 := Lib.hid hb1; have Hhk1 := Lib.hid hk1; have Hhk2 := Lib.hid hk2; clear ha hb hll hb1 hk1 hk2
    go_enter Try.func11, Try.ntmps11
    go_wp2_with fail
    go_loopw [5] (fun i wr => ∃ k : Nat, k ≤ la.length ∧ i = .int .i64 k ∧ la.take k = lb.take k ∧ Bk wr w.heap.size 24 [.int .i64 Na, .slice A la.length cap] ∧ Bk wr (w.heap.size + 1) 24 [.int .i64 Na, .slice C la.length cap2] ∧ Below w.heap.size w wr) (fun i _ => la.length - (intOf i).toNat)
    case atStart => exact ⟨0, by omega, rfl, rfl, Hhk1.out, Hhk2.out, Hhb1.out⟩
    case round =>
      obtain ⟨k, hk, rfl, hpre, k1, k2, hbel⟩ := hrel
      have z1 : wr.cell? ⟨w.heap.size, 1, none⟩ = some (.slice A la.length cap) := k1.cell 1
      have z2 : wr.cell? ⟨w.heap.size + 1, 1, none⟩ = some (.slice C la.length cap2) := k2.cell 1
      by_cases hlt : k < la.length
      · have hlt2 : k < lb.length := by have := Hhll.out; omega
        have h1 := Hha.out.below keeps_tri (hbel.mono hB0)
        have h2 := Hhb.out.below keeps_tri (hbel.mono hB0)
        rw [← Hhll.out] at h2
        obtain ⟨b1, o1, rfl, hb1, c1, c2, c3⟩ := h1.tri_at hlt
        obtain ⟨b2, o2, rfl, hb2, d1, d2, d3⟩ := h2.tri_at hlt2
        have hstep : la[k] = lb[k] → la.take (k + 1) = lb.take (k + 1) := fun h9 => by rw [List.take_succ_eq_append_getElem hlt, List.take_succ_eq_append_getElem hlt2, hpre, h9]
        have hne : la[k] ≠ lb[k] → ¬ la = lb := fun h9 h8 => h9 (by subst h8; rfl)
        generalize la[k] = x at *
        generalize lb[k] = y at *
        obtain ⟨x1, x2, x3⟩ := x
        obtain ⟨y1, y2, y3⟩ := y
        simp only [] at c1 c2 c3 d1 d2 d3
        have hq := tri_run20 x1 x2 x3 y1 y2 y3
        by_cases hxy : (x1, x2, x3) = (y1, y2, y3)
        · have hs2 := hstep hxy
          rw [decide_eq_true hxy] at hq
          have k1d := k1.drew
          have k2d := k2.drew
          have Hh1 := Lib.hid h1; have Hh2 := Lib.hid h2; have Hhpre := Lib.hid hpre; have Hhs2 := Lib.hid hs2; have Hhstep := Lib.hid hstep; have Hhne := Lib.hid hne; have Hhxy := Lib.hid hxy; have Hk1 := Lib.hid k1; have Hk2 := Lib.hid k2; have Hk1d := Lib.hid k1d; have Hk2d := Lib.hid k2d; clear h1 h2 hpre hs2 hstep hne hxy k1 k2 k1d k2d
          go_wp2_with (first | (refine Go.Canon.wp_region_text mixed (by kernel_rfl) ?_) | (refine Go.Canon.chk (by rfl) ?_))
          exact ⟨⟨k + 1, by omega, by simp, Hhs2.out, Hk1d.out, Hk2d.out, hbel.drew⟩, by simp [intOf]; omega⟩
        · have hn := hne hxy
          rw [decide_eq_false hxy] at hq
          have Hh1 := Lib.hid h1; have Hh2 := Lib.hid h2; have Hhpre := Lib.hid hpre; have Hhn := Lib.hid hn; have Hhstep := Lib.hid hstep; have Hhne := Lib.hid hne; have Hhxy := Lib.hid hxy; have Hk1 := Lib.hid k1; have Hk2 := Lib.hid k2; clear h1 h2 hpre hn hstep hne hxy k1 k2
          go_wp2_with (first | (refine Go.Canon.wp_region_text mixed (by kernel_rfl) ?_) | (refine Go.Canon.chk (by rfl) ?_))
          go_ret
          exact ⟨ret_bool (decide_eq_false fun h9 => Hhn.out h9.2).symm, hbel.drew⟩
      · obtain rfl : k = la.length := by omega
        have he : la = lb := by rw [List.take_length, Hhll.out, List.take_length] at hpre; exact hpre
        have Hhe := Lib.hid he; have Hhpre := Lib.hid hpre; have Hk1 := Lib.hid k1; have Hk2 := Lib.hid k2; clear he hpre k1 k2
        go_wp2_with fail
        go_ret
        exact ⟨ret_bool (decide_eq_true ⟨by trivial, Hhe.out⟩).symm, hbel⟩
set_option maxRecDepth 20000 in
set_option maxHeartbeats 1000000 in
theorem given20_calls {w : World} {B : Nat} {va : Value} {l : List P4} (h : Sl 4 R4 w B va l) (hB0 : B ≤ w.heap.size) (hl : l.length ≤ 1000000) :
    Calls Try.prog 9 #[va] w fun e w' => (∃ v, e = .returned v ∧ w'.ownsRow w.heap.size 49 4 v l.length (flat4 l)) ∧ Below w.heap.size w w' := by
  obtain ⟨A, cap, rfl, hcap⟩ := h.form
  have Hh := Lib.hid h; clear h
  go_enter Try.func9, Try.ntmps9
  go_wp2_with fail
  go_loopw [3, 4] (fun ov i wr => ∃ k : Nat, k ≤ l.length ∧ i = .int .i64 (k : Int) ∧ wr.ownsRow w.heap.size 49 4 ov k (flat4 (l.take k)) ∧ Below w.heap.size w wr) (fun _ i _ => l.length - (intOf i).toNat)
  case atStart => exact ⟨0, by omega, rfl, World.ownsRow_nil _ _ _ _, Below.refl _ _⟩
  case round =>
    obtain ⟨k, hk, rfl, hown, hbel⟩ := hrel
    have hz := hbel.size
    obtain ⟨A5, cap5, rfl, hc5⟩ := own_form hown
    by_cases hlt : k < l.length
    · obtain ⟨b, o, rfl, hb, a1, a2, a3, a4⟩ := (Hh.out.below keeps_4 (hbel.mono hB0)).p4_at (List.getElem?_eq_getElem hlt)
      have htk : flat4 (l.take (k + 1)) = flat4 (l.take k) ++ [.int .i64 l[k].1.1, .int .i64 l[k].1.2, .int .i64 l[k].2.1, .int .i64 l[k].2.2] := by rw [List.take_succ_eq_append_getElem hlt, flat4_snoc]
      generalize l[k] = p at *
      obtain ⟨⟨x1, x2⟩, x3, x4⟩ := p
      simp only [] at a1 a2 a3 a4 htk
      have hown2 := own_below hown (Below.refl _ wr).drew (Nat.le_refl _)
      have Hhown := Lib.hid hown; have Hhtk := Lib.hid htk; have Hhown2 := Lib.hid hown2; clear hown htk hown2
      go_wp2_with fail
      refine Go.Canon.wp_region_text mixed (by kernel_rfl) ?_
      go_wp2_with (at_builtin; refine append_block _ rfl (.tmp 11) (.tmp 23) 31 rfl w.heap.size infoPair Try.underlying31 rfl (by decide) _ k (flat4 (l.take k)) rfl (Hhown2.out.alloc _) wr.heap.size [.int .i64 x1, .int .i64 x2, .int .i64 x3, .int .i64 x4] rfl (Bk.new wr.drew _ _) rfl (by simp [Value.oneCell']) (by omega) (by decide) (by simp; omega) ?_; intro v1 w9 hown9 hb11 _ _; obtain ⟨g9, cap9, rfl⟩ := ownsRow_succ hown9; have Hhown9 := Lib.hid hown9; clear hown9)
      refine Go.Canon.chk (by rfl) ?_
      go_wp2_with fail
      exact ⟨⟨k + 1, by omega, by simp, by rw [Hhtk.out]; exact Hhown9.out, (hbel.drew.alloc hz _).trans (hb11.mono (by first | omega | (simp; done) | (simp; omega)))⟩, by simp [intOf]; omega⟩
    · obtain rfl : k = l.length := by omega
      rw [List.take_length] at hown
      have Hhown := Lib.hid hown; clear hown
      go_wp2_with fail
      go_ret
      exact ⟨⟨_, rfl, Hhown.out⟩, hbel⟩
theorem infoRun20 : (Try.prog.info? 79).map (fun i => (i.zero, i.size, i.bytes)) = some (some (.agg #[.int .i64 0, .int .i64 0, .int .i64 0]), 3, 24) := by kernel_rfl
set_option maxRecDepth 20000 in
set_option maxHeartbeats 1000000 in
theorem plainruns_calls {w : World} {B : Nat} {va : Value} {l : List T3} (h : Sl 3 RTri w B va l) (hB0 : B ≤ w.heap.size) (hl : l.length ≤ 1000000) :
    Calls Try.prog 16 #[va] w fun e w' => (∃ v, e = .returned v ∧ Sl 3 RTri w' w'.heap.size v l) ∧ Below w.heap.size w w' := by
  obtain ⟨A, cap, rfl, hcap⟩ := h.form
  have Hh := Lib.hid h; clear h
  go_enter Try.func16, Try.ntmps16
  go_wp2_with fail
  go_loopw [3, 4] (fun ov i wr => ∃ k : Nat, k ≤ l.length ∧ i = .int .i64 (k : Int) ∧ wr.ownsRow w.heap.size 79 3 ov k (flat3 (l.take k)) ∧ Below w.heap.size w wr) (fun _ i _ => l.length - (intOf i).toNat)
  case atStart => exact ⟨0, by omega, rfl, World.ownsRow_nil _ _ _ _, Below.refl _ _⟩
  case round =>
    obtain ⟨k, hk, rfl, hown, hbel⟩ := hrel
    have hz := hbel.size
    obtain ⟨A5, cap5, rfl, hc5⟩ := own_form hown
    by_cases hlt : k < l.length
    · obtain ⟨b, o, rfl, hb, a1, a2, a3⟩ := (Hh.out.below keeps_tri (hbel.mono hB0)).tri_at hlt
      have htk : flat3 (l.take (k + 1)) = flat3 (l.take k) ++ [.int .i64 l[k].1, .int .i64 l[k].2.1, .int .i64 l[k].2.2] := by rw [List.take_succ_eq_append_getElem hlt, flat3_snoc]
      generalize l[k] = p at *
      obtain ⟨x1, x2, x3⟩ := p
      simp only [] at a1 a2 a3 htk
      have hown2 := own_below hown (Below.refl _ wr).drew (Nat.le_refl _)
      have Hhown := Lib.hid hown; have Hhtk := Lib.hid htk; have Hhown2 := Lib.hid hown2; clear hown htk hown2
      go_wp2_with fail
      refine Go.Canon.wp_region_text mixed (by kernel_rfl) ?_
      go_wp2_with (at_builtin; refine append_block _ rfl (.tmp 11) (.tmp 28) 44 rfl w.heap.size infoRun20 Try.underlying44 rfl (by decide) _ k (flat3 (l.take k)) rfl (Hhown2.out.alloc _) wr.heap.size [.int .i64 x1, .int .i64 x2, .int .i64 x3] rfl (Bk.new wr.drew _ _) rfl (by simp [Value.oneCell']) (by omega) (by decide) (by simp; omega) ?_; intro v1 w9 hown9 hb11 _ _; obtain ⟨g9, cap9, rfl⟩ := ownsRow_succ hown9; have Hhown9 := Lib.hid hown9; clear hown9)
      refine Go.Canon.chk (by rfl) ?_
      go_wp2_with fail
      exact ⟨⟨k + 1, by omega, by simp, by rw [Hhtk.out]; exact Hhown9.out, (hbel.drew.alloc hz _).trans (hb11.mono (by first | omega | (simp; done) | (simp; omega)))⟩, by simp [intOf]; omega⟩
    · obtain rfl : k = l.length := by omega
      rw [List.take_length] at hown
      have hsl := sl_own_3 hown
      have Hhown := Lib.hid hown; have Hhsl := Lib.hid hsl; clear hown hsl
      go_wp2_with fail
      go_ret
      exact ⟨⟨_, rfl, Hhsl.out⟩, hbel⟩
end Go.Proofs.Ytdljcemnbbamcaa
