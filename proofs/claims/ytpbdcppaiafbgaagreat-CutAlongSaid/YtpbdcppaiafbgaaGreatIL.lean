/- Walk: ref15's Same. -/
import Derived.Test.YtpbdcppaiafbgaaGreatEQ
namespace Go.Proofs.YtpbdcppaiafbgaaGreat
open Go Go.RowKit Go.Words Go.Mesh
set_option maxRecDepth 20000 in
set_option maxHeartbeats 1000000 in
theorem same15_calls {w : World} {B : Nat} {va vb : Value} {Na Nb : Int} {la lb : List T3} (ha : Sl 3 RTri w B va la) (hb : Sl 3 RTri w B vb lb) (hB0 : B ≤ w.heap.size) (hla : la.length ≤ 1000000) :
    Calls Tryz.prog 23 #[.agg #[.int .i64 Na, va], .agg #[.int .i64 Nb, vb]] w fun e w' => e = .returned (.bool (decide (Na = Nb ∧ la = lb))) ∧ Below w.heap.size w w' := by
  obtain ⟨A, cap, rfl, hcap⟩ := ha.form
  obtain ⟨C, cap2, rfl, hcap2⟩ := hb.form
  have hb1 := fun n => ((Below.refl w.heap.size w).alloc (Nat.le_refl _) (.cells #[.int .i64 Na, .slice A la.length cap] 24)).alloc (by simp) (.cells #[.int .i64 Nb, .slice C n cap2] 24)
  by_cases hNN : Na = Nb
  case neg =>
    rw [decide_eq_false (fun h9 => hNN h9.1)]
    have hb1 := hb1 lb.length
    have hnb : (Na != Nb) = true := bne_iff_ne.2 hNN
    have Hha := Lib.hid ha; have Hhb := Lib.hid hb; have Hhb1 := Lib.hid hb1; clear ha hb hb1
    go_enter Tryz.func23, Tryz.ntmps23
    go_wp2_with fail
    go_ret
    exact ⟨rfl, Hhb1.out⟩
  subst hNN
  have hnb : (Na != Na) = false := by simp
  by_cases hll : la.length = lb.length
  case neg =>
    rw [decide_eq_false (fun h9 => hll (by rw [h9.2]))]
    have hll1 : (la.length : Int) ≠ (lb.length : Int) := by omega
    have hll2 : ((la.length : Int) != (lb.length : Int)) = true := bne_iff_ne.2 hll1
    have hb1 := hb1 lb.length
    have Hha := Lib.hid ha; have Hhb := Lib.hid hb; have Hhb1 := Lib.hid hb1; clear ha hb hb1
    go_enter Tryz.func23, Tryz.ntmps23
    go_wp2_with fail
    go_ret
    exact ⟨rfl, Hhb1.out⟩
  case pos =>
    rw [← hll] at hcap2 ⊢
    have hb1 := hb1 la.length
    have hk1 := (Bk.new w 24 [.int .i64 Na, .slice A la.length cap]).alloc (.cells #[.int .i64 Na, .slice C la.length cap2] 24)
    have hk2 := Bk.new' (n := w.heap.size + 1) (w := w.alloc (.cells #[.int .i64 Na, .slice A la.length cap] 24)) 24 [.int .i64 Na, .slice C la.length cap2] (by simp)
    have Hha := Lib.hid ha; have Hhb := Lib.hid hb; have Hhll := Lib.hid hll; have Hhb1 := Lib.hid hb1; have Hhk1 := Lib.hid hk1; have Hhk2 := Lib.hid hk2; clear ha hb hll hb1 hk1 hk2
    go_enter Tryz.func23, Tryz.ntmps23
    go_wp2_with fail
    go_loopw [5] (fun i wr => ∃ k : Nat, k ≤ la.length ∧ i = .int .i64 k ∧ la.take k = lb.take k ∧ Bk wr w.heap.size 24 [.int .i64 Na, .slice A la.length cap] ∧ Bk wr (w.heap.size + 1) 24 [.int .i64 Na, .slice C la.length cap2] ∧ Below w.heap.size w wr) (fun i _ => la.length - (intOf i).toNat)
    case atStart => exact ⟨0, by omega, rfl, rfl, Hhk1.out, Hhk2.out, Hhb1.out⟩
    case round =>
      obtain ⟨k, hk, rfl, hpre, k1, k2, hbel⟩ := hrel
      have z1 : wr.cell? ⟨w.heap.size, 1, none⟩ = some (.slice A la.length cap) := k1.cell 1
      have z2 : wr.cell? ⟨w.heap.size + 1, 1, none⟩ = some (.slice C la.length cap2) := k2.cell 1
      by_cases hlt : k < la.length
      · have hlt2 : k < lb.length := by have := Hhll.out; omega
        have h1 := Hha.out.below keeps_tri (hbel.mono hB0)
        have h2 := Hhb.out.below keeps_tri (hbel.mono hB0)
        rw [← Hhll.out] at h2
        obtain ⟨b1, o1, rfl, hb1, c1, c2, c3⟩ := h1.tri_at hlt
        obtain ⟨b2, o2, rfl, hb2, d1, d2, d3⟩ := h2.tri_at hlt2
        have hstep : la[k] = lb[k] → la.take (k + 1) = lb.take (k + 1) := fun h9 => by rw [List.take_succ_eq_append_getElem hlt, List.take_succ_eq_append_getElem hlt2, hpre, h9]
        have hne : la[k] ≠ lb[k] → ¬ la = lb := fun h9 h8 => h9 (by subst h8; rfl)
        generalize la[k] = x at *
        generalize lb[k] = y at *
        obtain ⟨x1, x2, x3⟩ := x
        obtain ⟨y1, y2, y3⟩ := y
        simp only [] at c1 c2 c3 d1 d2 d3
        have hq := tri_run20 x1 x2 x3 y1 y2 y3
        by_cases hxy : (x1, x2, x3) = (y1, y2, y3)
        · have hs2 := hstep hxy
          rw [decide_eq_true hxy] at hq
          have k1d := k1.drew
          have k2d := k2.drew
          have Hh1 := Lib.hid h1; have Hh2 := Lib.hid h2; have Hhpre := Lib.hid hpre; have Hhs2 := Lib.hid hs2; have Hhstep := Lib.hid hstep; have Hhne := Lib.hid hne; have Hhxy := Lib.hid hxy; have Hk1 := Lib.hid k1; have Hk2 := Lib.hid k2; have Hk1d := Lib.hid k1d; have Hk2d := Lib.hid k2d; clear h1 h2 hpre hs2 hstep hne hxy k1 k2 k1d k2d
          go_wp2_with (first | (refine Go.Canon.wp_region_text mixed (by kernel_rfl) ?_) | (refine Go.Canon.chk (by rfl) ?_))
          exact ⟨⟨k + 1, by omega, by simp, Hhs2.out, Hk1d.out, Hk2d.out, hbel.drew⟩, by simp [intOf]; omega⟩
        · have hn := hne hxy
          rw [decide_eq_false hxy] at hq
          have Hh1 := Lib.hid h1; have Hh2 := Lib.hid h2; have Hhpre := Lib.hid hpre; have Hhn := Lib.hid hn; have Hhstep := Lib.hid hstep; have Hhne := Lib.hid hne; have Hhxy := Lib.hid hxy; have Hk1 := Lib.hid k1; have Hk2 := Lib.hid k2; clear h1 h2 hpre hn hstep hne hxy k1 k2
          go_wp2_with (first | (refine Go.Canon.wp_region_text mixed (by kernel_rfl) ?_) | (refine Go.Canon.chk (by rfl) ?_))
          go_ret
          exact ⟨ret_bool (decide_eq_false fun h9 => Hhn.out h9.2).symm, hbel.drew⟩
      · obtain rfl : k = la.length := by omega
        have he : la = lb := by rw [List.take_length, Hhll.out, List.take_length] at hpre; exact hpre
        have Hhe := Lib.hid he; have Hhpre := Lib.hid hpre; have Hk1 := Lib.hid k1; have Hk2 := Lib.hid k2; clear he hpre k1 k2
        go_wp2_with fail
        go_ret
        exact ⟨ret_bool (decide_eq_true ⟨by trivial, Hhe.out⟩).symm, hbel⟩
end Go.Proofs.YtpbdcppaiafbgaaGreat
