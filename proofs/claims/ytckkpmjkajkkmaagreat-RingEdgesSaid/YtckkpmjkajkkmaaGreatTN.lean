/- Walks: the document's Ints; the law's table. -/
import Derived.Test.YtckkpmjkajkkmaaGreatTM
import Derived.Test.YtckkpmjkajkkmaaGreatTK
namespace Go.Proofs.YtckkpmjkajkkmaaGreat
open Go Go.RowKit Go.Words Go.Mesh

theorem sl_ivals {w : World} {base : Nat} {v : Value} {l : List Int} (h : w.ownsRow base 3 1 v l.length (ivals l)) : Sl 1 RInt w w.heap.size v l := by
  refine Sl.of_own (base := base) (e := 3) (xs := ivals l) h fun i a hi => ?_
  unfold RInt
  have hlt := (List.getElem?_eq_some_iff.1 hi).1
  unfold ivals
  rw [Nat.mul_one, List.drop_eq_getElem_cons (by simpa using hlt)]
  simp only [List.take_succ_cons, List.take_zero, List.getElem_map]
  rw [List.getElem?_eq_getElem hlt] at hi
  rw [Option.some.inj hi]
set_option maxRecDepth 20000 in
set_option maxHeartbeats 1000000 in
theorem ints_calls {w : World} {B : Nat} {va vb : Value} {la lb : List Int} (ha : Sl 1 RInt w B va la) (hb : Sl 1 RInt w B vb lb) (hB0 : B ≤ w.heap.size) (hla : la.length ≤ 1000000) :
    Calls Tryz.prog 10 #[va, vb] w fun e w' => e = .returned (.bool (decide (la = lb))) ∧ Below w.heap.size w w' := by
  obtain ⟨A, cap, rfl, hcap⟩ := ha.form
  obtain ⟨C, cap2, rfl, hcap2⟩ := hb.form
  by_cases hll : la.length = lb.length
  case neg =>
    rw [decide_eq_false (fun h9 => hll (by rw [h9]))]
    have hll1 : (la.length : Int) ≠ (lb.length : Int) := by omega
    have Hha := Lib.hid ha; have Hhb := Lib.hid hb; clear ha hb
    go_enter Tryz.func10, Tryz.ntmps10
    go_wp2
    go_ret
    exact ⟨rfl, Below.refl _ _⟩
  case pos =>
    have hll1 : (la.length : Int) = (lb.length : Int) := by omega
    rw [← hll] at hcap2 ⊢
    have Hha := Lib.hid ha; have Hhb := Lib.hid hb; have Hhll := Lib.hid hll; have Hhll1 := Lib.hid hll1; clear ha hb hll hll1
    go_enter Tryz.func10, Tryz.ntmps10
    go_wp2_with fail
    go_loopw [5] (fun i wr => ∃ k : Nat, k ≤ la.length ∧ i = .int .i64 k ∧ la.take k = lb.take k ∧ Below w.heap.size w wr) (fun i _ => la.length - (intOf i).toNat)
    case atStart => exact ⟨0, by omega, rfl, rfl, Below.refl _ _⟩
    case round =>
      obtain ⟨k, hk, rfl, hpre, hbel⟩ := hrel
      by_cases hlt : k < la.length
      · have hlt2 : k < lb.length := by have := Hhll.out; omega
        have h1 := Hha.out.below keeps_int (hbel.mono hB0)
        have h2 := Hhb.out.below keeps_int (hbel.mono hB0)
        rw [← Hhll.out] at h2
        obtain ⟨b1, o1, rfl, hb1, c1⟩ := h1.int_at hlt
        obtain ⟨b2, o2, rfl, hb2, c2⟩ := h2.int_at hlt2
        have hstep : la[k] = lb[k] → la.take (k + 1) = lb.take (k + 1) := fun h9 => by rw [List.take_succ_eq_append_getElem hlt, List.take_succ_eq_append_getElem hlt2, hpre, h9]
        have hne : la[k] ≠ lb[k] → ¬ la = lb := fun h9 h8 => h9 (by subst h8; rfl)
        generalize la[k] = x at *
        generalize lb[k] = y at *
        have Hh1 := Lib.hid h1; have Hh2 := Lib.hid h2; have Hhpre := Lib.hid hpre; have Hhstep := Lib.hid hstep; have Hhne := Lib.hid hne; clear h1 h2 hpre hstep hne
        by_cases hxy : x = y
        · have hs2 := Hhstep.out hxy
          subst hxy
          have Hhs2 := Lib.hid hs2; clear hs2
          go_wp2_with (first | (refine Go.Canon.wp_region_text mixed (by kernel_rfl) ?_) | (refine Go.Canon.chk (by rfl) ?_))
          exact ⟨⟨k + 1, by omega, by simp, Hhs2.out, hbel.drew⟩, by simp [intOf]; omega⟩
        · have hn := Hhne.out hxy
          have Hhn := Lib.hid hn; clear hn
          go_wp2_with (first | (refine Go.Canon.wp_region_text mixed (by kernel_rfl) ?_) | (refine Go.Canon.chk (by rfl) ?_))
          go_ret
          exact ⟨ret_bool (decide_eq_false Hhn.out).symm, hbel.drew⟩
      · obtain rfl : k = la.length := by omega
        have he : la = lb := by rw [List.take_length, Hhll.out, List.take_length] at hpre; exact hpre
        have Hhe := Lib.hid he; have Hhpre := Lib.hid hpre; clear he hpre
        go_wp2_with fail
        go_ret
        exact ⟨ret_bool (decide_eq_true Hhe.out).symm, hbel⟩
end Go.Proofs.YtckkpmjkajkkmaaGreat
