/- The law StreamNext, walked. -/
import Derived.Test.YtbhdfljdfjadnaaWA
namespace Go.Proofs.Ytbhdfljdfjadnaa
open Go Go.RowKit Go.Words Go.StreamP

theorem nextRow_lt (L : List (List B2)) (T : List Nat) : -1 ≤ nextRow (nextL L T) ∧ nextRow (nextL L T) < 256 ∨ ¬ L.length ≤ 256 := by
  cases h : nextL L T with
  | none => exact .inl (by simp [nextRow])
  | some x =>
    obtain ⟨i, p, n⟩ := x
    have := (nextTo_some L T _ _ _ _ h).1
    simp only [nextRow]
    omega

set_option maxHeartbeats 2000000 in
theorem next_law (v1 v2 : Value) (L : List (List B2)) (T : List Int) (w : World) {B : Nat} (hB0 : B ≤ w.heap.size) (h : Sl 1 (RSl 2 RPair) w B v1 L) (h2 : Sl 1 RInt w B v2 T) :
    Calls Try.prog 6 #[v1, v2] w fun e w' => e = .returned (.bool true) ∧ Below w.heap.size w w' := by
  have qT := nil_eq
  have Hh := Lib.hid h; clear h; have Hh2 := Lib.hid h2; clear h2
  go_enter Try.func6, Try.ntmps6
  go_wp2_with (go_at_call 11; refine (awake_calls _).mono ?_; rintro e w1 ⟨rfl, hb1⟩; have hz1 := hb1.size)
  refine (plain_calls _ L _ (by omega) (Hh.out.below (keeps_sl keeps_pair) (hb1.mono hB0))).mono ?_
  rintro e w2 ⟨⟨p, rfl, hp⟩, hb2⟩
  have hz2 := hb2.size
  have hbel2 := below_call hb1 hb2 hz1
  cases hok : plainOk L
  · obtain rfl := hp.2 hok
    have Hhp := Lib.hid hp; clear hp; have Hhok := Lib.hid hok; clear hok
    go_wp2
    go_ret
    exact ⟨rfl, hbel2⟩
  · obtain ⟨a, n, c, rfl, hps⟩ := hp.1 hok
    have hfew := plainOk_few hok
    have hsm := few_small hfew
    have hfl := hfew.1
    obtain rfl := hps.len.1
    have hS := sum_calls v1 v2 L T
    by_cases hs3 : (sumRes L T (L.all rowB)).2.2 = 0
    · have hr : L.all rowB = true := by
        cases h9 : L.all rowB
        · rw [h9] at hs3; simp [sumRes] at hs3
        · rfl
      have hok2 : okTake L T = true := by
        cases h9 : okTake L T
        · rw [hr] at hs3; simp [sumRes, h9] at hs3
        · rfl
      have hgd := all_row hr
      have hfit := fits_toNat hok2
      have hcast := cast_toNat hok2
      have hrow := nextRow_lt L (T.map Int.toNat)
      have h2' := Hh2.out
      rw [← hcast] at h2'
      generalize hS9 : sumRes L T (L.all rowB) = S at *
      obtain ⟨s1, s2, s3⟩ := S
      simp only [] at hs3 hS
      subst hs3
      have Hhp := Lib.hid hp; clear hp; have Hhok := Lib.hid hok; clear hok; have Hhps := Lib.hid hps; clear hps; have Hhfew := Lib.hid hfew; clear hfew; have Hhsm := Lib.hid hsm; clear hsm; have HhS := Lib.hid hS; clear hS; have Hhr := Lib.hid hr; clear hr; have Hhok2 := Lib.hid hok2; clear hok2; have Hhgd := Lib.hid hgd; clear hgd; have Hhfit := Lib.hid hfit; clear hfit; have Hhcast := Lib.hid hcast; clear hcast; have Hhrow := Lib.hid hrow; clear hrow; have HhS9 := Lib.hid hS9; clear hS9; have Hh2' := Lib.hid h2'; clear h2'
      go_wp2_with fail
      refine (snext_good _ _ L (T.map Int.toNat) _ (by omega) (Hh.out.below (keeps_sl keeps_pair) (hbel2.mono hB0)) (Hh2'.out.below keeps_int (hbel2.mono hB0)) Hhfew.out Hhr.out Hhfit.out).mono ?_
      rintro e w3 ⟨rfl, hb3⟩
      have hbel3 := below_call hbel2 hb3 (by omega)
      have hz3 := hbel3.size
      have hz23 := hb3.size
      have hps3 := Hhps.out.after (keeps_sl keeps_pair) hb3 (Nat.le_refl _)
      have Hhps3 := Lib.hid hps3; clear hps3
      go_wp2_with fail
      refine (HhS.out _ (by omega) (Hh.out.below (keeps_sl keeps_pair) (hbel3.mono hB0)) (Hh2.out.below keeps_int (hbel3.mono hB0)) Hhfew.out).mono ?_
      rintro e w4 ⟨rfl, hb4⟩
      have hbel4 := below_call hbel3 hb4 (by omega)
      have hz4 := hbel4.size
      have hz34 := hb4.size
      have hps4 := Hhps3.out.after (keeps_sl keeps_pair) hb4 hz23
      have Hhps4 := Lib.hid hps4; clear hps4
      go_wp2_with fail
      refine (refnext_calls _ _ L (T.map Int.toNat) _ (Nat.le_refl _) (Hhps4.out.keep (keeps_sl keeps_pair) (Below.refl _ _) (by omega)) ((Hh2'.out.below keeps_int (hbel4.mono hB0)).keep keeps_int (Below.refl _ _) (by omega)) Hhsm.out.1 Hhsm.out.2 Hhgd.out Hhfit.out).mono ?_
      rintro e w5 ⟨rfl, hb5⟩
      have hbel5 := below_call hbel4 hb5 (by omega)
      generalize nextRow (nextL L (T.map Int.toNat)) = r
      by_cases hr0 : r < 0
      · have hm : max r 0 = 0 := by omega
        have hd : decide (0 ≤ r) = false := by simp; omega
        rw [hm, hd] at *
        clear hm hd
        go_wp2
        all_goals
          go_ret
          refine ⟨ret_bool ?_, hbel5⟩
          rfl
      · have hm : max r 0 = r := by omega
        have hd : decide (0 ≤ r) = true := by simp; omega
        rw [hm, hd] at *
        clear hm hd
        go_wp2
        all_goals
          go_ret
          refine ⟨ret_bool ?_, hbel5⟩
          rfl
    · generalize hS9 : sumRes L T (L.all rowB) = S at *
      have hbad := fun w hB0 => snext_bad v1 v2 L T w (B := B) hB0
      rw [hS9] at hbad
      obtain ⟨s1, s2, s3⟩ := S
      simp only [] at hs3 hS hbad
      have Hhp := Lib.hid hp; clear hp; have Hhok := Lib.hid hok; clear hok; have Hhps := Lib.hid hps; clear hps; have Hhfew := Lib.hid hfew; clear hfew; have Hhsm := Lib.hid hsm; clear hsm; have HhS := Lib.hid hS; clear hS; have HhS9 := Lib.hid hS9; clear hS9; have Hhbad := Lib.hid hbad; clear hbad
      go_wp2_with fail
      refine (Hhbad.out _ (by omega) (Hh.out.below (keeps_sl keeps_pair) (hbel2.mono hB0)) (Hh2.out.below keeps_int (hbel2.mono hB0)) Hhfew.out hs3).mono ?_
      rintro e w3 ⟨rfl, hb3⟩
      have hbel3 := below_call hbel2 hb3 (by omega)
      have hz3 := hbel3.size
      go_wp2_with fail
      refine (HhS.out _ (by omega) (Hh.out.below (keeps_sl keeps_pair) (hbel3.mono hB0)) (Hh2.out.below keeps_int (hbel3.mono hB0)) Hhfew.out).mono ?_
      rintro e w4 ⟨rfl, hb4⟩
      have hbel4 := below_call hbel3 hb4 (by omega)
      go_wp2
      go_ret
      exact ⟨rfl, hbel4⟩
end Go.Proofs.Ytbhdfljdfjadnaa
