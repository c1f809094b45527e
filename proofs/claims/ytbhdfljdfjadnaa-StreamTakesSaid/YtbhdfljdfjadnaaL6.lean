/- The law StreamTakes. -/
import Derived.Test.YtbhdfljdfjadnaaWE
namespace Go.Proofs.Ytbhdfljdfjadnaa
open Go Go.RowKit Go.Words Go.StreamP

theorem ints_same (T : List Nat) : ((T.map fun n : Nat => (n : Int)) == T.map fun n : Nat => (n : Int)) = true := by simp

set_option maxHeartbeats 1000000 in
theorem greedy_bad (v : Value) (L : List (List B2)) (bud : Int) (w : World) {B : Nat} (hB0 : B ≤ w.heap.size) (h : Sl 1 (RSl 2 RPair) w B v L) (hL : L.length ≤ 256) (hsm : ∀ l ∈ L, l.length ≤ 1024) (hr : L.all rowB = false) :
    Calls Try.prog 17 #[v, .int .i64 bud] w fun e w' => e = .returned (.slice none 0 0) ∧ Below w.heap.size w w' := by
  have Hhsm := Lib.hid hsm; clear hsm; have Hh := Lib.hid h; clear h
  go_enter Try.func17, Try.ntmps17
  go_wp2_with (go_at_call 31; refine (right_calls _ L w hB0 Hh.out hL Hhsm.out).mono ?_; rw [hr]; rintro e w1 ⟨rfl, hb1⟩)
  go_ret
  exact ⟨rfl, hb1⟩

set_option maxHeartbeats 1000000 in
theorem better_bad (v : Value) (L : List (List B2)) (bud : Int) (w : World) {B : Nat} (hB0 : B ≤ w.heap.size) (h : Sl 1 (RSl 2 RPair) w B v L) (hL : L.length ≤ 256) (hsm : ∀ l ∈ L, l.length ≤ 1024) (hr : L.all rowB = false) :
    Calls Try.prog 23 #[v, .int .i64 bud] w fun e w' => e = .returned (.slice none 0 0) ∧ Below w.heap.size w w' := by
  obtain ⟨A, cap, rfl, hcap⟩ := h.form
  have hbelB := (Below.refl w.heap.size w).alloc (Nat.le_refl _) (.cells #[.slice A L.length cap] 34)
  have Hhsm := Lib.hid hsm; clear hsm; have Hh := Lib.hid h; clear h
  go_enter Try.func23, Try.ntmps23
  go_wp2_with fail
  refine (right_calls _ L _ (by simp; omega) (Hh.out.below (keeps_sl keeps_pair) (hbelB.mono hB0)) hL Hhsm.out).mono ?_
  rw [hr]
  rintro e w1 ⟨rfl, hb1⟩
  have hbel1 := below_call hbelB hb1 (by simp)
  go_wp2
  go_ret
  exact ⟨rfl, hbel1⟩

set_option maxHeartbeats 4000000 in
theorem takes_law (v : Value) (L : List (List B2)) (bud : Int) (w : World) {B : Nat} (hB0 : B ≤ w.heap.size) (h : Sl 1 (RSl 2 RPair) w B v L) (hbud : -9223372036854775808 ≤ bud ∧ bud ≤ 9223372036854775807) :
    Calls Try.prog 8 #[v, .int .i64 bud] w fun e w' => e = .returned (.bool true) ∧ Below w.heap.size w w' := by
  obtain ⟨A, cap, rfl, hcap⟩ := h.form
  have qT := nil_eq
  have Hh := Lib.hid h; clear h
  go_enter Try.func8, Try.ntmps8
  go_wp2_with (go_at_call 11; refine (awake_calls _).mono ?_; rintro e w1 ⟨rfl, hb1⟩; have hz1 := hb1.size)
  refine (plain_calls _ L _ (by omega) (Hh.out.below (keeps_sl keeps_pair) (hb1.mono hB0))).mono ?_
  rintro e w2 ⟨⟨p, rfl, hp⟩, hb2⟩
  have hz2 := hb2.size
  have hbel2 := below_call hb1 hb2 hz1
  cases hok : plainOk L
  case false =>
    obtain rfl := hp.2 hok
    have Hhp := Lib.hid hp; clear hp; have Hhok := Lib.hid hok; clear hok
    go_wp2
    go_ret
    exact ⟨rfl, hbel2⟩
  obtain ⟨a, n, c, rfl, hps⟩ := hp.1 hok
  have hfew := plainOk_few hok
  have hsm := few_small hfew
  have hfl := hfew.1
  obtain rfl := hps.len.1
  cases hr : L.all rowB
  case false =>
    have Hhp := Lib.hid hp; clear hp; have Hhok := Lib.hid hok; clear hok; have Hhps := Lib.hid hps; clear hps; have Hhfew := Lib.hid hfew; clear hfew; have Hhsm := Lib.hid hsm; clear hsm
    go_wp2_with fail
    refine (greedy_bad _ L bud _ (by omega) (Hh.out.below (keeps_sl keeps_pair) (hbel2.mono hB0)) Hhsm.out.1 Hhsm.out.2 hr).mono ?_
    rintro e w3 ⟨rfl, hb3⟩
    have hbel3 := below_call hbel2 hb3 hbel2.size
    go_wp2_with fail
    refine (better_bad _ L bud _ (by have := hbel3.size; omega) (Hh.out.below (keeps_sl keeps_pair) (hbel3.mono hB0)) Hhsm.out.1 Hhsm.out.2 hr).mono ?_
    rintro e w4 ⟨rfl, hb4⟩
    have hbel4 := below_call hbel3 hb4 hbel3.size
    have hps4 := Hhps.out.after (keeps_sl keeps_pair) (below_call hb3 hb4 hb3.size) (Nat.le_refl _)
    have Hhps4 := Lib.hid hps4; clear hps4
    go_wp2_with fail
    refine (refright_calls _ L _ (by have := (below_call hb3 hb4 hb3.size).size; omega) Hhps4.out Hhsm.out.1 Hhsm.out.2).mono ?_
    rw [hr]
    rintro e w5 ⟨rfl, hb5⟩
    have hbel5 := below_call hbel4 hb5 hbel4.size
    have Hhr := Lib.hid hr; clear hr
    go_wp2
    go_ret
    exact ⟨rfl, hbel5⟩
  have hg := all_row hr
  have hgl := (greedy_fits L bud).len
  have hbl := (better_fits L bud).len
  have Hhp := Lib.hid hp; clear hp; have Hhok := Lib.hid hok; clear hok; have Hhps := Lib.hid hps; clear hps; have Hhfew := Lib.hid hfew; clear hfew; have Hhsm := Lib.hid hsm; clear hsm
  go_wp2_with fail
  refine (greedy_calls _ L bud _ (by omega) (Hh.out.below (keeps_sl keeps_pair) (hbel2.mono hB0)) Hhsm.out.1 Hhsm.out.2 hr hbud).mono ?_
  rintro e w3 ⟨⟨gv, rfl, gg, gcap, rfl, gq1, gq2, gq3⟩, hb3⟩
  have hz3 := hb3.size
  have hbel3 := below_call hbel2 hb3 hbel2.size
  have hgs := block_ints (cap := gcap) gq3 gq2
  rw [hgl] at hgs gq2 ⊢
  have Hhgs := Lib.hid hgs; clear hgs; have Hgq3 := Lib.hid gq3; clear gq3
  go_wp2_with fail
  refine (better_calls _ L bud _ (by omega) (Hh.out.below (keeps_sl keeps_pair) (hbel3.mono hB0)) Hhfew.out hr hbud).mono ?_
  rintro e w4 ⟨⟨bv, rfl, hbv⟩, hb4⟩
  have hz4 := hb4.size
  have hbel4 := below_call hbel3 hb4 hbel3.size
  obtain ⟨A6, cap6, rfl, hcap6⟩ := hbv.form
  rw [List.length_map, hbl] at hcap6 hbv ⊢
  have hps4 := Hhps.out.after (keeps_sl keeps_pair) (below_call hb3 hb4 hb3.size) (Nat.le_refl _)
  have hgs4 := Hhgs.out.after keeps_int hb4 (Nat.le_refl _)
  have Hhps4 := Lib.hid hps4; clear hps4; have Hhgs4 := Lib.hid hgs4; clear hgs4; have Hhbv := Lib.hid hbv; clear hbv
  go_wp2_with fail
  refine (refright_calls _ L _ (by omega) Hhps4.out Hhsm.out.1 Hhsm.out.2).mono ?_
  rw [hr]
  rintro e w5 ⟨rfl, hb5⟩
  have hz5 := hb5.size
  have hbel5 := below_call hbel4 hb5 hbel4.size
  have hps5 := Hhps4.out.after (keeps_sl keeps_pair) hb5 (by omega)
  have hgs5 := Hhgs4.out.after keeps_int hb5 (by omega)
  have hbv5 := Hhbv.out.after keeps_int hb5 (Nat.le_refl _)
  have Hhps5 := Lib.hid hps5; clear hps5; have Hhgs5 := Lib.hid hgs5; clear hgs5; have Hhbv5 := Lib.hid hbv5; clear hbv5
  go_wp2_with fail
  refine (refgreedy_calls _ L bud _ (by omega) Hhps5.out Hhfew.out hr hbud).mono ?_
  rintro e w6 ⟨⟨rv, rfl, hrv⟩, hb6⟩
  have hz6 := hb6.size
  have hbel6 := below_call hbel5 hb6 hbel5.size
  have hps6 := Hhps5.out.after (keeps_sl keeps_pair) hb6 (by omega)
  have hgs6 := Hhgs5.out.keep keeps_int (hb6.mono (by omega)) (show _ ≤ w6.heap.size by omega)
  have hbv6 := Hhbv5.out.after keeps_int hb6 (by omega)
  have hrs := hrv.sl
  have Hhps6 := Lib.hid hps6; clear hps6; have Hhgs6 := Lib.hid hgs6; clear hgs6; have Hhbv6 := Lib.hid hbv6; clear hbv6; have Hhrv := Lib.hid hrv; clear hrv; have Hhrs := Lib.hid hrs; clear hrs
  go_wp2_with fail
  refine (ints_calls _ _ _ _ _ (Nat.le_refl _) Hhgs6.out Hhrs.out (by rw [List.length_map, (greedy_fits L bud).len]; omega) (by rw [List.length_map, (greedy_fits L bud).len]; omega)).mono ?_
  rw [ints_same]
  rintro e w7 ⟨rfl, hb7⟩
  have hz7 := hb7.size
  have hbel7 := below_call hbel6 hb7 hbel6.size
  have hps7 := Hhps6.out.after (keeps_sl keeps_pair) hb7 (by omega)
  have hbv7 := Hhbv6.out.after keeps_int hb7 (by omega)
  have Hhps7 := Lib.hid hps7; clear hps7; have Hhbv7 := Lib.hid hbv7; clear hbv7
  go_wp2_with fail
  refine (refbetter_calls _ L bud _ (by omega) Hhps7.out Hhfew.out hr hbud).mono ?_
  rintro e w8 ⟨⟨rv2, rfl, hrv2⟩, hb8⟩
  have hz8 := hb8.size
  have hbel8 := below_call hbel7 hb8 hbel7.size
  have hbv8 := Hhbv7.out.keep keeps_int (hb8.mono (by omega)) (show _ ≤ w8.heap.size by omega)
  have hrs2 := hrv2.sl
  have Hhbv8 := Lib.hid hbv8; clear hbv8; have Hhrv2 := Lib.hid hrv2; clear hrv2; have Hhrs2 := Lib.hid hrs2; clear hrs2
  go_wp2_with fail
  refine (ints_calls _ _ _ _ _ (Nat.le_refl _) Hhbv8.out Hhrs2.out (by rw [List.length_map, (better_fits L bud).len]; omega) (by rw [List.length_map, (better_fits L bud).len]; omega)).mono ?_
  rw [ints_same]
  rintro e w9 ⟨rfl, hb9⟩
  go_wp2
  go_ret
  exact ⟨rfl, below_call hbel8 hb9 hbel8.size⟩
end Go.Proofs.Ytbhdfljdfjadnaa
