/- The law StreamSum, walked. -/
import Derived.Test.YtbhdfljdfjadnaaW9
import Derived.Lib.SliceRun
namespace Go.Proofs.Ytbhdfljdfjadnaa
open Go Go.RowKit Go.Words Go.StreamP

theorem nil_eq (w : World) (a : Option Addr) (n c n' c' : Nat) : (binOp .eql 27 (.slice a n c) (.slice none n' c')).run Try.prog w = .ok (.bool a.isNone) w :=
  Lib.run_eql_slice_nil w _ _ a n c n' c' Try.underlying27
theorem cast_toNat {L : List (List B2)} {T : List Int} (h : okTake L T = true) : (T.map Int.toNat).map (fun n : Nat => (n : Int)) = T := by
  obtain ⟨h1, h2⟩ := (okTake_iff L T).1 h
  refine List.ext_getElem (by simp) fun i h3 h4 => ?_
  have := (h2 i (by omega) h4).1
  rw [List.getElem_map, List.getElem_map]
  omega
theorem fits_toNat {L : List (List B2)} {T : List Int} (h : okTake L T = true) : Fits L (T.map Int.toNat) := by
  obtain ⟨h1, h2⟩ := (okTake_iff L T).1 h
  refine ⟨by simpa using h1, fun i h3 h4 => ?_⟩
  have h5 : i < T.length := by simpa using h4
  have := h2 i h3 h5
  rw [List.getElem_map]
  omega
theorem few_small {L : List (List B2)} (h : Few L) : L.length ≤ 256 ∧ ∀ l ∈ L, l.length ≤ 1024 := ⟨by have := h.1; omega, fun l hl => by have := h.2 l hl; omega⟩

/-- Fronts that are not. -/
structure BadTo (L : List (List B2)) (T : List Int) (k : Nat) (b : Bool) : Prop where
  is : b = false ↔ T.length = L.length ∧ ∀ i (_ : i < k) (h : i < L.length) (h' : i < T.length), 0 ≤ T[i] ∧ T[i] ≤ L[i].length
theorem BadTo.done {L : List (List B2)} {T : List Int} {k : Nat} {b : Bool} (h : BadTo L T k b) (hk : T.length ≤ k ∨ L.length ≤ k) : okTake L T = !b := by
  have h1 := okTake_iff L T
  have h2 := h.is
  cases b with
  | false =>
    obtain ⟨h3, h4⟩ := h2.1 rfl
    exact h1.2 ⟨h3, fun i h5 h6 => h4 i (by omega) h5 h6⟩
  | true =>
    refine Bool.eq_false_iff.2 fun h9 => ?_
    obtain ⟨h3, h4⟩ := h1.1 h9
    exact Bool.noConfusion (h2.2 ⟨h3, fun i _ h5 h6 => h4 i h5 h6⟩)
theorem BadTo.zero {L : List (List B2)} {T : List Int} {b : Bool} (h : b = ((T.length : Int) != (L.length : Int))) : BadTo L T 0 b := by
  subst h
  refine ⟨?_⟩
  simp only [bne_eq_false_iff_eq]
  constructor
  · intro h; exact ⟨by omega, fun i h1 => by omega⟩
  · intro h; omega
theorem BadTo.succ {L : List (List B2)} {T : List Int} {k : Nat} {b c : Bool} (h : BadTo L T k b) (h1 : k < L.length) (h2 : k < T.length)
    (hc : c = false ↔ b = false ∧ 0 ≤ T[k] ∧ T[k] ≤ L[k].length) : BadTo L T (k + 1) c := by
  refine ⟨?_⟩
  rw [hc, h.is]
  constructor
  · rintro ⟨⟨h3, h4⟩, h5⟩
    refine ⟨h3, fun i hi h6 h7 => ?_⟩
    by_cases hik : i = k
    · subst hik; exact h5
    · exact h4 i (by omega) h6 h7
  · rintro ⟨h3, h4⟩
    exact ⟨⟨h3, fun i hi h6 h7 => h4 i (by omega) h6 h7⟩, h4 k (by omega) h1 h2⟩

set_option maxHeartbeats 2000000 in
theorem sum_law (v1 v2 : Value) (L : List (List B2)) (T : List Int) (w : World) {B : Nat} (hB0 : B ≤ w.heap.size) (h : Sl 1 (RSl 2 RPair) w B v1 L) (h2 : Sl 1 RInt w B v2 T) :
    Calls Try.prog 5 #[v1, v2] w fun e w' => e = .returned (.bool true) ∧ Below w.heap.size w w' := by
  obtain ⟨A, cap, rfl, hcap⟩ := h.form
  obtain ⟨A2, cap2, rfl, hcap2⟩ := h2.form
  have qT := nil_eq
  have Hh := Lib.hid h; clear h; have Hh2 := Lib.hid h2; clear h2
  go_enter Try.func5, Try.ntmps5
  go_wp2_with (go_at_call 11; refine (awake_calls _).mono ?_; rintro e w1 ⟨rfl, hb1⟩; have hz1 := hb1.size)
  refine (plain_calls _ L _ (by omega) (Hh.out.below (keeps_sl keeps_pair) (hb1.mono hB0))).mono ?_
  rintro e w2 ⟨⟨p, rfl, hp⟩, hb2⟩
  have hz2 := hb2.size
  have hbel2 := below_call hb1 hb2 hz1
  cases hok : plainOk L
  · obtain rfl := hp.2 hok
    have Hhp := Lib.hid hp; clear hp; have Hhok := Lib.hid hok; clear hok
    go_wp2
    go_ret
    exact ⟨rfl, hbel2⟩
  · obtain ⟨a, n, c, rfl, hps⟩ := hp.1 hok
    have hfew := plainOk_few hok
    have hsm := few_small hfew
    have hfl := hfew.1
    obtain rfl := hps.len.1
    have Hhp := Lib.hid hp; clear hp; have Hhok := Lib.hid hok; clear hok; have Hhps := Lib.hid hps; clear hps; have Hhfew := Lib.hid hfew; clear hfew; have Hhsm := Lib.hid hsm; clear hsm
    go_wp2_with fail
    refine (sum_calls _ _ L T _ (by omega) (Hh.out.below (keeps_sl keeps_pair) (hbel2.mono hB0)) (Hh2.out.below keeps_int (hbel2.mono hB0)) Hhfew.out).mono ?_
    rintro e w3 ⟨rfl, hb3⟩
    have hz3 := hb3.size
    have hbel3 := below_call hbel2 hb3 (by omega)
    have hps3 := Hhps.out.after (keeps_sl keeps_pair) hb3 (Nat.le_refl _)
    cases hr : L.all rowB
    · have hs : sumRes L T false = (0, 0, 1) := rfl
      rw [hs]
      have Hhps3 := Lib.hid hps3; clear hps3; have Hhr := Lib.hid hr; clear hr; have Hhs := Lib.hid hs; clear hs
      go_wp2_with fail
      refine (refright_calls _ L _ hz3 Hhps3.out Hhsm.out.1 Hhsm.out.2).mono ?_
      rw [Hhr.out]
      rintro e w4 ⟨rfl, hb4⟩
      have hbel4 := below_call hbel3 hb4 (by omega)
      go_wp2
      go_ret
      exact ⟨rfl, hbel4⟩
    · generalize hS : sumRes L T true = S at *
      obtain ⟨s1, s2, s3⟩ := S
      simp only []
      have Hhps3 := Lib.hid hps3; clear hps3; have Hhr := Lib.hid hr; clear hr; have HhS := Lib.hid hS; clear hS
      go_wp2_with fail
      refine (refright_calls _ L _ hz3 Hhps3.out Hhsm.out.1 Hhsm.out.2).mono ?_
      rw [Hhr.out]
      rintro e w4 ⟨rfl, hb4⟩
      have hz4 := hb4.size
      have hbel4 := below_call hbel3 hb4 (by omega)
      have hps4 := Hhps3.out.after (keeps_sl keeps_pair) hb4 hz3
      have Hhps4 := Lib.hid hps4; clear hps4
      go_wp2_with fail
      go_loopw [9, 10] (fun b i wr => ∃ (k : Nat) (bk : Bool), k ≤ T.length ∧ k ≤ L.length ∧ i = .int .i64 k ∧ b = .bool bk ∧ BadTo L T k bk ∧ Below w4.heap.size w4 wr)
        (fun _ i _ => L.length - (intOf i).toNat)
      case atStart => exact ⟨0, _, by omega, by omega, rfl, rfl, BadTo.zero rfl, Below.refl _ _⟩
      case round =>
        obtain ⟨k, bk, hk1, hk2, rfl, rfl, hbad, hbr⟩ := hrel
        have hzr := hbr.size
        have hbel5 := below_call hbel4 hbr (by omega)
        by_cases hlt : k < L.length ∧ k < T.length
        · obtain ⟨hlt1, hlt2⟩ := hlt
          obtain ⟨b, o, vr, rfl, hb, c1, hvr⟩ := (Hh.out.below (keeps_sl keeps_pair) (hbel5.mono hB0)).sl_at hlt1
          obtain ⟨b', o', rfl, hb', c2⟩ := (Hh2.out.below keeps_int (hbel5.mono hB0)).int_at hlt2
          obtain ⟨A3, cap3, rfl, hcap3⟩ := hvr.form
          have hstep := fun c hc => hbad.succ (c := c) hlt1 hlt2 hc
          generalize hx : L[k] = x at *
          generalize hy : T[k] = y at *
          cases bk with
          | true =>
            have Hhx := Lib.hid hx; clear hx; have Hhy := Lib.hid hy; clear hy; have Hhbad := Lib.hid hbad; clear hbad; have Hhstep := Lib.hid hstep; clear hstep; have Hhvr := Lib.hid hvr; clear hvr
            go_wp2_with (first | (refine Go.Canon.wp_region_text mixed (by kernel_rfl) ?_) | (refine Go.Canon.chk (by rfl) ?_))
            exact ⟨⟨k + 1, true, by omega, by omega, by simp, rfl, Hhstep.out _ (by simp), hbr.drew⟩, by simp [intOf]; omega⟩
          | false =>
            by_cases hy0 : y < 0
            · have Hhx := Lib.hid hx; clear hx; have Hhy := Lib.hid hy; clear hy; have Hhbad := Lib.hid hbad; clear hbad; have Hhstep := Lib.hid hstep; clear hstep; have Hhvr := Lib.hid hvr; clear hvr
              go_wp2_with (first | (refine Go.Canon.wp_region_text mixed (by kernel_rfl) ?_) | (refine Go.Canon.chk (by rfl) ?_))
              exact ⟨⟨k + 1, true, by omega, by omega, by simp, by simp, Hhstep.out _ (by simp; omega), hbr.drew⟩, by simp [intOf]; omega⟩
            · by_cases hy1 : (x.length : Int) < y
              · have Hhx := Lib.hid hx; clear hx; have Hhy := Lib.hid hy; clear hy; have Hhbad := Lib.hid hbad; clear hbad; have Hhstep := Lib.hid hstep; clear hstep; have Hhvr := Lib.hid hvr; clear hvr
                go_wp2_with (first | (refine Go.Canon.wp_region_text mixed (by kernel_rfl) ?_) | (refine Go.Canon.chk (by rfl) ?_))
                exact ⟨⟨k + 1, true, by omega, by omega, by simp, by simp, Hhstep.out _ (by simp; omega), hbr.drew⟩, by simp [intOf]; omega⟩
              · have Hhx := Lib.hid hx; clear hx; have Hhy := Lib.hid hy; clear hy; have Hhbad := Lib.hid hbad; clear hbad; have Hhstep := Lib.hid hstep; clear hstep; have Hhvr := Lib.hid hvr; clear hvr
                go_wp2_with (first | (refine Go.Canon.wp_region_text mixed (by kernel_rfl) ?_) | (refine Go.Canon.chk (by rfl) ?_))
                exact ⟨⟨k + 1, false, by omega, by omega, by simp, by simp, Hhstep.out _ (by simp; omega), hbr.drew⟩, by simp [intOf]; omega⟩
        · have hdone := hbad.done (by omega)
          have hps5 := Hhps4.out.after (keeps_sl keeps_pair) hbr (by omega)
          cases bk with
          | true =>
            have hs0 : sumRes L T true = (0, 0, 2) := by unfold sumRes; rw [hdone]; rfl
            have hs1 := HhS.out
            rw [hs0] at hs1
            injection hs1 with q1 q2
            injection q2 with q2 q3
            subst q1; subst q2; subst q3
            have Hhbad := Lib.hid hbad; clear hbad; have Hhdone := Lib.hid hdone; clear hdone; have Hhps5 := Lib.hid hps5; clear hps5; have Hhs0 := Lib.hid hs0; clear hs0
            by_cases h9 : k < T.length
            all_goals
              go_wp2
              go_ret
              exact ⟨rfl, hbel5⟩
          | false =>
            have hok2 : okTake L T = true := by rw [hdone]; rfl
            have hs0 : sumRes L T true = ((sumAll L (T.map Int.toNat)).1, (sumAll L (T.map Int.toNat)).2, 0) := by unfold sumRes; rw [hok2]; rfl
            have hs1 := HhS.out
            rw [hs0] at hs1
            injection hs1 with q1 q2
            injection q2 with q2 q3
            subst q1; subst q2; subst q3
            have hfit := fits_toNat hok2
            have hts := Hh2.out.below keeps_int (hbel5.mono hB0)
            have hcast := cast_toNat hok2
            have hgd := all_row Hhr.out
            rw [← hcast, List.length_map, List.length_map] at hts
            have Hhbad := Lib.hid hbad; clear hbad; have Hhdone := Lib.hid hdone; clear hdone; have Hhps5 := Lib.hid hps5; clear hps5; have Hhs0 := Lib.hid hs0; clear hs0; have Hhfit := Lib.hid hfit; clear hfit; have Hhts := Lib.hid hts; clear hts; have Hhcast := Lib.hid hcast; clear hcast; have Hhgd := Lib.hid hgd; clear hgd; have Hhok2 := Lib.hid hok2; clear hok2
            by_cases h9 : k < T.length
            all_goals
              go_wp2_with fail
              refine (refsum_calls _ _ L (T.map Int.toNat) _ (Nat.le_refl _) (Hhps5.out.keep (keeps_sl keeps_pair) (Below.refl _ _) (by omega)) (Hhts.out.keep keeps_int (Below.refl _ _) (by omega)) Hhfew.out Hhgd.out Hhfit.out.len Hhfit.out.le).mono ?_
              rintro e w5 ⟨rfl, hb6⟩
              have hbel6 := below_call hbel5 hb6 (by omega)
              generalize sumAll L (T.map Int.toNat) = S
              obtain ⟨s1, s2⟩ := S
              simp only []
              go_wp2
              go_ret
              exact ⟨rfl, hbel6.alloc hbel6.size _⟩
end Go.Proofs.Ytbhdfljdfjadnaa
