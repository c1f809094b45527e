/- The law StreamAlone: of one row alone. -/
import Derived.Test.YtbhdfljdfjadnaaWC
namespace Go.StreamP
theorem tot_take_mono2 {l : List B2} (h : ∀ b ∈ l, GoodB b) {j k : Nat} (hjk : j ≤ k) : (tot (l.take j)).2 ≤ (tot (l.take k)).2 := by
  have : l.take k = l.take j ++ (l.drop j).take (k - j) := by
    rw [← List.take_append_drop j (l.take k), List.take_take, List.drop_take, Nat.min_eq_left hjk]
  rw [this, tot_append]
  have := tot_bound ((l.drop j).take (k - j)) (good_take (good_drop h j) _)
  simp only [plus]
  omega
theorem alone_plain {l : List B2} (h : ∀ b ∈ l, GoodB b) (bud : Int) :
    (sumAll [l] (betterL [l] bud)).2 = (tot (l.take (frontN l bud))).2 ∧ ((sumAll [l] (betterL [l] bud)).1 ≤ bud ∨ (sumAll [l] (betterL [l] bud)).1 = 0) := by
  have hG := greedyF_fits (C := cutL [l] bud) (bud.toNat + 1) (List.replicate [l].length 0) bud (fits_zero _ _ (length_cut [l] bud).symm)
  have htr : tries [l] bud = [[frontN l bud]] := by
    simp [tries, tryRow, List.range_succ]
  have hgr : ∃ t, greedyL [l] bud = [t] ∧ t ≤ frontN l bud := by
    have h1 := hG.len
    have h2 := hG.le
    change (greedyL [l] bud).length = _ at h1
    generalize hT : greedyL [l] bud = T at *
    match T, h1 with
    | [t], _ =>
      have h3 := h2 0 (by simp [cutL]) (by change 0 < (greedyL [l] bud).length; rw [hT]; simp)
      refine ⟨t, rfl, ?_⟩
      change (greedyL [l] bud)[0]'_ ≤ _ at h3
      simp only [hT] at h3
      simp [cutL] at h3
      omega
  obtain ⟨t, ht, htF⟩ := hgr
  have hs : ∀ t : Nat, sumAll [l] [t] = tot (l.take t) := fun t => by simp [sumAll, plus]
  have hfr := frontN_is l bud
  have hcost : ∀ t, t ≤ frontN l bud → (tot (l.take t)).1 ≤ bud ∨ (tot (l.take t)).1 = 0 := fun t ht => by
    by_cases h0 : t = 0
    · subst h0; right; simp [tot_nil]
    · exact .inl (hfr.fits t (by omega) ht)
  have hb : betterL [l] bud = if gainL [l] [t] < gainL [l] [frontN l bud] then [frontN l bud] else [t] := by
    unfold betterL
    rw [htr, ht]
    rfl
  rw [hb]
  have hm := tot_take_mono2 h htF
  unfold gainL
  rw [hs, hs]
  split
  · rw [hs]
    exact ⟨rfl, hcost _ (Nat.le_refl _)⟩
  · rw [hs]
    exact ⟨by omega, hcost _ htF⟩
end Go.StreamP
namespace Go.Proofs.Ytbhdfljdfjadnaa
open Go Go.RowKit Go.Words Go.StreamP

theorem one_row_sl {w : World} {g : Nat} {t : TypeId} {v : Value} {l : List B2} (hb : Bk w g t [v]) (h : Sl 2 RPair w w.heap.size v l) : Sl 1 (RSl 2 RPair) w w.heap.size (.slice (some ⟨g, 0, none⟩) 1 1) [l] :=
  rows_sl' keeps_pair (L := [l]) (cap := 1) hb (Nat.le_refl _) rfl fun i a hi => by
    match i, hi with
    | 0, hi => injection hi with hi; subst hi; exact ⟨_, rfl, h⟩

set_option maxHeartbeats 2000000 in
theorem alone_law (v : Value) (l : List B2) (bud : Int) (w : World) {B : Nat} (hB0 : B ≤ w.heap.size) (h : Sl 2 RPair w B v l) (hbud : -9223372036854775808 ≤ bud ∧ bud ≤ 9223372036854775807) :
    Calls Try.prog 10 #[v, .int .i64 bud] w fun e w' => e = .returned (.bool true) ∧ Below w.heap.size w w' := by
  obtain ⟨A, cap, rfl, hcap⟩ := h.form
  by_cases hl8 : (l.length : Int) ≤ 8
  case neg =>
    have hl9 : (8 : Int) < (l.length : Int) := by omega
    have Hh := Lib.hid h; clear h
    go_enter Try.func10, Try.ntmps10
    go_wp2_with (go_at_call 11; refine (awake_calls _).mono ?_; rintro e w1 ⟨rfl, hb1⟩; have hz1 := hb1.size)
    go_ret
    exact ⟨rfl, hb1⟩
  case pos =>
    have hl1024 : l.length ≤ 1024 := by omega
    have Hh := Lib.hid h; clear h
    go_enter Try.func10, Try.ntmps10
    go_wp2_with (go_at_call 11; refine (awake_calls _).mono ?_; rintro e w1 ⟨rfl, hb1⟩; have hz1 := hb1.size)
    refine (one_calls _ l _ (by omega) (Hh.out.below keeps_pair (hb1.mono hB0)) hl1024).mono ?_
    rintro e w2 ⟨⟨v', rfl, hv'⟩, hb2⟩
    obtain ⟨A4, cap4, rfl, hcap4⟩ := own_form hv'
    have hz2 := hb2.size
    have hbel2 := below_call hb1 hb2 hz1
    have hv2 := flat_sl hv'
    have hbA := hbel2.alloc hbel2.size (.cells #[.slice A4 l.length cap4] 25)
    have hsl := one_row_sl (l := l) (Bk.new w2 25 [.slice A4 l.length cap4]) (hv2.keep keeps_pair ((Below.refl _ _).alloc (Nat.le_refl _) _) (by simp))
    have Hhv' := Lib.hid hv'; clear hv'; have Hhv2 := Lib.hid hv2; clear hv2; have Hhsl := Lib.hid hsl; clear hsl
    go_wp2_with fail
    refine (refright_calls _ [l] _ (Nat.le_refl _) Hhsl.out (by simp) (by simpa using hl1024)).mono ?_
    cases hr : [l].all rowB
    · rintro e w3 ⟨rfl, hb3⟩
      have hbel3 := below_call hbA hb3 hbA.size
      have Hhr := Lib.hid hr; clear hr
      go_wp2
      go_ret
      exact ⟨rfl, hbel3⟩
    · rintro e w3 ⟨rfl, hb3⟩
      have hbel3 := below_call hbA hb3 hbA.size
      have hgd := all_row hr l (by simp)
      have hfew : Few [l] := ⟨by simp, by simp; omega⟩
      have hpl := alone_plain hgd bud
      have hz3 := hbel3.size
      have hfit := better_fits [l] bud
      have hs3 := sumRes_fits hr hfit
      have hslA := one_row_sl (l := l) (Bk.new w3 22 [.slice A l.length cap]) ((Hh.out.below keeps_pair (hbel3.mono hB0)).keep keeps_pair ((Below.refl B _).alloc (by omega) _) (by simp; omega))
      have hbB := hbel3.alloc hbel3.size (.cells #[.slice A l.length cap] 22)
      generalize hT : betterL [l] bud = T at *
      generalize hS : sumAll [l] T = S at *
      obtain ⟨s1, s2⟩ := S
      simp only [] at hpl hs3
      have Hhr := Lib.hid hr; clear hr; have Hhgd := Lib.hid hgd; clear hgd; have Hhfew := Lib.hid hfew; clear hfew; have Hhpl := Lib.hid hpl; clear hpl; have Hhfit := Lib.hid hfit; clear hfit; have Hhs3 := Lib.hid hs3; clear hs3; have HhslA := Lib.hid hslA; clear hslA; have HhT := Lib.hid hT; clear hT; have HhS := Lib.hid hS; clear hS
      go_wp2_with fail
      refine (better_calls _ [l] bud _ (Nat.le_refl _) HhslA.out Hhfew.out Hhr.out hbud).mono ?_
      rw [HhT.out]
      rintro e w4 ⟨⟨tv, rfl, htv⟩, hb4⟩
      have hbel4 := below_call hbB hb4 hbB.size
      have hz4 := hbel4.size
      obtain ⟨A6, cap6, rfl, hcap6⟩ := htv.form
      rw [List.length_map] at htv hcap6 ⊢
      have hslB := one_row_sl (l := l) (Bk.new w4 22 [.slice A l.length cap]) ((Hh.out.below keeps_pair (hbel4.mono hB0)).keep keeps_pair ((Below.refl B _).alloc (by omega) _) (by simp; omega))
      have hbC := hbel4.alloc hbel4.size (.cells #[.slice A l.length cap] 22)
      have htv2 := htv.keep keeps_int ((Below.refl w4.heap.size w4).alloc (Nat.le_refl _) (.cells #[.slice A l.length cap] 22)) (by simp : w4.heap.size ≤ (w4.alloc (.cells #[.slice A l.length cap] 22)).heap.size)
      have Hhtv := Lib.hid htv; clear htv; have HhslB := Lib.hid hslB; clear hslB; have Hhtv2 := Lib.hid htv2; clear htv2
      go_wp2_with fail
      refine (sum_calls _ _ [l] _ _ (Nat.le_refl _) HhslB.out Hhtv2.out Hhfew.out).mono ?_
      rw [Hhs3.out]
      rintro e w5 ⟨rfl, hb5⟩
      have hbel5 := below_call hbC hb5 hbC.size
      have hz5 := hbel5.size
      go_wp2_with fail
      refine (one_calls _ l _ (by omega) (Hh.out.below keeps_pair (hbel5.mono hB0)) hl1024).mono ?_
      rintro e w6 ⟨⟨v6, rfl, hv6⟩, hb6⟩
      obtain ⟨A7, cap7, rfl, hcap7⟩ := own_form hv6
      have hbel6 := below_call hbel5 hb6 hz5
      have hz6 := hbel6.size
      have hv62 := flat_sl hv6
      have Hhv6 := Lib.hid hv6; clear hv6; have Hhv62 := Lib.hid hv62; clear hv62
      go_wp2_with fail
      refine (reffront_calls _ l bud _ (Nat.le_refl _) Hhv62.out hl1024 Hhgd.out).mono ?_
      rintro e w7 ⟨rfl, hb7⟩
      have hbel7 := below_call hbel6 hb7 hz6
      have hz7 := hbel7.size
      have hF := (frontN_is l bud).le
      have hgt := good_take Hhgd.out (frontN l bud)
      generalize hFe : frontN l bud = F at *
      have hlt : (l.take F).length ≤ 1024 := by rw [List.length_take]; omega
      generalize hX : tot (l.take F) = X at *
      obtain ⟨X1, X2⟩ := X
      have HhFe := Lib.hid hFe; clear hFe; have HhX := Lib.hid hX; clear hX; have Hhgt := Lib.hid hgt; clear hgt; have Hhlt := Lib.hid hlt; clear hlt
      go_wp2_with fail
      refine (one_calls _ l _ (by omega) (Hh.out.below keeps_pair (hbel7.mono hB0)) hl1024).mono ?_
      rintro e w8 ⟨⟨v8, rfl, hv8⟩, hb8⟩
      obtain ⟨A8, cap8, rfl, hcap8⟩ := own_form hv8
      have hbel8 := below_call hbel7 hb8 hz7
      have hz8 := hbel8.size
      have hv82 := (flat_sl hv8).take (k := F) hF
      have Hhv8 := Lib.hid hv8; clear hv8; have Hhv82 := Lib.hid hv82; clear hv82
      go_wp2_with fail
      refine (all_calls _ (l.take F) _ (Nat.le_refl _) Hhv82.out Hhlt.out Hhgt.out).mono ?_
      rw [HhX.out]
      rintro e w9 ⟨rfl, hb9⟩
      have hbel9 := below_call hbel8 hb9 hz8
      have hp1 : s2 = X2 := Hhpl.out.1
      have hp2 := Hhpl.out.2
      subst hp1
      have fld := field1
      by_cases hsb : s1 ≤ bud
      · clear hp2
        go_wp2
        go_ret
        exact ⟨rfl, hbel9⟩
      · have hs0 : s1 = 0 := by omega
        subst hs0
        clear hp2
        go_wp2
        go_ret
        exact ⟨rfl, hbel9⟩
end Go.Proofs.Ytbhdfljdfjadnaa
