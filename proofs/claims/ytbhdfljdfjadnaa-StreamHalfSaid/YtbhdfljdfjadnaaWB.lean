/- Walks: the better of greed and one row alone. -/
import Derived.Test.YtbhdfljdfjadnaaWA
namespace Go.Proofs.Ytbhdfljdfjadnaa
open Go Go.RowKit Go.Words Go.StreamP

theorem sumRes_fits {L : List (List B2)} {T : List Nat} (hr : L.all rowB = true) (hfit : Fits L T) : sumRes L (T.map fun n : Nat => (n : Int)) (L.all rowB) = ((sumAll L T).1, (sumAll L T).2, 0) := by
  unfold sumRes; rw [hr, fits_ok hfit, toNat_cast]; rfl

set_option maxHeartbeats 1000000 in
theorem gain_calls (v0 v1 : Value) (L : List (List B2)) (T : List Nat) (w : World) {B g : Nat} (hB0 : B ≤ w.heap.size) (h : Sl 1 (RSl 2 RPair) w B v0 L) (h2 : Sl 1 RInt w B v1 (T.map fun n : Nat => (n : Int))) (hg : Bk w g 34 [v0]) (hf : Few L) (hr : L.all rowB = true) (hfit : Fits L T) :
    Calls Try.prog 37 #[v1, .pointer (some ⟨g, 0, none⟩)] w fun e w' => e = .returned (.int .i64 (gainL L T)) ∧ Below w.heap.size w w' := by
  have hc := sum_calls v0 v1 L _ w hB0 h h2 hf
  rw [sumRes_fits hr hfit] at hc
  have d0 : w.cell? ⟨g, 0, none⟩ = some v0 := hg.cell 0
  have Hhc := Lib.hid hc; clear hc; have Hh := Lib.hid h; clear h; have Hh2 := Lib.hid h2; clear h2; have Hhg := Lib.hid hg; clear hg
  go_enter Try.func37, Try.ntmps37
  go_wp2_with (go_at_call 18; refine (Hhc.out).mono ?_; rintro e w1 ⟨rfl, hb1⟩; have hz1 := hb1.size)
  go_ret
  exact ⟨rfl, hb1⟩

set_option maxHeartbeats 1000000 in
theorem most_calls (v0 v1 : Value) (L : List (List B2)) (b : List Nat) (l : List (List Nat)) (w : World) {B g : Nat} (hB0 : B ≤ w.heap.size) (h : Sl 1 (RSl 2 RPair) w B v0 L) (h2 : Sl 1 (RSl 1 RInt) w B v1 ((b :: l).map fun T => T.map fun n : Nat => (n : Int))) (hg : Bk w g 34 [v0])
    (hf : Few L) (hr : L.all rowB = true) (hfit : ∀ T ∈ b :: l, Fits L T) (hlen : l.length ≤ 1000) :
    Calls Try.prog 36 #[v1, .func (.func 37) #[] #[.pointer (some ⟨g, 0, none⟩)]] w fun e w' => (∃ v', e = .returned v' ∧ Sl 1 RInt w' B v' ((bestOf (gainL L) l b).map fun n : Nat => (n : Int))) ∧ Below w.heap.size w w' := by
  obtain ⟨A, cap, rfl, hcap⟩ := h2.form
  rw [List.length_map, List.length_cons]
  rw [List.length_map, List.length_cons] at hcap
  obtain ⟨bb, o, vb, rfl, hbb, c1, hvb⟩ := h2.sl_at (k := 0) (by simp)
  simp only [List.map_cons, List.getElem_cons_zero, Nat.add_zero] at c1 hvb
  rcases l with _ | ⟨x, l⟩
  · have Hh := Lib.hid h; clear h; have Hh2 := Lib.hid h2; clear h2; have Hhg := Lib.hid hg; clear hg; have Hhvb := Lib.hid hvb; clear hvb
    go_enter Try.func36, Try.ntmps36
    go_wp2
    all_goals
      go_loopw [5, 14] (fun i k wr => i = vb ∧ k = .int .i64 0 ∧ wr = w) (fun _ _ _ => 0)
      case atStart => exact ⟨rfl, rfl, rfl⟩
      case round =>
        obtain ⟨rfl, rfl, rfl⟩ := hrel
        go_wp2
        go_ret
        exact ⟨⟨_, rfl, Hhvb.out⟩, Below.refl _ _⟩
  · have hc1 : cap ≠ 1 := by simp at hcap; omega
    simp only [List.length_cons] at hlen hcap ⊢
    have Hh := Lib.hid h; clear h; have Hh2 := Lib.hid h2; clear h2; have Hhg := Lib.hid hg; clear hg; have Hhvb := Lib.hid hvb; clear hvb; have Hhfit := Lib.hid hfit; clear hfit
    go_enter Try.func36, Try.ntmps36
    go_wp2
    go_loopw [5, 14] (fun i kk wr => ∃ k : Nat, k ≤ l.length + 1 ∧ kk = .int .i64 k ∧ Sl 1 RInt wr B i ((bestOf (gainL L) ((x :: l).take k) b).map fun n : Nat => (n : Int)) ∧ Below w.heap.size w wr)
      (fun _ kk _ => l.length + 1 - (intOf kk).toNat)
    case atStart => exact ⟨0, by omega, rfl, Hhvb.out, Below.refl _ _⟩
    case round =>
      obtain ⟨k, hk, rfl, hbest, hbel⟩ := hrel
      have hz := hbel.size
      by_cases hlt : k < l.length + 1
      · obtain ⟨b', o', vx, hA9, hb', c2, hvx⟩ := (Hh2.out.below (keeps_sl keeps_int) (hbel.mono hB0)).sl_at (k := k + 1) (by simp; omega)
        injection hA9 with hA9
        injection hA9 with e1 e2
        subst e1; subst e2
        have hxk : k < (x :: l).length := by simp; omega
        have c3 : wr.cell? ⟨bb, o + 1 + k, none⟩ = some vx := by rw [show o + 1 + k = o + (k + 1) from by omega]; exact c2
        have htk : (x :: l).take (k + 1) = (x :: l).take k ++ [(x :: l)[k]] := List.take_succ_eq_append_getElem hxk
        have hsn := bestOf_snoc (gainL L) ((x :: l).take k) b (x :: l)[k]
        rw [← htk] at hsn
        have hmem : (x :: l)[k] ∈ b :: x :: l := List.mem_cons_of_mem _ (List.getElem_mem hxk)
        have hfx := Hhfit.out _ hmem
        have hfb : Fits L (bestOf (gainL L) ((x :: l).take k) b) := by
          rcases bestOf_mem (gainL L) ((x :: l).take k) b with h9 | h9
          · rw [h9]; exact Hhfit.out _ List.mem_cons_self
          · exact Hhfit.out _ (List.mem_cons_of_mem _ (List.mem_of_mem_take h9))
        rw [List.getElem_map, List.getElem_cons_succ] at hvx
        generalize hX : (x :: l)[k] = X at *
        generalize hY : bestOf (gainL L) ((x :: l).take k) b = Y at *
        have hg1 := gain_calls v0 vx L X wr (by omega) (Hh.out.below (keeps_sl keeps_pair) (hbel.mono hB0)) hvx (Hhg.out.below hbel Hhg.out.lt) hf hr hfx
        have hg2 := fun w2 (hb2 : Below w.heap.size w w2) (h9 : Sl 1 RInt w2 B u5 (Y.map fun n : Nat => (n : Int))) => gain_calls v0 u5 L Y w2 (g := g) (Nat.le_trans hB0 hb2.size) (Hh.out.below (keeps_sl keeps_pair) (hb2.mono hB0)) h9 (Hhg.out.below hb2 Hhg.out.lt) hf hr hfb
        clear c2
        have Hhbest := Lib.hid hbest; clear hbest; have Hhvx := Lib.hid hvx; clear hvx; have Hhtk := Lib.hid htk; clear htk; have Hhsn := Lib.hid hsn; clear hsn; have Hhmem := Lib.hid hmem; clear hmem; have Hhfx := Lib.hid hfx; clear hfx; have Hhfb := Lib.hid hfb; clear hfb; have HhX := Lib.hid hX; clear hX; have HhY := Lib.hid hY; clear hY; have Hhg1 := Lib.hid hg1; clear hg1; have Hhg2 := Lib.hid hg2; clear hg2
        go_wp2_with fail
        refine Hhg1.out.mono ?_
        rintro e w1 ⟨rfl, hb1⟩
        have hbel1 := below_call hbel hb1 hz
        go_wp2_with fail
        refine (Hhg2.out _ hbel1 (Hhbest.out.after keeps_int hb1 (by omega))).mono ?_
        rintro e w2 ⟨rfl, hb2⟩
        have hz1 := hb1.size
        have hbel2 := below_call hbel1 hb2 (by omega)
        have hb12 : Below wr.heap.size wr w2 := below_call hb1 hb2 hz1
        by_cases hgt : gainL L Y < gainL L X
        · rw [if_pos hgt] at Hhsn
          go_wp2
          refine ⟨⟨k + 1, by omega, by simp, ?_, hbel2⟩, by simp [intOf]; omega⟩
          rw [Hhsn.out]
          exact Hhvx.out.after keeps_int hb12 (by omega)
        · rw [if_neg hgt] at Hhsn
          go_wp2
          refine ⟨⟨k + 1, by omega, by simp, ?_, hbel2⟩, by simp [intOf]; omega⟩
          rw [Hhsn.out]
          exact Hhbest.out.after keeps_int hb12 (by omega)
      · have hkl : (x :: l).take k = x :: l := List.take_of_length_le (by simp; omega)
        rw [hkl] at hbest
        have Hhbest := Lib.hid hbest; clear hbest; have Hhkl := Lib.hid hkl; clear hkl
        go_wp2
        go_ret
        exact ⟨⟨_, rfl, Hhbest.out⟩, hbel⟩
end Go.Proofs.Ytbhdfljdfjadnaa
