/- Walks: the document's Better. -/
import Derived.Test.YtbhdfljdfjadnaaWC
import Derived.Test.YtbhdfljdfjadnaaWD
namespace Go.Proofs.Ytbhdfljdfjadnaa
open Go Go.RowKit Go.Words Go.StreamP

set_option maxHeartbeats 4000000 in
theorem refbetter_calls (v : Value) (L : List (List B2)) (bud : Int) (w : World) {B : Nat} (hB0 : B ≤ w.heap.size) (h : Sl 1 (RSl 2 RPair) w B v L) (hf : Few L) (hr : L.all rowB = true) (hbud : -9223372036854775808 ≤ bud ∧ bud ≤ 9223372036854775807) :
    Calls Try.prog 25 #[v, .int .i64 bud] w fun e w' => (∃ v', e = .returned v' ∧ RowI 3 w' w.heap.size v' (betterL L bud)) ∧ Below w.heap.size w w' := by
  obtain ⟨A, cap, rfl, hcap⟩ := h.form
  have hg := all_row hr
  have hsm := few_small hf
  have hfl := hf.1
  have hm1 := run_make_rep (P := Try.prog) 28 Try.underlying28 info_int rfl L.length (by omega) (by omega)
  have Hhsm := Lib.hid hsm; clear hsm; have Hhg := Lib.hid hg; clear hg; have Hhf := Lib.hid hf; clear hf; have Hh := Lib.hid h; clear h; have Hhm1 := Lib.hid hm1; clear hm1
  go_enter Try.func25, Try.ntmps25
  go_wp2_with (go_at_call 24; refine (refgreedy_calls _ L bud w hB0 Hh.out Hhf.out hr hbud).mono ?_; rintro e w1 ⟨⟨gv, rfl, hgv⟩, hb1⟩; have hz1 := hb1.size; have Hhr := Lib.hid hr; clear hr; have Hhgv := Lib.hid hgv; clear hgv)
  have HX : True := trivial
  go_loopw [5, 6] (fun b i wr => ∃ (k : Nat) (T : List Nat), k ≤ L.length ∧ i = .int .i64 k ∧ RowI 3 wr w.heap.size b T ∧ T = bestOf (gainL L) ((tries L bud).take k) (greedyL L bud) ∧ Fits L T ∧ Below w.heap.size w wr)
    (fun _ i _ => L.length - (intOf i).toNat)
  case atStart => exact ⟨0, _, by omega, rfl, Hhgv.out, rfl, greedy_fits L bud, hb1⟩
  case round =>
    obtain ⟨k, T, hk, rfl, hT, hTe, hfit, hbel⟩ := hrel
    have hz := hbel.size
    have hm1 := Hhm1.out
    by_cases hlt : k < L.length
    · obtain ⟨b, o, vr, rfl, hb, c1, hvr⟩ := (Hh.out.below (keeps_sl keeps_pair) (hbel.mono hB0)).sl_at hlt
      obtain ⟨A3, cap3, rfl, hcap3⟩ := hvr.form
      have hrl := Hhsm.out.2 _ (List.getElem_mem hlt)
      have hrg := Hhg.out _ (List.getElem_mem hlt)
      have htc := fun F hF => try_cells L bud k F hlt hF
      have htk : (tries L bud).take (k + 1) = (tries L bud).take k ++ [tryRow L bud k] := by
        have hkl : k < (tries L bud).length := by unfold tries; simpa using hlt
        rw [List.take_succ_eq_append_getElem hkl, tries_at]
      have hbs : bestOf (gainL L) ((tries L bud).take (k + 1)) (greedyL L bud) = if gainL L T < gainL L (tryRow L bud k) then tryRow L bud k else T := by rw [htk, bestOf_snoc, ← hTe]
      have hlen : (tryRow L bud k).length = L.length := by unfold tryRow; simp
      have htf := try_fits L bud k hlt
      generalize hx : L[k] = x at *
      generalize hFe : frontN x bud = F at *
      have htc := htc F rfl
      generalize tryRow L bud k = Y at *
      have hnew := Bk.new wr 3 (List.replicate L.length (.int .i64 0))
      have hbA := (Below.refl wr.heap.size wr).alloc (Nat.le_refl _) (.cells (List.replicate L.length (.int .i64 0)).toArray 3)
      have hbw : b < wr.heap.size := by omega
      have Hhx := Lib.hid hx; clear hx; have HhFe := Lib.hid hFe; clear hFe; have Hhrg := Lib.hid hrg; clear hrg; have Hhvr := Lib.hid hvr; clear hvr; have Hhtc := Lib.hid htc; clear htc; have Hhtk := Lib.hid htk; clear htk; have Hhlen := Lib.hid hlen; clear hlen; have Hhnew := Lib.hid hnew; clear hnew; have HhTe := Lib.hid hTe; clear hTe; have Hhbs := Lib.hid hbs; clear hbs; have Hhfit := Lib.hid hfit; clear hfit; have Hhtf := Lib.hid htf; clear htf
      go_wp2_with fail
      refine (reffront_calls _ x bud _ (by simp; omega) (Hhvr.out.below keeps_pair (hbA.mono (by omega))) (by omega) Hhrg.out).mono ?_
      rw [HhFe.out]
      rintro e w3 ⟨rfl, hb3⟩
      have hz3 : wr.heap.size + 1 ≤ w3.heap.size := by simpa using hb3.size
      have hn3 := Hhnew.out.below hb3 (by simp)
      have hbB := below_call hbA hb3 (by simp)
      have d4 : w3.cell? ⟨wr.heap.size, k, none⟩ = some (.int .i64 0) := by rw [hn3.cell, List.getElem?_replicate, if_pos hlt]
      have f4 := hn3.frozen
      have hbC := (hbB.setCell (p := ⟨wr.heap.size, k, none⟩) (Nat.le_refl _) (.int .i64 F))
      have hn4 := hn3.set k (.int .i64 F)
      rw [Hhtc.out] at hn4
      have hone : RowI 3 (w3.setCell ⟨wr.heap.size, k, none⟩ (.int .i64 F)) w.heap.size (.slice (some ⟨wr.heap.size, 0, none⟩) L.length L.length) Y := ⟨wr.heap.size, L.length, by rw [Hhlen.out], hz, by rw [Hhlen.out]; exact Nat.le_refl _, hn4⟩
      have honeS := hone.sl
      have hTC := hT.below hbC (Nat.le_refl _)
      have hbelC := below_call hbel hbC hz
      clear c1 hn4
      have Hhn3 := Lib.hid hn3; clear hn3; have Hhone := Lib.hid hone; clear hone; have HhoneS := Lib.hid honeS; clear honeS; have HhTC := Lib.hid hTC; clear hTC
      go_wp2_with fail
      refine (refsum_calls _ _ L Y _ (Nat.le_refl _) ((Hh.out.below (keeps_sl keeps_pair) (hbelC.mono hB0)).keep (keeps_sl keeps_pair) (Below.refl _ _) (by simp; omega)) HhoneS.out Hhf.out Hhg.out Hhtf.out.len Hhtf.out.le).mono ?_
      generalize hS1 : sumAll L Y = S1
      obtain ⟨s1, s2⟩ := S1
      rintro e w4 ⟨rfl, hb4⟩
      have hbel4 := below_call hbelC hb4 hbelC.size
      have hone4 := Hhone.out.below hb4 (Nat.le_refl _)
      have hT4 := HhTC.out.below hb4 (Nat.le_refl _)
      have hT4s := hT4.sl
      have fld := field1
      have Hhone4 := Lib.hid hone4; clear hone4; have HhT4 := Lib.hid hT4; clear hT4; have HhT4s := Lib.hid hT4s; clear hT4s; have HhS1 := Lib.hid hS1; clear hS1
      go_wp2_with fail
      refine (refsum_calls _ _ L T _ (Nat.le_refl _) ((Hh.out.below (keeps_sl keeps_pair) (hbel4.mono hB0)).keep (keeps_sl keeps_pair) (Below.refl _ _) (by have := hbel4.size; omega)) HhT4s.out Hhf.out Hhg.out Hhfit.out.len Hhfit.out.le).mono ?_
      generalize hS2 : sumAll L T = S2
      obtain ⟨r1, r2⟩ := S2
      rintro e w5 ⟨rfl, hb5⟩
      have hbel5 := below_call hbel4 hb5 hbel4.size
      have hone5 := Hhone4.out.below hb5 (Nat.le_refl _)
      have hT5 := HhT4.out.below hb5 (Nat.le_refl _)
      have hG1 : gainL L Y = s2 := by unfold gainL; rw [HhS1.out]
      have hG2 : gainL L T = r2 := by unfold gainL; rw [hS2]
      have hbs := Hhbs.out
      rw [hG1, hG2] at hbs
      by_cases hgt : r2 < s2
      · rw [if_pos hgt] at hbs
        have Hhone5 := Lib.hid hone5; clear hone5; have HhT5 := Lib.hid hT5; clear hT5; have HhS2 := Lib.hid hS2; clear hS2; have HhG1 := Lib.hid hG1; clear hG1; have HhG2 := Lib.hid hG2; clear hG2; have Hhbs := Lib.hid hbs; clear hbs
        go_wp2
        exact ⟨⟨k + 1, Y, by omega, by simp, Hhone5.out, Hhbs.out.symm, Hhtf.out, hbel5⟩, by simp [intOf]; omega⟩
      · rw [if_neg hgt] at hbs
        have Hhone5 := Lib.hid hone5; clear hone5; have HhT5 := Lib.hid hT5; clear hT5; have HhS2 := Lib.hid hS2; clear hS2; have HhG1 := Lib.hid hG1; clear hG1; have HhG2 := Lib.hid hG2; clear hG2; have Hhbs := Lib.hid hbs; clear hbs
        go_wp2
        exact ⟨⟨k + 1, T, by omega, by simp, HhT5.out, Hhbs.out.symm, Hhfit.out, hbel5⟩, by simp [intOf]; omega⟩
    · have hkl : k = L.length := by omega
      subst hkl
      have htk : (tries L bud).take L.length = tries L bud := List.take_of_length_le (by unfold tries; simp)
      rw [htk] at hTe
      have HhT := Lib.hid hT; clear hT; have HhTe := Lib.hid hTe; clear hTe; have Hhfit := Lib.hid hfit; clear hfit; have Hhtk := Lib.hid htk; clear htk
      go_wp2
      go_ret
      refine ⟨⟨_, rfl, ?_⟩, hbel⟩
      have := HhT.out
      rw [HhTe.out] at this
      exact this
end Go.Proofs.Ytbhdfljdfjadnaa
