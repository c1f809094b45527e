/- Walks: what greed takes. -/
import Derived.Test.YtbhdfljdfjadnaaW7
namespace Go.Proofs.Ytbhdfljdfjadnaa
open Go Go.RowKit Go.Words Go.StreamP

theorem info_srow : (Try.prog.info? 22).map (fun i => (i.zero, i.size, i.bytes)) = some (some (.slice none 0 0), 1, 24) := by kernel_rfl

set_option maxHeartbeats 2000000 in
theorem greedy_calls (v : Value) (L : List (List B2)) (bud : Int) (w : World) {B : Nat} (hB0 : B ≤ w.heap.size) (h : Sl 1 (RSl 2 RPair) w B v L) (hL : L.length ≤ 256) (hsm : ∀ l ∈ L, l.length ≤ 1024)
    (hr : L.all rowB = true) (hbud : -9223372036854775808 ≤ bud ∧ bud ≤ 9223372036854775807) :
    Calls Try.prog 17 #[v, .int .i64 bud] w fun e w' => (∃ v', e = .returned v' ∧ RowI 3 w' w.heap.size v' (greedyL L bud)) ∧ Below w.heap.size w w' := by
  obtain ⟨A, cap, rfl, hcap⟩ := h.form
  have hg := all_row hr
  have hm1 := run_make_rep (P := Try.prog) 28 Try.underlying28 info_int rfl L.length (by omega) (by omega)
  have hm2 := run_make_rep (P := Try.prog) 34 Try.underlying34 info_srow rfl L.length (by omega) (by omega)
  have Hhsm := Lib.hid hsm; clear hsm; have Hhg := Lib.hid hg; clear hg; have Hhr := Lib.hid hr; clear hr
  go_enter Try.func17, Try.ntmps17
  go_wp2_with (go_at_call 31; refine (right_calls _ L _ hB0 h (by omega) Hhsm.out).mono ?_; rw [Hhr.out]; rintro e w1 ⟨rfl, hb1⟩; have hz1 := hb1.size)
  have Hh := Lib.hid h
  clear h hm1 hm2
  go_loopw [24] (fun i wr => ∃ (k : Nat) (cs : List Value), k ≤ L.length ∧ i = .int .i64 k ∧ Bk wr w1.heap.size 3 (List.replicate L.length (.int .i64 0)) ∧ Bk wr (w1.heap.size + 1) 22 cs ∧
      cs.length = L.length ∧ (∀ (i : Nat) (a : List B2), (cutL L bud)[i]? = some a → i < k → ∃ v, cs[i]? = some v ∧ Sl 2 RPair w B v a) ∧ Below w1.heap.size w1 wr)
    (fun i _ => L.length - (intOf i).toNat)
  case atStart =>
    exact ⟨0, _, by omega, rfl, (Bk.new w1 _ _).alloc _, Bk.new' _ _ (by simp), by simp, fun i a _ h9 => by omega, (by repeat (first | exact Below.refl _ _ | assumption | refine Below.drew ?_ | refine Below.setCell ?_ (by first | omega | (simp <;> omega)) _ | refine Below.alloc ?_ (by first | omega | (simp <;> omega)) _ | refine below_drewN ?_ _))⟩
  case round =>
    obtain ⟨k, cs, hk, rfl, hT, hC, hcl, hcut, hb2⟩ := hrel
    have hz2 := hb2.size
    have hbel : Below w.heap.size w wr := below_call hb1 hb2 (by omega)
    have hltC := hC.lt
    by_cases hlt : k < L.length
    · obtain ⟨b, o, vr, rfl, hb, c0, hvr⟩ := Hh.out.sl_at hlt
      have c1 : wr.cell? ⟨b, o + k, none⟩ = some vr := (hbel.cell (p := ⟨b, o + k, none⟩) (by simp; omega)).trans c0
      obtain ⟨A3, cap3, rfl, hcap3⟩ := hvr.form
      have hrl := Hhsm.out _ (List.getElem_mem hlt)
      have hrg := Hhg.out _ (List.getElem_mem hlt)
      have hck : (cutL L bud)[k]? = some (L[k].take (frontN L[k] bud)) := by unfold cutL; rw [List.getElem?_map, List.getElem?_eq_getElem hlt]; rfl
      generalize hx : L[k] = x at *
      have hF := (frontN_is x bud).le
      generalize hFe : frontN x bud = F at *
      have hsl := hvr.take (k := F) hF
      obtain ⟨cv, hck1⟩ : ∃ cv, cs[k]? = some cv := ⟨_, List.getElem?_eq_getElem (by omega)⟩
      have d1 : wr.cell? ⟨w1.heap.size + 1, k, none⟩ = some cv := (hC.cell k).trans hck1
      have f1 := hC.frozen
      clear c0
      have Hhx := Lib.hid hx; clear hx; have HhFe := Lib.hid hFe; clear hFe; have Hhrg := Lib.hid hrg; clear hrg; have Hhvr := Lib.hid hvr; clear hvr; have Hhsl := Lib.hid hsl; clear hsl; have Hhck := Lib.hid hck; clear hck; have Hhck1 := Lib.hid hck1; clear hck1; have HhT := Lib.hid hT; clear hT; have HhC := Lib.hid hC; clear hC; have Hhcl := Lib.hid hcl; clear hcl; have Hhcut := Lib.hid hcut; clear hcut; have Hd1 := Lib.hid d1; clear d1; have Hf1 := Lib.hid f1; clear f1
      go_wp2_with fail
      refine (front_calls _ x bud _ (by omega) (Hhvr.out.keep keeps_pair (hbel.mono hB0) (Nat.le_refl _)) (by omega) Hhrg.out).mono ?_
      rw [HhFe.out]
      rintro e w2 ⟨rfl, hb3⟩
      have hz3 := hb3.size
      have e1 : w2.cell? ⟨w1.heap.size + 1, k, none⟩ = some cv := (hb3.cell (p := ⟨w1.heap.size + 1, k, none⟩) (by simp; omega)).trans Hd1.out
      have e2 := HhC.out.below hb3 (by omega)
      have e3 := HhT.out.below hb3 (by omega)
      have f2 := e2.frozen
      have hb4 : Below w1.heap.size w1 w2 := below_call hb2 hb3 (by omega)
      have He2 := Lib.hid e2; clear e2; have He3 := Lib.hid e3; clear e3
      go_wp2_with fail
      refine ⟨⟨k + 1, _, by omega, by simp, He3.out.far (by simp) _, He2.out.set k _, by rw [List.length_set]; exact Hhcl.out, fun i a h8 h9 => ?_, hb4.setCell (by simp) _⟩, by simp [intOf]; omega⟩
      by_cases hik : i = k
      · subst hik
        rw [Hhck.out] at h8
        injection h8 with h8
        subst h8
        refine ⟨_, by rw [List.getElem?_set_self (by rw [Hhcl.out]; exact hlt)], Hhsl.out⟩
      · obtain ⟨v9, h91, h92⟩ := Hhcut.out i a h8 (by omega)
        exact ⟨v9, by rw [List.getElem?_set_ne (by omega)]; exact h91, h92⟩
    · have hkl : k = L.length := by omega
      subst hkl
      have hcut' : ∀ (i : Nat) (a : List B2), (cutL L bud)[i]? = some a → ∃ v, cs[i]? = some v ∧ Sl 2 RPair w B v a := fun i a h9 => hcut i a h9 (by have := (List.getElem?_eq_some_iff.1 h9).1; rw [length_cut] at this; exact this)
      have HhT := Lib.hid hT; clear hT; have HhC := Lib.hid hC; clear hC; have Hhcl := Lib.hid hcl; clear hcl; have Hhcut := Lib.hid hcut; clear hcut; have Hhcut' := Lib.hid hcut'; clear hcut'
      go_wp2
      go_loopw [9] (fun i wr => ∃ (left : Int) (f : Nat) (T : List Nat), i = .int .i64 left ∧ greedyL L bud = greedyF f (cutL L bud) T left ∧ left.toNat < f ∧ -9223372036854775808 ≤ left ∧ left ≤ 9223372036854775807 ∧ Fits (cutL L bud) T ∧
          Bk wr w1.heap.size 3 (T.map fun n : Nat => .int .i64 (n : Int)) ∧ Bk wr (w1.heap.size + 1) 22 cs ∧ Below w1.heap.size w1 wr)
        (fun i _ => (intOf i).toNat)
      case atStart =>
        refine ⟨bud, _, _, rfl, rfl, Nat.lt_succ_self _, hbud.1, hbud.2, fits_zero _ _ (length_cut L bud).symm, ?_, HhC.out, hb2⟩
        rw [List.map_replicate]
        exact HhT.out
      case round =>
        obtain ⟨left, f, T, rfl, hgr, hf, hl1, hl2, hfit, hTb, hCb, hb3⟩ := hrel
        have hlenT : T.length = L.length := by rw [hfit.len, length_cut]
        have hz3 := hb3.size
        have hltC := hCb.lt
        have hcs := block_sl keeps_pair (cap := L.length) hCb (by rw [length_cut]; exact Nat.le_refl _) (by rw [Hhcl.out, length_cut]) Hhcut'.out (below_call (hb1.mono hB0) hb3 (by omega) |>.mono (Nat.le_refl _)) (by omega)
        rw [length_cut] at hcs
        have hts := block_ints (cap := L.length) hTb (by omega)
        rw [hlenT] at hts
        have Hhgr := Lib.hid hgr; clear hgr; have Hhfit := Lib.hid hfit; clear hfit; have HhTb := Lib.hid hTb; clear hTb; have HhCb := Lib.hid hCb; clear hCb; have Hhcs := Lib.hid hcs; clear hcs; have Hhts := Lib.hid hts; clear hts; have HhlenT := Lib.hid hlenT; clear hlenT
        go_wp2_with fail
        refine (next_calls _ _ (cutL L bud) T _ (Nat.le_refl _) Hhcs.out Hhts.out (by rw [length_cut]; omega) (small_cut Hhsm.out bud) (good_cut Hhg.out bud) Hhfit.out).mono ?_
        rintro e w2 ⟨rfl, hb4⟩
        have hz4 := hb4.size
        have e1 := HhTb.out.below hb4 (by omega)
        have e2 := HhCb.out.below hb4 (by omega)
        have hbel3 : Below w1.heap.size w1 w2 := below_call hb3 hb4 (by omega)
        cases hnx : nextL (cutL L bud) T with
        | none =>
          have hres : greedyL L bud = T := by rw [Hhgr.out, greedyF_none hnx]
          have hts2 : RowI 3 w2 w.heap.size (.slice (some ⟨w1.heap.size, 0, none⟩) L.length L.length) T := ⟨_, L.length, by rw [HhlenT.out], hz1, by rw [HhlenT.out]; omega, e1⟩
          simp only [nextRow, nextPiece, nextSize]
          have He1 := Lib.hid e1; clear e1; have He2 := Lib.hid e2; clear e2; have Hhnx := Lib.hid hnx; clear hnx; have Hhres := Lib.hid hres; clear hres; have Hhts2 := Lib.hid hts2; clear hts2
          go_wp2
          go_ret
          refine ⟨⟨_, rfl, ?_⟩, ?_⟩
          · rw [Hhres.out]
            exact Hhts2.out.below ((Below.refl _ _).alloc (Nat.le_refl _) _) (Nat.le_refl _)
          · exact (below_call hb1 hbel3 hz1).alloc (by omega) _
        | some x =>
          obtain ⟨i, p, n⟩ := x
          have hpc := next_piece (good_cut Hhg.out bud) (small_cut Hhsm.out bud) Hhfit.out hnx
          obtain ⟨hi1, hi2, hi3, hi4, hi5, -, -⟩ := next_facts Hhfit.out hnx
          have hsm := small_cut Hhsm.out bud _ (List.getElem_mem hi1)
          have hgd := getD_at T i 0 hi2
          have hiL : i < L.length := by rw [← length_cut L bud]; exact hi1
          have hfs := fits_set Hhfit.out hnx
          generalize hCi : (cutL L bud)[i] = ci at *
          generalize hTi : T[i] = ti at *
          obtain ⟨p1, p2⟩ := p
          simp only [nextRow, nextPiece, nextSize] at hpc ⊢
          by_cases hp : left < p1
          · have hres : greedyL L bud = T := by rw [Hhgr.out, greedyF_stop hnx hp]
            have hts2 : RowI 3 w2 w.heap.size (.slice (some ⟨w1.heap.size, 0, none⟩) L.length L.length) T := ⟨_, L.length, by rw [HhlenT.out], hz1, by rw [HhlenT.out]; omega, e1⟩
            have He1 := Lib.hid e1; clear e1; have He2 := Lib.hid e2; clear e2; have Hhnx := Lib.hid hnx; clear hnx; have Hhres := Lib.hid hres; clear hres; have Hhts2 := Lib.hid hts2; clear hts2; have Hhfs := Lib.hid hfs; clear hfs; have Hhgd := Lib.hid hgd; clear hgd; have HhCi := Lib.hid hCi; clear hCi; have HhTi := Lib.hid hTi; clear hTi
            go_wp2
            go_ret
            refine ⟨⟨_, rfl, ?_⟩, ?_⟩
            · rw [Hhres.out]
              exact Hhts2.out.below ((Below.refl _ _).alloc (Nat.le_refl _) _) (Nat.le_refl _)
            · exact (below_call hb1 hbel3 hz1).alloc (by omega) _
          · have hres : greedyL L bud = greedyF (f - 1) (cutL L bud) (T.set i (ti + n)) (left - p1) := by
              obtain ⟨f', rfl⟩ : ∃ f', f = f' + 1 := ⟨f - 1, by omega⟩
              rw [Hhgr.out, greedyF_go hnx hp, hgd]; rfl
            rw [hgd] at hfs
            have d1 : w2.cell? ⟨w1.heap.size, i, none⟩ = some (.int .i64 ti) := by
              rw [e1.cell, List.getElem?_map, List.getElem?_eq_getElem hi2, hTi]; rfl
            have f1 := e1.frozen
            have hlt2 : w1.heap.size < w2.heap.size := by omega
            have d2 : (w2.alloc (.cells #[.int .i64 p1, .int .i64 p2] 32)).cell? ⟨w1.heap.size, i, none⟩ = some (.int .i64 ti) := by rw [(e1.alloc _).cell, List.getElem?_map, List.getElem?_eq_getElem hi2, hTi]; rfl
            have f2 := (e1.alloc (.cells #[.int .i64 p1, .int .i64 p2] 32)).frozen
            have He1 := Lib.hid e1; clear e1; have He2 := Lib.hid e2; clear e2; have Hhnx := Lib.hid hnx; clear hnx; have Hhres := Lib.hid hres; clear hres; have Hhfs := Lib.hid hfs; clear hfs; have Hhgd := Lib.hid hgd; clear hgd; have HhCi := Lib.hid hCi; clear hCi; have HhTi := Lib.hid hTi; clear hTi
            go_wp2
            refine ⟨⟨left - p1, f - 1, T.set i (ti + n), by simp, Hhres.out, by omega, by omega, by omega, Hhfs.out, ?_, ?_, ?_⟩, by simp [intOf]; omega⟩
            · rw [List.map_set]
              have := (He1.out.set i (.int .i64 ((ti + n : Nat) : Int))).alloc (.cells #[.int .i64 p1, .int .i64 p2] 32)
              simpa using this
            · exact (He2.out.far (by simp) _).alloc _
            · exact (hbel3.setCell (by simp) _).alloc (by simp; omega) _
end Go.Proofs.Ytbhdfljdfjadnaa
