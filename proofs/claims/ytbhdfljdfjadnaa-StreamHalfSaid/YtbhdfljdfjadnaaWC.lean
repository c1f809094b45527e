/- Walks: Better. -/
import Derived.Test.YtbhdfljdfjadnaaWB
namespace Go.Proofs.Ytbhdfljdfjadnaa
open Go Go.RowKit Go.Words Go.StreamP

theorem info_rowi : (Try.prog.info? 28).map (fun i => (i.zero, i.size, i.bytes)) = some (some (.slice none 0 0), 1, 24) := by kernel_rfl

theorem tries_at (L : List (List B2)) (bud : Int) (k : Nat) (h : k < (tries L bud).length) : (tries L bud)[k] = tryRow L bud k := by
  simp [tries]
theorem try_cells (L : List (List B2)) (bud : Int) (k : Nat) (F : Nat) (hk : k < L.length) (hF : frontN L[k] bud = F) : (List.replicate L.length (Value.int .i64 0)).set k (.int .i64 (F : Int)) = (tryRow L bud k).map fun n : Nat => .int .i64 (n : Int) := by
  unfold tryRow
  rw [List.map_set, List.map_replicate, getD_at _ _ _ hk, hF]
  rfl

set_option maxHeartbeats 2000000 in
theorem better_calls (v : Value) (L : List (List B2)) (bud : Int) (w : World) {B : Nat} (hB0 : B ≤ w.heap.size) (h : Sl 1 (RSl 2 RPair) w B v L) (hf : Few L) (hr : L.all rowB = true) (hbud : -9223372036854775808 ≤ bud ∧ bud ≤ 9223372036854775807) :
    Calls Try.prog 23 #[v, .int .i64 bud] w fun e w' => (∃ v', e = .returned v' ∧ Sl 1 RInt w' w'.heap.size v' ((betterL L bud).map fun n : Nat => (n : Int))) ∧ Below w.heap.size w w' := by
  obtain ⟨A, cap, rfl, hcap⟩ := h.form
  have hls := few_small hf
  have hg := all_row hr
  have hfl := hf.1
  have hm1 := run_make_rep (P := Try.prog) 28 Try.underlying28 info_int rfl L.length (by omega) (by omega)
  have hbox0 := Bk.new w 34 [.slice A L.length cap]
  have hbelB := (Below.refl w.heap.size w).alloc (Nat.le_refl _) (.cells #[.slice A L.length cap] 34)
  have Hhls := Lib.hid hls; clear hls; have Hhg := Lib.hid hg; clear hg; have Hhr := Lib.hid hr; clear hr; have Hhf := Lib.hid hf; clear hf; have Hh := Lib.hid h; clear h; have Hhbox0 := Lib.hid hbox0; clear hbox0
  go_enter Try.func23, Try.ntmps23
  go_wp2_with fail
  refine (right_calls _ L _ (by simp; omega) (Hh.out.below (keeps_sl keeps_pair) (hbelB.mono hB0)) Hhls.out.1 Hhls.out.2).mono ?_
  rw [Hhr.out]
  rintro e w1 ⟨rfl, hb1⟩
  have hz1 : w.heap.size + 1 ≤ w1.heap.size := by simpa using hb1.size
  have hbel1 := below_call hbelB hb1 (by simp)
  have hbox1 := Hhbox0.out.below hb1 (by simp)
  have d1 : w1.cell? ⟨w.heap.size, 0, none⟩ = some (.slice A L.length cap) := hbox1.cell 0
  have Hhbox1 := Lib.hid hbox1; clear hbox1
  go_wp2_with fail
  refine (greedy_calls _ L bud _ (by omega) (Hh.out.below (keeps_sl keeps_pair) (hbel1.mono hB0)) Hhls.out.1 Hhls.out.2 Hhr.out hbud).mono ?_
  rintro e w2 ⟨⟨gv, rfl, gg, gcap, rfl, gq1, gq2, gq3⟩, hb2⟩
  have hgv : RowI 3 w2 w1.heap.size (.slice (some ⟨gg, 0, none⟩) (greedyL L bud).length gcap) (greedyL L bud) := ⟨gg, gcap, rfl, gq1, gq2, gq3⟩
  clear gq3
  obtain ⟨gv, hgve⟩ : ∃ gv, gv = Value.slice (some ⟨gg, 0, none⟩) (greedyL L bud).length gcap := ⟨_, rfl⟩
  rw [← hgve] at hgv
  have hz2 := hb2.size
  have hbel2 := below_call hbel1 hb2 (by omega)
  have hbox2 := Hhbox1.out.below hb2 (by omega)
  have d2' : w2.cell? ⟨w.heap.size, 0, none⟩ = some (.slice A L.length cap) := hbox2.cell 0
  have hlt2 : w.heap.size < w2.heap.size := by omega
  have hbox3 := hbox2.alloc (.cells #[gv] 28)
  have d2 : (w2.alloc (.cells #[gv] 28)).cell? ⟨w.heap.size, 0, none⟩ = some (.slice A L.length cap) := hbox3.cell 0
  have hone : (w2.alloc (.cells #[gv] 28)).ownsRow (w.heap.size + 1) 28 1 (.slice (some ⟨w2.heap.size, 0, none⟩) 1 1) 1 [gv] :=
    ⟨rfl, .inr ⟨w2.heap.size, 1, #[gv], rfl, by omega, heap_alloc_new w2 _, by omega, by decide, rfl, rfl⟩⟩
  clear d1
  rw [hgve] at d2
  have Hhbox2 := Lib.hid hbox2; clear hbox2; have Hhbox3 := Lib.hid hbox3; clear hbox3; have Hhgv := Lib.hid hgv; clear hgv; have Hhone := Lib.hid hone; clear hone
  rw [hgve] at Hhbox3 Hhgv Hhone
  clear hgve gv
  generalize (greedyL L bud).length = glen at *
  go_wp2
  go_loopw [5, 18] (fun l i wr => ∃ (k : Nat) (vs : List Value), k ≤ L.length ∧ i = .int .i64 k ∧ wr.ownsRow (w.heap.size + 1) 28 1 l (k + 1) vs ∧ RowsI 3 wr w.heap.size vs (greedyL L bud :: (tries L bud).take k) ∧
      Bk wr w.heap.size 34 [.slice A L.length cap] ∧ Below w.heap.size w wr)
    (fun _ i _ => L.length - (intOf i).toNat)
  case atStart =>
    refine ⟨0, [_], by omega, rfl, Hhone.out, ?_, Hhbox3.out, hbel2.alloc (by omega) _⟩
    refine ⟨rfl, fun i v T h1 h2 => ?_⟩
    match i, h1, h2 with
    | 0, h1, h2 =>
      simp at h1 h2
      subst h1; subst h2
      exact (Hhgv.out.base_le (by omega)).below ((Below.refl _ _).alloc (Nat.le_refl _) _) (Nat.le_refl _)
  case round =>
    obtain ⟨k, vs, hk, rfl, hown, hrows, hbox, hbel⟩ := hrel
    have hz := hbel.size
    have hltb := hbox.lt
    by_cases hlt : k < L.length
    · obtain ⟨b, o, vr, rfl, hb, c1, hvr⟩ := (Hh.out.below (keeps_sl keeps_pair) (hbel.mono hB0)).sl_at hlt
      obtain ⟨A3, cap3, rfl, hcap3⟩ := hvr.form
      have hrl := Hhls.out.2 _ (List.getElem_mem hlt)
      have hrg := Hhg.out _ (List.getElem_mem hlt)
      have htc := fun F hF => try_cells L bud k F hlt hF
      have htk : (tries L bud).take (k + 1) = (tries L bud).take k ++ [tryRow L bud k] := by
        have hkl : k < (tries L bud).length := by unfold tries; simpa using hlt
        rw [List.take_succ_eq_append_getElem hkl, tries_at]
      have hlen : (tryRow L bud k).length = L.length := by unfold tryRow; simp
      generalize hx : L[k] = x at *
      generalize hFe : frontN x bud = F at *
      have htc := htc F rfl
      have d3 : wr.cell? ⟨w.heap.size, 0, none⟩ = some (.slice (some ⟨b, o, none⟩) L.length cap) := hbox.cell 0
      have hnew := Bk.new wr 3 (List.replicate L.length (.int .i64 0))
      have hbA := (Below.refl wr.heap.size wr).alloc (Nat.le_refl _) (.cells (List.replicate L.length (.int .i64 0)).toArray 3)
      have Hhx := Lib.hid hx; clear hx; have HhFe := Lib.hid hFe; clear hFe; have Hhrg := Lib.hid hrg; clear hrg; have Hhvr := Lib.hid hvr; clear hvr; have Hhtc := Lib.hid htc; clear htc; have Hhtk := Lib.hid htk; clear htk; have Hhlen := Lib.hid hlen; clear hlen; have Hhown := Lib.hid hown; clear hown; have Hhrows := Lib.hid hrows; clear hrows; have Hhbox := Lib.hid hbox; clear hbox; have Hhnew := Lib.hid hnew; clear hnew
      go_wp2_with fail
      refine (front_calls _ x bud _ (by simp; omega) (Hhvr.out.below keeps_pair (hbA.mono (by omega))) (by omega) Hhrg.out).mono ?_
      rw [HhFe.out]
      rintro e w3 ⟨rfl, hb3⟩
      have hz3 : wr.heap.size + 1 ≤ w3.heap.size := by simpa using hb3.size
      have hn3 := Hhnew.out.below hb3 (by simp)
      have hbB := below_call hbA hb3 (by simp)
      have d4 : w3.cell? ⟨wr.heap.size, k, none⟩ = some (.int .i64 0) := by rw [hn3.cell, List.getElem?_replicate, if_pos hlt]
      have f4 := hn3.frozen
      have hbC := (hbB.setCell (p := ⟨wr.heap.size, k, none⟩) (Nat.le_refl _) (.int .i64 F))
      have hbD := hbC.alloc (by simp; omega) (.cells #[.slice (some ⟨wr.heap.size, 0, none⟩) L.length L.length] 28)
      have o1 := own_below Hhown.out hbD (Nat.le_refl _)
      have hrowI : RowI 3 ((w3.setCell ⟨wr.heap.size, k, none⟩ (.int .i64 F)).alloc (.cells #[.slice (some ⟨wr.heap.size, 0, none⟩) L.length L.length] 28)) w.heap.size (.slice (some ⟨wr.heap.size, 0, none⟩) L.length L.length) (tryRow L bud k) := by
        refine ⟨wr.heap.size, L.length, by rw [Hhlen.out], hz, by rw [Hhlen.out]; exact Nat.le_refl _, ?_⟩
        rw [← Hhtc.out]
        exact (hn3.set k _).alloc _
      have hsn := (Hhrows.out.below hbD (Nat.le_refl _)).snoc hrowI
      have hbox4 := Hhbox.out.below hbD (by omega)
      clear d3
      have Hhn3 := Lib.hid hn3; clear hn3; have HhrowI := Lib.hid hrowI; clear hrowI; have Hhsn := Lib.hid hsn; clear hsn; have Hhbox4 := Lib.hid hbox4; clear hbox4; have Ho1 := Lib.hid o1; clear o1
      go_wp2_with (at_builtin; refine append_block _ rfl (.tmp 32) (.tmp 34) 62 rfl (w.heap.size + 1) info_rowi Try.underlying62 rfl (by omega) u5 (k + 1) vs rfl Ho1.out w3.heap.size [.slice (some ⟨wr.heap.size, 0, none⟩) L.length L.length] rfl (Bk.new' _ _ (by simp)) rfl (by simp [Value.oneCell']) (by omega) (by omega) (by simp; omega) ?_; intro v1 w4 hown1 hb4 hgr hat; have Hhown1 := Lib.hid hown1; clear hown1; have Hhgr := Lib.hid hgr; clear hgr; have Hhat := Lib.hid hat; clear hat)
      refine ⟨⟨k + 1, _, by omega, by simp, Hhown1.out, ?_, ?_, ?_⟩, by simp [intOf]; omega⟩
      · rw [Hhtk.out]
        exact Hhsn.out.kept Ho1.out (by decide) Hhgr.out
      · refine Hhbox4.out.grown Hhgr.out fun h9 => ?_
        have := (Ho1.out.lt _ h9.symm).1
        omega
      · exact (below_call hbel hbD hz).trans (hb4.mono (by omega))
    · have hkl : k = L.length := by omega
      subst hkl
      have htk : (tries L bud).take L.length = tries L bud := List.take_of_length_le (by unfold tries; simp)
      rw [htk] at hrows
      have hlt9 : (tries L bud).length = L.length := by unfold tries; simp
      have hsl := hrows.sl (v := u5) (by rw [List.length_cons, hlt9]; exact hown)
      obtain ⟨A5, cap5, hu5, hcap5⟩ := own_form hown
      have hfits : ∀ T ∈ greedyL L bud :: tries L bud, Fits L T := by
        intro T hT
        rcases List.mem_cons.1 hT with h9 | h9
        · rw [h9]; exact greedy_fits L bud
        · obtain ⟨i, hi, rfl⟩ := List.mem_map.1 h9
          exact try_fits L bud i (List.mem_range.1 hi)
      have Hhown := Lib.hid hown; clear hown; have Hhrows := Lib.hid hrows; clear hrows; have Hhbox := Lib.hid hbox; clear hbox; have Hhtk := Lib.hid htk; clear htk; have Hhlt9 := Lib.hid hlt9; clear hlt9; have Hhsl := Lib.hid hsl; clear hsl; have Hhu5 := Lib.hid hu5; clear hu5; have Hhcap5 := Lib.hid hcap5; clear hcap5; have Hhfits := Lib.hid hfits; clear hfits
      go_wp2_with fail
      refine (most_calls (.slice A L.length cap) _ L (greedyL L bud) (tries L bud) _ (Nat.le_refl _) ((Hh.out.below (keeps_sl keeps_pair) (hbel.mono hB0)).keep (keeps_sl keeps_pair) (Below.refl _ _) (by omega)) Hhsl.out Hhbox.out Hhf.out Hhr.out Hhfits.out (by rw [Hhlt9.out]; omega)).mono ?_
      rintro e w3 ⟨⟨v', rfl, hv'⟩, hb3⟩
      have hz3 := hb3.size
      have hbel3 := below_call hbel hb3 hz
      have Hhv' := Lib.hid hv'; clear hv'
      go_wp2
      go_ret
      exact ⟨⟨_, rfl, Hhv'.out.keep keeps_int (Below.refl _ _) hz3⟩, hbel3⟩
end Go.Proofs.Ytbhdfljdfjadnaa
