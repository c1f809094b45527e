/- Walks: slices.SortedFunc of a map's edges; soup.Fits of a surface. -/
import Derived.Test.YtckkpmjkajkkmaaGreatSD
import Derived.Test.YtckkpmjkajkkmaaGreatTL
namespace Go.Proofs.YtckkpmjkajkkmaaGreat
open Go Go.RowKit Go.Words Go.Mesh Go.Maps

set_option maxHeartbeats 1000000 in
theorem sortedE_calls {w : World} {Bm b : Nat} {lm : List ((Int × Int) × Unit)} (hBm : Bm < w.heap.size) (hm : w.cell? ⟨Bm, 0, none⟩ = some (.map (some b))) (hmp : MpE w b lm) (hlm : lm.length ≤ 1000000) :
    Calls Tryz.prog 14 #[.func (.func 35) #[] #[.pointer (some ⟨Bm, 0, none⟩)], .func (.func 16) #[] #[]] w fun e w' =>
      (∃ (r : Value) (L : List (Int × Int)), e = .returned r ∧ L.Perm (lm.map (·.1)) ∧ L.Pairwise (fun x y => ¬ ltE y x) ∧ w'.ownsRow w.heap.size 34 2 r L.length (flat2 L)) ∧ Below w.heap.size w w' := by
  have hco := collectE_calls hBm hm hmp hlm
  have Hhco := Lib.hid hco; clear hco; have Hhmp := Lib.hid hmp; clear hmp
  go_enter Tryz.func14, Tryz.ntmps14
  go_wp2_with fail
  refine Hhco.out.mono ?_
  rintro e w1 ⟨⟨r, ss, rfl, hp, hown⟩, hb⟩
  have hss : ss.length ≤ 1000000 := by rw [hp.length_eq, List.length_map]; exact hlm
  have hso := sortedge_all hown hss
  obtain ⟨A, cap, rfl, hc⟩ := own_form hown
  have hbs := hb.size
  have Hhown := Lib.hid hown; clear hown; have Hhp := Lib.hid hp; clear hp; have Hhso := Lib.hid hso; clear hso
  go_wp2_with fail
  refine Hhso.out.mono ?_
  rintro e w2 ⟨rfl, ⟨L, h1, h2, h3, h4⟩, hg⟩
  have hb2 := hb.grown hg hbs (fun q hq => (Hhown.out.lt q hq).1)
  have h5 := h1.trans Hhp.out
  rw [← h2] at h4
  have Hh4 := Lib.hid h4; clear h4; have Hh1 := Lib.hid h1; clear h1; have Hh3 := Lib.hid h3; clear h3; have Hh5 := Lib.hid h5; clear h5; have Hhg := Lib.hid hg; clear hg
  go_wp2_with fail
  go_ret
  exact ⟨⟨_, L, rfl, Hh5.out, Hh3.out, by have := Hh4.out; rw [h2] at this ⊢; exact this⟩, hb2⟩
set_option maxRecDepth 100000 in
set_option maxHeartbeats 1000000 in
theorem fit_calls (a b c n : Int) (w : World) (h : (0 ≤ a ∧ a < n) ∧ (0 ≤ b ∧ b < n) ∧ (0 ≤ c ∧ c < n)) (hd : a ≠ b ∧ b ≠ c ∧ c ≠ a) :
    Calls Tryz.prog 32 #[.agg #[.int .i64 a, .int .i64 b, .int .i64 c], .int .i64 n] w fun e w' => e = .returned (.bool true) ∧ Below w.heap.size w w' := by
  obtain ⟨⟨a1, a2⟩, ⟨b1, b2⟩, c1, c2⟩ := h
  obtain ⟨d1, d2, d3⟩ := hd
  have e1 : (a != b) = true := by rw [bne_iff_ne]; exact d1
  have e2 : (b != c) = true := by rw [bne_iff_ne]; exact d2
  have e3 : (c != a) = true := by rw [bne_iff_ne]; exact d3
  have hb1 := (Below.refl w.heap.size w).alloc (Nat.le_refl _) (.cells #[.int .i64 a, .int .i64 b, .int .i64 c] 41)
  have x0 : ∀ W : World, (Instr.index 41 (.agg #[.int .i64 a, .int .i64 b, .int .i64 c]) (.int .i64 0)).run Tryz.prog W = .ok (.int .i64 a) W := fun W => by kernel_rfl
  have x1 : ∀ W : World, (Instr.index 41 (.agg #[.int .i64 a, .int .i64 b, .int .i64 c]) (.int .i64 1)).run Tryz.prog W = .ok (.int .i64 b) W := fun W => by kernel_rfl
  have x2 : ∀ W : World, (Instr.index 41 (.agg #[.int .i64 a, .int .i64 b, .int .i64 c]) (.int .i64 2)).run Tryz.prog W = .ok (.int .i64 c) W := fun W => by kernel_rfl
  go_enter Tryz.func32, Tryz.ntmps32
  go_wp2
  refine wp_loop_rounds 4 ?_
  rw [rounds_succ]
  go_wp2
  rw [rounds_succ]
  go_wp2
  rw [rounds_succ]
  go_wp2
  rw [rounds_succ]
  go_wp2
  go_ret
  exact ⟨rfl, hb1⟩
theorem Surf_fits {N : Int} {T : List T3} (h : Surf N T) {t : Nat} (ht : t < T.length) : ((0 ≤ Mesh.vt T (3 * t) ∧ Mesh.vt T (3 * t) < N) ∧ (0 ≤ Mesh.vt T (3 * t + 1) ∧ Mesh.vt T (3 * t + 1) < N) ∧ (0 ≤ Mesh.vt T (3 * t + 2) ∧ Mesh.vt T (3 * t + 2) < N)) ∧
    Mesh.vt T (3 * t) ≠ Mesh.vt T (3 * t + 1) ∧ Mesh.vt T (3 * t + 1) ≠ Mesh.vt T (3 * t + 2) ∧ Mesh.vt T (3 * t + 2) ≠ Mesh.vt T (3 * t) := by
  have l0 := h.loop (3 * t) (by omega)
  have l1 := h.loop (3 * t + 1) (by omega)
  have l2 := h.loop (3 * t + 2) (by omega)
  rw [show nx (3 * t) = 3 * t + 1 by unfold nx; omega] at l0
  rw [show nx (3 * t + 1) = 3 * t + 2 by unfold nx; omega] at l1
  rw [show nx (3 * t + 2) = 3 * t by unfold nx; omega] at l2
  exact ⟨⟨h.rng _ (by omega), h.rng _ (by omega), h.rng _ (by omega)⟩, l0, l1, l2⟩
set_option maxRecDepth 20000 in
set_option maxHeartbeats 1000000 in
theorem index_fits {w : World} {B q : Nat} {sv : Value} {N : Int} {T : List T3} (hT : Sl 3 RTri w B sv T) (hB0 : B ≤ w.heap.size) (hs : Surf N T) (hq : q < w.heap.size) (hc : w.cell? ⟨q, 0, none⟩ = some (.int .i64 N)) :
    Calls Tryz.prog 45 #[sv, .func (.func 31) #[] #[.pointer (some ⟨q, 0, none⟩)]] w fun e w' => e = .returned (.int .i64 (-1)) ∧ Below w.heap.size w w' := by
  obtain ⟨A, cap, rfl, hcap⟩ := hT.form
  have hfew := hs.tmax
  have hf1 : ∀ (a b c : Int) (wz : World), Below w.heap.size w wz → (0 ≤ a ∧ a < N) ∧ (0 ≤ b ∧ b < N) ∧ (0 ≤ c ∧ c < N) → a ≠ b ∧ b ≠ c ∧ c ≠ a →
      Calls Tryz.prog 31 #[.agg #[.int .i64 a, .int .i64 b, .int .i64 c], .pointer (some ⟨q, 0, none⟩)] wz fun e w' => e = .returned (.bool false) ∧ Below wz.heap.size wz w' := fun a b c wz hz h1 h2 => by
    have hc1 : wz.cell? ⟨q, 0, none⟩ = some (.int .i64 N) := (hz.cell (p := ⟨q, 0, none⟩) hq).trans hc
    have hb1 := (Below.refl wz.heap.size wz).alloc (Nat.le_refl _) (.cells #[.int .i64 a, .int .i64 b, .int .i64 c] 41)
    have hc2 : (wz.alloc (.cells #[.int .i64 a, .int .i64 b, .int .i64 c] 41)).cell? ⟨q, 0, none⟩ = some (.int .i64 N) := (hb1.cell (p := ⟨q, 0, none⟩) (by show q < _; have := hz.size; omega)).trans hc1
    have hfi := fun W => fit_calls a b c N W h1 h2
    clear hc
    have HhT := Lib.hid hT; clear hT; have Hhfi := Lib.hid hfi; clear hfi; have Hh1 := Lib.hid h1; clear h1; have Hh2 := Lib.hid h2; clear h2
    go_enter Tryz.func31, Tryz.ntmps31
    go_wp2_with fail
    refine (Hhfi.out _).mono ?_
    rintro e w1 ⟨rfl, hb2⟩
    have hb3 := hb1.trans (hb2.mono hb1.size)
    go_wp2_with fail
    go_ret
    exact ⟨rfl, hb3⟩
  have hr := Below.refl w.heap.size w
  have HhT := Lib.hid hT; clear hT; have Hhf1 := Lib.hid hf1; clear hf1
  go_enter Tryz.func45, Tryz.ntmps45
  go_wp2_with fail
  go_loopw [8] (fun iv wr => ∃ t : Nat, t ≤ T.length ∧ iv = .int .i64 (t : Int) ∧ Below w.heap.size w wr) (fun iv _ => T.length - (intOf iv).toNat)
  case atStart => exact ⟨0, by omega, rfl, hr⟩
  case round =>
    obtain ⟨t, ht, rfl, hbel⟩ := hrel
    obtain ⟨w1, hw1⟩ : ∃ w1, w1 = wr := ⟨_, rfl⟩
    subst hw1
    by_cases htl : t < T.length
    · obtain ⟨b, o, rfl, hb, hcell⟩ := tri_cells (HhT.out.below keeps_tri (hbel.mono hB0)) htl
      have k0 := hcell 0 (by omega)
      have k1 := hcell 1 (by omega)
      have k2 := hcell 2 (by omega)
      simp only [Nat.add_zero] at k0
      have hfi := Hhf1.out (Mesh.vt T (3 * t)) (Mesh.vt T (3 * t + 1)) (Mesh.vt T (3 * t + 2)) w1 hbel (Surf_fits hs htl).1 (Surf_fits hs htl).2
      have htt : (t : Int) < (T.length : Int) := by omega
      clear hcell
      generalize Mesh.vt T (3 * t) = v0 at *
      generalize Mesh.vt T (3 * t + 1) = v1 at *
      generalize Mesh.vt T (3 * t + 2) = v2 at *
      have Hhfi := Lib.hid hfi; clear hfi
      go_wp2_with fail
      refine Hhfi.out.mono ?_
      rintro e w2 ⟨rfl, hb2⟩
      have hbel2 := hbel.trans (hb2.mono hbel.size)
      go_wp2_with fail
      exact ⟨⟨t + 1, by omega, by simp, hbel2⟩, by simp [intOf]; omega⟩
    · obtain rfl : t = T.length := by omega
      go_wp2_with fail
      go_ret
      exact ⟨rfl, hbel⟩
set_option maxHeartbeats 1000000 in
theorem fits_calls {w : World} {B : Nat} {sv : Value} {N : Int} {T : List T3} (hT : Sl 3 RTri w B sv T) (hB0 : B ≤ w.heap.size) (hs : Surf N T) :
    Calls Tryz.prog 13 #[.agg #[.int .i64 N, sv]] w fun e w' => e = .returned (.bool true) ∧ Below w.heap.size w w' := by
  obtain ⟨A, cap, rfl, hcap⟩ := hT.form
  have hfew := hs.tmax
  have hN0 := hs.n0
  have hN1 := hs.nmax
  have hbox := Bk.new w 24 [.int .i64 N, .slice A T.length cap]
  have hb1 := (Below.refl w.heap.size w).alloc (Nat.le_refl _) (.cells #[.int .i64 N, .slice A T.length cap] 24)
  have c0 := hbox.cell 0
  have c1 := hbox.cell 1
  simp only [List.getElem?_cons_zero, List.getElem?_cons_succ] at c0 c1
  have hbl := hbox.lt
  have hTA := hT.below keeps_tri (hb1.mono hB0)
  generalize hw0 : w.alloc (.cells #[.int .i64 N, .slice A T.length cap] 24) = w0 at *
  have hix := index_fits hTA (by omega) hs hbl c0
  have hcn : Calls Tryz.prog 30 #[.slice A T.length cap, .func (.func 31) #[] #[.pointer (some ⟨w.heap.size, 0, none⟩)]] w0 fun e w' => e = .returned (.bool false) ∧ Below w0.heap.size w0 w' := by
    clear hw0 c0 c1
    have HhT := Lib.hid hT; clear hT; have HhTA := Lib.hid hTA; clear hTA; have Hhbox := Lib.hid hbox; clear hbox; have Hhix := Lib.hid hix; clear hix
    go_enter Tryz.func30, Tryz.ntmps30
    go_wp2_with fail
    refine Hhix.out.mono ?_
    rintro e w1 ⟨rfl, hb2⟩
    go_wp2_with fail
    go_ret
    exact ⟨rfl, hb2⟩
  have hTl : ¬ (8192 : Int) < (T.length : Int) := by omega
  have HhT := Lib.hid hT; clear hT; have HhTA := Lib.hid hTA; clear hTA; have Hhbox := Lib.hid hbox; clear hbox; have Hhix := Lib.hid hix; clear hix; have Hhcn := Lib.hid hcn; clear hcn
  go_enter Tryz.func13, Tryz.ntmps13
  go_wp2_with fail
  refine Hhcn.out.mono ?_
  rintro e w1 ⟨rfl, hb2⟩
  have hb3 := hb1.trans (hb2.mono hb1.size)
  go_wp2_with fail
  go_ret
  exact ⟨rfl, hb3⟩
end Go.Proofs.YtckkpmjkajkkmaaGreat
