/- The law CutSurface, walked. -/
import Derived.Test.YtpbdcppaiafbgaaGreatIJ
import Derived.Test.YtpbdcppaiafbgaaGreatHL
import Derived.Test.YtpbdcppaiafbgaaGreatEC
namespace Go.Proofs.YtpbdcppaiafbgaaGreat
open Go Go.RowKit Go.Words Go.Mesh
set_option maxRecDepth 40000 in
set_option maxHeartbeats 8000000 in
theorem cutsurface_law (sv : Value) (N : Int) (T : List T3) (v1 : Value) (l : List (Int × Int)) (w : World) {B : Nat} (hB0 : B ≤ w.heap.size) (hT : Sl 3 RTri w B sv T) (hN : I64 N) (h1 : Sl 2 RPair w B v1 l ∧ ∀ e ∈ l, ok2 e) :
    Calls Tryz.prog 6 #[.agg #[.int .i64 N, sv], v1] w fun e w' => e = .returned (.bool true) ∧ Below w.heap.size w w' := by
  obtain ⟨hl, hok⟩ := h1
  obtain ⟨A, cap, rfl, hcap⟩ := hT.form
  obtain ⟨A2, cap2, rfl, hcap2⟩ := hl.form
  have hb0 := (Below.refl w.heap.size w).alloc (Nat.le_refl _) (.cells #[.int .i64 N, .slice A T.length cap] 24)
  have hk0 := Bk.new w 24 [.int .i64 N, .slice A T.length cap]
  have haw := awake19_calls (w.alloc (.cells #[.int .i64 N, .slice A T.length cap] 24))
  have hz0 : w.heap.size + 1 ≤ (w.alloc (.cells #[.int .i64 N, .slice A T.length cap] 24)).heap.size := by simp
  generalize hw0 : w.alloc (.cells #[.int .i64 N, .slice A T.length cap] 24) = w0 at *
  have HhT := Lib.hid hT; clear hT; have Hhl := Lib.hid hl; clear hl; have Hhok := Lib.hid hok; clear hok; have Hhaw := Lib.hid haw; clear haw; have Hhk0 := Lib.hid hk0; clear hk0
  go_enter Tryz.func6, Tryz.ntmps6
  go_wp2_with fail
  clear hw0
  refine Hhaw.out.mono ?_
  rintro e w1 ⟨rfl, hb1⟩
  have hz1 := hb1.size
  have hbel1 := hb0.trans (hb1.mono hb0.size)
  have hk1 := Hhk0.out.below hb1 (by omega)
  have c0 : w1.cell? ⟨w.heap.size, 0, none⟩ = some (.int .i64 N) := hk1.cell 0
  have c1 : w1.cell? ⟨w.heap.size, 1, none⟩ = some (.slice A T.length cap) := hk1.cell 1
  have hk1 := hk1
  have hgr := great19_calls N A A2 T.length l.length cap cap2 w1
  obtain ⟨bg, hbg⟩ : ∃ bg, big19 N T.length l.length = bg := ⟨_, rfl⟩
  rw [hbg] at hgr
  have Hhk1 := Lib.hid hk1; clear hk1; have Hhgr := Lib.hid hgr; clear hgr
  go_wp2_with fail
  refine Hhgr.out.mono ?_
  rintro e w2 ⟨rfl, hb2⟩
  have hz2 := hb2.size
  have hbel2 := hbel1.trans (hb2.mono hbel1.size)
  cases bg with
  | true =>
    go_wp2_with fail
    go_ret
    exact ⟨rfl, hbel2⟩
  | false =>
    have hsm := small19 hbg
    have hk2 := Hhk1.out.below hb2 (by omega)
    have d0 : w2.cell? ⟨w.heap.size, 0, none⟩ = some (.int .i64 N) := hk2.cell 0
    have d1 : w2.cell? ⟨w.heap.size, 1, none⟩ = some (.slice A T.length cap) := hk2.cell 1
    have hT2 := HhT.out.below keeps_tri (hbel2.mono hB0)
    have hl2 := Hhl.out.below keeps_pair (hbel2.mono hB0)
    have hal := along_calls (w := w2) (show B ≤ w2.heap.size by omega) hT2 hN hl2 Hhok.out (by omega)
    have HhT2 := Lib.hid hT2; clear hT2; have Hhl2 := Lib.hid hl2; clear hl2; have Hhk2 := Lib.hid hk2; clear hk2; have Hhal := Lib.hid hal; clear hal
    go_wp2_with fail
    refine Hhal.out.mono ?_
    rintro e w3 ⟨⟨r, c, rfl, hend⟩, hb3⟩
    have hz3 := hb3.size
    have hbel3 := hbel2.trans (hb3.mono hbel2.size)
    have hk3 := Hhk2.out.below hb3 (by omega)
    by_cases hc : c = 0
    case neg =>
      obtain rfl := hend.2.1 hc
      have hcb : (c != 0) = true := bne_iff_ne.2 hc
      have hbf := hbel3.alloc hbel3.size (.cells #[.int .i64 0, .slice none 0 0] 24)
      have Hhend := Lib.hid hend; clear hend; have Hhk3 := Lib.hid hk3; clear hk3; have Hhbf := Lib.hid hbf; clear hbf
      go_wp2_with fail
      go_ret
      exact ⟨rfl, Hhbf.out⟩
    subst hc
    obtain ⟨xv, wv, pv, Es, rfl, hcut, hX, hO, hP⟩ := hend.ok
    have hXl := hcut.numb.len
    have hle := hcut.undo.le
    have hold := hcut.numb.old
    have hwas := fun c hc => hcut.was (c := c) hc
    have hsX := hcut.cut
    have hfew := hcut.few
    have hs := hcut.surf
    clear hend
    obtain ⟨A4, cap4, rfl, hcap4⟩ := hO.form
    obtain ⟨A5, cap5, rfl, hcap5⟩ := hP.form
    obtain ⟨A3, cap3, rfl, hcap3⟩ := hX.form
    generalize newX N T (l.map nm) = X at *
    generalize newO N T (l.map nm) = O at *
    rw [hXl] at hX hcap3 ⊢
    have hb4 := (Below.refl w3.heap.size w3).alloc (Nat.le_refl _) (.cells #[.int .i64 (O.length : Nat), .slice A3 T.length cap3] 24)
    have hk4 := Bk.new w3 24 [.int .i64 (O.length : Nat), .slice A3 T.length cap3]
    have hk34 := hk3.alloc (.cells #[.int .i64 (O.length : Nat), .slice A3 T.length cap3] 24)
    have hbel4 := hbel3.trans (hb4.mono hbel3.size)
    have hz4 : (w3.alloc (.cells #[.int .i64 (O.length : Nat), .slice A3 T.length cap3] 24)).heap.size = w3.heap.size + 1 := by simp
    have hX4 := hX.below keeps_tri hb4
    have hO4 := hO.below keeps_int hb4
    generalize hw4 : w3.alloc (.cells #[.int .i64 (O.length : Nat), .slice A3 T.length cap3] 24) = w4 at *
    have hce := certis_calls (.slice A3 T.length cap3) (O.length : Nat) X w4 (by omega) hX4 (I64.nat (by omega))
    have e0 : w4.cell? ⟨w3.heap.size, 0, none⟩ = some (.int .i64 (O.length : Nat)) := hk4.cell 0
    have e1 : w4.cell? ⟨w3.heap.size, 1, none⟩ = some (.slice A3 T.length cap3) := hk4.cell 1
    have Hhk3 := Lib.hid hk3; clear hk3; have Hhk4 := Lib.hid hk4; clear hk4; have Hhk34 := Lib.hid hk34; clear hk34; have HhX := Lib.hid hX; clear hX; have HhO := Lib.hid hO; clear hO; have HhP := Lib.hid hP; clear hP; have HhX4 := Lib.hid hX4; clear hX4; have HhO4 := Lib.hid hO4; clear hO4; have Hhce := Lib.hid hce; clear hce; have Hhcut := Lib.hid hcut; clear hcut; have Hhold := Lib.hid hold; clear hold; have Hhwas := Lib.hid hwas; clear hwas; have HhsX := Lib.hid hsX; clear hsX; have Hhs := Lib.hid hs; clear hs
    go_wp2_with fail
    clear hw4
    refine Hhce.out.mono ?_
    rintro e w5 ⟨⟨b, rfl, hb⟩, hb5⟩
    obtain rfl := hb.2 HhsX.out
    have hz5 := hb5.size
    have hbel5 := hbel4.trans (hb5.mono hbel4.size)
    have hk5 := Hhk4.out.below hb5 (by omega)
    have hk35 := Hhk34.out.below hb5 (by omega)
    have hX5 := HhX4.out.below keeps_tri (hb5.mono (by omega))
    have hO5 := HhO4.out.below keeps_int (hb5.mono (by omega))
    have hT5 := HhT2.out.below keeps_tri (((hb3.mono (show w2.heap.size ≤ w2.heap.size by omega)).trans ((hb4.mono (by omega)).trans (hb5.mono (by omega)))).mono (show B ≤ w2.heap.size by omega))
    have f0 : w5.cell? ⟨w3.heap.size, 0, none⟩ = some (.int .i64 (O.length : Nat)) := hk5.cell 0
    have f1 : w5.cell? ⟨w3.heap.size, 1, none⟩ = some (.slice A3 T.length cap3) := hk5.cell 1
    have g0 : w5.cell? ⟨w.heap.size, 0, none⟩ = some (.int .i64 N) := hk35.cell 0
    have g1 : w5.cell? ⟨w.heap.size, 1, none⟩ = some (.slice A T.length cap) := hk35.cell 1
    have hnl : ¬ ((O.length : Int) < N) := by omega
    have hlt3 := hk5.lt
    have hlt0 := hk35.lt
    obtain ⟨n, rfl⟩ : ∃ n : Nat, N = n := ⟨N.toNat, by have := Hhs.out.n0; omega⟩
    have Hhb := Lib.hid hb; clear hb; have Hhk5 := Lib.hid hk5; clear hk5; have Hhk35 := Lib.hid hk35; clear hk35; have HhX5 := Lib.hid hX5; clear hX5; have HhO5 := Lib.hid hO5; clear hO5; have HhT5 := Lib.hid hT5; clear hT5
    go_wp2_with fail
    all_goals first | (exfalso; omega) | skip
    go_loopw [9] (fun iv wr => ∃ v : Nat, v ≤ n ∧ iv = .int .i64 (v : Int) ∧ Below w5.heap.size w5 wr) (fun iv _ => n - (intOf iv).toNat)
    case atStart => exact ⟨0, by omega, rfl, Below.refl _ _⟩
    case round =>
      obtain ⟨v, hv, rfl, hbr⟩ := hrel
      have hzr := hbr.size
      have q0 := (hbr.cell (p := ⟨w3.heap.size, 0, none⟩) (by show w3.heap.size < _; omega)).trans f0
      have q1 := (hbr.cell (p := ⟨w3.heap.size, 1, none⟩) (by show w3.heap.size < _; omega)).trans f1
      have r0 := (hbr.cell (p := ⟨w.heap.size, 0, none⟩) (by show w.heap.size < _; omega)).trans g0
      have r1 := (hbr.cell (p := ⟨w.heap.size, 1, none⟩) (by show w.heap.size < _; omega)).trans g1
      by_cases hvn : v < n
      · have ho := Hhold.out v (by omega)
        obtain ⟨hol, hoe⟩ := List.getElem?_eq_some_iff.1 ho
        obtain ⟨bo, oo, rfl, hbo, o1⟩ := (HhO5.out.below keeps_int (hbr.mono (by omega))).int_at hol
        rw [hoe] at o1
        have Hho := Lib.hid ho; clear ho; have Hhoe := Lib.hid hoe; clear hoe
        go_wp2_with fail
        all_goals first | (exfalso; omega) | skip
        exact ⟨⟨v + 1, by omega, by simp, hbr⟩, by simp [intOf]; omega⟩
      · obtain rfl : v = n := by omega
        go_wp2_with fail
        all_goals first | (exfalso; omega) | skip
        have hzq := hzr
        obtain ⟨wb, hwb⟩ : ∃ wb, wb = wr := ⟨_, rfl⟩
        subst hwb
        go_loopw [10] (fun iv wr => ∃ i : Nat, i ≤ T.length ∧ iv = .int .i64 (i : Int) ∧ Below w5.heap.size w5 wr) (fun iv _ => T.length - (intOf iv).toNat)
        case atStart => exact ⟨0, by omega, rfl, hbr⟩
        case round =>
          clear q0 q1 r0 r1 hbr hzr hzq
          obtain ⟨i, hi, rfl, hbr⟩ := hrel
          have hzr := hbr.size
          have q0 := (hbr.cell (p := ⟨w3.heap.size, 0, none⟩) (by show w3.heap.size < _; omega)).trans f0
          have q1 := (hbr.cell (p := ⟨w3.heap.size, 1, none⟩) (by show w3.heap.size < _; omega)).trans f1
          have r0 := (hbr.cell (p := ⟨w.heap.size, 0, none⟩) (by show w.heap.size < _; omega)).trans g0
          have r1 := (hbr.cell (p := ⟨w.heap.size, 1, none⟩) (by show w.heap.size < _; omega)).trans g1
          by_cases hil : i < T.length
          · go_wp2_with fail
            all_goals first | (exfalso; omega) | skip
            go_loopw [11] (fun kv wr => ∃ k : Nat, k ≤ 3 ∧ kv = .int .i64 (k : Int) ∧ Below w5.heap.size w5 wr) (fun kv _ => 3 - (intOf kv).toNat)
            case atStart => exact ⟨0, by omega, rfl, hbr⟩
            case round =>
              clear q0 q1 r0 r1 hbr hzr
              obtain ⟨k, hk, rfl, hbr⟩ := hrel
              have hzr := hbr.size
              have q0 := (hbr.cell (p := ⟨w3.heap.size, 0, none⟩) (by show w3.heap.size < _; omega)).trans f0
              have q1 := (hbr.cell (p := ⟨w3.heap.size, 1, none⟩) (by show w3.heap.size < _; omega)).trans f1
              have r0 := (hbr.cell (p := ⟨w.heap.size, 0, none⟩) (by show w.heap.size < _; omega)).trans g0
              have r1 := (hbr.cell (p := ⟨w.heap.size, 1, none⟩) (by show w.heap.size < _; omega)).trans g1
              by_cases hk3 : k < 3
              · obtain ⟨o, h1, h2, h3⟩ := Hhwas.out (3 * i + k) (by omega)
                obtain ⟨bx, ox, rfl, hbx, x1⟩ := tri_cell3 (HhX5.out.below keeps_tri (hbr.mono (by omega))) (show i < X.length by omega) hk3
                obtain ⟨bt, ot, rfl, hbt, t1⟩ := tri_cell3 (HhT5.out.below keeps_tri (hbr.mono (by omega))) hil hk3
                obtain ⟨bo, oo, rfl, hbo, o1⟩ := (HhO5.out.below keeps_int (hbr.mono (by omega))).int_at h2
                rw [h1] at x1
                rw [(List.getElem?_eq_some_iff.1 h3).2] at o1
                generalize Mesh.vt T (3 * i + k) = y at *
                have Hh1 := Lib.hid h1; clear h1; have Hh3 := Lib.hid h3; clear h3
                go_wp2_with fail
                refine Go.Canon.wp_region_text mixed (by kernel_rfl) ?_
                go_wp2_with fail
                refine Go.Canon.chk (by rfl) ?_
                go_wp2_with fail
                all_goals first | (exfalso; omega) | skip
                exact ⟨⟨k + 1, by omega, by simp, hbr.drew⟩, by simp [intOf]; omega⟩
              · obtain rfl : k = 3 := by omega
                go_wp2_with fail
                exact ⟨⟨i + 1, by omega, by simp, hbr⟩, by simp [intOf]; omega⟩
          · obtain rfl : i = T.length := by omega
            have hbf := hbel5.trans (hbr.mono hbel5.size)
            go_wp2_with fail
            all_goals first | (exfalso; omega) | skip
            go_ret
            exact ⟨rfl, hbf⟩
end Go.Proofs.YtpbdcppaiafbgaaGreat
