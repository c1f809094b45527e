/- The law SewCut, walked. -/
import Derived.Test.YtpbdcppaiafbgaaGreatIJ
import Derived.Test.YtpbdcppaiafbgaaGreatHS
import Derived.Test.YtpbdcppaiafbgaaGreatFM
namespace Go.Proofs.YtpbdcppaiafbgaaGreat
open Go Go.RowKit Go.Words Go.Mesh
set_option maxRecDepth 40000 in
set_option maxHeartbeats 8000000 in
theorem sewcut_law (sv : Value) (N : Int) (T : List T3) (v1 : Value) (l : List (Int × Int)) (w : World) {B : Nat} (hB0 : B ≤ w.heap.size) (hT : Sl 3 RTri w B sv T) (hN : I64 N) (h1 : Sl 2 RPair w B v1 l ∧ ∀ e ∈ l, ok2 e) :
    Calls Tryz.prog 17 #[.agg #[.int .i64 N, sv], v1] w fun e w' => e = .returned (.bool true) ∧ Below w.heap.size w w' := by
  obtain ⟨hl, hok⟩ := h1
  obtain ⟨A, cap, rfl, hcap⟩ := hT.form
  obtain ⟨A2, cap2, rfl, hcap2⟩ := hl.form
  have hb0 := (Below.refl w.heap.size w).alloc (Nat.le_refl _) (.cells #[.int .i64 N, .slice A T.length cap] 24)
  have hk0 := Bk.new w 24 [.int .i64 N, .slice A T.length cap]
  have haw := awake20_calls (w.alloc (.cells #[.int .i64 N, .slice A T.length cap] 24))
  have hz0 : w.heap.size + 1 ≤ (w.alloc (.cells #[.int .i64 N, .slice A T.length cap] 24)).heap.size := by simp
  generalize hw0 : w.alloc (.cells #[.int .i64 N, .slice A T.length cap] 24) = w0 at *
  have HhT := Lib.hid hT; clear hT; have Hhl := Lib.hid hl; clear hl; have Hhok := Lib.hid hok; clear hok; have Hhaw := Lib.hid haw; clear haw; have Hhk0 := Lib.hid hk0; clear hk0
  go_enter Tryz.func17, Tryz.ntmps17
  go_wp2_with fail
  clear hw0
  refine Hhaw.out.mono ?_
  rintro e w1 ⟨rfl, hb1⟩
  have hz1 := hb1.size
  have hbel1 := hb0.trans (hb1.mono hb0.size)
  have hk1 := Hhk0.out.below hb1 (by omega)
  have c0 : w1.cell? ⟨w.heap.size, 0, none⟩ = some (.int .i64 N) := hk1.cell 0
  have c1 : w1.cell? ⟨w.heap.size, 1, none⟩ = some (.slice A T.length cap) := hk1.cell 1
  have Hhk1 := Lib.hid hk1; clear hk1
  by_cases hs1 : 40 < (T.length : Int)
  · go_wp2_with fail
    all_goals first | (exfalso; omega) | skip
    go_ret
    exact ⟨rfl, hbel1⟩
  by_cases hs3 : 30 < (l.length : Int)
  · go_wp2_with fail
    all_goals first | (exfalso; omega) | skip
    go_ret
    exact ⟨rfl, hbel1⟩
  have hT1 := HhT.out.below keeps_tri (hbel1.mono hB0)
  have hl1 := Hhl.out.below keeps_pair (hbel1.mono hB0)
  have hal := along_calls (w := w1) (show B ≤ w1.heap.size by omega) hT1 hN hl1 Hhok.out (by omega)
  have HhT1 := Lib.hid hT1; clear hT1; have Hhl1 := Lib.hid hl1; clear hl1; have Hhal := Lib.hid hal; clear hal
  go_wp2_with fail
  all_goals first | (exfalso; omega) | skip
  refine Hhal.out.mono ?_
  rintro e w3 ⟨⟨r, c, rfl, hend⟩, hb3⟩
  have hz3 := hb3.size
  have hbel3 := hbel1.trans (hb3.mono hbel1.size)
  have hk3 := Hhk1.out.below hb3 (by omega)
  by_cases hc : c = 0
  case neg =>
    obtain rfl := hend.2.1 hc
    have hcb : (c != 0) = true := bne_iff_ne.2 hc
    have hbf := hbel3.alloc hbel3.size (.cells #[.int .i64 0, .slice none 0 0] 24)
    have Hhend := Lib.hid hend; clear hend; have Hhk3 := Lib.hid hk3; clear hk3; have Hhbf := Lib.hid hbf; clear hbf
    go_wp2_with fail
    go_ret
    exact ⟨rfl, Hhbf.out⟩
  subst hc
  obtain ⟨xv, wv, pv, Es, rfl, hcut, hX, hO, hP⟩ := hend.ok
  have hse := fun (w' : World) (x o : Value) (c : Int) => cut_sewEnd hcut (w' := w') (x := x) (o := o) (c := c)
  have hsX := hcut.cut
  have hfew := hcut.few
  have hXl := hcut.numb.len
  have hpl := hcut.len
  have hokP := cut_okP hcut (pairsL N T l Es).length
  rw [List.take_length] at hokP
  clear hend
  generalize pairsL N T l Es = P at *
  generalize newX N T (l.map nm) = X at *
  generalize newO N T (l.map nm) = O at *
  obtain ⟨A4, cap4, rfl, hcap4⟩ := hO.form
  obtain ⟨A5, cap5, rfl, hcap5⟩ := hP.form
  obtain ⟨A3, cap3, rfl, hcap3⟩ := hX.form
  have hb4 := (Below.refl w3.heap.size w3).alloc (Nat.le_refl _) (.cells #[.int .i64 (O.length : Nat), .slice A3 X.length cap3] 24)
  have hk34 := hk3.alloc (.cells #[.int .i64 (O.length : Nat), .slice A3 X.length cap3] 24)
  have hbel4 := hbel3.trans (hb4.mono hbel3.size)
  have hz4 : (w3.alloc (.cells #[.int .i64 (O.length : Nat), .slice A3 X.length cap3] 24)).heap.size = w3.heap.size + 1 := by simp
  have hX4 := (hX.below keeps_tri hb4).keep keeps_tri (Below.refl _ _) (show w3.heap.size ≤ (w3.alloc (.cells #[.int .i64 (O.length : Nat), .slice A3 X.length cap3] 24)).heap.size by omega)
  have hP4 := (hP.below keeps_4 hb4).keep keeps_4 (Below.refl _ _) (show w3.heap.size ≤ (w3.alloc (.cells #[.int .i64 (O.length : Nat), .slice A3 X.length cap3] 24)).heap.size by omega)
  have hO4 := hO.below keeps_int hb4
  generalize hw4 : w3.alloc (.cells #[.int .i64 (O.length : Nat), .slice A3 X.length cap3] 24) = w4 at *
  have hsw := sew_calls (w := w4) (N := (O.length : Nat)) hX4 hP4 (Nat.le_refl _) (I64.nat (by omega)) (by omega) hokP
  have e0 : w4.cell? ⟨w3.heap.size, 0, none⟩ = some (.int .i64 (O.length : Nat)) := by rw [← hw4]; exact (Bk.new w3 24 [.int .i64 (O.length : Nat), .slice A3 X.length cap3]).cell 0
  have e1 : w4.cell? ⟨w3.heap.size, 1, none⟩ = some (.slice A3 X.length cap3) := by rw [← hw4]; exact (Bk.new w3 24 [.int .i64 (O.length : Nat), .slice A3 X.length cap3]).cell 1
  have hOl : O.length ≤ 1000000 := by omega
  have hTl : T.length ≤ 1000000 := by omega
  have Hhk3 := Lib.hid hk3; clear hk3; have Hhk34 := Lib.hid hk34; clear hk34; have HhX := Lib.hid hX; clear hX; have HhO := Lib.hid hO; clear hO; have HhP := Lib.hid hP; clear hP; have HhX4 := Lib.hid hX4; clear hX4; have HhO4 := Lib.hid hO4; clear hO4; have HhP4 := Lib.hid hP4; clear hP4; have Hhcut := Lib.hid hcut; clear hcut; have HhsX := Lib.hid hsX; clear hsX; have Hhse := Lib.hid hse; clear hse; have Hhsw := Lib.hid hsw; clear hsw; have HhXl := Lib.hid hXl; clear hXl; have Hhpl := Lib.hid hpl; clear hpl; have HhokP := Lib.hid hokP; clear hokP
  go_wp2_with fail
  clear hw4
  refine Hhsw.out.mono ?_
  rintro e w5 ⟨⟨x, o, c, rfl, hend⟩, hb5⟩
  obtain ⟨rfl, xs, rfl, hY, hV⟩ := Hhse.out _ _ _ _ hend
  clear hend
  obtain ⟨A6, cap6, rfl, hcap6⟩ := hY.form
  obtain ⟨A7, cap7, rfl, hcap7⟩ := hV.form
  have hz5 := hb5.size
  have hbel5 := hbel4.trans (hb5.mono hbel4.size)
  have hk5 := Hhk34.out.below hb5 (by omega)
  have hb6 := (Below.refl w5.heap.size w5).alloc (Nat.le_refl _) (.cells #[.int .i64 N, .slice A6 T.length cap6] 24)
  have hz6 : (w5.alloc (.cells #[.int .i64 N, .slice A6 T.length cap6] 24)).heap.size = w5.heap.size + 1 := by simp
  have hbel6 := hbel5.trans (hb6.mono hbel5.size)
  have hk6 := hk5.alloc (.cells #[.int .i64 N, .slice A6 T.length cap6] 24)
  have hY6 := (hY.below keeps_tri hb6).keep keeps_tri (Below.refl _ _) hb6.size
  have hV6 := (hV.below keeps_int hb6).keep keeps_int (Below.refl _ _) hb6.size
  have hO6 := ((HhO4.out.below keeps_int (hb5.mono (by omega))).below keeps_int (hb6.mono (by omega))).keep keeps_int (Below.refl _ _) (show w3.heap.size ≤ (w5.alloc (.cells #[.int .i64 N, .slice A6 T.length cap6] 24)).heap.size by omega)
  have hT6 := (HhT1.out.below keeps_tri ((((hb3.mono (show B ≤ w1.heap.size by omega)).trans (hb4.mono (show B ≤ w3.heap.size by omega))).trans (hb5.mono (show B ≤ w4.heap.size by omega))).trans (hb6.mono (show B ≤ w5.heap.size by omega)))).keep keeps_tri (Below.refl _ _) (show B ≤ (w5.alloc (.cells #[.int .i64 N, .slice A6 T.length cap6] 24)).heap.size by omega)
  generalize hw6 : w5.alloc (.cells #[.int .i64 N, .slice A6 T.length cap6] 24) = w6 at *
  have hsa := same20_calls (Na := N) (Nb := N) hY6 hT6 (Nat.le_refl _) hTl
  rw [decide_eq_true (show N = N ∧ T = T from ⟨rfl, rfl⟩)] at hsa
  have f0 : w6.cell? ⟨w5.heap.size, 0, none⟩ = some (.int .i64 N) := by rw [← hw6]; exact (Bk.new w5 24 [.int .i64 N, .slice A6 T.length cap6]).cell 0
  have f1 : w6.cell? ⟨w5.heap.size, 1, none⟩ = some (.slice A6 T.length cap6) := by rw [← hw6]; exact (Bk.new w5 24 [.int .i64 N, .slice A6 T.length cap6]).cell 1
  have g0 : w6.cell? ⟨w.heap.size, 0, none⟩ = some (.int .i64 N) := hk6.cell 0
  have g1 : w6.cell? ⟨w.heap.size, 1, none⟩ = some (.slice A T.length cap) := hk6.cell 1
  have Hhk5 := Lib.hid hk5; clear hk5; have Hhk6 := Lib.hid hk6; clear hk6; have HhY := Lib.hid hY; clear hY; have HhV := Lib.hid hV; clear hV; have HhY6 := Lib.hid hY6; clear hY6; have HhV6 := Lib.hid hV6; clear hV6; have HhO6 := Lib.hid hO6; clear hO6; have HhT6 := Lib.hid hT6; clear hT6; have Hhsa := Lib.hid hsa; clear hsa
  go_wp2_with fail
  clear hw6
  refine Hhsa.out.mono ?_
  rintro e w7 ⟨rfl, hb7⟩
  have hbel7 := hbel6.trans (hb7.mono hbel6.size)
  have hin := ints20_calls (w := w7) ((HhV6.out.below keeps_int hb7).keep keeps_int (Below.refl _ _) hb7.size) ((HhO6.out.below keeps_int hb7).keep keeps_int (Below.refl _ _) hb7.size) (Nat.le_refl _) hOl
  rw [decide_eq_true rfl] at hin
  have Hhin := Lib.hid hin; clear hin
  go_wp2_with fail
  refine Hhin.out.mono ?_
  rintro e w8 ⟨rfl, hb8⟩
  have hbel8 := hbel7.trans (hb8.mono hbel7.size)
  go_wp2_with fail
  go_ret
  exact ⟨rfl, hbel8⟩
end Go.Proofs.YtpbdcppaiafbgaaGreat
