/- The law CutAlong, walked; what ref19's Along answers is taken as given. -/
import Derived.Test.YtpbdcppaiafbgaaGreatIJ
import Derived.Test.YtpbdcppaiafbgaaGreatIL
import Derived.Test.YtpbdcppaiafbgaaGreatEQ
import Derived.Test.YtpbdcppaiafbgaaGreatRZ
namespace Go.Proofs.YtpbdcppaiafbgaaGreat
open Go Go.RowKit Go.Words Go.Mesh
theorem along_partsA {w' : World} {N n : Int} {T : List T3} {l : List (Int × Int)} {x wv pv : Value} (h : AlongEnd w' N T l (.tuple #[.agg #[.int .i64 n, x], wv, pv, .int .i64 0]) 0) :
    ∃ Es, CutOk N T l Es ∧ n = ((newO N T (l.map nm)).length : Nat) ∧ Sl 3 RTri w' w'.heap.size x (newX N T (l.map nm)) ∧ Sl 1 RInt w' w'.heap.size wv (newO N T (l.map nm)) ∧ Sl 4 R4 w' w'.heap.size pv (pairsL N T l Es) := by
  obtain ⟨sv, wv', pv', Es, he, hcut, hX, hO, hP⟩ := h.ok
  injection he with he
  have he := congrArg Array.toList he
  simp only [List.cons.injEq] at he
  obtain ⟨h1, h2, h3, _⟩ := he
  injection h1 with h1
  have h1 := congrArg Array.toList h1
  simp only [List.cons.injEq] at h1
  obtain ⟨h4, h5, _⟩ := h1
  injection h4 with _ h4
  subst h2; subst h3; subst h5
  exact ⟨Es, hcut, h4, hX, hO, hP⟩
theorem along_both {w5 w7 : World} {N : Int} {T : List T3} {l : List (Int × Int)} {n1 n2 c1 c2 : Int} {x1 x2 wv1 wv2 pv1 pv2 : Value}
    (hll : l.length ≤ 1000) (h : AlongEnd w5 N T l (.tuple #[.agg #[.int .i64 n1, x1], wv1, pv1, .int .i64 c1]) c1) (k : AlongEnd w7 N T l (.tuple #[.agg #[.int .i64 n2, x2], wv2, pv2, .int .i64 c2]) c2) :
    c1 = c2 ∧ n1 = n2 ∧ ∃ (X : List T3) (O : List Int) (P : List P4), X.length ≤ 100000 ∧ O.length ≤ 100000 ∧ P.length ≤ 100000 ∧ Sl 3 RTri w5 w5.heap.size x1 X ∧ Sl 3 RTri w7 w7.heap.size x2 X ∧ Sl 1 RInt w5 w5.heap.size wv1 O ∧ Sl 1 RInt w7 w7.heap.size wv2 O ∧ Sl 4 R4 w5 w5.heap.size pv1 P ∧ Sl 4 R4 w7 w7.heap.size pv2 P := by
  obtain rfl := h.1.one k.1
  refine ⟨rfl, ?_⟩
  by_cases hc : c1 = 0
  · subst hc
    obtain ⟨Es1, hcut1, hn1, hX1, hO1, hP1⟩ := along_partsA h
    obtain ⟨Es2, hcut2, hn2, hX2, hO2, hP2⟩ := along_partsA k
    rw [edges_one hcut2.edges hcut1.edges] at hP2
    have h1 := hcut1.numb.len
    have h2 := hcut1.few
    have h3 := hcut1.len
    have h4 := hcut1.surf.tmax
    exact ⟨hn1.trans hn2.symm, _, _, _, by omega, by omega, by omega, hX1, hX2, hO1, hO2, hP1, hP2⟩
  · have e1 := h.2.1 hc
    have e2 := k.2.1 hc
    unfold failV at e1 e2
    injection e1 with e1
    injection e2 with e2
    have e1 := congrArg Array.toList e1
    have e2 := congrArg Array.toList e2
    simp only [List.cons.injEq] at e1 e2
    obtain ⟨a1, rfl, rfl, _⟩ := e1
    obtain ⟨b1, rfl, rfl, _⟩ := e2
    injection a1 with a1
    injection b1 with b1
    have a1 := congrArg Array.toList a1
    have b1 := congrArg Array.toList b1
    simp only [List.cons.injEq] at a1 b1
    obtain ⟨a2, rfl, _⟩ := a1
    obtain ⟨b2, rfl, _⟩ := b1
    injection a2 with _ a2
    injection b2 with _ b2
    exact ⟨a2.trans b2.symm, [], [], [], by simp, by simp, by simp, Sl.nil _ _, Sl.nil _ _, Sl.nil _ _, Sl.nil _ _, Sl.nil _ _, Sl.nil _ _⟩
set_option maxRecDepth 40000 in
set_option maxHeartbeats 8000000 in
theorem cutalong_law0 (HA : ∀ {w : World} {B : Nat} {sv lv : Value} {N : Int} {T : List T3} {l : List (Int × Int)}, B ≤ w.heap.size → Sl 3 RTri w B sv T → Sl 2 RPair w B lv l → (∀ e ∈ l, ok2 e) → T.length ≤ 200 → l.length ≤ 1000 → Calls Tryz.prog 22 #[.agg #[.int .i64 N, sv], lv] w fun e w' => (∃ r c, e = .returned r ∧ AlongEnd w' N T l r c) ∧ Below w.heap.size w w')
    (sv : Value) (N : Int) (T : List T3) (v1 : Value) (l : List (Int × Int)) (w : World) {B : Nat} (hB0 : B ≤ w.heap.size) (hT : Sl 3 RTri w B sv T) (hN : I64 N) (h1 : Sl 2 RPair w B v1 l ∧ ∀ e ∈ l, ok2 e) :
    Calls Tryz.prog 3 #[.agg #[.int .i64 N, sv], v1] w fun e w' => e = .returned (.bool true) ∧ Below w.heap.size w w' := by
  obtain ⟨hl, hok⟩ := h1
  obtain ⟨A, cap, rfl, hcap⟩ := hT.form
  obtain ⟨A2, cap2, rfl, hcap2⟩ := hl.form
  have hb0 := (Below.refl w.heap.size w).alloc (Nat.le_refl _) (.cells #[.int .i64 N, .slice A T.length cap] 24)
  have hk0 := Bk.new w 24 [.int .i64 N, .slice A T.length cap]
  have haw := awake19_calls (w.alloc (.cells #[.int .i64 N, .slice A T.length cap] 24))
  have hz0 : w.heap.size + 1 ≤ (w.alloc (.cells #[.int .i64 N, .slice A T.length cap] 24)).heap.size := by simp
  generalize hw0 : w.alloc (.cells #[.int .i64 N, .slice A T.length cap] 24) = w0 at *
  have HhT := Lib.hid hT; clear hT; have Hhl := Lib.hid hl; clear hl; have Hhok := Lib.hid hok; clear hok; have Hhaw := Lib.hid haw; clear haw; have Hhk0 := Lib.hid hk0; clear hk0
  go_enter Tryz.func3, Tryz.ntmps3
  go_wp2_with fail
  clear hw0
  refine Hhaw.out.mono ?_
  rintro e w1 ⟨rfl, hb1⟩
  have hz1 := hb1.size
  have hbel1 := hb0.trans (hb1.mono hb0.size)
  have hk1 := Hhk0.out.below hb1 (by omega)
  have c0 : w1.cell? ⟨w.heap.size, 0, none⟩ = some (.int .i64 N) := hk1.cell 0
  have c1 : w1.cell? ⟨w.heap.size, 1, none⟩ = some (.slice A T.length cap) := hk1.cell 1
  have hk1 := hk1
  have hgr := great19_calls N A A2 T.length l.length cap cap2 w1
  obtain ⟨bg, hbg⟩ : ∃ bg, big19 N T.length l.length = bg := ⟨_, rfl⟩
  rw [hbg] at hgr
  have Hhk1 := Lib.hid hk1; clear hk1; have Hhgr := Lib.hid hgr; clear hgr
  go_wp2_with fail
  refine Hhgr.out.mono ?_
  rintro e w2 ⟨rfl, hb2⟩
  have hz2 := hb2.size
  have hbel2 := hbel1.trans (hb2.mono hbel1.size)
  cases bg with
  | true =>
    go_wp2_with fail
    go_ret
    exact ⟨rfl, hbel2⟩
  | false =>
    have hsm := small19 hbg
    have hk2 := Hhk1.out.below hb2 (by omega)
    have d0 : w2.cell? ⟨w.heap.size, 0, none⟩ = some (.int .i64 N) := hk2.cell 0
    have d1 : w2.cell? ⟨w.heap.size, 1, none⟩ = some (.slice A T.length cap) := hk2.cell 1
    have hT2 := HhT.out.below keeps_tri (hbel2.mono hB0)
    have hl2 := Hhl.out.below keeps_pair (hbel2.mono hB0)
    have hal1 := along_calls (w := w2) (show B ≤ w2.heap.size by omega) hT2 hN hl2 Hhok.out (by omega)
    have HhT2 := Lib.hid hT2; clear hT2; have Hhl2 := Lib.hid hl2; clear hl2; have Hhk2 := Lib.hid hk2; clear hk2; have Hhal1 := Lib.hid hal1; clear hal1
    go_wp2_with fail
    refine Hhal1.out.mono ?_
    rintro e w5 ⟨⟨r, c1, rfl, hend1⟩, hb5⟩
    obtain ⟨n1, X1, m1, q1, wv1, pv1, rfl⟩ := hend1.shape
    have hz5 := hb5.size
    obtain ⟨w6, hw6⟩ : ∃ w6, w5.alloc (.cells #[.int .i64 n1, .slice X1 m1 q1] 24) = w6 := ⟨_, rfl⟩
    have hb6 : Below w5.heap.size w5 w6 := by rw [← hw6]; exact (Below.refl w5.heap.size w5).alloc (Nat.le_refl _) _
    have hk6 : Bk w6 w5.heap.size 24 [.int .i64 n1, .slice X1 m1 q1] := by rw [← hw6]; exact Bk.new w5 _ _
    have hz6 : w5.heap.size + 1 ≤ w6.heap.size := by rw [← hw6]; simp
    have hb26 : Below w2.heap.size w2 w6 := hb5.trans (hb6.mono hz5)
    have hT6 := HhT2.out.below keeps_tri (hb26.mono (show B ≤ w2.heap.size by omega))
    have hl6 := Hhl2.out.below keeps_pair (hb26.mono (show B ≤ w2.heap.size by omega))
    have s2 := (hb26.cell (p := ⟨w.heap.size, 0, none⟩) (by show w.heap.size < _; omega)).trans d0
    have s3 := (hb26.cell (p := ⟨w.heap.size, 1, none⟩) (by show w.heap.size < _; omega)).trans d1
    have hal2 := HA (w := w6) (B := B) (N := N) (by have := hb26.size; omega) hT6 hl6 Hhok.out (by omega) (by omega)
    have Hhend1 := Lib.hid hend1; clear hend1; have Hhk6 := Lib.hid hk6; clear hk6; have HhT6 := Lib.hid hT6; clear hT6; have Hhl6 := Lib.hid hl6; clear hl6; have Hhal2 := Lib.hid hal2; clear hal2
    go_wp2_with fail
    clear hw6
    refine Hhal2.out.mono ?_
    rintro e w7 ⟨⟨r, c2, rfl, hend2⟩, hb7⟩
    obtain ⟨n2, X2, m2, q2, wv2, pv2, rfl⟩ := hend2.shape
    have hz7 := hb7.size
    obtain ⟨w8, hw8⟩ : ∃ w8, w7.alloc (.cells #[.int .i64 n2, .slice X2 m2 q2] 24) = w8 := ⟨_, rfl⟩
    have hb8 : Below w7.heap.size w7 w8 := by rw [← hw8]; exact (Below.refl w7.heap.size w7).alloc (Nat.le_refl _) _
    have hk8 : Bk w8 w7.heap.size 24 [.int .i64 n2, .slice X2 m2 q2] := by rw [← hw8]; exact Bk.new w7 _ _
    have hz8 : w7.heap.size + 1 ≤ w8.heap.size := by rw [← hw8]; simp
    have hb58 : Below w5.heap.size w5 w8 := (hb6.trans (hb7.mono (by omega))).trans (hb8.mono (by omega))
    have hbel8 := (hbel2.trans (hb5.mono hbel2.size)).trans (hb58.mono (by have := (hbel2.trans (hb5.mono hbel2.size)).size; omega))
    have hk68 := (Hhk6.out.below hb7 (by omega)).below hb8 (by omega)
    have t4 : w8.cell? ⟨w5.heap.size, 0, none⟩ = some (.int .i64 n1) := hk68.cell 0
    have t5 : w8.cell? ⟨w5.heap.size, 1, none⟩ = some (.slice X1 m1 q1) := hk68.cell 1
    have t6 : w8.cell? ⟨w7.heap.size, 0, none⟩ = some (.int .i64 n2) := hk8.cell 0
    have t7 : w8.cell? ⟨w7.heap.size, 1, none⟩ = some (.slice X2 m2 q2) := hk8.cell 1
    obtain ⟨rfl, rfl, X, O, P, lX, lO, lP, hX1, hX2, hO1, hO2, hP1, hP2⟩ := along_both (by omega) Hhend1.out hend2
    obtain ⟨rfl, _⟩ := hX1.len
    obtain ⟨hm2, _⟩ := hX2.len
    subst hm2
    obtain ⟨A11, cap11, rfl, hc11⟩ := hO1.form
    obtain ⟨A12, cap12, rfl, hc12⟩ := hO2.form
    obtain ⟨A13, cap13, rfl, hc13⟩ := hP1.form
    obtain ⟨A14, cap14, rfl, hc14⟩ := hP2.form
    have hX1' := (hX1.below keeps_tri hb58).keep keeps_tri (Below.refl _ _) hb58.size
    have hX2' := (hX2.below keeps_tri hb8).keep keeps_tri (Below.refl _ _) hb8.size
    have hO1' := (hO1.below keeps_int hb58).keep keeps_int (Below.refl _ _) hb58.size
    have hO2' := (hO2.below keeps_int hb8).keep keeps_int (Below.refl _ _) hb8.size
    have hP1' := (hP1.below keeps_4 hb58).keep keeps_4 (Below.refl _ _) hb58.size
    have hP2' := (hP2.below keeps_4 hb8).keep keeps_4 (Below.refl _ _) hb8.size
    have hsb := same15_calls (w := w8) (Na := n1) (Nb := n1) hX1' hX2' (Nat.le_refl _) (by omega)
    rw [decide_eq_true (show n1 = n1 ∧ X = X from ⟨rfl, rfl⟩)] at hsb
    have hsi := fun wz (hz : Below w8.heap.size w8 wz) => ints_calls (w := wz) ((hO1'.below keeps_int hz).keep keeps_int (Below.refl _ _) hz.size) ((hO2'.below keeps_int hz).keep keeps_int (Below.refl _ _) hz.size) (Nat.le_refl _) (by omega)
    rw [decide_eq_true (rfl : O = O)] at hsi
    have Hhend2 := Lib.hid hend2; clear hend2; have Hhk8 := Lib.hid hk8; clear hk8; have Hhk68 := Lib.hid hk68; clear hk68; have HhX1 := Lib.hid hX1; clear hX1; have HhX2 := Lib.hid hX2; clear hX2; have HhO1 := Lib.hid hO1; clear hO1; have HhO2 := Lib.hid hO2; clear hO2; have HhP1 := Lib.hid hP1; clear hP1; have HhP2 := Lib.hid hP2; clear hP2; have HhX1' := Lib.hid hX1'; clear hX1'; have HhX2' := Lib.hid hX2'; clear hX2'; have HhO1' := Lib.hid hO1'; clear hO1'; have HhO2' := Lib.hid hO2'; clear hO2'; have HhP1' := Lib.hid hP1'; clear hP1'; have HhP2' := Lib.hid hP2'; clear hP2'; have Hhsb := Lib.hid hsb; clear hsb; have Hhsi := Lib.hid hsi; clear hsi
    go_wp2_with fail
    clear hw8
    refine Hhsb.out.mono ?_
    rintro e w11 ⟨rfl, hb11⟩
    have hsi11 := Hhsi.out w11 hb11
    have Hhsi11 := Lib.hid hsi11; clear hsi11
    go_wp2_with fail
    refine Hhsi11.out.mono ?_
    rintro e w13 ⟨rfl, hb13⟩
    have hb813 := hb11.trans (hb13.mono hb11.size)
    have hbel13 := hbel8.trans (hb813.mono hbel8.size)
    have hr13 := Below.refl w13.heap.size w13
    go_wp2_with fail
    all_goals first | (exfalso; omega) | skip
    go_loopw [13] (fun iv wr => ∃ k : Nat, k ≤ P.length ∧ iv = .int .i64 (k : Int) ∧ Below w13.heap.size w13 wr) (fun iv _ => P.length - (intOf iv).toNat)
    case atStart => exact ⟨0, by omega, rfl, hr13⟩
    case round =>
      obtain ⟨k, hk, rfl, hbr3⟩ := hrel
      have hb8r := hb813.trans (hbr3.mono hb813.size)
      by_cases hkl : k < P.length
      · obtain ⟨ba, oa, rfl, hba, x1', x2', x3', x4'⟩ := (HhP1'.out.below keeps_4 hb8r).p4_at (List.getElem?_eq_getElem hkl)
        obtain ⟨bc, oc, rfl, hbc, y1', y2', y3', y4'⟩ := (HhP2'.out.below keeps_4 hb8r).p4_at (List.getElem?_eq_getElem hkl)
        generalize P[k] = pp at *
        obtain ⟨⟨z1, z2⟩, z3, z4⟩ := pp
        simp only [] at x1' x2' x3' x4' y1' y2' y3' y4'
        have hqa : ∀ w, Sem.run Tryz.prog (Op.equalIn 10000 39 (.agg #[.int .i64 z1, .int .i64 z2]) (.agg #[.int .i64 z1, .int .i64 z2])) w = .ok true w := fun w => by rw [edge_run20, decide_eq_true rfl]
        have hqb : ∀ w, Sem.run Tryz.prog (Op.equalIn 10000 39 (.agg #[.int .i64 z3, .int .i64 z4]) (.agg #[.int .i64 z3, .int .i64 z4])) w = .ok true w := fun w => by rw [edge_run20, decide_eq_true rfl]
        have hbr3' := hbr3.drew
        go_wp2_with fail
        refine Go.Canon.wp_region_text mixed (by kernel_rfl) ?_
        go_wp2_with fail
        refine Go.Canon.chk (by rfl) ?_
        go_wp2_with fail
        exact ⟨⟨k + 1, by omega, by simp, hbr3'⟩, by simp [intOf]; omega⟩
      · obtain rfl : k = P.length := by omega
        have hbf := hbel13.trans (hbr3.mono hbel13.size)
        go_wp2_with fail
        go_ret
        exact ⟨rfl, hbf⟩
end Go.Proofs.YtpbdcppaiafbgaaGreat
