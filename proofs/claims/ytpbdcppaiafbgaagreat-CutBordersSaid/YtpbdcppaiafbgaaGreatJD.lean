/- The law CutBorders, walked. -/
import Derived.Test.YtpbdcppaiafbgaaGreatIJ
import Derived.Test.YtpbdcppaiafbgaaGreatHL
import Derived.Test.YtpbdcppaiafbgaaGreatVB
namespace Go.Proofs.YtpbdcppaiafbgaaGreat
open Go Go.RowKit Go.Words Go.Mesh
set_option maxRecDepth 40000 in
set_option maxHeartbeats 8000000 in
theorem cutborders_law (sv : Value) (N : Int) (T : List T3) (v1 : Value) (l : List (Int × Int)) (w : World) {B : Nat} (hB0 : B ≤ w.heap.size) (hT : Sl 3 RTri w B sv T) (hN : I64 N) (h1 : Sl 2 RPair w B v1 l ∧ ∀ e ∈ l, ok2 e) :
    Calls Tryz.prog 8 #[.agg #[.int .i64 N, sv], v1] w fun e w' => e = .returned (.bool true) ∧ Below w.heap.size w w' := by
  obtain ⟨hl, hok⟩ := h1
  obtain ⟨A, cap, rfl, hcap⟩ := hT.form
  obtain ⟨A2, cap2, rfl, hcap2⟩ := hl.form
  have hb0 := (Below.refl w.heap.size w).alloc (Nat.le_refl _) (.cells #[.int .i64 N, .slice A T.length cap] 24)
  have hk0 := Bk.new w 24 [.int .i64 N, .slice A T.length cap]
  have haw := awake19_calls (w.alloc (.cells #[.int .i64 N, .slice A T.length cap] 24))
  have hz0 : w.heap.size + 1 ≤ (w.alloc (.cells #[.int .i64 N, .slice A T.length cap] 24)).heap.size := by simp
  generalize hw0 : w.alloc (.cells #[.int .i64 N, .slice A T.length cap] 24) = w0 at *
  have HhT := Lib.hid hT; clear hT; have Hhl := Lib.hid hl; clear hl; have Hhok := Lib.hid hok; clear hok; have Hhaw := Lib.hid haw; clear haw; have Hhk0 := Lib.hid hk0; clear hk0
  go_enter Tryz.func8, Tryz.ntmps8
  go_wp2_with fail
  clear hw0
  refine Hhaw.out.mono ?_
  rintro e w1 ⟨rfl, hb1⟩
  have hz1 := hb1.size
  have hbel1 := hb0.trans (hb1.mono hb0.size)
  have hk1 := Hhk0.out.below hb1 (by omega)
  have c0 : w1.cell? ⟨w.heap.size, 0, none⟩ = some (.int .i64 N) := hk1.cell 0
  have c1 : w1.cell? ⟨w.heap.size, 1, none⟩ = some (.slice A T.length cap) := hk1.cell 1
  have hk1 := hk1
  have hgr := great19_calls N A A2 T.length l.length cap cap2 w1
  obtain ⟨bg, hbg⟩ : ∃ bg, big19 N T.length l.length = bg := ⟨_, rfl⟩
  rw [hbg] at hgr
  have Hhk1 := Lib.hid hk1; clear hk1; have Hhgr := Lib.hid hgr; clear hgr
  go_wp2_with fail
  refine Hhgr.out.mono ?_
  rintro e w2 ⟨rfl, hb2⟩
  have hz2 := hb2.size
  have hbel2 := hbel1.trans (hb2.mono hbel1.size)
  cases bg with
  | true =>
    go_wp2_with fail
    go_ret
    exact ⟨rfl, hbel2⟩
  | false =>
    have hsm := small19 hbg
    have hk2 := Hhk1.out.below hb2 (by omega)
    have d0 : w2.cell? ⟨w.heap.size, 0, none⟩ = some (.int .i64 N) := hk2.cell 0
    have d1 : w2.cell? ⟨w.heap.size, 1, none⟩ = some (.slice A T.length cap) := hk2.cell 1
    have hT2 := HhT.out.below keeps_tri (hbel2.mono hB0)
    have hl2 := Hhl.out.below keeps_pair (hbel2.mono hB0)
    have hal := along_calls (w := w2) (show B ≤ w2.heap.size by omega) hT2 hN hl2 Hhok.out (by omega)
    have HhT2 := Lib.hid hT2; clear hT2; have Hhl2 := Lib.hid hl2; clear hl2; have Hhk2 := Lib.hid hk2; clear hk2; have Hhal := Lib.hid hal; clear hal
    go_wp2_with fail
    all_goals first | (exfalso; omega) | skip
    refine Hhal.out.mono ?_
    rintro e w3 ⟨⟨r, c, rfl, hend⟩, hb3⟩
    have hz3 := hb3.size
    have hbel3 := hbel2.trans (hb3.mono hbel2.size)
    have hk3 := Hhk2.out.below hb3 (by omega)
    have hT3 := HhT2.out.below keeps_tri (hb3.mono (show B ≤ w2.heap.size by omega))
    have hl3 := Hhl2.out.below keeps_pair (hb3.mono (show B ≤ w2.heap.size by omega))
    by_cases hc : c = 0
    case neg =>
      obtain rfl := hend.2.1 hc
      have hcb : (c != 0) = true := bne_iff_ne.2 hc
      have hbf := hbel3.alloc hbel3.size (.cells #[.int .i64 0, .slice none 0 0] 24)
      have Hhend := Lib.hid hend; clear hend; have Hhk3 := Lib.hid hk3; clear hk3; have Hhbf := Lib.hid hbf; clear hbf
      go_wp2_with fail
      go_ret
      exact ⟨rfl, Hhbf.out⟩
    subst hc
    obtain ⟨xv, wv, pv, Es, rfl, hcut, hX, hO, hP⟩ := hend.ok
    have hXl := hcut.numb.len
    have hpl := hcut.len
    have hle := hcut.undo.le
    have hsX := hcut.cut
    have hfew := hcut.few
    have hs := hcut.surf
    clear hend
    obtain ⟨A4, cap4, rfl, hcap4⟩ := hO.form
    obtain ⟨A5, cap5, rfl, hcap5⟩ := hP.form
    obtain ⟨A3, cap3, rfl, hcap3⟩ := hX.form
    have hasks := fun i hi => hcut.asks (i := i) hi
    have hbords := hcut.bords
    generalize pairsL N T l Es = P at *
    generalize newX N T (l.map nm) = X at *
    generalize newO N T (l.map nm) = O at *
    rw [hXl] at hX hcap3 ⊢
    rw [hpl] at hP hcap5 ⊢
    have hb4 := (Below.refl w3.heap.size w3).alloc (Nat.le_refl _) (.cells #[.int .i64 (O.length : Nat), .slice A3 T.length cap3] 24)
    have hk4 := Bk.new w3 24 [.int .i64 (O.length : Nat), .slice A3 T.length cap3]
    have hk34 := hk3.alloc (.cells #[.int .i64 (O.length : Nat), .slice A3 T.length cap3] 24)
    have hbel4 := hbel3.trans (hb4.mono hbel3.size)
    have hz4 : w3.heap.size + 1 ≤ (w3.alloc (.cells #[.int .i64 (O.length : Nat), .slice A3 T.length cap3] 24)).heap.size := by simp
    have hX4 := hX.below keeps_tri hb4
    have hO4 := hO.below keeps_int hb4
    have hP4 := hP.below keeps_4 hb4
    have hT4 := hT3.below keeps_tri (hb4.mono (show B ≤ w3.heap.size by omega))
    have hl4 := hl3.below keeps_pair (hb4.mono (show B ≤ w3.heap.size by omega))
    obtain ⟨w4, hw4⟩ : ∃ w4, w3.alloc (.cells #[.int .i64 (O.length : Nat), .slice A3 T.length cap3] 24) = w4 := ⟨_, rfl⟩
    rw [hw4] at hb4 hk4 hk34 hbel4 hz4 hX4 hO4 hP4 hT4 hl4
    have e0 : w4.cell? ⟨w3.heap.size, 0, none⟩ = some (.int .i64 (O.length : Nat)) := hk4.cell 0
    have e1 : w4.cell? ⟨w3.heap.size, 1, none⟩ = some (.slice A3 T.length cap3) := hk4.cell 1
    have s0 : w4.cell? ⟨w.heap.size, 0, none⟩ = some (.int .i64 N) := hk34.cell 0
    have s1 : w4.cell? ⟨w.heap.size, 1, none⟩ = some (.slice A T.length cap) := hk34.cell 1
    have hnT := new_calls (.slice A T.length cap) N T w4 (show B ≤ w4.heap.size by omega) hT4 hN
    have Hhk3 := Lib.hid hk3; clear hk3; have Hhk4 := Lib.hid hk4; clear hk4; have Hhk34 := Lib.hid hk34; clear hk34; have HhX := Lib.hid hX; clear hX; have HhO := Lib.hid hO; clear hO; have HhP := Lib.hid hP; clear hP; have HhX4 := Lib.hid hX4; clear hX4; have HhO4 := Lib.hid hO4; clear hO4; have HhP4 := Lib.hid hP4; clear hP4; have HhT4 := Lib.hid hT4; clear hT4; have Hhl4 := Lib.hid hl4; clear hl4; have HhT3 := Lib.hid hT3; clear hT3; have Hhl3 := Lib.hid hl3; clear hl3; have Hhcut := Lib.hid hcut; clear hcut; have HhsX := Lib.hid hsX; clear hsX; have Hhs := Lib.hid hs; clear hs; have HhnT := Lib.hid hnT; clear hnT; have Hhasks := Lib.hid hasks; clear hasks
    go_wp2_with fail
    clear hw4
    refine HhnT.out.mono ?_
    rintro e w5 ⟨⟨tv, a1, a2, a3, rfl, hor⟩, hb5⟩
    rcases hor with ⟨_, htab⟩ | ⟨h9, _⟩
    case inr => exact absurd Hhs.out h9
    obtain ⟨gt, rfl⟩ : ∃ g, tv = .pointer (some g) := by
      obtain ⟨g, _, _, _, _, _, rfl, _⟩ := htab
      exact ⟨_, rfl⟩
    have hz5 := hb5.size
    obtain ⟨w6, hw6⟩ : ∃ w6, w5.alloc (.cells #[.int .i64 a1, .int .i64 a2, .int .i64 a3] 48) = w6 := ⟨_, rfl⟩
    have hb6 : Below w5.heap.size w5 w6 := by rw [← hw6]; exact (Below.refl w5.heap.size w5).alloc (Nat.le_refl _) _
    have hz6 : w5.heap.size + 1 ≤ w6.heap.size := by rw [← hw6]; simp
    have hb46 : Below w4.heap.size w4 w6 := hb5.trans (hb6.mono hz5)
    have htab6 := htab.below hb6 (Nat.le_refl _)
    have hX6 := HhX4.out.below keeps_tri (hb46.mono (by omega))
    have f0 := (hb46.cell (p := ⟨w3.heap.size, 0, none⟩) (by show w3.heap.size < _; omega)).trans e0
    have f1 := (hb46.cell (p := ⟨w3.heap.size, 1, none⟩) (by show w3.heap.size < _; omega)).trans e1
    have hnX := new_calls (.slice A3 T.length cap3) (O.length : Nat) X w6 (show w3.heap.size ≤ w6.heap.size by omega) hX6 (I64.nat (by omega))
    have Hhtab := Lib.hid htab; clear htab; have Hhtab6 := Lib.hid htab6; clear htab6; have HhX6 := Lib.hid hX6; clear hX6; have HhnX := Lib.hid hnX; clear hnX
    go_wp2_with fail
    clear hw6
    refine HhnX.out.mono ?_
    rintro e w7 ⟨⟨uv, b1, b2, b3, rfl, hor⟩, hb7⟩
    rcases hor with ⟨_, hutab⟩ | ⟨h9, _⟩
    case inr => exact absurd HhsX.out h9
    obtain ⟨gu, rfl⟩ : ∃ g, uv = .pointer (some g) := by
      obtain ⟨g, _, _, _, _, _, rfl, _⟩ := hutab
      exact ⟨_, rfl⟩
    have hz7 := hb7.size
    obtain ⟨w8, hw8⟩ : ∃ w8, w7.alloc (.cells #[.int .i64 b1, .int .i64 b2, .int .i64 b3] 48) = w8 := ⟨_, rfl⟩
    have hb8 : Below w7.heap.size w7 w8 := by rw [← hw8]; exact (Below.refl w7.heap.size w7).alloc (Nat.le_refl _) _
    have hz8 : w7.heap.size + 1 ≤ w8.heap.size := by rw [← hw8]; simp
    have hb68 : Below w6.heap.size w6 w8 := hb7.trans (hb8.mono hz7)
    have hb48 : Below w4.heap.size w4 w8 := hb46.trans (hb68.mono (by omega))
    have hbel8 := hbel4.trans (hb48.mono hbel4.size)
    have htab8 := Hhtab6.out.below hb68 (by omega)
    have hutab8 := hutab.below hb8 (Nat.le_refl _)
    have g0 := (hb48.cell (p := ⟨w3.heap.size, 0, none⟩) (by show w3.heap.size < _; omega)).trans e0
    have g1 := (hb48.cell (p := ⟨w3.heap.size, 1, none⟩) (by show w3.heap.size < _; omega)).trans e1
    have r0 := (hb48.cell (p := ⟨w.heap.size, 0, none⟩) (by show w.heap.size < _; omega)).trans s0
    have r1 := (hb48.cell (p := ⟨w.heap.size, 1, none⟩) (by show w.heap.size < _; omega)).trans s1
    have hT8 := HhT4.out.below keeps_tri (hb48.mono (by omega))
    have hl8 := Hhl4.out.below keeps_pair (hb48.mono (by omega))
    have hO8 := HhO4.out.below keeps_int (hb48.mono (by omega))
    have hP8 := HhP4.out.below keeps_4 (hb48.mono (by omega))
    have hbx := bedges_calls (.inl hutab8) HhsX.out
    have hbt := fun wz (hz : Below w8.heap.size w8 wz) => bedges_calls (TabN.below (.inl htab8) hz (by omega)) Hhs.out
    obtain ⟨gA, hgA⟩ : ∃ gA, (bedges T).length = gA := ⟨_, rfl⟩
    obtain ⟨gB, hgB⟩ : ∃ gB, (bedges X).length = gB := ⟨_, rfl⟩
    have hfT := bord_len T
    have hgA9 : gA ≤ 1000 := by
      rw [← hgA]
      unfold bedges
      rw [List.length_map]
      omega
    rw [hgA] at hbt hbords
    rw [hgB] at hbx hbords
    clear hgA hgB hfT
    have Hhbx := Lib.hid hbx; clear hbx; have Hhbt := Lib.hid hbt; clear hbt; have Hhtab8 := Lib.hid htab8; clear htab8; have Hhutab8 := Lib.hid hutab8; clear hutab8; have HhT8 := Lib.hid hT8; clear hT8; have Hhl8 := Lib.hid hl8; clear hl8; have HhO8 := Lib.hid hO8; clear hO8; have HhP8 := Lib.hid hP8; clear hP8
    go_wp2_with fail
    clear hw8
    all_goals first | (exfalso; omega) | skip
    refine Hhbx.out.mono ?_
    rintro e w9 ⟨⟨rx, rfl, hownx⟩, hb9⟩
    obtain ⟨A8, cap8, rfl, hc8⟩ := own_form hownx
    have hz9 := hb9.size
    have hbt9 := Hhbt.out w9 hb9
    have Hhownx := Lib.hid hownx; clear hownx; have Hhbt9 := Lib.hid hbt9; clear hbt9
    go_wp2_with fail
    refine Hhbt9.out.mono ?_
    rintro e w10 ⟨⟨rt, rfl, hownt⟩, hb10⟩
    obtain ⟨A9, cap9, rfl, hc9⟩ := own_form hownt
    have hz10 := hb10.size
    have hb810 : Below w8.heap.size w8 w10 := hb9.trans (hb10.mono hz9)
    have hbel10 := hbel8.trans (hb810.mono hbel8.size)
    have hg2 : (gB : Int) = (gA : Int) + 2 * (l.length : Int) := by omega
    have c0 := (hb810.cell (p := ⟨w3.heap.size, 0, none⟩) (by show w3.heap.size < _; omega)).trans g0
    have d0 := (hb810.cell (p := ⟨w.heap.size, 0, none⟩) (by show w.heap.size < _; omega)).trans r0
    have d1 := (hb810.cell (p := ⟨w.heap.size, 1, none⟩) (by show w.heap.size < _; omega)).trans r1
    have Hhownt := Lib.hid hownt; clear hownt
    go_wp2_with fail
    all_goals first | (exfalso; omega) | skip
    go_loopw [13] (fun iv wr => ∃ i : Nat, i ≤ l.length ∧ iv = .int .i64 (i : Int) ∧ Below w10.heap.size w10 wr) (fun iv _ => l.length - (intOf iv).toNat)
    case atStart => exact ⟨0, by omega, rfl, Below.refl _ _⟩
    case round =>
      obtain ⟨i, hi, rfl, hbr⟩ := hrel
      obtain ⟨wq, hwq⟩ : ∃ wq, wq = wr := ⟨_, rfl⟩
      subst hwq
      have hzr := hbr.size
      have hb8r : Below w8.heap.size w8 wq := hb810.trans (hbr.mono (by omega))
      by_cases hil : i < l.length
      · obtain ⟨a, b, c, d, n1, n2, n3, n4, hpi, hab, hnear, fc, hcl, oc, fd, hdl, od, o1, o2, o3, o4⟩ := Hhasks.out i (by rw [hpl]; exact hil)
        obtain ⟨bp, op, rfl, hbp, x1, x2, x3, x4⟩ := (HhP8.out.below keeps_4 (hb8r.mono (by omega))).p4_at (List.getElem?_eq_getElem (show i < P.length by rw [hpl]; exact hil))
        rw [hpi] at x1 x2 x3 x4
        simp only [] at x1 x2 x3 x4
        have hl1 := (List.getElem?_eq_some_iff.1 o1).1
        have hl2 := (List.getElem?_eq_some_iff.1 o2).1
        have hl3 := (List.getElem?_eq_some_iff.1 o3).1
        have hl4 := (List.getElem?_eq_some_iff.1 o4).1
        have hpw : bp < wq.heap.size := by omega
        obtain ⟨wa, hwa⟩ : ∃ wa, wq.drew.alloc (.cells #[.int .i64 (n1 : Int), .int .i64 (n2 : Int), .int .i64 (n3 : Int), .int .i64 (n4 : Int)] 39) = wa := ⟨_, rfl⟩
        have hba : Below wq.heap.size wq wa := by rw [← hwa]; exact (Below.refl wq.heap.size wq).drew.alloc (by simp) _
        have hka : Bk wa wq.heap.size 39 [.int .i64 (n1 : Int), .int .i64 (n2 : Int), .int .i64 (n3 : Int), .int .i64 (n4 : Int)] := by rw [← hwa]; exact Bk.new' _ _ (by simp)
        have hza : wq.heap.size + 1 ≤ wa.heap.size := by rw [← hwa]; simp
        have hb8a : Below w8.heap.size w8 wa := hb8r.trans (hba.mono (by omega))
        have t1 : wa.cell? ⟨wq.heap.size, 0, none⟩ = some (.int .i64 (n1 : Int)) := hka.cell 0
        have t2 : wa.cell? ⟨wq.heap.size, 1, none⟩ = some (.int .i64 (n2 : Int)) := hka.cell 1
        have t3 : wa.cell? ⟨wq.heap.size, 2, none⟩ = some (.int .i64 (n3 : Int)) := hka.cell 2
        have t4 : wa.cell? ⟨wq.heap.size, 3, none⟩ = some (.int .i64 (n4 : Int)) := hka.cell 3
        have hf1 := fun wz (hz : Below w8.heap.size w8 wz) => facing_calls (Hhutab8.out.below hz (by omega)) (n1 : Int) (n2 : Int) (I64.nat (by omega)) (I64.nat (by omega))
        have hf2 := fun wz (hz : Below w8.heap.size w8 wz) => facing_calls (Hhutab8.out.below hz (by omega)) (n3 : Int) (n4 : Int) (I64.nat (by omega)) (I64.nat (by omega))
        have hp1 := fun wz (hz : Below w8.heap.size w8 wz) => opp_at (Hhutab8.out.below hz (by omega)) HhsX.out (show c < 3 * X.length by omega)
        have hp2 := fun wz (hz : Below w8.heap.size w8 wz) => opp_at (Hhutab8.out.below hz (by omega)) HhsX.out (show d < 3 * X.length by omega)
        rw [fc] at hf1
        rw [fd] at hf2
        rw [oc] at hp1
        rw [od] at hp2
        change ∀ wz, Below w8.heap.size w8 wz → Calls _ _ _ wz (fun r w' => r = .returned (.int .i64 (c : Int)) ∧ _) at hf1
        change ∀ wz, Below w8.heap.size w8 wz → Calls _ _ _ wz (fun r w' => r = .returned (.int .i64 (d : Int)) ∧ _) at hf2
        change ∀ wz, Below w8.heap.size w8 wz → Calls _ _ _ wz (fun r w' => r = .returned (.int .i64 (-1)) ∧ _) at hp1
        change ∀ wz, Below w8.heap.size w8 wz → Calls _ _ _ wz (fun r w' => r = .returned (.int .i64 (-1)) ∧ _) at hp2
        have ho1' := o1
        have ho2' := o2
        have ho3' := o3
        have ho4' := o4
        have Hhpi := Lib.hid hpi; clear hpi; have Hhnear := Lib.hid hnear; clear hnear; have Hfc := Lib.hid fc; clear fc; have Hoc := Lib.hid oc; clear oc; have Hfd := Lib.hid fd; clear fd; have Hod := Lib.hid od; clear od; have Hho1' := Lib.hid ho1'; clear ho1'; have Hho2' := Lib.hid ho2'; clear ho2'; have Hho3' := Lib.hid ho3'; clear ho3'; have Hho4' := Lib.hid ho4'; clear ho4'; have Hhka := Lib.hid hka; clear hka; have Hhf1 := Lib.hid hf1; clear hf1; have Hhf2 := Lib.hid hf2; clear hf2; have Hhp1 := Lib.hid hp1; clear hp1; have Hhp2 := Lib.hid hp2; clear hp2
        clear o1 o2 o3 o4
        go_wp2_with fail
        refine Go.Canon.wp_region_text mixed (by kernel_rfl) ?_
        go_wp2_with fail
        refine Go.Canon.chk (by rfl) ?_
        go_wp2_with fail
        clear hwa
        go_loopw [15] (fun kv wr => ∃ k : Nat, k ≤ 2 ∧ kv = .int .i64 (k : Int) ∧ Below wa.heap.size wa wr) (fun kv _ => 2 - (intOf kv).toNat)
        case atStart => exact ⟨0, by omega, rfl, Below.refl _ _⟩
        case round =>
          obtain ⟨k, hk, rfl, hbq⟩ := hrel
          have hzq := hbq.size
          have hb8q : Below w8.heap.size w8 wr := hb8a.trans (hbq.mono (by omega))
          have hqa : wq.heap.size < wa.heap.size := by omega
          have y1 := (hbq.cell (p := ⟨wq.heap.size, 0, none⟩) hqa).trans t1
          have y2 := (hbq.cell (p := ⟨wq.heap.size, 1, none⟩) hqa).trans t2
          have y3 := (hbq.cell (p := ⟨wq.heap.size, 2, none⟩) hqa).trans t3
          have y4 := (hbq.cell (p := ⟨wq.heap.size, 3, none⟩) hqa).trans t4
          have hk3 : k = 0 ∨ k = 1 ∨ k = 2 := by omega
          rcases hk3 with rfl | rfl | rfl
          · -- one of the two edges
            have hfk := Hhf1.out wr hb8q
            have Hhfk := Lib.hid hfk; clear hfk
            go_wp2_with fail
            refine Hhfk.out.mono ?_
            rintro e wz ⟨rfl, hbz⟩
            have hzz := hbz.size
            have hb8z := hb8q.trans (hbz.mono hb8q.size)
            have hoz := Hhp1.out wz hb8z
            have Hhoz := Lib.hid hoz; clear hoz
            go_wp2_with fail
            all_goals first | (exfalso; omega) | skip
            refine Hhoz.out.mono ?_
            rintro e wy ⟨rfl, hby⟩
            have hzy := hby.size
            have hbqy := hbq.trans ((hbz.trans (hby.mono hbz.size)).mono hbq.size)
            have u0 := (((hbz.trans (hby.mono hbz.size))).cell (p := ⟨wq.heap.size, 0, none⟩) (show wq.heap.size < wr.heap.size by omega)).trans y1
            have u1 := (((hbz.trans (hby.mono hbz.size))).cell (p := ⟨wq.heap.size, 0 + 1, none⟩) (show wq.heap.size < wr.heap.size by omega)).trans y2
            simp only [Nat.reduceAdd] at u1
            have hg1 : ¬ ((O.length : Int) ≤ (n1 : Int)) := by omega
            have hg2 : ¬ ((O.length : Int) ≤ (n2 : Int)) := by omega
            go_wp2_with fail
            all_goals first | (exfalso; omega) | skip
            exact ⟨⟨_, by decide, rfl, hbqy⟩, by simp [intOf]⟩
          · -- one of the two edges
            have hfk := Hhf2.out wr hb8q
            have Hhfk := Lib.hid hfk; clear hfk
            go_wp2_with fail
            refine Hhfk.out.mono ?_
            rintro e wz ⟨rfl, hbz⟩
            have hzz := hbz.size
            have hb8z := hb8q.trans (hbz.mono hb8q.size)
            have hoz := Hhp2.out wz hb8z
            have Hhoz := Lib.hid hoz; clear hoz
            go_wp2_with fail
            all_goals first | (exfalso; omega) | skip
            refine Hhoz.out.mono ?_
            rintro e wy ⟨rfl, hby⟩
            have hzy := hby.size
            have hbqy := hbq.trans ((hbz.trans (hby.mono hbz.size)).mono hbq.size)
            have u0 := (((hbz.trans (hby.mono hbz.size))).cell (p := ⟨wq.heap.size, 2, none⟩) (show wq.heap.size < wr.heap.size by omega)).trans y3
            have u1 := (((hbz.trans (hby.mono hbz.size))).cell (p := ⟨wq.heap.size, 2 + 1, none⟩) (show wq.heap.size < wr.heap.size by omega)).trans y4
            simp only [Nat.reduceAdd] at u1
            have hg1 : ¬ ((O.length : Int) ≤ (n3 : Int)) := by omega
            have hg2 : ¬ ((O.length : Int) ≤ (n4 : Int)) := by omega
            go_wp2_with fail
            all_goals first | (exfalso; omega) | skip
            exact ⟨⟨_, by decide, rfl, hbqy⟩, by simp [intOf]⟩
          · have hOr := HhO8.out.below keeps_int (hb8q.mono (by omega))
            obtain ⟨bo, oo, rfl, hbo, z1⟩ := hOr.int_at hl1
            obtain ⟨_, _, e9, _, z2⟩ := hOr.int_at hl2
            injection e9 with e9; injection e9 with e9 e7 _; subst e9; subst e7
            obtain ⟨_, _, e9, _, z3⟩ := hOr.int_at hl3
            injection e9 with e9; injection e9 with e9 e7 _; subst e9; subst e7
            obtain ⟨_, _, e9, _, z4⟩ := hOr.int_at hl4
            injection e9 with e9; injection e9 with e9 e7 _; subst e9; subst e7
            rw [(List.getElem?_eq_some_iff.1 Hho1'.out).2] at z1
            rw [(List.getElem?_eq_some_iff.1 Hho2'.out).2] at z2
            rw [(List.getElem?_eq_some_iff.1 Hho3'.out).2] at z3
            rw [(List.getElem?_eq_some_iff.1 Hho4'.out).2] at z4
            have hqp : Below wq.heap.size wq wr := hba.trans (hbq.mono (by omega))
            have p1 := (hqp.cell (p := ⟨bp, op + i * 4, none⟩) hpw).trans x1
            have p2 := (hqp.cell (p := ⟨bp, op + i * 4 + 1, none⟩) hpw).trans x2
            have p3 := (hqp.cell (p := ⟨bp, op + i * 4 + 2, none⟩) hpw).trans x3
            have p4 := (hqp.cell (p := ⟨bp, op + i * 4 + 3, none⟩) hpw).trans x4
            have s0' := (hb8q.cell (p := ⟨w.heap.size, 0, none⟩) (by show w.heap.size < _; omega)).trans r0
            have s1' := (hb8q.cell (p := ⟨w.heap.size, 1, none⟩) (by show w.heap.size < _; omega)).trans r1
            have hnc := refNear_calls (w := wr.drew) ((HhT8.out.below keeps_tri (hb8q.mono (by omega))).drew keeps_tri) (show B ≤ wr.drew.heap.size by show B ≤ wr.heap.size; omega) Hhs.out a b
            rw [Hhnear.out] at hnc
            have hne1 : (b != b) = false := by simp
            have hne2 : (a != a) = false := by simp
            have hbnn : Below w10.heap.size w10 wr.drew := (hbr.trans (hqp.mono (by omega))).drew
            have HhOr := Lib.hid hOr; clear hOr; have Hhnc := Lib.hid hnc; clear hnc
            go_wp2_with fail
            refine Go.Canon.wp_region_text mixed (by kernel_rfl) ?_
            go_wp2_with fail
            refine Go.Canon.chk (by rfl) ?_
            go_wp2_with fail
            all_goals first | (exfalso; omega) | skip
            refine Hhnc.out.mono ?_
            rintro e wz ⟨rfl, hbz⟩
            have hbF := hbnn.trans (hbz.mono hbnn.size)
            go_wp2_with fail
            exact ⟨⟨i + 1, by omega, by simp, hbF⟩, by simp [intOf]; omega⟩
      · obtain rfl : i = l.length := by omega
        have hbf := hbel10.trans (hbr.mono hbel10.size)
        go_wp2_with fail
        go_ret
        exact ⟨rfl, hbf⟩
end Go.Proofs.YtpbdcppaiafbgaaGreat
