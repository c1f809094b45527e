/- The law CutWrong, walked. -/
import Derived.Test.YtpbdcppaiafbgaaGreatIJ
import Derived.Test.YtpbdcppaiafbgaaGreatHM
import Derived.Test.YtpbdcppaiafbgaaGreatBM
namespace Go.Proofs.YtpbdcppaiafbgaaGreat
open Go Go.RowKit Go.Words Go.Mesh
set_option maxRecDepth 40000 in
set_option maxHeartbeats 8000000 in
theorem cutwrong_law (sv : Value) (N : Int) (T : List T3) (x : Int) (w : World) {B : Nat} (hB0 : B ≤ w.heap.size) (hT : Sl 3 RTri w B sv T) (hN : I64 N) (hx : I64 x) :
    Calls Tryz.prog 5 #[.agg #[.int .i64 N, sv], .int .i64 x] w fun e w' => e = .returned (.bool true) ∧ Below w.heap.size w w' := by
  obtain ⟨A, cap, rfl, hcap⟩ := hT.form
  have hb0 := (Below.refl w.heap.size w).alloc (Nat.le_refl _) (.cells #[.int .i64 N, .slice A T.length cap] 24)
  have hk0 := Bk.new w 24 [.int .i64 N, .slice A T.length cap]
  have haw := awake19_calls (w.alloc (.cells #[.int .i64 N, .slice A T.length cap] 24))
  have hz0 : w.heap.size + 1 ≤ (w.alloc (.cells #[.int .i64 N, .slice A T.length cap] 24)).heap.size := by simp
  generalize hw0 : w.alloc (.cells #[.int .i64 N, .slice A T.length cap] 24) = w0 at *
  have HhT := Lib.hid hT; clear hT; have Hhaw := Lib.hid haw; clear haw; have Hhk0 := Lib.hid hk0; clear hk0
  go_enter Tryz.func5, Tryz.ntmps5
  go_wp2_with fail
  clear hw0
  refine Hhaw.out.mono ?_
  rintro e w1 ⟨rfl, hb1⟩
  have hz1 := hb1.size
  have hbel1 := hb0.trans (hb1.mono hb0.size)
  have hk1 := Hhk0.out.below hb1 (by omega)
  have c0 : w1.cell? ⟨w.heap.size, 0, none⟩ = some (.int .i64 N) := hk1.cell 0
  have c1 : w1.cell? ⟨w.heap.size, 1, none⟩ = some (.slice A T.length cap) := hk1.cell 1
  have hk1 := hk1
  have hgr := great19_calls N A none T.length 0 cap 0 w1
  obtain ⟨bg, hbg⟩ : ∃ bg, big19 N T.length 0 = bg := ⟨_, rfl⟩
  rw [hbg] at hgr
  have Hhk1 := Lib.hid hk1; clear hk1; have Hhgr := Lib.hid hgr; clear hgr
  go_wp2_with fail
  refine Hhgr.out.mono ?_
  rintro e w2 ⟨rfl, hb2⟩
  have hz2 := hb2.size
  have hbel2 := hbel1.trans (hb2.mono hbel1.size)
  cases bg with
  | true =>
    go_wp2_with fail
    go_ret
    exact ⟨rfl, hbel2⟩
  | false =>
    have hsm := small19 hbg
    have hk2 := Hhk1.out.below hb2 (by omega)
    have d0 : w2.cell? ⟨w.heap.size, 0, none⟩ = some (.int .i64 N) := hk2.cell 0
    have d1 : w2.cell? ⟨w.heap.size, 1, none⟩ = some (.slice A T.length cap) := hk2.cell 1
    have hT2 := HhT.out.below keeps_tri (hbel2.mono hB0)
    have hnw := new_calls (.slice A T.length cap) N T w2 (show B ≤ w2.heap.size by omega) hT2 hN
    have HhT2 := Lib.hid hT2; clear hT2; have Hhk2 := Lib.hid hk2; clear hk2; have Hhnw := Lib.hid hnw; clear hnw
    go_wp2_with fail
    refine Hhnw.out.mono ?_
    rintro e w3 ⟨⟨pv, x1, x2, x3, rfl, hor⟩, hb3⟩
    have hz3 := hb3.size
    have hbel3 := hbel2.trans (hb3.mono hbel2.size)
    have hk3 := (Hhk2.out.below hb3 (by omega)).alloc (.cells #[.int .i64 x1, .int .i64 x2, .int .i64 x3] 48)
    have hb4 := (Below.refl w3.heap.size w3).alloc (Nat.le_refl _) (.cells #[.int .i64 x1, .int .i64 x2, .int .i64 x3] 48)
    have hbel4 := hbel3.trans (hb4.mono hbel3.size)
    have hT4 := HhT2.out.below keeps_tri ((hb3.mono (show B ≤ w2.heap.size by omega)).trans (hb4.mono (show B ≤ w3.heap.size by omega)))
    have hz4 : w3.heap.size + 1 ≤ (w3.alloc (.cells #[.int .i64 x1, .int .i64 x2, .int .i64 x3] 48)).heap.size := by simp
    have hf4 : N + 3 * (T.length : Int) ≤ 4096 := by omega
    have htab4 : Surf N T → ∃ t, pv = .pointer (some t) ∧ Tab (w3.alloc (.cells #[.int .i64 x1, .int .i64 x2, .int .i64 x3] 48)) w3.heap.size pv N T := fun hs => by
      rcases hor with ⟨_, h9⟩ | ⟨h9, _⟩
      · have h9' := h9.below hb4 (Nat.le_refl _)
        obtain ⟨g, _, _, _, _, _, e9, _⟩ := h9
        exact ⟨_, e9, h9'⟩
      · exact absurd hs h9
    have hno4 : ¬ Surf N T → pv = .pointer none := fun hs => by
      rcases hor with ⟨h9, _⟩ | ⟨_, h9⟩
      · exact absurd h9 hs
      · exact h9
    obtain ⟨w4, hw4⟩ : ∃ w4, w3.alloc (.cells #[.int .i64 x1, .int .i64 x2, .int .i64 x3] 48) = w4 := ⟨_, rfl⟩
    rw [hw4] at hk3 hb4 hbel4 hT4 hz4 htab4
    have e0 : w4.cell? ⟨w.heap.size, 0, none⟩ = some (.int .i64 N) := hk3.cell 0
    have e1 : w4.cell? ⟨w.heap.size, 1, none⟩ = some (.slice A T.length cap) := hk3.cell 1
    have hal := fun (l : List (Int × Int)) (hok : ∀ e ∈ l, ok2 e) (hll : l.length ≤ 1000) (wz : World) (hz : Below w4.heap.size w4 wz) (hl : Sl 2 RPair (wz.alloc (.cells (flat2 l).toArray 39)) (wz.heap.size + 1) (.slice (some ⟨wz.heap.size, 0, none⟩) l.length l.length) l) =>
      along_calls (w := wz.alloc (.cells (flat2 l).toArray 39)) (B := wz.heap.size + 1) (by simp) (((hT4.below keeps_tri (hz.mono (show B ≤ w4.heap.size by omega))).below keeps_tri ((Below.refl B wz).alloc (show B ≤ wz.heap.size by have := hz.size; omega) (.cells (flat2 l).toArray 39))).keep keeps_tri (Below.refl _ _) (show B ≤ wz.heap.size + 1 by have := hz.size; omega)) hN hl hok hll
    clear hor
    by_cases hin : Surf N T ∧ 0 ≤ x ∧ x < 3 * (T.length : Int)
    case neg =>
      -- no such corner
      have hbl : Bk (w4.alloc (.cells (flat2 [((0 : Int), (0 : Int))]).toArray 39)) w4.heap.size 39 (flat2 [((0 : Int), (0 : Int))]) := Bk.new w4 _ _
      have hsl := edges_block (l := [((0 : Int), (0 : Int))]) hbl (Nat.le_refl _)
      have hal1 := hal [(0, 0)] (fun e he => by rw [List.mem_singleton.1 he]; exact ⟨by unfold I64; decide, by unfold I64; decide⟩) (by decide) w4 (Below.refl _ _) (hsl.keep keeps_pair (Below.refl _ _) (by simp))
      have hb5 := (Below.refl w4.heap.size w4).alloc (Nat.le_refl _) (.cells #[.int .i64 0, .int .i64 0] 39)
      have hbel5 := hbel4.trans (hb5.mono hbel4.size)
      change Calls _ _ #[.agg #[.int .i64 N, .slice A T.length cap], .slice (some ⟨w4.heap.size, 0, none⟩) 1 1] (w4.alloc (.cells #[.int .i64 0, .int .i64 0] 39)) _ at hal1
      have hx0 : Surf N T → x < 0 ∨ (¬ x < 0 ∧ 3 * (T.length : Int) ≤ x) := fun hs => by
        rcases Int.lt_or_le x 0 with h9 | h9
        · exact .inl h9
        · exact .inr ⟨by omega, Int.not_lt.1 fun h8 => hin ⟨hs, h9, h8⟩⟩
      by_cases hs : Surf N T
      · obtain ⟨t, rfl, htab⟩ := htab4 hs
        have hx1 := hx0 hs
        have hcc := fun (w' : World) (r : Value) (c : Int) (h : AlongEnd w' N T [(0, 0)] r c) => one_cut hs hf4 h.1
        rw [addC_self hs 0] at hcc
        have Hhal := Lib.hid hal; clear hal; have Hhal1 := Lib.hid hal1; clear hal1; have Hhsl := Lib.hid hsl; clear hsl; have Hhbl := Lib.hid hbl; clear hbl; have Hhtab4 := Lib.hid htab4; clear htab4; have Hhno4 := Lib.hid hno4; clear hno4; have HhT4 := Lib.hid hT4; clear hT4; have Hhk3 := Lib.hid hk3; clear hk3; have Hhin := Lib.hid hin; clear hin; have Hhtab := Lib.hid htab; clear htab; have Hhs := Lib.hid hs; clear hs; have Hhx0 := Lib.hid hx0; clear hx0; have Hhcc := Lib.hid hcc; clear hcc
        rcases hx1 with hx1 | ⟨hx1, hx2⟩
        · go_wp2_with fail
          all_goals first | (exfalso; omega) | skip
          clear hw4
          refine Hhal1.out.mono ?_
          rintro e w6 ⟨⟨r, c, rfl, hend⟩, hb6⟩
          obtain rfl := Hhcc.out _ _ _ hend
          obtain ⟨n0, A9, n9, c9, wv, pv, rfl⟩ := hend.shape
          have hbel6 := (hbel5.trans (hb6.mono hbel5.size)).alloc (hbel5.trans (hb6.mono hbel5.size)).size (.cells #[.int .i64 n0, .slice A9 n9 c9] 24)
          have Hhend := Lib.hid hend; clear hend; have Hhbel6 := Lib.hid hbel6; clear hbel6
          go_wp2_with fail
          go_ret
          exact ⟨rfl, Hhbel6.out⟩
        · go_wp2_with fail
          all_goals first | (exfalso; omega) | skip
          clear hw4
          all_goals first | (exfalso; omega) | skip
          refine Hhal1.out.mono ?_
          rintro e w6 ⟨⟨r, c, rfl, hend⟩, hb6⟩
          obtain rfl := Hhcc.out _ _ _ hend
          obtain ⟨n0, A9, n9, c9, wv, pv, rfl⟩ := hend.shape
          have hbel6 := (hbel5.trans (hb6.mono hbel5.size)).alloc (hbel5.trans (hb6.mono hbel5.size)).size (.cells #[.int .i64 n0, .slice A9 n9 c9] 24)
          have Hhend := Lib.hid hend; clear hend; have Hhbel6 := Lib.hid hbel6; clear hbel6
          go_wp2_with fail
          go_ret
          exact ⟨rfl, Hhbel6.out⟩
      · obtain rfl := hno4 hs
        have hcc : ∀ (w' : World) (r : Value) (c : Int), AlongEnd w' N T [(0, 0)] r c → c = 11 := fun w' r c h => by
          rcases h.1 with ⟨_, h9⟩ | ⟨h9, _⟩ | ⟨h9, _⟩
          · exact h9
          · exact absurd h9 hs
          · exact absurd h9 hs
        have Hhal := Lib.hid hal; clear hal; have Hhal1 := Lib.hid hal1; clear hal1; have Hhsl := Lib.hid hsl; clear hsl; have Hhbl := Lib.hid hbl; clear hbl; have Hhtab4 := Lib.hid htab4; clear htab4; have Hhno4 := Lib.hid hno4; clear hno4; have HhT4 := Lib.hid hT4; clear hT4; have Hhk3 := Lib.hid hk3; clear hk3; have Hhin := Lib.hid hin; clear hin; have Hhs := Lib.hid hs; clear hs; have Hhx0 := Lib.hid hx0; clear hx0; have Hhcc := Lib.hid hcc; clear hcc
        go_wp2_with fail
        all_goals first | (exfalso; omega) | skip
        clear hw4
        refine Hhal1.out.mono ?_
        rintro e w6 ⟨⟨r, c, rfl, hend⟩, hb6⟩
        obtain rfl := Hhcc.out _ _ _ hend
        obtain ⟨n0, A9, n9, c9, wv, pv, rfl⟩ := hend.shape
        have hbel6 := (hbel5.trans (hb6.mono hbel5.size)).alloc (hbel5.trans (hb6.mono hbel5.size)).size (.cells #[.int .i64 n0, .slice A9 n9 c9] 24)
        have Hhend := Lib.hid hend; clear hend; have Hhbel6 := Lib.hid hbel6; clear hbel6
        go_wp2_with fail
        go_ret
        exact ⟨rfl, Hhbel6.out⟩
    case pos =>
      obtain ⟨hs, hx0, hx1⟩ := hin
      obtain ⟨c, rfl⟩ : ∃ c : Nat, x = (c : Int) := ⟨x.toNat, by omega⟩
      have hc : c < 3 * T.length := by omega
      obtain ⟨t, rfl, htab⟩ := htab4 hs
      have hed := tab_edge htab hc
      have hbord := addC_eg hs hc
      have hone := fun (w' : World) (r : Value) (k : Int) (h : AlongEnd w' N T [eg T c] r k) => one_cut hs hf4 h.1
      have htwo := fun (w' : World) (r : Value) (k : Int) (h : AlongEnd w' N T [eg T c, ((eg T c).2, (eg T c).1)] r k) => two_cut hs h.1
      rw [hbord] at hone htwo
      have hok : ok2 (eg T c) := by
        have a := hs.rng _ (nx_lt hc)
        have b := hs.rng _ (pv_lt hc)
        unfold ok2 I64 eg
        simp only []
        omega
      have hop := fun (wz : World) (hz : Below w4.heap.size w4 wz) => opp_at (htab.below hz (by omega)) hs hc
      have hin1 := fun (wz : World) (hz : Below w4.heap.size w4 wz) => inner_calls (.inl (htab.below hz (by omega))) hs (eg T c).1
      have hin2 := fun (wz : World) (hz : Below w4.heap.size w4 wz) => inner_calls (.inl (htab.below hz (by omega))) hs (eg T c).2
      obtain ⟨i1, hi1⟩ : ∃ i1, innerAt T N (eg T c).1 = i1 := ⟨_, rfl⟩
      obtain ⟨i2, hi2⟩ : ∃ i2, innerAt T N (eg T c).2 = i2 := ⟨_, rfl⟩
      rw [hi1] at hone hin1
      rw [hi2] at hone hin2
      generalize eg T c = ed at *
      obtain ⟨y1, y2⟩ := ed
      change Calls Tryz.prog 26 #[.pointer (some t), .int .i64 (c : Int)] w4 fun e w' => e = .returned (.agg #[.int .i64 y1, .int .i64 y2]) ∧ _ at hed
      have hc9 : ¬ ((c : Int) < 0) := by omega
      have hc8 : ¬ (3 * (T.length : Int) ≤ (c : Int)) := by omega
      have Hhal := Lib.hid hal; clear hal; have Hhtab4 := Lib.hid htab4; clear htab4; have Hhno4 := Lib.hid hno4; clear hno4; have HhT4 := Lib.hid hT4; clear hT4; have Hhk3 := Lib.hid hk3; clear hk3; have Hhtab := Lib.hid htab; clear htab; have Hhs := Lib.hid hs; clear hs; have Hhone := Lib.hid hone; clear hone; have Hhtwo := Lib.hid htwo; clear htwo; have Hhbord := Lib.hid hbord; clear hbord; have Hhok := Lib.hid hok; clear hok; have Hhop := Lib.hid hop; clear hop; have Hhin1 := Lib.hid hin1; clear hin1; have Hhin2 := Lib.hid hin2; clear hin2; have Hhi1 := Lib.hid hi1; clear hi1; have Hhi2 := Lib.hid hi2; clear hi2; have Hhed := Lib.hid hed; clear hed
      go_wp2_with fail
      all_goals first | (exfalso; omega) | skip
      clear hw4
      refine Hhed.out.mono ?_
      rintro e w5 ⟨rfl, hb5⟩
      have hz5 := hb5.size
      have hk5 := (Hhk3.out.below hb5 (by omega)).alloc (.cells #[.int .i64 y1, .int .i64 y2] 39)
      have hkE := Bk.new w5 39 [.int .i64 y1, .int .i64 y2]
      have hb6 : Below w4.heap.size w4 (w5.alloc (.cells #[.int .i64 y1, .int .i64 y2] 39)) := hb5.alloc hz5 _
      have hz6 : w5.heap.size + 1 ≤ (w5.alloc (.cells #[.int .i64 y1, .int .i64 y2] 39)).heap.size := by simp
      obtain ⟨w6, hw6⟩ : ∃ w6, w5.alloc (.cells #[.int .i64 y1, .int .i64 y2] 39) = w6 := ⟨_, rfl⟩
      rw [hw6] at hk5 hb6 hz6
      have hkE : Bk w6 w5.heap.size 39 [.int .i64 y1, .int .i64 y2] := by rw [← hw6]; exact hkE
      have f0 : w6.cell? ⟨w.heap.size, 0, none⟩ = some (.int .i64 N) := hk5.cell 0
      have f1 : w6.cell? ⟨w.heap.size, 1, none⟩ = some (.slice A T.length cap) := hk5.cell 1
      have g0 : w6.cell? ⟨w5.heap.size, 0, none⟩ = some (.int .i64 y1) := hkE.cell 0
      have g1 : w6.cell? ⟨w5.heap.size, 1, none⟩ = some (.int .i64 y2) := hkE.cell 1
      have hbl6 := Bk.new w6 39 (flat2 [(y1, y2)])
      have hsl6 := edges_block (l := [(y1, y2)]) hbl6 (Nat.le_refl _)
      have hal6 := Hhal.out [(y1, y2)] (fun e he => by rw [List.mem_singleton.1 he]; exact Hhok.out) (by simp) w6 hb6 (hsl6.keep keeps_pair (Below.refl _ _) (by simp))
      change Calls _ _ #[.agg #[.int .i64 N, .slice A T.length cap], .slice (some ⟨w6.heap.size, 0, none⟩) 1 1] (w6.alloc (.cells #[.int .i64 y1, .int .i64 y2] 39)) _ at hal6
      have hbA := (Below.refl w6.heap.size w6).alloc (Nat.le_refl _) (.cells #[.int .i64 y1, .int .i64 y2] 39)
      have hzA : w6.heap.size + 1 ≤ (w6.alloc (.cells #[.int .i64 y1, .int .i64 y2] 39)).heap.size := by simp
      have hkA := hk5.alloc (.cells #[.int .i64 y1, .int .i64 y2] 39)
      have hkB := hkE.alloc (.cells #[.int .i64 y1, .int .i64 y2] 39)
      have Hhk5 := Lib.hid hk5; clear hk5; have HhkE := Lib.hid hkE; clear hkE; have Hhbl6 := Lib.hid hbl6; clear hbl6; have Hhsl6 := Lib.hid hsl6; clear hsl6; have Hhal6 := Lib.hid hal6; clear hal6
      go_wp2_with fail
      clear hw6
      refine Hhal6.out.mono ?_
      rintro e w7 ⟨⟨r, k, rfl, hend⟩, hb7⟩
      obtain rfl := Hhone.out _ _ _ hend
      obtain ⟨n0, A9, n9, c9, wv, pv9, rfl⟩ := hend.shape
      have hz7 : (w6.alloc (.cells #[.int .i64 y1, .int .i64 y2] 39)).heap.size ≤ w7.heap.size := hb7.size
      have hk7 := (hkA.below hb7 (by have := hkA.lt; exact this)).alloc (.cells #[.int .i64 n0, .slice A9 n9 c9] 24)
      have hkE7 := (hkB.below hb7 (by have := hkB.lt; exact this)).alloc (.cells #[.int .i64 n0, .slice A9 n9 c9] 24)
      have hb8 : Below w4.heap.size w4 (w7.alloc (.cells #[.int .i64 n0, .slice A9 n9 c9] 24)) := ((hb6.trans (hbA.mono hb6.size)).trans (hb7.mono (show w4.heap.size ≤ (w6.alloc (.cells #[.int .i64 y1, .int .i64 y2] 39)).heap.size by omega))).alloc (by omega) _
      obtain ⟨w8, hw8⟩ : ∃ w8, w7.alloc (.cells #[.int .i64 n0, .slice A9 n9 c9] 24) = w8 := ⟨_, rfl⟩
      have hz8 : w7.heap.size + 1 ≤ w8.heap.size := by rw [← hw8]; simp
      rw [hw8] at hk7 hkE7 hb8
      have p0 : w8.cell? ⟨w.heap.size, 0, none⟩ = some (.int .i64 N) := hk7.cell 0
      have p1 : w8.cell? ⟨w.heap.size, 1, none⟩ = some (.slice A T.length cap) := hk7.cell 1
      have q0 : w8.cell? ⟨w5.heap.size, 0, none⟩ = some (.int .i64 y1) := hkE7.cell 0
      have q1 : w8.cell? ⟨w5.heap.size, 1, none⟩ = some (.int .i64 y2) := hkE7.cell 1
      have hbl8 := Bk.new w8 39 (flat2 [(y1, y2), (y2, y1)])
      have hsl8 := edges_block (l := [(y1, y2), (y2, y1)]) hbl8 (Nat.le_refl _)
      have hal8 := Hhal.out [(y1, y2), (y2, y1)] (fun e he => by
        rcases List.mem_cons.1 he with rfl | he
        · exact Hhok.out
        · rw [List.mem_singleton.1 he]; exact ⟨Hhok.out.2, Hhok.out.1⟩) (by simp) w8 hb8 (hsl8.keep keeps_pair (Below.refl _ _) (by simp))
      change Calls _ _ #[.agg #[.int .i64 N, .slice A T.length cap], .slice (some ⟨w8.heap.size, 0, none⟩) 2 2] (w8.alloc (.cells #[.int .i64 y1, .int .i64 y2, .int .i64 y2, .int .i64 y1] 39)) _ at hal8
      have hbB := (Below.refl w8.heap.size w8).alloc (Nat.le_refl _) (.cells #[.int .i64 y1, .int .i64 y2, .int .i64 y2, .int .i64 y1] 39)
      have hkC := hkE7.alloc (.cells #[.int .i64 y1, .int .i64 y2, .int .i64 y2, .int .i64 y1] 39)
      have hzB : w8.heap.size + 1 ≤ (w8.alloc (.cells #[.int .i64 y1, .int .i64 y2, .int .i64 y2, .int .i64 y1] 39)).heap.size := by simp
      generalize hk1 : (if (if opp T c = none then (13 : Int) else 0) ≠ 0 then (if opp T c = none then (13 : Int) else 0) else if i1 = true ∧ i2 = true then 14 else 0) = k1 at *
      have Hhend := Lib.hid hend; clear hend; have Hhk7 := Lib.hid hk7; clear hk7; have HhkE7 := Lib.hid hkE7; clear hkE7; have Hhbl8 := Lib.hid hbl8; clear hbl8; have Hhsl8 := Lib.hid hsl8; clear hsl8; have Hhal8 := Lib.hid hal8; clear hal8; have Hhk1 := Lib.hid hk1; clear hk1
      go_wp2_with fail
      clear hw8
      refine Hhal8.out.mono ?_
      rintro e w9 ⟨⟨r, k2, rfl, hend2⟩, hb9⟩
      have hk2 := Hhtwo.out _ _ _ hend2
      obtain ⟨n1, A8, n8, c8, wv2, pv8, rfl⟩ := hend2.shape
      have hz9 : (w8.alloc (.cells #[.int .i64 y1, .int .i64 y2, .int .i64 y2, .int .i64 y1] 39)).heap.size ≤ w9.heap.size := hb9.size
      have hkE9 := (hkC.below hb9 (by have := hkC.lt; exact this)).alloc (.cells #[.int .i64 n1, .slice A8 n8 c8] 24)
      have hb10 : Below w4.heap.size w4 (w9.alloc (.cells #[.int .i64 n1, .slice A8 n8 c8] 24)) := ((hb8.trans (hbB.mono hb8.size)).trans (hb9.mono (show w4.heap.size ≤ (w8.alloc (.cells #[.int .i64 y1, .int .i64 y2, .int .i64 y2, .int .i64 y1] 39)).heap.size by omega))).alloc (by omega) _
      obtain ⟨w10, hw10⟩ : ∃ w10, w9.alloc (.cells #[.int .i64 n1, .slice A8 n8 c8] 24) = w10 := ⟨_, rfl⟩
      rw [hw10] at hkE9 hb10
      have r0 : w10.cell? ⟨w5.heap.size, 0, none⟩ = some (.int .i64 y1) := hkE9.cell 0
      have r1 : w10.cell? ⟨w5.heap.size, 1, none⟩ = some (.int .i64 y2) := hkE9.cell 1
      have hop10 := Hhop.out w10 hb10
      have hbel10 := hbel4.trans (hb10.mono hbel4.size)
      have hl5 : w5.heap.size < w10.heap.size := hkE9.lt
      have Hhend2 := Lib.hid hend2; clear hend2; have HhkE9 := Lib.hid hkE9; clear hkE9; have Hhop10 := Lib.hid hop10; clear hop10; have Hhk2 := Lib.hid hk2; clear hk2
      go_wp2_with fail
      clear hw10
      refine Hhop10.out.mono ?_
      rintro e w11 ⟨rfl, hb11⟩
      have hbel11 := hbel10.trans (hb11.mono hbel10.size)
      have hb11' := hb10.trans (hb11.mono hb10.size)
      have u0 := (hb11.cell (p := ⟨w5.heap.size, 0, none⟩) hl5).trans r0
      have u1 := (hb11.cell (p := ⟨w5.heap.size, 1, none⟩) hl5).trans r1
      cases hoc : opp T c with
      | none =>
        have hk1' := Hhk1.out
        have hk2' := Hhk2.out
        rw [hoc] at hk1' hk2'
        rw [if_pos (by decide)] at hk1' hk2'
        simp only [if_true] at hk1' hk2'
        subst hk1'
        subst hk2'
        have hneg : oi none < 0 := by decide
        generalize oi none = o9 at *
        go_wp2_with fail
        all_goals first | (exfalso; omega) | skip
        go_ret
        exact ⟨rfl, hbel11⟩
      | some d =>
        have hk1' := Hhk1.out
        have hk2' := Hhk2.out
        rw [hoc] at hk1' hk2'
        have hneg : ¬ (oi (some d) < 0) := by show ¬ ((d : Int) < 0); omega
        have hz9' : (if some d = none then (13 : Int) else 0) = 0 := if_neg (by simp)
        rw [hz9'] at hk1' hk2'
        rw [if_neg (fun h9 => h9 rfl)] at hk1' hk2'
        clear hz9'
        generalize oi (some d) = o9 at *
        subst hk2'
        have hi11 := Hhin1.out w11 hb11'
        have Hhi11 := Lib.hid hi11; clear hi11
        go_wp2_with fail
        all_goals first | (exfalso; omega) | skip
        refine Hhi11.out.mono ?_
        rintro e w12 ⟨rfl, hb12⟩
        have hbel12 := hbel11.trans (hb12.mono hbel11.size)
        have hl11 := hb11.size
        have v1 := (hb12.cell (p := ⟨w5.heap.size, 1, none⟩) (show w5.heap.size < w11.heap.size by omega)).trans u1
        cases i1 with
        | false =>
          rw [if_neg (by simp)] at hk1'
          subst hk1'
          go_wp2_with fail
          go_ret
          exact ⟨rfl, hbel12⟩
        | true =>
          have hi12 := Hhin2.out w12 (hb11'.trans (hb12.mono hb11'.size))
          have Hhi12 := Lib.hid hi12; clear hi12
          go_wp2_with fail
          refine Hhi12.out.mono ?_
          rintro e w13 ⟨rfl, hb13⟩
          have hbel13 := hbel12.trans (hb13.mono hbel12.size)
          cases i2 with
          | false =>
            rw [if_neg (by simp)] at hk1'
            subst hk1'
            go_wp2_with fail
            go_ret
            exact ⟨rfl, hbel13⟩
          | true =>
            rw [if_pos (by simp)] at hk1'
            subst hk1'
            go_wp2_with fail
            go_ret
            exact ⟨rfl, hbel13⟩
end Go.Proofs.YtpbdcppaiafbgaaGreat
