/- The law CutCounts, walked. -/
import Derived.Test.YtpbdcppaiafbgaaGreatIJ
import Derived.Test.YtpbdcppaiafbgaaGreatHL
namespace Go.Mesh
theorem endsC_more {l : List (Int × Int)} {i : Nat} (hi : i < l.length) (v : Int) : endsC (l.take (i + 1)) v = endsC (l.take i) v + if l[i].1 = v ∨ l[i].2 = v then 1 else 0 := by
  rw [List.take_succ_eq_append_getElem hi, endsC_snoc]
theorem lowV_few (T : List T3) (k : Int) : lowV T k ≤ 6 * T.length := by
  unfold lowV
  have h1 := List.countP_le_length (p := fun c => decide (vt T c < k)) (l := List.range (3 * T.length))
  have h2 := List.countP_le_length (p := fun c => decide (vt T c < k ∧ aft T c = none)) (l := List.range (3 * T.length))
  rw [List.length_range] at h1 h2
  omega
end Go.Mesh
namespace Go.Proofs.YtpbdcppaiafbgaaGreat
open Go Go.RowKit Go.Words Go.Mesh
set_option maxRecDepth 40000 in
set_option maxHeartbeats 8000000 in
theorem cutcounts_law (sv : Value) (N : Int) (T : List T3) (v1 : Value) (l : List (Int × Int)) (w : World) {B : Nat} (hB0 : B ≤ w.heap.size) (hT : Sl 3 RTri w B sv T) (hN : I64 N) (h1 : Sl 2 RPair w B v1 l ∧ ∀ e ∈ l, ok2 e) :
    Calls Tryz.prog 7 #[.agg #[.int .i64 N, sv], v1] w fun e w' => e = .returned (.bool true) ∧ Below w.heap.size w w' := by
  obtain ⟨hl, hok⟩ := h1
  obtain ⟨A, cap, rfl, hcap⟩ := hT.form
  obtain ⟨A2, cap2, rfl, hcap2⟩ := hl.form
  have hb0 := (Below.refl w.heap.size w).alloc (Nat.le_refl _) (.cells #[.int .i64 N, .slice A T.length cap] 24)
  have hk0 := Bk.new w 24 [.int .i64 N, .slice A T.length cap]
  have haw := awake19_calls (w.alloc (.cells #[.int .i64 N, .slice A T.length cap] 24))
  have hz0 : w.heap.size + 1 ≤ (w.alloc (.cells #[.int .i64 N, .slice A T.length cap] 24)).heap.size := by simp
  generalize hw0 : w.alloc (.cells #[.int .i64 N, .slice A T.length cap] 24) = w0 at *
  have HhT := Lib.hid hT; clear hT; have Hhl := Lib.hid hl; clear hl; have Hhok := Lib.hid hok; clear hok; have Hhaw := Lib.hid haw; clear haw; have Hhk0 := Lib.hid hk0; clear hk0
  go_enter Tryz.func7, Tryz.ntmps7
  go_wp2_with fail
  clear hw0
  refine Hhaw.out.mono ?_
  rintro e w1 ⟨rfl, hb1⟩
  have hz1 := hb1.size
  have hbel1 := hb0.trans (hb1.mono hb0.size)
  have hk1 := Hhk0.out.below hb1 (by omega)
  have c0 : w1.cell? ⟨w.heap.size, 0, none⟩ = some (.int .i64 N) := hk1.cell 0
  have c1 : w1.cell? ⟨w.heap.size, 1, none⟩ = some (.slice A T.length cap) := hk1.cell 1
  have hk1 := hk1
  have hgr := great19_calls N A A2 T.length l.length cap cap2 w1
  obtain ⟨bg, hbg⟩ : ∃ bg, big19 N T.length l.length = bg := ⟨_, rfl⟩
  rw [hbg] at hgr
  have Hhk1 := Lib.hid hk1; clear hk1; have Hhgr := Lib.hid hgr; clear hgr
  go_wp2_with fail
  refine Hhgr.out.mono ?_
  rintro e w2 ⟨rfl, hb2⟩
  have hz2 := hb2.size
  have hbel2 := hbel1.trans (hb2.mono hbel1.size)
  cases bg with
  | true =>
    go_wp2_with fail
    go_ret
    exact ⟨rfl, hbel2⟩
  | false =>
    have hsm := small19 hbg
    have hk2 := Hhk1.out.below hb2 (by omega)
    have d0 : w2.cell? ⟨w.heap.size, 0, none⟩ = some (.int .i64 N) := hk2.cell 0
    have d1 : w2.cell? ⟨w.heap.size, 1, none⟩ = some (.slice A T.length cap) := hk2.cell 1
    have hT2 := HhT.out.below keeps_tri (hbel2.mono hB0)
    have hl2 := Hhl.out.below keeps_pair (hbel2.mono hB0)
    have hal := along_calls (w := w2) (show B ≤ w2.heap.size by omega) hT2 hN hl2 Hhok.out (by omega)
    have HhT2 := Lib.hid hT2; clear hT2; have Hhl2 := Lib.hid hl2; clear hl2; have Hhk2 := Lib.hid hk2; clear hk2; have Hhal := Lib.hid hal; clear hal
    go_wp2_with fail
    all_goals first | (exfalso; omega) | skip
    refine Hhal.out.mono ?_
    rintro e w3 ⟨⟨r, c, rfl, hend⟩, hb3⟩
    have hz3 := hb3.size
    have hbel3 := hbel2.trans (hb3.mono hbel2.size)
    have hk3 := Hhk2.out.below hb3 (by omega)
    have hT3 := HhT2.out.below keeps_tri (hb3.mono (show B ≤ w2.heap.size by omega))
    have hl3 := Hhl2.out.below keeps_pair (hb3.mono (show B ≤ w2.heap.size by omega))
    by_cases hc : c = 0
    case neg =>
      obtain rfl := hend.2.1 hc
      have hcb : (c != 0) = true := bne_iff_ne.2 hc
      have hbf := hbel3.alloc hbel3.size (.cells #[.int .i64 0, .slice none 0 0] 24)
      have Hhend := Lib.hid hend; clear hend; have Hhk3 := Lib.hid hk3; clear hk3; have Hhbf := Lib.hid hbf; clear hbf
      go_wp2_with fail
      go_ret
      exact ⟨rfl, Hhbf.out⟩
    subst hc
    obtain ⟨xv, wv, pv, Es, rfl, hcut, hX, hO, hP⟩ := hend.ok
    have hXl := hcut.numb.len
    have hpl := hcut.len
    have hle := hcut.undo.le
    have hsX := hcut.cut
    have hfew := hcut.few
    have hs := hcut.surf
    clear hend
    obtain ⟨A4, cap4, rfl, hcap4⟩ := hO.form
    obtain ⟨A5, cap5, rfl, hcap5⟩ := hP.form
    obtain ⟨A3, cap3, rfl, hcap3⟩ := hX.form
    have hgd := hcut.good
    have hends := hcut.ends
    have hOl := newO_len hs (l.map nm)
    have hmore := fun k (hk : ((k : Nat) : Int) < N) => exH_more hs hgd (k := k) hk
    have hexf := fun k => exH_few (T := T) (C := l.map nm) k
    generalize pairsL N T l Es = P at *
    generalize newX N T (l.map nm) = X at *
    generalize newO N T (l.map nm) = O at *
    rw [hXl] at hX hcap3 ⊢
    rw [hpl] at hP hcap5 ⊢
    have hb4 := (Below.refl w3.heap.size w3).alloc (Nat.le_refl _) (.cells #[.int .i64 (O.length : Nat), .slice A3 T.length cap3] 24)
    have hk4 := Bk.new w3 24 [.int .i64 (O.length : Nat), .slice A3 T.length cap3]
    have hk34 := hk3.alloc (.cells #[.int .i64 (O.length : Nat), .slice A3 T.length cap3] 24)
    have hbel4 := hbel3.trans (hb4.mono hbel3.size)
    have hz4 : w3.heap.size + 1 ≤ (w3.alloc (.cells #[.int .i64 (O.length : Nat), .slice A3 T.length cap3] 24)).heap.size := by simp
    have hX4 := hX.below keeps_tri hb4
    have hO4 := hO.below keeps_int hb4
    have hP4 := hP.below keeps_4 hb4
    have hT4 := hT3.below keeps_tri (hb4.mono (show B ≤ w3.heap.size by omega))
    have hl4 := hl3.below keeps_pair (hb4.mono (show B ≤ w3.heap.size by omega))
    obtain ⟨w4, hw4⟩ : ∃ w4, w3.alloc (.cells #[.int .i64 (O.length : Nat), .slice A3 T.length cap3] 24) = w4 := ⟨_, rfl⟩
    rw [hw4] at hb4 hk4 hk34 hbel4 hz4 hX4 hO4 hP4 hT4 hl4
    have e0 : w4.cell? ⟨w3.heap.size, 0, none⟩ = some (.int .i64 (O.length : Nat)) := hk4.cell 0
    have e1 : w4.cell? ⟨w3.heap.size, 1, none⟩ = some (.slice A3 T.length cap3) := hk4.cell 1
    have s0 : w4.cell? ⟨w.heap.size, 0, none⟩ = some (.int .i64 N) := hk34.cell 0
    have s1 : w4.cell? ⟨w.heap.size, 1, none⟩ = some (.slice A T.length cap) := hk34.cell 1
    have hnT := new_calls (.slice A T.length cap) N T w4 (show B ≤ w4.heap.size by omega) hT4 hN
    have Hhk3 := Lib.hid hk3; clear hk3; have Hhk4 := Lib.hid hk4; clear hk4; have Hhk34 := Lib.hid hk34; clear hk34; have HhX := Lib.hid hX; clear hX; have HhO := Lib.hid hO; clear hO; have HhP := Lib.hid hP; clear hP; have HhX4 := Lib.hid hX4; clear hX4; have HhO4 := Lib.hid hO4; clear hO4; have HhP4 := Lib.hid hP4; clear hP4; have HhT4 := Lib.hid hT4; clear hT4; have Hhl4 := Lib.hid hl4; clear hl4; have HhT3 := Lib.hid hT3; clear hT3; have Hhl3 := Lib.hid hl3; clear hl3; have Hhcut := Lib.hid hcut; clear hcut; have HhsX := Lib.hid hsX; clear hsX; have Hhs := Lib.hid hs; clear hs; have HhnT := Lib.hid hnT; clear hnT; have Hhgd := Lib.hid hgd; clear hgd; have Hhends := Lib.hid hends; clear hends; have Hhmore := Lib.hid hmore; clear hmore; have Hhexf := Lib.hid hexf; clear hexf; have HhOl := Lib.hid hOl; clear hOl
    go_wp2_with fail
    clear hw4
    refine HhnT.out.mono ?_
    rintro e w5 ⟨⟨tv, a1, a2, a3, rfl, hor⟩, hb5⟩
    rcases hor with ⟨_, htab⟩ | ⟨h9, _⟩
    case inr => exact absurd Hhs.out h9
    obtain ⟨gt, rfl⟩ : ∃ g, tv = .pointer (some g) := by
      obtain ⟨g, _, _, _, _, _, rfl, _⟩ := htab
      exact ⟨_, rfl⟩
    have hz5 := hb5.size
    obtain ⟨w6, hw6⟩ : ∃ w6, w5.alloc (.cells #[.int .i64 a1, .int .i64 a2, .int .i64 a3] 48) = w6 := ⟨_, rfl⟩
    have hb6 : Below w5.heap.size w5 w6 := by rw [← hw6]; exact (Below.refl w5.heap.size w5).alloc (Nat.le_refl _) _
    have hz6 : w5.heap.size + 1 ≤ w6.heap.size := by rw [← hw6]; simp
    have hb46 : Below w4.heap.size w4 w6 := hb5.trans (hb6.mono hz5)
    have htab6 := htab.below hb6 (Nat.le_refl _)
    have hX6 := HhX4.out.below keeps_tri (hb46.mono (by omega))
    have f0 := (hb46.cell (p := ⟨w3.heap.size, 0, none⟩) (by show w3.heap.size < _; omega)).trans e0
    have f1 := (hb46.cell (p := ⟨w3.heap.size, 1, none⟩) (by show w3.heap.size < _; omega)).trans e1
    have hnX := new_calls (.slice A3 T.length cap3) (O.length : Nat) X w6 (show w3.heap.size ≤ w6.heap.size by omega) hX6 (I64.nat (by omega))
    have Hhtab := Lib.hid htab; clear htab; have Hhtab6 := Lib.hid htab6; clear htab6; have HhX6 := Lib.hid hX6; clear hX6; have HhnX := Lib.hid hnX; clear hnX
    go_wp2_with fail
    clear hw6
    refine HhnX.out.mono ?_
    rintro e w7 ⟨⟨uv, b1, b2, b3, rfl, hor⟩, hb7⟩
    rcases hor with ⟨_, hutab⟩ | ⟨h9, _⟩
    case inr => exact absurd HhsX.out h9
    obtain ⟨gu, rfl⟩ : ∃ g, uv = .pointer (some g) := by
      obtain ⟨g, _, _, _, _, _, rfl, _⟩ := hutab
      exact ⟨_, rfl⟩
    have hz7 := hb7.size
    obtain ⟨w8, hw8⟩ : ∃ w8, w7.alloc (.cells #[.int .i64 b1, .int .i64 b2, .int .i64 b3] 48) = w8 := ⟨_, rfl⟩
    have hb8 : Below w7.heap.size w7 w8 := by rw [← hw8]; exact (Below.refl w7.heap.size w7).alloc (Nat.le_refl _) _
    have hz8 : w7.heap.size + 1 ≤ w8.heap.size := by rw [← hw8]; simp
    have hb68 : Below w6.heap.size w6 w8 := hb7.trans (hb8.mono hz7)
    have hb48 : Below w4.heap.size w4 w8 := hb46.trans (hb68.mono (by omega))
    have hbel8 := hbel4.trans (hb48.mono hbel4.size)
    have htab8 := Hhtab6.out.below hb68 (by omega)
    have hutab8 := hutab.below hb8 (Nat.le_refl _)
    have g0 := (hb48.cell (p := ⟨w3.heap.size, 0, none⟩) (by show w3.heap.size < _; omega)).trans e0
    have g1 := (hb48.cell (p := ⟨w3.heap.size, 1, none⟩) (by show w3.heap.size < _; omega)).trans e1
    have r0 := (hb48.cell (p := ⟨w.heap.size, 0, none⟩) (by show w.heap.size < _; omega)).trans s0
    have r1 := (hb48.cell (p := ⟨w.heap.size, 1, none⟩) (by show w.heap.size < _; omega)).trans s1
    have hT8 := HhT4.out.below keeps_tri (hb48.mono (by omega))
    have hl8 := Hhl4.out.below keeps_pair (hb48.mono (by omega))
    have hO8 := HhO4.out.below keeps_int (hb48.mono (by omega))
    have hP8 := HhP4.out.below keeps_4 (hb48.mono (by omega))
    obtain ⟨n, rfl⟩ : ∃ n : Nat, N = n := ⟨N.toNat, by have := Hhs.out.n0; omega⟩
    have hlow0 := lowV_start Hhs.out
    have hlowN := fun k (h0 : 0 ≤ k) (h1 : k < (n : Int)) => lowV_succ Hhs.out (k := k) h0 h1
    have hlX0 := lowV_start HhsX.out
    have hlXN := fun k (h0 : 0 ≤ k) (h1 : k < (O.length : Int)) => lowV_succ HhsX.out (k := k) h0 h1
    have hlf := fun k => lowV_few T k
    have hlfX := fun k => lowV_few X k
    have hin := fun (v : Int) wz (hz : Below w8.heap.size w8 wz) => inner_calls (.inl (htab8.below hz (by omega))) Hhs.out v
    have hlk := fun (v : Int) wz (hz : Below w8.heap.size w8 wz) => link_calls (.inl (htab8.below hz (by omega))) Hhs.out v
    have hlkX := fun (v : Int) wz (hz : Below w8.heap.size w8 wz) => link_calls (.inl (hutab8.below hz (by omega))) HhsX.out v
    rw [show X.length = T.length from hXl] at hlfX
    have hlt0 : w.heap.size < w8.heap.size := by omega
    have hlt3 : w3.heap.size < w8.heap.size := by omega
    have hTl : T.length ≤ 40 := by omega
    have hll : l.length ≤ 40 := by omega
    have Hhtab8 := Lib.hid htab8; clear htab8; have Hhutab8 := Lib.hid hutab8; clear hutab8; have HhT8 := Lib.hid hT8; clear hT8; have Hhl8 := Lib.hid hl8; clear hl8; have HhO8 := Lib.hid hO8; clear hO8; have HhP8 := Lib.hid hP8; clear hP8; have Hhlow0 := Lib.hid hlow0; clear hlow0; have HhlowN := Lib.hid hlowN; clear hlowN; have HhlX0 := Lib.hid hlX0; clear hlX0; have HhlXN := Lib.hid hlXN; clear hlXN; have Hhlf := Lib.hid hlf; clear hlf; have HhlfX := Lib.hid hlfX; clear hlfX; have Hhin := Lib.hid hin; clear hin; have Hhlk := Lib.hid hlk; clear hlk; have HhlkX := Lib.hid hlkX; clear hlkX
    go_wp2_with fail
    clear hw8
    go_loopw [13, 15, 16] (fun mv wv iv wr => ∃ v : Nat, v ≤ n ∧ iv = .int .i64 (v : Int) ∧ mv = .int .i64 ((exH T (l.map nm) v).length : Nat) ∧ wv = .int .i64 (lowV T (v : Int) : Nat) ∧ Below w8.heap.size w8 wr) (fun _ _ iv _ => n - (intOf iv).toNat)
    case atStart => exact ⟨0, by omega, rfl, rfl, by rw [show ((0 : Nat) : Int) = 0 from rfl, Hhlow0.out]; rfl, Below.refl _ _⟩
    case round =>
      obtain ⟨v, hv, rfl, rfl, rfl, hbr⟩ := hrel
      have hzr := hbr.size
      have q0 := (hbr.cell (p := ⟨w.heap.size, 0, none⟩) hlt0).trans r0
      by_cases hvn : v < n
      · have hmr := Hhmore.out v (by omega)
        have hlw := HhlowN.out (v : Int) (by omega) (by omega)
        have hm1 := Hhexf.out v
        have hm2 := Hhexf.out (v + 1)
        have hq1 := Hhlf.out (v : Int)
        have hq2 := Hhlf.out ((v : Int) + 1)
        have hend1 : ∀ (a b : Int) (W : World), a = ((exH T (l.map nm) (v + 1)).length : Nat) → b = (lowV T ((v : Int) + 1) : Nat) → Below w8.heap.size w8 W → ∃ v' : Nat, v' ≤ n ∧ Value.int .i64 ((v : Int) + 1) = .int .i64 (v' : Int) ∧ Value.int .i64 a = .int .i64 ((exH T (l.map nm) v').length : Nat) ∧ Value.int .i64 b = .int .i64 (lowV T (v' : Int) : Nat) ∧ Below w8.heap.size w8 W := fun a b W h1 h2 h3 => ⟨v + 1, by omega, by simp, by rw [h1], by rw [h2]; rfl, h3⟩
        generalize (exH T (l.map nm) (v + 1)).length = m2 at *
        generalize (exH T (l.map nm) v).length = m1 at *
        generalize lowV T ((v : Int) + 1) = p2 at *
        generalize lowV T (v : Int) = p1 at *
        have Hhmr := Lib.hid hmr; clear hmr; have Hhlw := Lib.hid hlw; clear hlw; have Hhend1 := Lib.hid hend1; clear hend1
        go_wp2_with fail
        all_goals first | (exfalso; omega) | skip
        go_loopw [17, 18] (fun nv iv wr => ∃ i : Nat, i ≤ l.length ∧ iv = .int .i64 (i : Int) ∧ nv = .int .i64 (endsC (l.take i) (v : Int) : Nat) ∧ Below w8.heap.size w8 wr) (fun _ iv _ => l.length - (intOf iv).toNat)
        case atStart => exact ⟨0, by omega, rfl, rfl, hbr⟩
        case round =>
          clear q0 hbr hzr
          obtain ⟨i, hi, rfl, rfl, hbr⟩ := hrel
          have hzr := hbr.size
          have hel := endsC_le (l.take i) (v : Int)
          rw [List.length_take] at hel
          by_cases hil : i < l.length
          · obtain ⟨b, o, rfl, hb, a1, a2⟩ := (Hhl8.out.below keeps_pair (hbr.mono (by omega))).pair_at hil
            have hst := endsC_more hil (v : Int)
            generalize l[i] = ed at *
            obtain ⟨y1, y2⟩ := ed
            simp only [] at a1 a2 hst
            generalize endsC (l.take i) (v : Int) = k1 at *
            by_cases h1 : y1 = (v : Int)
            · have hq : (y1 == (v : Int)) = true := beq_iff_eq.2 h1
              rw [if_pos (.inl h1)] at hst
              have Hhst := Lib.hid hst; clear hst; have Hh1 := Lib.hid h1; clear h1
              go_wp2_with fail
              all_goals first | (exfalso; omega) | skip
              exact ⟨⟨i + 1, by omega, by simp, by rw [Hhst.out]; rfl, hbr⟩, by simp [intOf]; omega⟩
            · have hq : (y1 == (v : Int)) = false := beq_eq_false_iff_ne.2 h1
              by_cases h2 : y2 = (v : Int)
              · have hq2 : (y2 == (v : Int)) = true := beq_iff_eq.2 h2
                rw [if_pos (.inr h2)] at hst
                have Hhst := Lib.hid hst; clear hst; have Hh1 := Lib.hid h1; clear h1; have Hh2 := Lib.hid h2; clear h2
                go_wp2_with fail
                all_goals first | (exfalso; omega) | skip
                exact ⟨⟨i + 1, by omega, by simp, by rw [Hhst.out]; rfl, hbr⟩, by simp [intOf]; omega⟩
              · have hq2 : (y2 == (v : Int)) = false := beq_eq_false_iff_ne.2 h2
                rw [if_neg (fun h9 => h9.elim h1 h2)] at hst
                have Hhst := Lib.hid hst; clear hst; have Hh1 := Lib.hid h1; clear h1; have Hh2 := Lib.hid h2; clear h2
                go_wp2_with fail
                all_goals first | (exfalso; omega) | skip
                exact ⟨⟨i + 1, by omega, by simp, by rw [Hhst.out]; rfl, hbr⟩, by simp [intOf]; omega⟩
          · obtain rfl : i = l.length := by omega
            rw [List.take_length] at hel ⊢
            have hinv := Hhin.out (v : Int) _ hbr
            have hmr := Hhmr.out
            have hlw := Hhlw.out
            unfold moreV at hmr
            obtain ⟨ib, hib⟩ : ∃ ib, innerAt T (n : Int) (v : Int) = ib := ⟨_, rfl⟩
            rw [hib] at hinv hmr
            clear hib
            generalize endsC l (v : Int) = k1 at *
            have Hhinv := Lib.hid hinv; clear hinv; have Hhlw := Lib.hid hlw; clear hlw
            go_wp2_with fail
            all_goals first | (exfalso; omega) | skip
            refine Hhinv.out.mono ?_
            rintro e wa ⟨rfl, hba⟩
            have hbra := hbr.trans (hba.mono hbr.size)
            have hlkv := Hhlk.out (v : Int) wa hbra
            obtain ⟨lk, hlk9⟩ : ∃ lk, (linkAt T (n : Int) (v : Int)).length = lk := ⟨_, rfl⟩
            have hlw := Hhlw.out
            rw [hlk9] at hlw hlkv
            clear hlk9
            cases ib with
            | false =>
              rw [if_pos rfl] at hmr
              have Hhlkv := Lib.hid hlkv; clear hlkv
              go_wp2_with fail
              all_goals first | (exfalso; omega) | skip
              refine Hhlkv.out.mono ?_
              rintro e wb ⟨⟨r, rfl, hown⟩, hbb⟩
              obtain ⟨A9, cap9, rfl, hc9⟩ := own_form hown
              have hbrb := hbra.trans (hbb.mono hbra.size)
              have Hhown := Lib.hid hown; clear hown
              go_wp2_with fail
              all_goals first | (exfalso; omega) | skip
              exact ⟨Hhend1.out _ _ _ (by omega) (by omega) hbrb, by simp [intOf]; omega⟩
            | true =>
              rw [if_neg (by simp)] at hmr
              by_cases hk1 : 1 < k1
              · have hk1' : (1 : Int) < (k1 : Int) := by omega
                have Hhlkv := Lib.hid hlkv; clear hlkv
                go_wp2_with fail
                all_goals first | (exfalso; omega) | skip
                refine Hhlkv.out.mono ?_
                rintro e wb ⟨⟨r, rfl, hown⟩, hbb⟩
                obtain ⟨A9, cap9, rfl, hc9⟩ := own_form hown
                have hbrb := hbra.trans (hbb.mono hbra.size)
                have Hhown := Lib.hid hown; clear hown
                go_wp2_with fail
                all_goals first | (exfalso; omega) | skip
                exact ⟨Hhend1.out _ _ _ (by omega) (by omega) hbrb, by simp [intOf]; omega⟩
              · have hk1' : ¬ ((1 : Int) < (k1 : Int)) := by omega
                have Hhlkv := Lib.hid hlkv; clear hlkv
                go_wp2_with fail
                all_goals first | (exfalso; omega) | skip
                refine Hhlkv.out.mono ?_
                rintro e wb ⟨⟨r, rfl, hown⟩, hbb⟩
                obtain ⟨A9, cap9, rfl, hc9⟩ := own_form hown
                have hbrb := hbra.trans (hbb.mono hbra.size)
                have Hhown := Lib.hid hown; clear hown
                go_wp2_with fail
                all_goals first | (exfalso; omega) | skip
                exact ⟨Hhend1.out _ _ _ (by omega) (by omega) hbrb, by simp [intOf]; omega⟩
      · obtain rfl : v = n := by omega
        have hOl' : (O.length : Int) = (v : Int) + ((exH T (l.map nm) v).length : Nat) := by
          rw [HhOl.out, Int.toNat_natCast]
        have hm1 := Hhexf.out v
        have hq1 := Hhlf.out (v : Int)
        have hends := Hhends.out
        clear HhOl
        generalize (exH T (l.map nm) v).length = m1 at *
        generalize lowV T (v : Int) = p1 at *
        obtain ⟨wb, hwb⟩ : ∃ wb, wb = wr := ⟨_, rfl⟩
        subst hwb
        have Hhends := Lib.hid hends; clear hends; have HhOl' := Lib.hid hOl'; clear hOl'
        go_wp2_with fail
        all_goals first | (exfalso; omega) | skip
        go_loopw [14, 19] (fun ev iv wr => ∃ u : Nat, u ≤ O.length ∧ iv = .int .i64 (u : Int) ∧ ev = .int .i64 (lowV X (u : Int) : Nat) ∧ Below w8.heap.size w8 wr) (fun _ iv _ => O.length - (intOf iv).toNat)
        case atStart => exact ⟨0, by omega, rfl, by rw [show ((0 : Nat) : Int) = 0 from rfl, HhlX0.out]; rfl, hbr⟩
        case round =>
          clear q0 hbr hzr
          obtain ⟨u, hu, rfl, rfl, hbr⟩ := hrel
          have hzr := hbr.size
          have q0 := (hbr.cell (p := ⟨w.heap.size, 0, none⟩) hlt0).trans r0
          have q3 := (hbr.cell (p := ⟨w3.heap.size, 0, none⟩) hlt3).trans g0
          by_cases hul : u < O.length
          · have hlw := HhlXN.out (u : Int) (by omega) (by omega)
            have hq2 := HhlfX.out (u : Int)
            have hq3 := HhlfX.out ((u : Int) + 1)
            have hlkv := HhlkX.out (u : Int) _ hbr
            obtain ⟨lk, hlk9⟩ : ∃ lk, (linkAt X (O.length : Nat) (u : Int)).length = lk := ⟨_, rfl⟩
            rw [hlk9] at hlw hlkv
            clear hlk9
            have hend2 : ∀ (b : Int) (W : World), b = (lowV X ((u : Int) + 1) : Nat) → Below w8.heap.size w8 W → ∃ u' : Nat, u' ≤ O.length ∧ Value.int .i64 ((u : Int) + 1) = .int .i64 (u' : Int) ∧ Value.int .i64 b = .int .i64 (lowV X (u' : Int) : Nat) ∧ Below w8.heap.size w8 W := fun b W h2 h3 => ⟨u + 1, by omega, by simp, by rw [h2]; rfl, h3⟩
            generalize lowV X ((u : Int) + 1) = p4 at *
            generalize lowV X (u : Int) = p3 at *
            have Hhlkv := Lib.hid hlkv; clear hlkv; have Hhend2 := Lib.hid hend2; clear hend2
            go_wp2_with fail
            all_goals first | (exfalso; omega) | skip
            refine Hhlkv.out.mono ?_
            rintro e wd ⟨⟨r, rfl, hown⟩, hbd⟩
            obtain ⟨A9, cap9, rfl, hc9⟩ := own_form hown
            have hbrd := hbr.trans (hbd.mono hbr.size)
            have Hhown := Lib.hid hown; clear hown
            go_wp2_with fail
            all_goals first | (exfalso; omega) | skip
            exact ⟨Hhend2.out _ _ (by omega) hbrd, by simp [intOf]; omega⟩
          · obtain rfl : u = O.length := by omega
            have hends := Hhends.out
            have hq2 := HhlfX.out ((O.length : Nat) : Int)
            generalize lowV X ((O.length : Nat) : Int) = p3 at *
            have hbf := hbel8.trans (hbr.mono hbel8.size)
            have hOl' := HhOl'.out
            have ht1 : ((O.length : Int) == (v : Int) + (m1 : Int)) = true := beq_iff_eq.2 hOl'
            have ht2 : ((p3 : Int) == (p1 : Int) + 2 * (l.length : Int)) = true := beq_iff_eq.2 (by omega)
            have Hhends := Lib.hid hends; clear hends; have HhOl' := Lib.hid hOl'; clear hOl'
            go_wp2_with fail
            all_goals first | (exfalso; omega) | skip
            go_ret
            exact ⟨ret_bool (by first | rfl | simp [ht1, ht2]), hbf⟩
end Go.Proofs.YtpbdcppaiafbgaaGreat
