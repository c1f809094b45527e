/- Walk: ref15.Is. -/
import Derived.Test.YtpbdcppaiafbgaaGreatFV
namespace Go.Mesh
theorem inN_three (a b : T3) : inN a b 3 = 3 ↔ vsB a b = true := by
  have e : inN a b 3 = (if haB b a.1 = true then 1 else 0) + (if haB b a.2.1 = true then 1 else 0) + (if haB b a.2.2 = true then 1 else 0) := by simp [inN]
  rw [e]
  unfold vsB
  cases haB b a.1 <;> cases haB b a.2.1 <;> cases haB b a.2.2 <;> simp
theorem inN_le (a b : T3) : ∀ k, inN a b k ≤ k
  | 0 => Nat.le_refl 0
  | k + 1 => by
    have hb9 : ∀ b : Bool, (if b = true then 1 else 0) ≤ 1 := fun b => by cases b <;> decide
    exact Nat.add_le_add (inN_le a b k) (hb9 _)
theorem surf_rng {N : Int} {T : List T3} (hs : Surf N T) {i k : Nat} (hi : i < T.length) (hk : k < 3) : 0 ≤ vx (triAt T i) k ∧ vx (triAt T i) k < N ∧ vx (triAt T i) k ≠ vx (triAt T i) ((k + 1) % 3) := by
  have h1 := hs.rng (3 * i + k) (by omega)
  have h2 := hs.loop (3 * i + k) (by omega)
  rw [corner_at T i k hk] at h1
  rw [corner_at T i k hk, vt_nx, show (3 * i + k) / 3 = i by omega, show (3 * i + k + 1) % 3 = (k + 1) % 3 by omega] at h2
  exact ⟨h1.1, h1.2, h2⟩
end Go.Mesh
namespace Go.Proofs.YtpbdcppaiafbgaaGreat
open Go Go.RowKit Go.Words Go.Mesh

set_option maxRecDepth 40000 in
set_option maxHeartbeats 8000000 in
theorem is15_calls (sv : Value) (N : Int) (T : List T3) (w : World) {B : Nat} (hB0 : B ≤ w.heap.size) (hT : Sl 3 RTri w B sv T) (hfew : T.length ≤ 200) :
    Calls Tryz.prog 113 #[.agg #[.int .i64 N, sv]] w fun e w' => SaysYes e (Surf N T) ∧ Below w.heap.size w w' := by
  obtain ⟨A, cap, rfl, hcap⟩ := hT.form
  have hbox := Bk.new w 24 [.int .i64 N, .slice A T.length cap]
  have hb1 := (Below.refl w.heap.size w).alloc (Nat.le_refl _) (.cells #[.int .i64 N, .slice A T.length cap] 24)
  have hTA := hT.below keeps_tri (hb1.mono hB0)
  have hle : B ≤ (w.alloc (.cells #[.int .i64 N, .slice A T.length cap] 24)).heap.size := by rw [World.size_alloc]; omega
  have c0 := hbox.cell 0
  have c1 := hbox.cell 1
  simp only [List.getElem?_cons_zero, List.getElem?_cons_succ] at c0 c1
  have hz0 : w.heap.size < (w.alloc (.cells #[.int .i64 N, .slice A T.length cap] 24)).heap.size := by rw [World.size_alloc]; omega
  by_cases hp : 0 ≤ N ∧ N ≤ 4096
  case neg =>
    have hbad : ¬ Surf N T := fun h9 => hp ⟨h9.n0, h9.nmax⟩
    have Hhbad := Lib.hid hbad; clear hbad; have HhT := Lib.hid hT; clear hT; have HhTA := Lib.hid hTA; clear hTA; have Hhbox := Lib.hid hbox; clear hbox
    go_enter Tryz.func113, Tryz.ntmps113
    go_wp2_with fail
    all_goals first | (exfalso; omega) | (go_ret; exact ⟨⟨false, rfl, ⟨fun h9 => (by cases h9), fun h9 => absurd h9 Hhbad.out⟩⟩, hb1⟩)
  case pos =>
    obtain ⟨p1, p2⟩ := hp
    have hlen := is15_iff (N := N) (T := T) (by omega)
    generalize hw0 : w.alloc (.cells #[.int .i64 N, .slice A T.length cap] 24) = w0 at *
    have HhT := Lib.hid hT; clear hT; have HhTA := Lib.hid hTA; clear hTA; have Hhbox := Lib.hid hbox; clear hbox; have Hhlen := Lib.hid hlen; clear hlen
    go_enter Tryz.func113, Tryz.ntmps113
    go_wp2_with fail
    all_goals first | (exfalso; omega) | skip
    clear hw0
    go_loopw [3] (fun iv wr => ∃ i : Nat, i ≤ T.length ∧ iv = .int .i64 (i : Int) ∧ (∀ i', i' < i → ∀ k, k < 3 → 0 ≤ vx (triAt T i') k ∧ vx (triAt T i') k < N ∧ vx (triAt T i') k ≠ vx (triAt T i') ((k + 1) % 3)) ∧ Below w0.heap.size w0 wr) (fun iv _ => T.length - (intOf iv).toNat)
    case atStart => exact ⟨0, by omega, rfl, fun i' h => by omega, Below.refl _ _⟩
    case round =>
      obtain ⟨i, hi, rfl, hall, hbel⟩ := hrel
      obtain ⟨w1, hw1⟩ : ∃ w1, w1 = wr := ⟨_, rfl⟩
      subst hw1
      have hz1 := hbel.size
      have c0r := (hbel.cell (p := ⟨w.heap.size, 0, none⟩) hz0).trans c0
      have c1r := (hbel.cell (p := ⟨w.heap.size, 1, none⟩) hz0).trans c1
      have hgs : w.heap.size < w1.heap.size := by omega
      by_cases hil : i < T.length
      · obtain ⟨b, o, rfl, hb, a1, a2, a3⟩ := (HhTA.out.below keeps_tri (hbel.mono hle)).tri_at hil
        rw [triAt_get hil] at a1 a2 a3
        have hbw : b < w1.heap.size := by omega
        have hrr := fun (hs : Surf N T) k (hk : k < 3) => surf_rng hs hil hk
        have hnx : (∀ k, k < 3 → 0 ≤ vx (triAt T i) k ∧ vx (triAt T i) k < N ∧ vx (triAt T i) k ≠ vx (triAt T i) ((k + 1) % 3)) → ∀ i', i' < i + 1 → ∀ k, k < 3 → 0 ≤ vx (triAt T i') k ∧ vx (triAt T i') k < N ∧ vx (triAt T i') k ≠ vx (triAt T i') ((k + 1) % 3) := fun h9 i' h8 => by
          by_cases h7 : i' = i
          · rw [h7]; exact h9
          · exact hall i' (by omega)
        generalize triAt T i = t at *
        obtain ⟨x1, x2, x3⟩ := t
        simp only [] at a1 a2 a3
        have hkt := Bk.new w1 57 [.int .i64 x1, .int .i64 x2, .int .i64 x3]
        have hb2 := (Below.refl w1.heap.size w1).alloc (Nat.le_refl _) (.cells #[.int .i64 x1, .int .i64 x2, .int .i64 x3] 57)
        have Hhall := Lib.hid hall; clear hall; have Hhrr := Lib.hid hrr; clear hrr; have Hhnx := Lib.hid hnx; clear hnx; have Hhkt := Lib.hid hkt; clear hkt; have Hhb2 := Lib.hid hb2; clear hb2
        go_wp2_with fail
        go_loopw [5] (fun kv wz => ∃ k : Nat, k ≤ 3 ∧ kv = .int .i64 (k : Int) ∧ (∀ k', k' < k → 0 ≤ vx (x1, x2, x3) k' ∧ vx (x1, x2, x3) k' < N ∧ vx (x1, x2, x3) k' ≠ vx (x1, x2, x3) ((k' + 1) % 3)) ∧ Bk wz w1.heap.size 57 [.int .i64 x1, .int .i64 x2, .int .i64 x3] ∧ Below w1.heap.size w1 wz) (fun kv _ => 3 - (intOf kv).toNat)
        case atStart => exact ⟨0, by omega, rfl, fun k' h => by omega, Hhkt.out, Hhb2.out⟩
        case round =>
          obtain ⟨k, hk, rfl, hkk, hkz, hbz⟩ := hrel
          have c0z := (hbz.cell (p := ⟨w.heap.size, 0, none⟩) hgs).trans c0r
          by_cases hk3 : k < 3
          · have ck : wr.cell? ⟨w1.heap.size, k, none⟩ = some (.int .i64 (vx (x1, x2, x3) k)) := by
              rw [hkz.cell k]
              have : k = 0 ∨ k = 1 ∨ k = 2 := by omega
              rcases this with rfl | rfl | rfl <;> rfl
            obtain ⟨k2, hk2⟩ : ∃ k2 : Nat, (k + 1) % 3 = k2 := ⟨_, rfl⟩
            have hk2i : ((k : Int) + 1) % 3 = (k2 : Int) := by omega
            have hk2l : (k2 : Int) < 3 := by omega
            have ck2 : wr.cell? ⟨w1.heap.size, k2, none⟩ = some (.int .i64 (vx (x1, x2, x3) k2)) := by
              rw [hkz.cell k2]
              have : k2 = 0 ∨ k2 = 1 ∨ k2 = 2 := by omega
              rcases this with rfl | rfl | rfl <;> rfl
            have hbz2 := hbz.drew
            have hkz2 := hkz.drew
            have hki : (k : Int) < 3 := by omega
            have hbad : ¬ (0 ≤ vx (x1, x2, x3) k ∧ vx (x1, x2, x3) k < N ∧ vx (x1, x2, x3) k ≠ vx (x1, x2, x3) k2) → ¬ Surf N T := fun h9 hs => h9 (by rw [← hk2]; exact Hhrr.out hs k hk3)
            have hok : (0 ≤ vx (x1, x2, x3) k ∧ vx (x1, x2, x3) k < N ∧ vx (x1, x2, x3) k ≠ vx (x1, x2, x3) k2) → ∀ k', k' < k + 1 → 0 ≤ vx (x1, x2, x3) k' ∧ vx (x1, x2, x3) k' < N ∧ vx (x1, x2, x3) k' ≠ vx (x1, x2, x3) ((k' + 1) % 3) := fun h9 k' h8 => by
              by_cases h7 : k' = k
              · rw [h7, hk2]; exact h9
              · exact hkk k' (by omega)
            have hbf := hb1.trans ((hbel.trans (hbz2.mono hz1)).mono hb1.size)
            generalize vx (x1, x2, x3) k = u at *
            generalize vx (x1, x2, x3) k2 = u2 at *
            have Hhkk := Lib.hid hkk; clear hkk; have Hhkz := Lib.hid hkz; clear hkz; have Hhbad := Lib.hid hbad; clear hbad; have Hhok := Lib.hid hok; clear hok; have Hhbz2 := Lib.hid hbz2; clear hbz2; have Hhkz2 := Lib.hid hkz2; clear hkz2; have Hhk2 := Lib.hid hk2; clear hk2
            by_cases g1 : u < 0
            · have hx := Hhbad.out fun h9 => by omega
              have Hhx := Lib.hid hx; clear hx
              go_wp2_with fail
              refine Go.Canon.wp_region_text mixed (by kernel_rfl) ?_
              go_wp2_with fail
              all_goals first | (exfalso; omega) | skip
              refine Go.Canon.chk (by rfl) ?_
              go_wp2_with fail
              go_ret
              exact ⟨⟨false, rfl, ⟨fun h9 => (by cases h9), fun h9 => absurd h9 Hhx.out⟩⟩, hbf⟩
            · by_cases g2 : N ≤ u
              · have hx := Hhbad.out fun h9 => by omega
                have Hhx := Lib.hid hx; clear hx
                go_wp2_with fail
                refine Go.Canon.wp_region_text mixed (by kernel_rfl) ?_
                go_wp2_with fail
                all_goals first | (exfalso; omega) | skip
                refine Go.Canon.chk (by rfl) ?_
                go_wp2_with fail
                go_ret
                exact ⟨⟨false, rfl, ⟨fun h9 => (by cases h9), fun h9 => absurd h9 Hhx.out⟩⟩, hbf⟩
              · by_cases g3 : u = u2
                · have hx := Hhbad.out fun h9 => by omega
                  subst g3
                  have g4 : (u == u) = true := beq_self_eq_true _
                  have g5 : 0 ≤ u := by omega
                  have g6 : u < N := by omega
                  have g7 : decide (u < 0) = false := decide_eq_false g1
                  have g8 : decide (N ≤ u) = false := decide_eq_false g2
                  clear g1 g2
                  have Hhx := Lib.hid hx; clear hx
                  go_wp2_with fail
                  refine Go.Canon.wp_region_text mixed (by kernel_rfl) ?_
                  go_wp2_with fail
                  all_goals first | (exfalso; omega) | skip
                  refine Go.Canon.chk (by rfl) ?_
                  go_wp2_with fail
                  go_ret
                  exact ⟨⟨false, rfl, ⟨fun h9 => (by cases h9), fun h9 => absurd h9 Hhx.out⟩⟩, hbf⟩
                · have hx := Hhok.out ⟨by omega, by omega, g3⟩
                  have g4 : (u == u2) = false := by rw [beq_eq_false_iff_ne]; exact g3
                  have g5 : 0 ≤ u := by omega
                  have g6 : u < N := by omega
                  have g7 : decide (u < 0) = false := decide_eq_false g1
                  have g8 : decide (N ≤ u) = false := decide_eq_false g2
                  clear g1 g2 g3
                  have Hhx := Lib.hid hx; clear hx
                  go_wp2_with fail
                  refine Go.Canon.wp_region_text mixed (by kernel_rfl) ?_
                  go_wp2_with fail
                  all_goals first | (exfalso; omega) | skip
                  refine Go.Canon.chk (by rfl) ?_
                  go_wp2_with fail
                  exact ⟨⟨k + 1, by omega, by simp, Hhx.out, Hhkz2.out, Hhbz2.out⟩, by simp [intOf]; omega⟩
          · obtain rfl : k = 3 := by omega
            have hx := Hhnx.out hkk
            have hbz2 := hbel.trans (hbz.mono hz1)
            have Hhkk := Lib.hid hkk; clear hkk; have Hhkz := Lib.hid hkz; clear hkz; have Hhx := Lib.hid hx; clear hx
            go_wp2_with fail
            exact ⟨⟨i + 1, by omega, by simp, Hhx.out, hbz2⟩, by simp [intOf]; omega⟩
      · obtain rfl : i = T.length := by omega
        have hG2 : Idx N T ∧ G2 T := by
          refine ⟨⟨p1, p2, fun c hc => ?_⟩, fun i hi => ?_⟩
          · have := hall (c / 3) (by omega) (c % 3) (by omega)
            rw [vt_div]
            exact ⟨this.1, this.2.1⟩
          · have g0 := (hall i hi 0 (by omega)).2.2
            have g1 := (hall i hi 1 (by omega)).2.2
            have g2 := (hall i hi 2 (by omega)).2.2
            exact ⟨g0, g1, g2⟩
        have hTv : ∀ wz, Below w1.heap.size w1 wz → ∀ j, j < T.length → ∃ b o, A = some ⟨b, o, none⟩ ∧ b < w1.heap.size ∧ wz.cell? ⟨b, o + j * 3, none⟩ = some (.int .i64 (triAt T j).1) ∧ wz.cell? ⟨b, o + j * 3 + 1, none⟩ = some (.int .i64 (triAt T j).2.1) ∧ wz.cell? ⟨b, o + j * 3 + 2, none⟩ = some (.int .i64 (triAt T j).2.2) := fun wz hz j hj => by
          obtain ⟨b, o, h1, h2, h3, h4, h5⟩ := ((HhTA.out.below keeps_tri (hbel.mono hle)).below keeps_tri (hz.mono (show B ≤ w1.heap.size by omega))).tri_at hj
          rw [triAt_get hj] at h3 h4 h5
          exact ⟨b, o, h1, by omega, h3, h4, h5⟩
        have hbf1 := hb1.trans (hbel.mono hb1.size)
        have Hhall := Lib.hid hall; clear hall; have HhG2 := Lib.hid hG2; clear hG2; have HhTv := Lib.hid hTv; clear hTv
        go_wp2_with fail
        go_loopw [6] (fun iv wr => ∃ i : Nat, i ≤ T.length ∧ iv = .int .i64 (i : Int) ∧ NoP15 T i ∧ Below w1.heap.size w1 wr) (fun iv _ => T.length - (intOf iv).toNat)
        case atStart => exact ⟨0, by omega, rfl, fun b a hb => by omega, Below.refl _ _⟩
        case round =>
          obtain ⟨i, hi, rfl, hno, hbel2⟩ := hrel
          have hz2 := hbel2.size
          have c1s := (hbel2.cell (p := ⟨w.heap.size, 1, none⟩) hgs).trans c1r
          have c0s := (hbel2.cell (p := ⟨w.heap.size, 0, none⟩) hgs).trans c0r
          obtain ⟨w2, hw2⟩ : ∃ w2, w2 = wr := ⟨_, rfl⟩
          subst hw2
          by_cases hil : i < T.length
          · have Hhno := Lib.hid hno; clear hno
            go_wp2_with fail
            go_loopw [7] (fun kv wr => ∃ k : Nat, k ≤ i ∧ kv = .int .i64 (k : Int) ∧ (∀ a, a < k → twB (triAt T a) (triAt T i) = false ∧ vsB (triAt T i) (triAt T a) = false) ∧ Below w2.heap.size w2 wr) (fun kv _ => i - (intOf kv).toNat)
            case atStart => exact ⟨0, by omega, rfl, fun a ha => by omega, Below.refl _ _⟩
            case round =>
              obtain ⟨k, hk, rfl, hpre, hbel3⟩ := hrel
              have hz3 := hbel3.size
              have hbel23 := hbel2.trans (hbel3.mono hz2)
              obtain ⟨w3, hw3⟩ : ∃ w3, w3 = wr := ⟨_, rfl⟩
              subst hw3
              by_cases hki : k < i
              · have hkl : k < T.length := by omega
                obtain ⟨b, o, rfl, hbw1, a1, a2, a3⟩ := HhTv.out w3 hbel23 i hil
                obtain ⟨b', o', hee, _, d1, d2, d3⟩ := HhTv.out w3 hbel23 k hkl
                injection hee with hee
                injection hee with hee1 hee2 _
                subst hee1; subst hee2
                have hbw : b < w3.heap.size := by omega
                have hgw : w.heap.size < w3.heap.size := by omega
                have c1t := (hbel23.cell (p := ⟨w.heap.size, 1, none⟩) hgs).trans c1r
                have hbadS : (twB (triAt T k) (triAt T i) = true ∨ vsB (triAt T i) (triAt T k) = true) → ¬ Surf N T := fun h9 hs => by
                  have h8 := (Hhlen.out.1 hs).2.2.1 i k hil hki
                  rcases h9 with h9 | h9
                  · rw [h8.1] at h9; cases h9
                  · rw [h8.2] at h9; cases h9
                have hnx : (twB (triAt T k) (triAt T i) = false ∧ vsB (triAt T i) (triAt T k) = false) → ∀ a, a < k + 1 → twB (triAt T a) (triAt T i) = false ∧ vsB (triAt T i) (triAt T a) = false := fun h9 a ha => by
                  by_cases h7 : a = k
                  · rw [h7]; exact h9
                  · exact hpre a (by omega)
                have htw := twB_iff (t := triAt T k) (u := triAt T i)
                generalize triAt T i = x at *
                generalize triAt T k = y at *
                have hin3 := inN_three x y
                have hinl := inN_le x y
                have hst : ∀ m, inN x y (m + 1) = inN x y m + if haB y (if m = 0 then x.1 else if m = 1 then x.2.1 else x.2.2) = true then 1 else 0 := fun m => rfl
                have hvx : ∀ m, m < 3 → vx x m = (if m = 0 then x.1 else if m = 1 then x.2.1 else x.2.2) := fun m hm => by
                  have : m = 0 ∨ m = 1 ∨ m = 2 := by omega
                  rcases this with rfl | rfl | rfl <;> rfl
                have hxc : ∀ wz, Below w3.heap.size w3 wz → ∀ m, m < 3 → wz.cell? ⟨b, o + i * 3 + m, none⟩ = some (.int .i64 (vx x m)) := fun wz hz m hm => by
                  have g1 := (hz.cell (p := ⟨b, o + i * 3, none⟩) hbw).trans a1
                  have g2 := (hz.cell (p := ⟨b, o + i * 3 + 1, none⟩) hbw).trans a2
                  have g3 := (hz.cell (p := ⟨b, o + i * 3 + 2, none⟩) hbw).trans a3
                  have : m = 0 ∨ m = 1 ∨ m = 2 := by omega
                  rcases this with rfl | rfl | rfl
                  · exact g1
                  · exact g2
                  · exact g3
                have hyc : ∀ wz, Below w3.heap.size w3 wz → ∀ m, m < 3 → wz.cell? ⟨b, o + k * 3 + m, none⟩ = some (.int .i64 (vx y m)) := fun wz hz m hm => by
                  have g1 := (hz.cell (p := ⟨b, o + k * 3, none⟩) hbw).trans d1
                  have g2 := (hz.cell (p := ⟨b, o + k * 3 + 1, none⟩) hbw).trans d2
                  have g3 := (hz.cell (p := ⟨b, o + k * 3 + 2, none⟩) hbw).trans d3
                  have : m = 0 ∨ m = 1 ∨ m = 2 := by omega
                  rcases this with rfl | rfl | rfl
                  · exact g1
                  · exact g2
                  · exact g3
                have hha := fun u wz => has15_calls y u wz
                have hbf3 := hbf1.trans (hbel23.mono hbf1.size)
                clear a1 a2 a3
                have Hhpre := Lib.hid hpre; clear hpre; have HhbadS := Lib.hid hbadS; clear hbadS; have Hhnx := Lib.hid hnx; clear hnx; have Hhtw := Lib.hid htw; clear htw; have Hhin3 := Lib.hid hin3; clear hin3; have Hhinl := Lib.hid hinl; clear hinl; have Hhst := Lib.hid hst; clear hst; have Hhvx := Lib.hid hvx; clear hvx; have Hhxc := Lib.hid hxc; clear hxc; have Hhyc := Lib.hid hyc; clear hyc; have Hhha := Lib.hid hha; clear hha
                go_wp2_with fail
                go_loopw [8, 9] (fun sv xv wz => ∃ m : Nat, m ≤ 3 ∧ xv = .int .i64 (m : Int) ∧ sv = .int .i64 (inN x y m : Nat) ∧ (∀ m', m' < m → ∀ j, j < 3 → ¬ (vx x m' = vx y j ∧ vx x ((m' + 1) % 3) = vx y ((j + 1) % 3))) ∧ Below w3.heap.size w3 wz) (fun _ xv _ => 3 - (intOf xv).toNat)
                case atStart => exact ⟨0, by omega, rfl, rfl, fun m' h => by omega, Below.refl _ _⟩
                case round =>
                  obtain ⟨m, hm, rfl, rfl, hmm, hbz⟩ := hrel
                  have hinm := Hhinl.out m
                  obtain ⟨sm, hsm⟩ : ∃ sm, inN x y m = sm := ⟨_, rfl⟩
                  rw [hsm] at hinm
                  rw [hsm]
                  by_cases hm3 : m < 3
                  · have hcx := Hhxc.out wr hbz m hm3
                    have hsu := Hhst.out m
                    rw [← Hhvx.out m hm3, hsm] at hsu
                    have c1u := (hbz.cell (p := ⟨w.heap.size, 1, none⟩) hgw).trans c1t
                    have dd1 := (hbz.cell (p := ⟨b, o + k * 3, none⟩) hbw).trans d1
                    have dd2 := (hbz.cell (p := ⟨b, o + k * 3 + 1, none⟩) hbw).trans d2
                    have dd3 := (hbz.cell (p := ⟨b, o + k * 3 + 2, none⟩) hbw).trans d3
                    have hcall := Hhha.out (vx x m) wr.drew
                    have hmi : (m : Int) < 3 := by omega
                    obtain ⟨bq, hbq⟩ : ∃ bq, haB y (vx x m) = bq := ⟨_, rfl⟩
                    rw [hbq] at hcall hsu
                    obtain ⟨y1, y2, y3⟩ := y
                    simp only [triV] at hcall dd1 dd2 dd3
                    have hzz := hbz.size
                    obtain ⟨xm, hxm⟩ : ∃ xm, vx x m = xm := ⟨_, rfl⟩
                    rw [hxm] at hcx hcall
                    have hbzd := hbz.drew
                    have Hhmm := Lib.hid hmm; clear hmm; have Hhsu := Lib.hid hsu; clear hsu; have Hhcall := Lib.hid hcall; clear hcall; have Hhsm := Lib.hid hsm; clear hsm; have Hhbq := Lib.hid hbq; clear hbq; have Hhxm := Lib.hid hxm; clear hxm
                    go_wp2_with fail
                    refine Go.Canon.wp_region_text mixed (by kernel_rfl) ?_
                    go_wp2_with fail
                    refine Hhcall.out.mono ?_
                    rintro e w5 ⟨rfl, hb5⟩
                    have hbz5 := hbzd.trans (hb5.mono (by simpa using hzz))
                    go_wp2_with fail
                    refine Go.Canon.chk (by rfl) ?_
                    obtain ⟨sn, hsn⟩ : ∃ sn, inN x (y1, y2, y3) (m + 1) = sn := ⟨_, rfl⟩
                    have hsu := Hhsu.out
                    rw [hsn] at hsu
                    cases bq with
                    | false =>
                      rw [if_neg (by simp), Nat.add_zero] at hsu
                      have Hhsu := Lib.hid hsu; clear hsu; have Hhsn := Lib.hid hsn; clear hsn
                      go_wp2_with fail
                      go_loopw [10] (fun yv wz => ∃ j : Nat, j ≤ 3 ∧ yv = .int .i64 (j : Int) ∧ (∀ j', j' < j → ¬ (vx x m = vx (y1, y2, y3) j' ∧ vx x ((m + 1) % 3) = vx (y1, y2, y3) ((j' + 1) % 3))) ∧ Below w3.heap.size w3 wz) (fun yv _ => 3 - (intOf yv).toNat)
                      case atStart => exact ⟨0, by omega, rfl, fun j' h => by omega, hbz5⟩
                      case round =>
                        obtain ⟨j, hj, rfl, hjj, hbj⟩ := hrel
                        by_cases hj3 : j < 3
                        · obtain ⟨m2, hm2⟩ : ∃ m2 : Nat, (m + 1) % 3 = m2 := ⟨_, rfl⟩
                          obtain ⟨j2, hj2⟩ : ∃ j2 : Nat, (j + 1) % 3 = j2 := ⟨_, rfl⟩
                          have hm2i : ((m : Int) + 1) % 3 = (m2 : Int) := by omega
                          have hj2i : ((j : Int) + 1) % 3 = (j2 : Int) := by omega
                          have hm2l : (m2 : Int) < 3 := by omega
                          have hj2l : (j2 : Int) < 3 := by omega
                          have hji : (j : Int) < 3 := by omega
                          have q1 := Hhxc.out wr hbj m hm3
                          have q2 := Hhxc.out wr hbj m2 (by omega)
                          have q3 := Hhyc.out wr hbj j hj3
                          have q4 := Hhyc.out wr hbj j2 (by omega)
                          have c1v := (hbj.cell (p := ⟨w.heap.size, 1, none⟩) hgw).trans c1t
                          have hbjd := hbj.drew
                          have hbfj := hbf3.trans (hbjd.mono hbf3.size)
                          have hyes : vx x m = vx (y1, y2, y3) j → vx x m2 = vx (y1, y2, y3) j2 → ¬ Surf N T := fun e1 e2 => HhbadS.out (.inl (Hhtw.out.2 ⟨j, m, hj3, hm3, e1, by rw [hm2, hj2]; exact e2⟩))
                          have hnot : ¬ (vx x m = vx (y1, y2, y3) j ∧ vx x m2 = vx (y1, y2, y3) j2) → ∀ j', j' < j + 1 → ¬ (vx x m = vx (y1, y2, y3) j' ∧ vx x ((m + 1) % 3) = vx (y1, y2, y3) ((j' + 1) % 3)) := fun h9 j' h8 => by
                            by_cases h7 : j' = j
                            · rw [h7, hm2, hj2]; exact h9
                            · exact hjj j' (by omega)
                          obtain ⟨u1, hu1⟩ : ∃ u, vx x m = u := ⟨_, rfl⟩
                          obtain ⟨u2, hu2⟩ : ∃ u, vx x m2 = u := ⟨_, rfl⟩
                          obtain ⟨u3, hu3⟩ : ∃ u, vx (y1, y2, y3) j = u := ⟨_, rfl⟩
                          obtain ⟨u4, hu4⟩ : ∃ u, vx (y1, y2, y3) j2 = u := ⟨_, rfl⟩
                          rw [hu1] at q1
                          rw [hu2] at q2
                          rw [hu3] at q3
                          rw [hu4] at q4
                          have hyes2 : u1 = u3 → u2 = u4 → ¬ Surf N T := fun e1 e2 => hyes (by rw [hu1, hu3]; exact e1) (by rw [hu2, hu4]; exact e2)
                          have hnot2 := fun (h9 : ¬ (u1 = u3 ∧ u2 = u4)) => hnot (by rw [hu1, hu2, hu3, hu4]; exact h9)
                          clear hyes hnot
                          by_cases g1 : u1 = u3
                          · by_cases g2 : u2 = u4
                            · have hx := hyes2 g1 g2
                              subst g1; subst g2
                              have e1 : (u1 == u1) = true := beq_self_eq_true _
                              have e2 : (u2 == u2) = true := beq_self_eq_true _
                              clear hyes2 hnot2
                              have Hhjj := Lib.hid hjj; clear hjj; have Hhx := Lib.hid hx; clear hx; have Hhu1 := Lib.hid hu1; clear hu1; have Hhu2 := Lib.hid hu2; clear hu2; have Hhu3 := Lib.hid hu3; clear hu3; have Hhu4 := Lib.hid hu4; clear hu4; have Hhm2 := Lib.hid hm2; clear hm2; have Hhj2 := Lib.hid hj2; clear hj2
                              go_wp2_with fail
                              refine Go.Canon.wp_region_text mixed (by kernel_rfl) ?_
                              go_wp2_with fail
                              refine Go.Canon.chk (by rfl) ?_
                              go_wp2_with fail
                              go_ret
                              exact ⟨⟨false, rfl, ⟨fun h9 => (by cases h9), fun h9 => absurd h9 Hhx.out⟩⟩, hbfj⟩
                            · have hx := hnot2 fun h9 => g2 h9.2
                              subst g1
                              have e1 : (u1 == u1) = true := beq_self_eq_true _
                              have e2 : (u2 == u4) = false := by rw [beq_eq_false_iff_ne]; exact g2
                              clear hyes2 hnot2
                              have Hhjj := Lib.hid hjj; clear hjj; have Hhx := Lib.hid hx; clear hx; have Hhu1 := Lib.hid hu1; clear hu1; have Hhu2 := Lib.hid hu2; clear hu2; have Hhu3 := Lib.hid hu3; clear hu3; have Hhu4 := Lib.hid hu4; clear hu4; have Hhm2 := Lib.hid hm2; clear hm2; have Hhj2 := Lib.hid hj2; clear hj2
                              go_wp2_with fail
                              refine Go.Canon.wp_region_text mixed (by kernel_rfl) ?_
                              go_wp2_with fail
                              refine Go.Canon.chk (by rfl) ?_
                              go_wp2_with fail
                              exact ⟨⟨j + 1, by omega, by simp, Hhx.out, hbjd⟩, by simp [intOf]; omega⟩
                          · have hx := hnot2 fun h9 => g1 h9.1
                            have e1 : (u1 == u3) = false := by rw [beq_eq_false_iff_ne]; exact g1
                            clear hyes2 hnot2
                            have Hhjj := Lib.hid hjj; clear hjj; have Hhx := Lib.hid hx; clear hx; have Hhu1 := Lib.hid hu1; clear hu1; have Hhu2 := Lib.hid hu2; clear hu2; have Hhu3 := Lib.hid hu3; clear hu3; have Hhu4 := Lib.hid hu4; clear hu4; have Hhm2 := Lib.hid hm2; clear hm2; have Hhj2 := Lib.hid hj2; clear hj2
                            go_wp2_with fail
                            refine Go.Canon.wp_region_text mixed (by kernel_rfl) ?_
                            go_wp2_with fail
                            refine Go.Canon.chk (by rfl) ?_
                            go_wp2_with fail
                            exact ⟨⟨j + 1, by omega, by simp, Hhx.out, hbjd⟩, by simp [intOf]; omega⟩
                        · obtain rfl : j = 3 := by omega
                          have hmm2 : ∀ m', m' < m + 1 → ∀ j, j < 3 → ¬ (vx x m' = vx (y1, y2, y3) j ∧ vx x ((m' + 1) % 3) = vx (y1, y2, y3) ((j + 1) % 3)) := fun m' h8 j h9 => by
                            by_cases h7 : m' = m
                            · rw [h7]; exact hjj j h9
                            · exact Hhmm.out m' (by omega) j h9
                          have Hhjj := Lib.hid hjj; clear hjj; have Hhmm2 := Lib.hid hmm2; clear hmm2
                          go_wp2_with fail
                          exact ⟨⟨m + 1, by omega, by simp, by first | (rw [Hhsn.out, Hhsu.out]; done) | (rw [Hhsn.out, Hhsu.out]; rfl) | (rw [Hhsu.out]; done) | (rw [Hhsu.out]; rfl), Hhmm2.out, hbj⟩, by simp [intOf]; omega⟩
                    | true =>
                      rw [if_pos rfl] at hsu
                      have Hhsu := Lib.hid hsu; clear hsu; have Hhsn := Lib.hid hsn; clear hsn
                      go_wp2_with fail
                      go_loopw [10] (fun yv wz => ∃ j : Nat, j ≤ 3 ∧ yv = .int .i64 (j : Int) ∧ (∀ j', j' < j → ¬ (vx x m = vx (y1, y2, y3) j' ∧ vx x ((m + 1) % 3) = vx (y1, y2, y3) ((j' + 1) % 3))) ∧ Below w3.heap.size w3 wz) (fun yv _ => 3 - (intOf yv).toNat)
                      case atStart => exact ⟨0, by omega, rfl, fun j' h => by omega, hbz5⟩
                      case round =>
                        obtain ⟨j, hj, rfl, hjj, hbj⟩ := hrel
                        by_cases hj3 : j < 3
                        · obtain ⟨m2, hm2⟩ : ∃ m2 : Nat, (m + 1) % 3 = m2 := ⟨_, rfl⟩
                          obtain ⟨j2, hj2⟩ : ∃ j2 : Nat, (j + 1) % 3 = j2 := ⟨_, rfl⟩
                          have hm2i : ((m : Int) + 1) % 3 = (m2 : Int) := by omega
                          have hj2i : ((j : Int) + 1) % 3 = (j2 : Int) := by omega
                          have hm2l : (m2 : Int) < 3 := by omega
                          have hj2l : (j2 : Int) < 3 := by omega
                          have hji : (j : Int) < 3 := by omega
                          have q1 := Hhxc.out wr hbj m hm3
                          have q2 := Hhxc.out wr hbj m2 (by omega)
                          have q3 := Hhyc.out wr hbj j hj3
                          have q4 := Hhyc.out wr hbj j2 (by omega)
                          have c1v := (hbj.cell (p := ⟨w.heap.size, 1, none⟩) hgw).trans c1t
                          have hbjd := hbj.drew
                          have hbfj := hbf3.trans (hbjd.mono hbf3.size)
                          have hyes : vx x m = vx (y1, y2, y3) j → vx x m2 = vx (y1, y2, y3) j2 → ¬ Surf N T := fun e1 e2 => HhbadS.out (.inl (Hhtw.out.2 ⟨j, m, hj3, hm3, e1, by rw [hm2, hj2]; exact e2⟩))
                          have hnot : ¬ (vx x m = vx (y1, y2, y3) j ∧ vx x m2 = vx (y1, y2, y3) j2) → ∀ j', j' < j + 1 → ¬ (vx x m = vx (y1, y2, y3) j' ∧ vx x ((m + 1) % 3) = vx (y1, y2, y3) ((j' + 1) % 3)) := fun h9 j' h8 => by
                            by_cases h7 : j' = j
                            · rw [h7, hm2, hj2]; exact h9
                            · exact hjj j' (by omega)
                          obtain ⟨u1, hu1⟩ : ∃ u, vx x m = u := ⟨_, rfl⟩
                          obtain ⟨u2, hu2⟩ : ∃ u, vx x m2 = u := ⟨_, rfl⟩
                          obtain ⟨u3, hu3⟩ : ∃ u, vx (y1, y2, y3) j = u := ⟨_, rfl⟩
                          obtain ⟨u4, hu4⟩ : ∃ u, vx (y1, y2, y3) j2 = u := ⟨_, rfl⟩
                          rw [hu1] at q1
                          rw [hu2] at q2
                          rw [hu3] at q3
                          rw [hu4] at q4
                          have hyes2 : u1 = u3 → u2 = u4 → ¬ Surf N T := fun e1 e2 => hyes (by rw [hu1, hu3]; exact e1) (by rw [hu2, hu4]; exact e2)
                          have hnot2 := fun (h9 : ¬ (u1 = u3 ∧ u2 = u4)) => hnot (by rw [hu1, hu2, hu3, hu4]; exact h9)
                          clear hyes hnot
                          by_cases g1 : u1 = u3
                          · by_cases g2 : u2 = u4
                            · have hx := hyes2 g1 g2
                              subst g1; subst g2
                              have e1 : (u1 == u1) = true := beq_self_eq_true _
                              have e2 : (u2 == u2) = true := beq_self_eq_true _
                              clear hyes2 hnot2
                              have Hhjj := Lib.hid hjj; clear hjj; have Hhx := Lib.hid hx; clear hx; have Hhu1 := Lib.hid hu1; clear hu1; have Hhu2 := Lib.hid hu2; clear hu2; have Hhu3 := Lib.hid hu3; clear hu3; have Hhu4 := Lib.hid hu4; clear hu4; have Hhm2 := Lib.hid hm2; clear hm2; have Hhj2 := Lib.hid hj2; clear hj2
                              go_wp2_with fail
                              refine Go.Canon.wp_region_text mixed (by kernel_rfl) ?_
                              go_wp2_with fail
                              refine Go.Canon.chk (by rfl) ?_
                              go_wp2_with fail
                              go_ret
                              exact ⟨⟨false, rfl, ⟨fun h9 => (by cases h9), fun h9 => absurd h9 Hhx.out⟩⟩, hbfj⟩
                            · have hx := hnot2 fun h9 => g2 h9.2
                              subst g1
                              have e1 : (u1 == u1) = true := beq_self_eq_true _
                              have e2 : (u2 == u4) = false := by rw [beq_eq_false_iff_ne]; exact g2
                              clear hyes2 hnot2
                              have Hhjj := Lib.hid hjj; clear hjj; have Hhx := Lib.hid hx; clear hx; have Hhu1 := Lib.hid hu1; clear hu1; have Hhu2 := Lib.hid hu2; clear hu2; have Hhu3 := Lib.hid hu3; clear hu3; have Hhu4 := Lib.hid hu4; clear hu4; have Hhm2 := Lib.hid hm2; clear hm2; have Hhj2 := Lib.hid hj2; clear hj2
                              go_wp2_with fail
                              refine Go.Canon.wp_region_text mixed (by kernel_rfl) ?_
                              go_wp2_with fail
                              refine Go.Canon.chk (by rfl) ?_
                              go_wp2_with fail
                              exact ⟨⟨j + 1, by omega, by simp, Hhx.out, hbjd⟩, by simp [intOf]; omega⟩
                          · have hx := hnot2 fun h9 => g1 h9.1
                            have e1 : (u1 == u3) = false := by rw [beq_eq_false_iff_ne]; exact g1
                            clear hyes2 hnot2
                            have Hhjj := Lib.hid hjj; clear hjj; have Hhx := Lib.hid hx; clear hx; have Hhu1 := Lib.hid hu1; clear hu1; have Hhu2 := Lib.hid hu2; clear hu2; have Hhu3 := Lib.hid hu3; clear hu3; have Hhu4 := Lib.hid hu4; clear hu4; have Hhm2 := Lib.hid hm2; clear hm2; have Hhj2 := Lib.hid hj2; clear hj2
                            go_wp2_with fail
                            refine Go.Canon.wp_region_text mixed (by kernel_rfl) ?_
                            go_wp2_with fail
                            refine Go.Canon.chk (by rfl) ?_
                            go_wp2_with fail
                            exact ⟨⟨j + 1, by omega, by simp, Hhx.out, hbjd⟩, by simp [intOf]; omega⟩
                        · obtain rfl : j = 3 := by omega
                          have hmm2 : ∀ m', m' < m + 1 → ∀ j, j < 3 → ¬ (vx x m' = vx (y1, y2, y3) j ∧ vx x ((m' + 1) % 3) = vx (y1, y2, y3) ((j + 1) % 3)) := fun m' h8 j h9 => by
                            by_cases h7 : m' = m
                            · rw [h7]; exact hjj j h9
                            · exact Hhmm.out m' (by omega) j h9
                          have Hhjj := Lib.hid hjj; clear hjj; have Hhmm2 := Lib.hid hmm2; clear hmm2
                          go_wp2_with fail
                          exact ⟨⟨m + 1, by omega, by simp, by first | (rw [Hhsn.out, Hhsu.out]; done) | (rw [Hhsn.out, Hhsu.out]; rfl) | (rw [Hhsu.out]; done) | (rw [Hhsu.out]; rfl), Hhmm2.out, hbj⟩, by simp [intOf]; omega⟩
                  · obtain rfl : m = 3 := by omega
                    have hnt : twB y x = false := by
                      rw [Bool.eq_false_iff]
                      intro h9
                      obtain ⟨k9, j9, e1, e2, e3, e4⟩ := Hhtw.out.1 h9
                      exact hmm j9 e2 k9 e1 ⟨e3, e4⟩
                    have hbz3 := hbel3.trans (hbz.mono hz3)
                    have hbf4 := hbf3.trans (hbz.mono hbf3.size)
                    have hin3 := Hhin3.out
                    rw [hsm] at hin3
                    by_cases h3s : sm = 3
                    · have hx := HhbadS.out (.inr (hin3.1 h3s))
                      subst h3s
                      have Hhmm := Lib.hid hmm; clear hmm; have Hhsm := Lib.hid hsm; clear hsm; have Hhnt := Lib.hid hnt; clear hnt; have Hhin3 := Lib.hid hin3; clear hin3; have Hhx := Lib.hid hx; clear hx
                      go_wp2_with fail
                      go_ret
                      exact ⟨⟨false, rfl, ⟨fun h9 => (by cases h9), fun h9 => absurd h9 Hhx.out⟩⟩, hbf4⟩
                    · have hx := Hhnx.out ⟨hnt, by rw [Bool.eq_false_iff]; exact fun h9 => h3s (hin3.2 h9)⟩
                      have h3b : ((sm : Int) == 3) = false := by rw [beq_eq_false_iff_ne]; omega
                      have Hhmm := Lib.hid hmm; clear hmm; have Hhsm := Lib.hid hsm; clear hsm; have Hhnt := Lib.hid hnt; clear hnt; have Hhin3 := Lib.hid hin3; clear hin3; have Hhx := Lib.hid hx; clear hx
                      go_wp2_with fail
                      exact ⟨⟨k + 1, by omega, by simp, Hhx.out, hbz3⟩, by simp [intOf]; omega⟩
              · obtain rfl : k = i := by omega
                have hnn : NoP15 T (k + 1) := fun b a hb hab => by
                  by_cases h7 : b = k
                  · subst h7; exact hpre a hab
                  · exact Hhno.out b a (by omega) hab
                have Hhpre := Lib.hid hpre; clear hpre; have Hhnn := Lib.hid hnn; clear hnn
                go_wp2_with fail
                exact ⟨⟨k + 1, by omega, by simp, Hhnn.out, hbel23⟩, by simp [intOf]; omega⟩
          · obtain rfl : i = T.length := by omega
            have hbf2 := hbf1.trans (hbel2.mono hbf1.size)
            have hslT := (HhTA.out.below keeps_tri (hbel.mono hle)).below keeps_tri (hbel2.mono (show B ≤ w1.heap.size by omega))
            obtain ⟨n, rfl⟩ : ∃ n : Nat, N = n := ⟨N.toNat, by omega⟩
            have Hhno := Lib.hid hno; clear hno; have HhslT := Lib.hid hslT; clear hslT
            go_wp2_with fail
            go_loopw [11] (fun vv wr => ∃ v : Nat, v ≤ n ∧ vv = .int .i64 (v : Int) ∧ (∀ u : Nat, u < v → T.filter (haB · (u : Int)) ≠ [] ∧ Cn (T.filter (haB · (u : Int))) u) ∧ Below w2.heap.size w2 wr) (fun vv _ => n - (intOf vv).toNat)
            case atStart => exact ⟨0, by omega, rfl, fun u h => by omega, Below.refl _ _⟩
            case round =>
              obtain ⟨v, hv, rfl, hvv, hbel3⟩ := hrel
              have hz3 := hbel3.size
              have c0t := (hbel3.cell (p := ⟨w.heap.size, 0, none⟩) (show w.heap.size < w2.heap.size by omega)).trans c0s
              have c1t := (hbel3.cell (p := ⟨w.heap.size, 1, none⟩) (show w.heap.size < w2.heap.size by omega)).trans c1s
              have hbf3 := hbf2.trans (hbel3.mono hbf2.size)
              by_cases hvn : v < n
              · have hfa := fan15_calls (.slice A T.length cap) (n : Int) T (v : Int) wr (B := B) (by omega) (HhslT.out.below keeps_tri (hbel3.mono (by omega))) (by omega) HhG2.out.2
                have Hhvv := Lib.hid hvv; clear hvv; have Hhfa := Lib.hid hfa; clear hfa
                go_wp2_with fail
                refine Hhfa.out.mono ?_
                rintro e w4 ⟨⟨a, r, rfl, ha, hr, hiff⟩, hb4⟩
                have hbf4 := hbf3.trans (hb4.mono hbf3.size)
                have hbel4 := hbel3.trans (hb4.mono hz3)
                have hbad : ¬ (a ≠ 0 ∧ a = r) → ¬ Surf (n : Int) T := fun h9 hs => h9 (hiff.2 ((Hhlen.out.1 hs).2.2.2 v (by omega)))
                have hok : (a ≠ 0 ∧ a = r) → ∀ u : Nat, u < v + 1 → T.filter (haB · (u : Int)) ≠ [] ∧ Cn (T.filter (haB · (u : Int))) u := fun h9 u hu => by
                  by_cases h7 : u = v
                  · subst h7; exact hiff.1 h9
                  · exact Hhvv.out u (by omega)
                clear hiff
                by_cases ha0 : a = 0
                · have hx := hbad fun h9 => h9.1 ha0
                  subst ha0
                  have Hhbad := Lib.hid hbad; clear hbad; have Hhok := Lib.hid hok; clear hok; have Hhx := Lib.hid hx; clear hx
                  go_wp2_with fail
                  go_ret
                  exact ⟨⟨false, rfl, ⟨fun h9 => (by cases h9), fun h9 => absurd h9 Hhx.out⟩⟩, hbf4⟩
                · have hab : ((a : Int) == 0) = false := by rw [beq_eq_false_iff_ne]; omega
                  by_cases har : a = r
                  · have hx := hok ⟨ha0, har⟩
                    subst har
                    have hnb : ((a : Int) != (a : Int)) = false := by simp
                    have Hhbad := Lib.hid hbad; clear hbad; have Hhok := Lib.hid hok; clear hok; have Hhx := Lib.hid hx; clear hx; have Hha0 := Lib.hid ha0; clear ha0
                    go_wp2_with fail
                    exact ⟨⟨v + 1, by omega, by simp, Hhx.out, hbel4⟩, by simp [intOf]; omega⟩
                  · have hx := hbad fun h9 => har h9.2
                    have hnb : ((a : Int) != (r : Int)) = true := by rw [bne_iff_ne]; omega
                    have Hhbad := Lib.hid hbad; clear hbad; have Hhok := Lib.hid hok; clear hok; have Hhx := Lib.hid hx; clear hx; have Hha0 := Lib.hid ha0; clear ha0; have Hhar := Lib.hid har; clear har
                    go_wp2_with fail
                    go_ret
                    exact ⟨⟨false, rfl, ⟨fun h9 => (by cases h9), fun h9 => absurd h9 Hhx.out⟩⟩, hbf4⟩
              · obtain rfl : v = n := by omega
                have hx : Surf (v : Int) T := Hhlen.out.2 ⟨HhG2.out.1, HhG2.out.2, Hhno.out, fun u hu => hvv u (by omega)⟩
                have Hhvv := Lib.hid hvv; clear hvv; have Hhx := Lib.hid hx; clear hx
                go_wp2_with fail
                go_ret
                exact ⟨⟨true, rfl, ⟨fun _ => Hhx.out, fun _ => rfl⟩⟩, hbf3⟩
end Go.Proofs.YtpbdcppaiafbgaaGreat
