/- Walks: ref08's Perm; ref12's Has, On. -/
import Derived.Test.YtckkpmjkajkkmaaBR
namespace Go.Proofs.Ytckkpmjkajkkmaa
open Go Go.RowKit Go.Words Go.Mesh

set_option maxRecDepth 20000 in
set_option maxHeartbeats 1000000 in
theorem perm08_calls {w : World} {B : Nat} {lv : Value} {l : List Int} {n : Nat} (hl : Sl 1 RInt w B lv l) (hn : n ≤ 100000) :
    Calls Try.prog 43 #[lv, .int .i64 (n : Int)] w fun e w' => SaysYes e (PermL l n) ∧ w' = w := by
  obtain ⟨A, cap, rfl, hcap⟩ := hl.form
  by_cases hln : l.length = n
  case neg =>
    have hne : ((l.length : Int) == (n : Int)) = false := by rw [beq_eq_false_iff_ne]; omega
    have hno : ¬ PermL l n := fun h => hln h.1
    clear hln
    have Hhl := Lib.hid hl; clear hl; have Hhno := Lib.hid hno; clear hno
    go_enter Try.func43, Try.ntmps43
    go_wp2_with fail
    all_goals first | (exfalso; simp at hne; omega) | skip
    all_goals
      go_ret
      exact ⟨⟨false, rfl, ⟨fun h => (by cases h), fun h => absurd h Hhno.out⟩⟩, rfl⟩
  case pos =>
    subst hln
    have Hhl := Lib.hid hl; clear hl
    go_enter Try.func43, Try.ntmps43
    go_wp2_with fail
    go_loopw [5] (fun i wr => ∃ k : Nat, k ≤ l.length ∧ i = .int .i64 k ∧ (∀ u : Nat, u < k → l.count (u : Int) = 1) ∧ wr = w) (fun i _ => l.length - (intOf i).toNat)
    case atStart => exact ⟨0, by omega, rfl, fun u hu => by omega, rfl⟩
    case round =>
      obtain ⟨k, hk, rfl, hall, rfl⟩ := hrel
      by_cases hkl : k < l.length
      · have Hhall := Lib.hid hall; clear hall
        go_wp2_with fail
        go_loopw [6, 7] (fun c j wz => ∃ m : Nat, m ≤ l.length ∧ j = .int .i64 m ∧ c = .int .i64 ((l.take m).count (k : Int) : Int) ∧ wz = wr) (fun _ j _ => l.length - (intOf j).toNat)
        case atStart => exact ⟨0, by omega, rfl, rfl, rfl⟩
        case round =>
          obtain ⟨m, hm, rfl, rfl, rfl⟩ := hrel
          by_cases hml : m < l.length
          · obtain ⟨b, o, rfl, hb, c1⟩ := Hhl.out.int_at hml
            have hst : ((l.take (m + 1)).count (k : Int) : Int) = (l.take m).count (k : Int) + if l[m] = (k : Int) then 1 else 0 := by
              rw [List.take_succ_eq_append_getElem hml, List.count_append, List.count_cons, List.count_nil]
              by_cases h9 : l[m] = (k : Int)
              · rw [if_pos (by simpa using h9), if_pos h9]; omega
              · rw [if_neg (by simpa using h9), if_neg h9]; omega
            have hcl : (l.take m).count (k : Int) ≤ 100000 := by
              have h1 := List.count_le_length (a := (k : Int)) (l := l.take m)
              rw [List.length_take] at h1
              omega
            generalize (l.take m).count (k : Int) = cn at *
            generalize l[m] = x at *
            by_cases hx : x = (k : Int)
            · rw [if_pos hx] at hst
              subst hx
              have Hhst := Lib.hid hst; clear hst
              go_wp2_with fail
              exact ⟨⟨m + 1, by omega, by simp, by rw [Hhst.out], by trivial⟩, by simp [intOf]; omega⟩
            · rw [if_neg hx] at hst
              have hxb : (x == (k : Int)) = false := by simpa using hx
              have Hhst := Lib.hid hst; clear hst; have Hhx := Lib.hid hx; clear hx
              go_wp2_with fail
              exact ⟨⟨m + 1, by omega, by simp, by rw [Hhst.out]; simp, by trivial⟩, by simp [intOf]; omega⟩
          · obtain rfl : m = l.length := by omega
            rw [List.take_length]
            by_cases h1 : l.count (k : Int) = 1
            · have hall2 : ∀ u : Nat, u < k + 1 → l.count (u : Int) = 1 := fun u hu => by
                by_cases hu2 : u = k
                · rw [hu2]; exact h1
                · exact Hhall.out u (by omega)
              rw [h1]
              have Hh1 := Lib.hid h1; clear h1; have Hhall2 := Lib.hid hall2; clear hall2
              go_wp2_with fail
              exact ⟨⟨k + 1, by omega, by simp, Hhall2.out, by trivial⟩, by simp [intOf]; omega⟩
            · have hno : ¬ PermL l l.length := fun h => h1 (h.2 k hkl)
              have hcb : ((l.count (k : Int) : Int) == 1) = false := by rw [beq_eq_false_iff_ne]; omega
              generalize l.count (k : Int) = cn at *
              have Hh1 := Lib.hid h1; clear h1; have Hhno := Lib.hid hno; clear hno
              go_wp2_with fail
              go_ret
              exact ⟨⟨false, rfl, ⟨fun h => (by cases h), fun h => absurd h Hhno.out⟩⟩, rfl⟩
      · obtain rfl : k = l.length := by omega
        have hy : PermL l l.length := ⟨rfl, hall⟩
        have Hhall := Lib.hid hall; clear hall; have Hhy := Lib.hid hy; clear hy
        go_wp2_with fail
        go_ret
        exact ⟨⟨true, rfl, ⟨fun _ => Hhy.out, fun _ => rfl⟩⟩, rfl⟩
set_option maxRecDepth 20000 in
set_option maxHeartbeats 1000000 in
theorem has12_calls (t : T3) (v : Int) (w : World) :
    Calls Try.prog 75 #[triV t, .int .i64 v] w fun e w' => e = .returned (.bool (haB t v)) ∧ Below w.heap.size w w' := by
  obtain ⟨x, y, z⟩ := t
  unfold haB
  simp only [triV]
  go_enter Try.func75, Try.ntmps75
  go_wp2_with fail
  all_goals
    go_ret
    refine ⟨ret_bool ?_, (Below.refl w.heap.size w).alloc (Nat.le_refl _) _⟩
    simp [*]
def onB (x y z : Int) (t : T3) : Bool := haB t x && haB t y && haB t z
set_option maxRecDepth 20000 in
set_option maxHeartbeats 1000000 in
theorem on12_calls {w : World} {B : Nat} {sv : Value} {N : Int} {T : List T3} (hT : Sl 3 RTri w B sv T) (hB0 : B ≤ w.heap.size) (hfew : T.length ≤ 8192) (x y z : Int) :
    Calls Try.prog 47 #[.agg #[.int .i64 N, sv], .int .i64 x, .int .i64 y, .int .i64 z] w fun e w' => SaysYes e (∃ i, i < T.length ∧ onB x y z (triAt T i) = true) ∧ Below w.heap.size w w' := by
  obtain ⟨A, cap, rfl, hcap⟩ := hT.form
  have hbox := Bk.new w 24 [.int .i64 N, .slice A T.length cap]
  have hb1 := (Below.refl w.heap.size w).alloc (Nat.le_refl _) (.cells #[.int .i64 N, .slice A T.length cap] 24)
  have hTA := hT.below keeps_tri (hb1.mono hB0)
  have c0 := hbox.cell 0
  have c1 := hbox.cell 1
  simp only [List.getElem?_cons_zero, List.getElem?_cons_succ] at c0 c1
  have hz0 : w.heap.size < (w.alloc (.cells #[.int .i64 N, .slice A T.length cap] 24)).heap.size := by rw [World.size_alloc]; omega
  have hle : B ≤ (w.alloc (.cells #[.int .i64 N, .slice A T.length cap] 24)).heap.size := by rw [World.size_alloc]; omega
  generalize hw0 : w.alloc (.cells #[.int .i64 N, .slice A T.length cap] 24) = w0 at *
  have HhT := Lib.hid hT; clear hT; have HhTA := Lib.hid hTA; clear hTA; have Hhbox := Lib.hid hbox; clear hbox
  go_enter Try.func47, Try.ntmps47
  go_wp2_with fail
  clear hw0
  go_loopw [9] (fun i wr => ∃ k : Nat, k ≤ T.length ∧ i = .int .i64 k ∧ (∀ i, i < k → onB x y z (triAt T i) = false) ∧ Below w0.heap.size w0 wr) (fun i _ => T.length - (intOf i).toNat)
  case atStart => exact ⟨0, by omega, rfl, fun i hi => by omega, Below.refl _ _⟩
  case round =>
    obtain ⟨k, hk, rfl, hno, hbel⟩ := hrel
    obtain ⟨w1, hw1⟩ : ∃ w1, w1 = wr := ⟨_, rfl⟩
    subst hw1
    have hz := hbel.size
    have c1r := (hbel.cell (p := ⟨w.heap.size, 1, none⟩) hz0).trans c1
    by_cases hkl : k < T.length
    · obtain ⟨b, o, rfl, hb, t1, t2, t3⟩ := (HhTA.out.below keeps_tri (hbel.mono hle)).tri_at hkl
      rw [triAt_get hkl] at t1 t2 t3
      have hon : onB x y z (triAt T k) = (haB (triAt T k) x && haB (triAt T k) y && haB (triAt T k) z) := rfl
      have hstep : onB x y z (triAt T k) = false → ∀ i, i < k + 1 → onB x y z (triAt T i) = false := fun h9 i hi => by
        by_cases hik : i = k
        · rw [hik]; exact h9
        · exact hno i (by omega)
      have hyes : onB x y z (triAt T k) = true → ∃ i, i < T.length ∧ onB x y z (triAt T i) = true := fun h9 => ⟨k, hkl, h9⟩
      have hx := fun wz => has12_calls (triAt T k) x wz
      have hy := fun wz => has12_calls (triAt T k) y wz
      have hz9 := fun wz => has12_calls (triAt T k) z wz
      have hbw : b < w1.heap.size := by omega
      generalize haB (triAt T k) x = p at *
      generalize haB (triAt T k) y = q at *
      generalize haB (triAt T k) z = r at *
      generalize triAt T k = t at *
      obtain ⟨ta, tb, tc⟩ := t
      simp only [triV] at hx hy hz9 t1 t2 t3
      have Hhno := Lib.hid hno; clear hno; have Hhon := Lib.hid hon; clear hon; have Hhstep := Lib.hid hstep; clear hstep; have Hhyes := Lib.hid hyes; clear hyes; have Hhx := Lib.hid hx; clear hx; have Hhy := Lib.hid hy; clear hy; have Hhz9 := Lib.hid hz9; clear hz9
      go_wp2_with fail
      refine (Hhx.out _).mono ?_
      rintro e w2 ⟨rfl, hb2⟩
      have hbel2 := hbel.trans (hb2.mono hz)
      have hz2 := hb2.size
      have c12 := (hb2.cell (p := ⟨w.heap.size, 1, none⟩) (by show w.heap.size < w1.heap.size; omega)).trans c1r
      have t12 := (hb2.cell (p := ⟨b, o + k * 3, none⟩) hbw).trans t1
      have t22 := (hb2.cell (p := ⟨b, o + k * 3 + 1, none⟩) hbw).trans t2
      have t32 := (hb2.cell (p := ⟨b, o + k * 3 + 2, none⟩) hbw).trans t3
      cases p with
      | false =>
        have hs2 := Hhstep.out (by rw [Hhon.out]; rfl)
        have Hhs2 := Lib.hid hs2; clear hs2
        go_wp2_with fail
        exact ⟨⟨k + 1, by omega, by simp, Hhs2.out, hbel2⟩, by simp [intOf]; omega⟩
      | true =>
        go_wp2_with fail
        refine (Hhy.out _).mono ?_
        rintro e w3 ⟨rfl, hb3⟩
        have hbel3 := hbel2.trans (hb3.mono (by omega))
        have c13 := (hb3.cell (p := ⟨w.heap.size, 1, none⟩) (by show w.heap.size < w2.heap.size; omega)).trans c12
        have t13 := (hb3.cell (p := ⟨b, o + k * 3, none⟩) (by show b < w2.heap.size; omega)).trans t12
        have t23 := (hb3.cell (p := ⟨b, o + k * 3 + 1, none⟩) (by show b < w2.heap.size; omega)).trans t22
        have t33 := (hb3.cell (p := ⟨b, o + k * 3 + 2, none⟩) (by show b < w2.heap.size; omega)).trans t32
        cases q with
        | false =>
          have hs2 := Hhstep.out (by rw [Hhon.out]; rfl)
          have Hhs2 := Lib.hid hs2; clear hs2
          go_wp2_with fail
          exact ⟨⟨k + 1, by omega, by simp, Hhs2.out, hbel3⟩, by simp [intOf]; omega⟩
        | true =>
          go_wp2_with fail
          refine (Hhz9.out _).mono ?_
          rintro e w4 ⟨rfl, hb4⟩
          have hbel4 := hbel3.trans (hb4.mono hbel3.size)
          cases r with
          | false =>
            have hs2 := Hhstep.out (by rw [Hhon.out]; rfl)
            have Hhs2 := Lib.hid hs2; clear hs2
            go_wp2_with fail
            exact ⟨⟨k + 1, by omega, by simp, Hhs2.out, hbel4⟩, by simp [intOf]; omega⟩
          | true =>
            have hs2 := Hhyes.out (by rw [Hhon.out]; rfl)
            have hfi := hb1.trans (hbel4.mono hb1.size)
            have Hhs2 := Lib.hid hs2; clear hs2
            go_wp2_with fail
            go_ret
            exact ⟨⟨true, rfl, ⟨fun _ => Hhs2.out, fun _ => rfl⟩⟩, hfi⟩
    · obtain rfl : k = T.length := by omega
      have hn2 : ¬ ∃ i, i < T.length ∧ onB x y z (triAt T i) = true := fun ⟨i, hi, h9⟩ => by rw [hno i hi] at h9; cases h9
      have hfi := hb1.trans (hbel.mono hb1.size)
      have Hhno := Lib.hid hno; clear hno; have Hhn2 := Lib.hid hn2; clear hn2
      go_wp2_with fail
      go_ret
      exact ⟨⟨false, rfl, ⟨fun h => (by cases h), fun h => absurd h Hhn2.out⟩⟩, hfi⟩
end Go.Proofs.Ytckkpmjkajkkmaa
