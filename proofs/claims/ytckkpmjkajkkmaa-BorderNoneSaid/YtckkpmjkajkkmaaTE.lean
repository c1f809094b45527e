/- Walks: ring's there, first. -/
import Derived.Test.YtckkpmjkajkkmaaTD
namespace Go.Proofs.Ytckkpmjkajkkmaa
open Go Go.RowKit Go.Words Go.Mesh

theorem there_nil (v : Int) (w : World) : Calls Try.prog 63 #[.pointer none, .int .i64 v] w fun e w' => e = .returned (.bool false) ∧ w' = w := by
  go_enter Try.func63, Try.ntmps63
  go_wp2
  go_ret
  exact ⟨rfl, rfl⟩
set_option maxRecDepth 20000 in
theorem there_calls {w : World} {B : Nat} {tv : Value} {N : Int} {T : List T3} (h : Tab w B tv N T) (hs : Surf N T) (v : Int) :
    Calls Try.prog 63 #[tv, .int .i64 v] w fun e w' => e = .returned (.bool (decide (0 ≤ v ∧ v < N))) ∧ w' = w := by
  have hc := corner_calls h hs v
  have hv : Calls Try.prog 71 #[tv] w fun e w' => e = .returned (.int .i64 N) ∧ w' = w := by
    obtain ⟨g, vt, gm, vf, m, F, rfl, htab, _⟩ := h
    exact vertices_calls htab
  obtain ⟨g, vt, gm, vf, m, F, rfl, htab, _⟩ := h
  have hpos : 0 ≤ v ∧ v < N → 0 ≤ tCorn T N v := by
    intro h9
    unfold tCorn
    rw [if_pos h9]
    obtain ⟨c, hc, hcv⟩ := hs.used v h9.1 h9.2
    obtain ⟨d, hd⟩ := leastFrom_isSome (p := fun d => Mesh.vt T d == v) (n := 3 * T.length) (k := 0) (c := c) (by omega) (by omega) (by simp [hcv])
    have hd : cornerOf T v = some d := hd
    rw [hd]
    show (0 : Int) ≤ (d : Int)
    omega
  generalize tCorn T N v = r at *
  have Hhc := Lib.hid hc; clear hc; have Hhv := Lib.hid hv; clear hv; have Hhtab := Lib.hid htab; clear htab; have Hhs := Lib.hid hs; clear hs
  by_cases h1 : 0 ≤ v
  · by_cases h2 : v < N
    · have h3 := hpos ⟨h1, h2⟩
      clear hpos
      rw [decide_eq_true ⟨h1, h2⟩]
      go_enter Try.func63, Try.ntmps63
      go_wp2_with fail
      refine Hhv.out.mono ?_
      rintro e w1 ⟨rfl, rfl⟩
      go_wp2_with fail
      refine Hhc.out.mono ?_
      rintro e w1 ⟨rfl, rfl⟩
      go_wp2
      go_ret
      exact ⟨rfl, rfl⟩
    · clear hpos
      have h3 : N ≤ v := by omega
      rw [decide_eq_false fun h9 => h2 h9.2]
      go_enter Try.func63, Try.ntmps63
      go_wp2_with fail
      refine Hhv.out.mono ?_
      rintro e w1 ⟨rfl, rfl⟩
      go_wp2
      go_ret
      exact ⟨rfl, rfl⟩
  · clear hpos
    have h3 : v < 0 := by omega
    rw [decide_eq_false fun h9 => h1 h9.1]
    clear h1
    go_enter Try.func63, Try.ntmps63
    go_wp2
    go_ret
    exact ⟨rfl, rfl⟩
end Go.Proofs.Ytckkpmjkajkkmaa
