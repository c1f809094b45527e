/- Around a vertex: plain. -/
import Derived.Test.YtckkpmjkajkkmaaMesh
namespace Go.Mesh
theorem vt_out {T : List T3} {c : Nat} (h : 3 * T.length ≤ c) : vt T c = 0 := by
  unfold vt
  rw [List.getD_eq_getElem?_getD, List.getElem?_eq_none (by omega)]
  show vx (0, 0, 0) (c % 3) = 0
  have : c % 3 = 0 ∨ c % 3 = 1 ∨ c % 3 = 2 := by omega
  rcases this with e | e | e <;> rw [e] <;> rfl
theorem Surf.opp_lt {N : Int} {T : List T3} (h : Surf N T) {c d : Nat} (ho : opp T c = some d) : c < 3 * T.length := by
  rcases Nat.lt_or_ge c (3 * T.length) with hc | hc
  · exact hc
  · exfalso
    obtain ⟨h1, h2, h3⟩ := h.opp_iff.1 ho
    rw [vt_out (c := pv c) (by unfold pv; omega)] at h2
    rw [vt_out (c := nx c) (by unfold nx; omega)] at h3
    exact h.loop3 h1 (h2.trans h3.symm)
theorem Surf.bef_lt {N : Int} {T : List T3} (h : Surf N T) {c d : Nat} (hb : bef T c = some d) : c < 3 * T.length := by
  unfold bef at hb
  obtain ⟨o, ho, _⟩ := Option.map_eq_some_iff.1 hb
  have := h.opp_lt ho
  unfold pv at this
  omega
theorem Surf.aft_lt {N : Int} {T : List T3} (h : Surf N T) {c d : Nat} (hb : aft T c = some d) : c < 3 * T.length := by
  unfold aft at hb
  obtain ⟨o, ho, _⟩ := Option.map_eq_some_iff.1 hb
  have := h.opp_lt ho
  unfold nx at this
  omega
theorem Surf.bef_inj {N : Int} {T : List T3} (h : Surf N T) : ∀ c d x, bef T c = some x → bef T d = some x → c = d := by
  intro c d x h1 h2
  have a1 := h.bef_aft (h.bef_lt h1) h1
  have a2 := h.bef_aft (h.bef_lt h2) h2
  rw [a1] at a2
  exact Option.some.inj a2
theorem Surf.aft_inj {N : Int} {T : List T3} (h : Surf N T) : ∀ c d x, aft T c = some x → aft T d = some x → c = d := by
  intro c d x h1 h2
  have a1 := h.aft_bef (h.aft_lt h1) h1
  have a2 := h.aft_bef (h.aft_lt h2) h2
  rw [a1] at a2
  exact Option.some.inj a2
/-- Backward around a vertex, from a corner. -/
theorem Surf.back {N : Int} {T : List T3} (h : Surf N T) {b : Nat} (hb : b < 3 * T.length) : IsRun (bef T) b (3 * T.length) (runF (bef T) b (3 * T.length) b) :=
  run_is h.bef_inj (fun _ _ hd => (h.bef_iff.1 hd).1) hb
theorem Surf.forth {N : Int} {T : List T3} (h : Surf N T) {b : Nat} (hb : b < 3 * T.length) : IsRun (aft T) b (3 * T.length) (runF (aft T) b (3 * T.length) b) :=
  run_is h.aft_inj (fun _ _ hd => (h.aft_iff.1 hd).1) hb
/-- The corner with which one begins around a vertex, from its least one; is it on the border? -/
def begins (T : List T3) (b : Nat) : Nat × Bool :=
  let l := runF (bef T) b (3 * T.length) b
  let x := l.getLastD b
  if bef T x = none then (x, true) else (b, false)
end Go.Mesh
