/- The law RingTurns, walked. -/
import Derived.Test.YtdljcemnbbamcaaVA
namespace Go.Mesh
/-- From corner to corner around a vertex. -/
theorem Surf.turns {N : Int} {T : List T3} (h : Surf N T) {v : Int} {i : Nat} (hi : i < (ringAt T N v).length) :
    ((i + 1 < (ringAt T N v).length ∨ innerAt T N v = true) → ∃ x, opp T (nx (ringAt T N v)[i]) = some x ∧ x < 3 * T.length ∧ (ringAt T N v)[(i + 1) % (ringAt T N v).length]? = some (nx x)) ∧
    (¬ (i + 1 < (ringAt T N v).length) → innerAt T N v = false → opp T (nx (ringAt T N v)[i]) = none) := by
  rcases h.ring_or v with ⟨h1, _, _⟩ | ⟨hl, hv, hr⟩
  · rw [h1] at hi; simp at hi
  obtain ⟨b, hrun⟩ := hr.run
  have key : ∀ (d j : Nat), aft T (ringAt T N v)[i] = some d → (ringAt T N v)[j]? = some d → ∃ x, opp T (nx (ringAt T N v)[i]) = some x ∧ x < 3 * T.length ∧ (ringAt T N v)[j]? = some (nx x) := by
    intro d j hd hj
    unfold aft at hd
    obtain ⟨x, hx, rfl⟩ := Option.map_eq_some_iff.1 hd
    exact ⟨x, hx, (h.opp_iff.1 hx).1, hj⟩
  have hlast : ¬ (i + 1 < (ringAt T N v).length) → (ringAt T N v)[(ringAt T N v).length - 1]'(by omega) = (ringAt T N v)[i] := fun h9 => by congr 1; omega
  refine ⟨fun h9 => ?_, fun h9 h8 => ?_⟩
  · by_cases h7 : i + 1 < (ringAt T N v).length
    · rw [Nat.mod_eq_of_lt h7]
      exact key _ _ (hrun.steps i h7) (List.getElem?_eq_getElem h7)
    · have h6 := h9.resolve_left h7
      have := hr.turn hl h6
      rw [hlast h7] at this
      rw [show i + 1 = (ringAt T N v).length by omega, Nat.mod_self]
      exact key _ _ this (List.getElem?_eq_getElem hl)
  · have := (hr.last hl).2 h8
    rw [hlast h9] at this
    unfold aft at this
    simpa using this
theorem Surf.turns0 {N : Int} {T : List T3} (h : Surf N T) {v : Int} (hl : 0 < (ringAt T N v).length) : (opp T (pv (ringAt T N v)[0])).isSome = innerAt T N v := by
  rcases h.ring_or v with ⟨h1, _, _⟩ | ⟨_, hv, hr⟩
  · rw [h1] at hl; simp at hl
  have := hr.head hl
  unfold bef at this
  cases hi : innerAt T N v with
  | true =>
    rw [hi] at this
    cases ho : opp T (pv (ringAt T N v)[0]) with
    | some x => rfl
    | none => rw [ho] at this; simp at this
  | false =>
    rw [hi] at this
    have := this.2 rfl
    cases ho : opp T (pv (ringAt T N v)[0]) with
    | some x => rw [ho] at this; simp at this
    | none => rfl
end Go.Mesh
namespace Go.Proofs.Ytdljcemnbbamcaa
open Go Go.RowKit Go.Words Go.Mesh

theorem tab_next {w : World} {B : Nat} {tv : Value} {N : Int} {T : List T3} (h : TabN w B tv N T) {c : Nat} (hc : c < 3 * T.length) : Calls Try.prog 48 #[tv, .int .i64 (c : Int)] w fun e w' => e = .returned (.int .i64 (nx c : Int)) ∧ w' = w := by
  obtain ⟨g, vt, gm, vf, m, F, rfl, h8, _⟩ := h.tab (fun h9 => by rw [h9] at hc; simp at hc)
  have := next_calls h8 (c : Int)
  rw [tNext_at hc] at this
  exact this
theorem tab_prev {w : World} {B : Nat} {tv : Value} {N : Int} {T : List T3} (h : TabN w B tv N T) {c : Nat} (hc : c < 3 * T.length) : Calls Try.prog 49 #[tv, .int .i64 (c : Int)] w fun e w' => e = .returned (.int .i64 (pv c : Int)) ∧ w' = w := by
  obtain ⟨g, vt, gm, vf, m, F, rfl, h8, _⟩ := h.tab (fun h9 => by rw [h9] at hc; simp at hc)
  have := prev_calls h8 (c : Int)
  rw [tPrev_at hc] at this
  exact this
theorem tab_vertex {w : World} {B : Nat} {tv : Value} {N : Int} {T : List T3} (h : TabN w B tv N T) {c : Nat} (hc : c < 3 * T.length) : Calls Try.prog 41 #[tv, .int .i64 (c : Int)] w fun e w' => e = .returned (.int .i64 (Mesh.vt T c)) ∧ w' = w := by
  obtain ⟨g, vt, gm, vf, m, F, rfl, h8, _⟩ := h.tab (fun h9 => by rw [h9] at hc; simp at hc)
  have := vertex_calls h8 (c : Int)
  rw [tVert_at hc] at this
  exact this
theorem tab_opp {w : World} {B : Nat} {tv : Value} {N : Int} {T : List T3} (h : TabN w B tv N T) (hs : Surf N T) {c : Nat} (hc : c < 3 * T.length) : Calls Try.prog 32 #[tv, .int .i64 (c : Int)] w fun e w' => e = .returned (.int .i64 (oi (opp T c))) ∧ Below w.heap.size w w' := by
  have := opp_calls (h.tab (fun h9 => by rw [h9] at hc; simp at hc)) hs (c : Int)
  rw [tOpp_at hc] at this
  exact this

end Go.Proofs.Ytdljcemnbbamcaa
