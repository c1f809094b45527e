/- The law RingArounds, walked. -/
import Derived.Test.YtdljcemnbbamcaaTS
namespace Go.Proofs.Ytdljcemnbbamcaa
open Go Go.RowKit Go.Words Go.Mesh

theorem tabled_tab {w w' : World} {N : Int} {T : List T3} {e : Ending} (h : Tabled w N T e w') : ∃ pv B' N' T', e = .returned pv ∧ Surf N' T' ∧ TabN w' B' pv N' T' ∧ Below w.heap.size w w' ∧ ((pv = .pointer none ∧ N' = 0 ∧ T' = [] ∧ ¬ (Small N T ∧ Surf N T)) ∨ (∃ g, pv = .pointer (some g) ∧ N' = N ∧ T' = T ∧ Small N T)) := by
  obtain ⟨⟨pv, B', rfl, h1⟩, hb⟩ := h
  rcases h1 with ⟨h1, h2, h3⟩ | ⟨h1, rfl⟩
  · refine ⟨pv, B', N, T, rfl, h2, .inl h3, hb, .inr ?_⟩
    obtain ⟨g, _, _, _, _, _, rfl, _⟩ := h3
    exact ⟨_, rfl, rfl, rfl, h1⟩
  · exact ⟨_, 0, 0, [], rfl, surf_nil, .inr ⟨rfl, rfl, rfl, Nat.zero_le _⟩, hb, .inl ⟨rfl, rfl, rfl, h1⟩⟩
end Go.Proofs.Ytdljcemnbbamcaa
