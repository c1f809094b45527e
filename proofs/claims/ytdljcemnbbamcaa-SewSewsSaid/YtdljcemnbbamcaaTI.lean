/- Walks: ring's Inner, Near, Degree. -/
import Derived.Test.YtdljcemnbbamcaaTH
import Derived.Test.YtdljcemnbbamcaaMP
import Derived.Test.YtdljcemnbbamcaaCanonIn
namespace Go.Mesh
theorem surf_nil : Surf 0 [] := ⟨by omega, by omega, by simp, fun c h => by simp at h, fun c h => by simp at h, fun c d h => by simp at h, fun i j _ h => by simp at h, fun v h1 h2 => by omega, fun v h1 h2 => by omega⟩
end Go.Mesh
namespace Go.Proofs.Ytdljcemnbbamcaa
open Go Go.RowKit Go.Words Go.Mesh
attribute [local go_sem] Oper.semAt_some

/-- A surface's table, or nil, which is as that of no triangles. -/
def TabN (w : World) (B : Nat) (tv : Value) (N : Int) (T : List T3) : Prop := Tab w B tv N T ∨ (tv = .pointer none ∧ N = 0 ∧ T = [] ∧ B ≤ w.heap.size)
theorem TabN.below {w w' : World} {B B' : Nat} {tv : Value} {N : Int} {T : List T3} (h : TabN w B tv N T) (hb : Below B' w w') (hB : B ≤ B') : TabN w' B tv N T := by
  rcases h with h | ⟨h1, h2, h3, h4⟩
  · exact .inl (h.below hb hB)
  · exact .inr ⟨h1, h2, h3, Nat.le_trans h4 hb.size⟩
theorem TabN.le {w : World} {B : Nat} {tv : Value} {N : Int} {T : List T3} (h : TabN w B tv N T) : B ≤ w.heap.size := by
  rcases h with h | ⟨_, _, _, h4⟩
  · exact h.le
  · exact h4
theorem TabN.form {w : World} {B : Nat} {tv : Value} {N : Int} {T : List T3} (h : TabN w B tv N T) : ∃ t, tv = .pointer t := by
  rcases h with ⟨g, _, _, _, _, _, rfl, _⟩ | ⟨h1, _⟩
  · exact ⟨_, rfl⟩
  · exact ⟨_, h1⟩
theorem TabN.tab {w : World} {B : Nat} {tv : Value} {N : Int} {T : List T3} (h : TabN w B tv N T) (hT : T ≠ []) : Tab w B tv N T := by
  rcases h with h | ⟨_, _, h3, _⟩
  · exact h
  · exact absurd h3 hT
theorem ringAt_nil (v : Int) : ringAt [] 0 v = [] := by unfold ringAt; rw [if_neg (by omega)]
theorem oi_nonneg {o : Option Nat} : (decide (0 ≤ oi o)) = o.isSome := by cases o <;> simp [oi]
end Go.Proofs.Ytdljcemnbbamcaa
