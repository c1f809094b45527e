/- Walks: the law's list of corners around a vertex. -/
import Derived.Maps.AppendAt
import Derived.Test.YtdljcemnbbamcaaTI
import Derived.Test.YtdljcemnbbamcaaTreeL
namespace Go.Proofs.Ytdljcemnbbamcaa
open Go Go.RowKit Go.Words Go.Mesh
attribute [local go_sem] Oper.semAt_some

theorem infoInt : (Try.prog.info? 3).map (fun i => (i.zero, i.size, i.bytes)) = some (some (.int .i64 0), 1, 8) := by kernel_rfl
def nvals (l : List Nat) : List Value := l.map fun (x : Nat) => .int .i64 (x : Int)
theorem boxed_new' {w : World} {n : Nat} (hn : n = w.heap.size) (t : TypeId) (v : Value) : Boxed (w.alloc (.cells #[v] t)) n t v := by subst hn; exact Boxed.new w t v
/-- An append to a row whose blocks lie at or behind r; the variable's box lies ahead of r. -/
theorem own_append {W w1 : World} {r B : Nat} {t e : TypeId} {size : Nat} {v v' : Value} {k m : Nat} {xs ys : List Value} {tmp : Obj}
    (hv : Boxed W B t v) (hBr : B < r) (hrow : W.ownsRow r e size v k xs) (hrW : r ≤ W.heap.size) (hown' : w1.ownsRow r e size v' m ys) (hgrow : (W.alloc tmp).grownBy w1 v.ownBlock) :
    Boxed w1 B t v ∧ Boxed (w1.setCell ⟨B, 0, none⟩ v') B t v' ∧ (w1.setCell ⟨B, 0, none⟩ v').ownsRow r e size v' m ys ∧ KeepsOthers W (w1.setCell ⟨B, 0, none⟩ v') ∧ (∀ n₀, n₀ ≤ B → Below n₀ W (w1.setCell ⟨B, 0, none⟩ v')) ∧
    (∀ B' t' u, B' < r → B' ≠ B → Boxed W B' t' u → Boxed (w1.setCell ⟨B, 0, none⟩ v') B' t' u) := by
  have hlt : ∀ B', B' < r → some B' ≠ v.ownBlock := fun B' h e => by have := (hrow.lt B' e.symm).1; omega
  have hlt' : ∀ B', B' < r → some B' ≠ v'.ownBlock := fun B' h e => by have := (hown'.lt B' e.symm).1; omega
  have hv1 : Boxed w1 B t v := (hv.alloc tmp).kept hgrow (hlt B hBr)
  refine ⟨hv1, hv1.set v', hown'.kept (grownBy_setCell' w1 B v') (.inr (hlt' B hBr).symm), ?_, fun n₀ hn => ?_, fun B' t' u h1 h2 h3 => ?_⟩
  · refine ((KeepsOthers.alloc W tmp).trans (KeepsOthers.of_grownBy hgrow fun j o ej hj => ?_)).trans (KeepsOthers.setCell _ _ _)
    rcases (hrow.alloc tmp).2 with ⟨rfl, _⟩ | ⟨g, cap, cur, rfl, _, hgb, _⟩
    · simp [Value.ownBlock] at ej
    · obtain rfl : g = j := by simpa [Value.ownBlock] using ej
      rw [hgb] at hj; cases hj; rfl
  · refine (((Below.refl n₀ W).alloc (by omega) tmp).grown hgrow (by simp; omega) fun j ej => ?_).setCell (p := ⟨B, 0, none⟩) hn v'
    have := (hrow.lt j ej).1
    omega
  · exact ((h3.alloc tmp).kept hgrow (hlt B' h1)).other h2 v'
theorem func_nil (k : Nat) (a b : Value) (w : World) : Sem.run Try.prog (binOp .eql 87 (.func (.func k) #[] #[a, b]) .nilFunc) w = .ok (.bool false) w := by kernel_rfl

end Go.Proofs.Ytdljcemnbbamcaa
