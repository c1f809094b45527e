/- Walks: ring.Link. -/
import Derived.Test.YtdljcemnbbamcaaTJ
namespace Go.Mesh
def lastI (l : List Nat) : Int := match l.getLast? with
  | some c => c
  | none => -1
theorem lastI_snoc (l : List Nat) (c : Nat) : lastI (l ++ [c]) = c := by unfold lastI; simp
end Go.Mesh
namespace Go.Proofs.Ytdljcemnbbamcaa
open Go Go.RowKit Go.Words Go.Mesh
attribute [local go_sem] Oper.semAt_some

def ivals (l : List Int) : List Value := l.map fun (x : Int) => .int .i64 x
theorem keepU_alloc {U : Nat → Prop} {w0 w : World} (h : Go.Canon.KeepU U w0 w) (hU : ∀ b, U b → b < w.heap.size) (o : Obj) : Go.Canon.KeepU U w0 (w.alloc o) := fun b hb => (Below.heap_alloc w o b (hU b hb)).trans (h b hb)
theorem keepU_grown {U : Nat → Prop} {w0 w w' : World} (h : Go.Canon.KeepU U w0 w) {row : Option Nat} (hg : w.grownBy w' row) (hU : ∀ b, U b → b < w.heap.size ∧ some b ≠ row) : Go.Canon.KeepU U w0 w' := fun b hb => (hg.block b (hU b hb).1 (hU b hb).2).trans (h b hb)

end Go.Proofs.Ytdljcemnbbamcaa
