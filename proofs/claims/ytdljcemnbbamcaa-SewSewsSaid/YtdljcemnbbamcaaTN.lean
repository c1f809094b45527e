/- Walks: the document's Ints; the law's table. -/
import Derived.Test.YtdljcemnbbamcaaTM
import Derived.Test.YtdljcemnbbamcaaTK
namespace Go.Proofs.Ytdljcemnbbamcaa
open Go Go.RowKit Go.Words Go.Mesh

theorem sl_ivals {w : World} {base : Nat} {v : Value} {l : List Int} (h : w.ownsRow base 3 1 v l.length (ivals l)) : Sl 1 RInt w w.heap.size v l := by
  refine Sl.of_own (base := base) (e := 3) (xs := ivals l) h fun i a hi => ?_
  unfold RInt
  have hlt := (List.getElem?_eq_some_iff.1 hi).1
  unfold ivals
  rw [Nat.mul_one, List.drop_eq_getElem_cons (by simpa using hlt)]
  simp only [List.take_succ_cons, List.take_zero, List.getElem_map]
  rw [List.getElem?_eq_getElem hlt] at hi
  rw [Option.some.inj hi]
end Go.Proofs.Ytdljcemnbbamcaa
