/- What the rows' proofs share: arguments that read as lists. -/
import Derived.Test.YtbhdfljdfjadnaaRows
import Derived.Test.YtbhdfljdfjadnaaProg
import Derived.Test.YtbhdfljdfjadnaaBridge
import Derived.ProofKit
import Derived.OpenShut
namespace Go.Proofs.Ytbhdfljdfjadnaa
open Go.ChangeShapes Go.WideShapes Go.ChangeAt Go.RowKit Go.Words Go.Deep Go.Joins

theorem Try.own : ownKnob Try.prog.godebug = none := by kernel_rfl
theorem Try.laidOut : laidOutB Try.prog = true := by kernel_rfl
theorem cells_batch : Try.prog.cellsOf 32 = 2 := by kernel_rfl
theorem cells_row : Try.prog.cellsOf 22 = 1 := by kernel_rfl
theorem cells_int : Try.prog.cellsOf 3 = 1 := by kernel_rfl

section
variable {H : Type} {enc : TypeId × Value → H} {w : World} {base : Nat} {spare : Nat → Bool} {held : Bool}
theorem row_of {fuel : Nat} {cs : List Value} {x : DataW H × List MemPlace} (h : DataW.trod enc Try.prog w base spare held fuel 22 cs = some x) : ∃ v l, cs = [v] ∧ Sl 2 RPair w w.heap.size v l :=
  pairs_of Try.underlying22 cells_batch Try.underlying32 Try.underlying3 Try.underlying3 (by kernel_rfl) h
theorem rowsArg {r : Reach} {b0 : Nat} {v : Value} {d : DataW H} {ps : List MemPlace} (hval : Value.okWide Try.prog w r b0 34 v) (hd : DataW.Trod enc Try.prog w base spare held 34 v d ps) :
    ∃ l, Sl 1 (RSl 2 RPair) w w.heap.size v l :=
  arg_of Try.underlying34 hval hd fun _ _ _ h => rows_of Try.underlying34 cells_row (fun _ _ _ h => row_of h) h
theorem rowArg {r : Reach} {b0 : Nat} {v : Value} {d : DataW H} {ps : List MemPlace} (hval : Value.okWide Try.prog w r b0 22 v) (hd : DataW.Trod enc Try.prog w base spare held 22 v d ps) :
    ∃ l, Sl 2 RPair w w.heap.size v l :=
  arg_of Try.underlying22 hval hd fun _ _ _ h => row_of h
theorem intsArg {r : Reach} {b0 : Nat} {v : Value} {d : DataW H} {ps : List MemPlace} (hval : Value.okWide Try.prog w r b0 28 v) (hd : DataW.Trod enc Try.prog w base spare held 28 v d ps) :
    ∃ l, Sl 1 RInt w w.heap.size v l :=
  arg_of Try.underlying28 hval hd fun _ _ _ h => ints_of Try.underlying28 cells_int Try.underlying3 h
end
end Go.Proofs.Ytbhdfljdfjadnaa
