/- Walks: ring.Around's iterator. -/
import Derived.RangeFuncNested
import Derived.RangeFuncBound
import Derived.RangeFuncCalls
import Derived.RangeFuncLeaves
import Derived.Shelf.Abstract
import Derived.Shelf.RegionOpen
import Derived.WalkKit
import Derived.OwnWalkIn
import Derived.TacticsInMore
import Derived.LoopNIn
import Derived.LoopIn
import Derived.Test.YtdljcemnbbamcaaTG
import Derived.Test.YtdljcemnbbamcaaMP
namespace Go.Mesh
abbrev Cor (T : List T3) := { c : Nat // c < 3 * T.length }
theorem cors_of {T : List T3} {l : List Nat} (h : ∀ c ∈ l, c < 3 * T.length) : ∃ lc : List (Cor T), lc.map (·.1) = l :=
  ⟨l.pmap (fun c hc => ⟨c, hc⟩) h, by rw [List.map_pmap]; simp⟩
end Go.Mesh
namespace Go.Proofs.Ytdljcemnbbamcaa
open Go Go.RowKit Go.Words Go.Mesh
attribute [local go_sem] Oper.semAt_some

theorem grown_below {w w' : World} (h : Below w.heap.size w w') : w.grownBy w' none := ⟨h.os, h.tape, h.output, h.size, fun k hk _ => h.block k hk⟩
theorem abides_below {β : Type} {B : Nat} {J : β → World → Prop} (h : AbidesFrom B J) {s : β} {w w' : World} (hs : J s w) (hb : Below w.heap.size w w') : J s w' := h s w w' none hs (grown_below hb) (fun r e => by cases e)
/-- What lay below a block stays, and so does a cell of another one. -/
def KeepB (n₀ Bt : Nat) (W W' : World) : Prop := Below n₀ W W' ∧ W'.cell? ⟨Bt, 0, none⟩ = W.cell? ⟨Bt, 0, none⟩
theorem keepB_t {n₀ Bt : Nat} {A B C : World} (h : KeepB n₀ Bt A B) (k : KeepB n₀ Bt B C) : KeepB n₀ Bt A C := ⟨h.1.trans k.1, k.2.trans h.2⟩
theorem keepB_b {n₀ Bt : Nat} {w : World} (hn : n₀ ≤ w.heap.size) (hBt : Bt < w.heap.size) (W : World) (l : Nat) (o o' : Obj) (hl : w.heap.size ≤ l) (h : W.heap[l]? = some o) (h1 : o.isCells = false) (h2 : o.isWalk = false) : KeepB n₀ Bt W (W.putObj l o') :=
  ⟨belowK_b hn W l o o' hl h h1 h2, by unfold World.cell?; rw [World.putObj_heap_other (by simp only; omega)]⟩
theorem keepB_refl (n₀ Bt : Nat) (W : World) : KeepB n₀ Bt W W := ⟨Below.refl _ _, rfl⟩
theorem keepB_below {n₀ m Bt : Nat} {W W' : World} (h : Below m W W') (hn : n₀ ≤ m) (hB : Bt < m) : KeepB n₀ Bt W W' := ⟨h.mono hn, h.cell (p := ⟨Bt, 0, none⟩) hB⟩

end Go.Proofs.Ytdljcemnbbamcaa
