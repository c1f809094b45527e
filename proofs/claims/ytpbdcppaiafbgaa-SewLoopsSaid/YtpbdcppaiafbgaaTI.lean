/- Walks: ring.first. Walks: ring.Around's iterator. Walks: ring's Inner, Near, Degree. Walks: the law's list of corners around a vertex. Walks: ring.Link. -/
import Derived.Test.YtpbdcppaiafbgaaME
import Derived.Test.YtpbdcppaiafbgaaMP
import Derived.RangeFuncNested
import Derived.RangeFuncBound
import Derived.RangeFuncCalls
import Derived.RangeFuncLeaves
import Derived.Shelf.Abstract
import Derived.Shelf.RegionOpen
import Derived.WalkKit
import Derived.OwnWalkIn
import Derived.TacticsInMore
import Derived.LoopNIn
import Derived.LoopIn
import Derived.Test.YtpbdcppaiafbgaaTree
import Derived.Maps.AppendAt
namespace Go.Proofs.Ytpbdcppaiafbgaa
open Go Go.RowKit Go.Words Go.Mesh

end Go.Proofs.Ytpbdcppaiafbgaa

namespace Go.Mesh
abbrev Cor (T : List T3) := { c : Nat // c < 3 * T.length }
theorem cors_of {T : List T3} {l : List Nat} (h : ∀ c ∈ l, c < 3 * T.length) : ∃ lc : List (Cor T), lc.map (·.1) = l :=
  ⟨l.pmap (fun c hc => ⟨c, hc⟩) h, by rw [List.map_pmap]; simp⟩
end Go.Mesh
namespace Go.Proofs.Ytpbdcppaiafbgaa
open Go Go.RowKit Go.Words Go.Mesh
attribute [local go_sem] Oper.semAt_some

theorem grown_below {w w' : World} (h : Below w.heap.size w w') : w.grownBy w' none := ⟨h.os, h.tape, h.output, h.size, fun k hk _ => h.block k hk⟩
theorem abides_below {β : Type} {B : Nat} {J : β → World → Prop} (h : AbidesFrom B J) {s : β} {w w' : World} (hs : J s w) (hb : Below w.heap.size w w') : J s w' := h s w w' none hs (grown_below hb) (fun r e => by cases e)
/-- What lay below a block stays, and so does a cell of another one. -/
def KeepB (n₀ Bt : Nat) (W W' : World) : Prop := Below n₀ W W' ∧ W'.cell? ⟨Bt, 0, none⟩ = W.cell? ⟨Bt, 0, none⟩
theorem keepB_t {n₀ Bt : Nat} {A B C : World} (h : KeepB n₀ Bt A B) (k : KeepB n₀ Bt B C) : KeepB n₀ Bt A C := ⟨h.1.trans k.1, k.2.trans h.2⟩
theorem keepB_b {n₀ Bt : Nat} {w : World} (hn : n₀ ≤ w.heap.size) (hBt : Bt < w.heap.size) (W : World) (l : Nat) (o o' : Obj) (hl : w.heap.size ≤ l) (h : W.heap[l]? = some o) (h1 : o.isCells = false) (h2 : o.isWalk = false) : KeepB n₀ Bt W (W.putObj l o') :=
  ⟨belowK_b hn W l o o' hl h h1 h2, by unfold World.cell?; rw [World.putObj_heap_other (by simp only; omega)]⟩
theorem keepB_refl (n₀ Bt : Nat) (W : World) : KeepB n₀ Bt W W := ⟨Below.refl _ _, rfl⟩
theorem keepB_below {n₀ m Bt : Nat} {W W' : World} (h : Below m W W') (hn : n₀ ≤ m) (hB : Bt < m) : KeepB n₀ Bt W W' := ⟨h.mono hn, h.cell (p := ⟨Bt, 0, none⟩) hB⟩

end Go.Proofs.Ytpbdcppaiafbgaa

namespace Go.Mesh
theorem surf_nil : Surf 0 [] := ⟨by omega, by omega, by simp, fun c h => by simp at h, fun c h => by simp at h, fun c d h => by simp at h, fun i j _ h => by simp at h, fun v h1 h2 => by omega, fun v h1 h2 => by omega⟩
end Go.Mesh
namespace Go.Proofs.Ytpbdcppaiafbgaa
open Go Go.RowKit Go.Words Go.Mesh
attribute [local go_sem] Oper.semAt_some

/-- A surface's table, or nil, which is as that of no triangles. -/
def TabN (w : World) (B : Nat) (tv : Value) (N : Int) (T : List T3) : Prop := Tab w B tv N T ∨ (tv = .pointer none ∧ N = 0 ∧ T = [] ∧ B ≤ w.heap.size)
theorem TabN.below {w w' : World} {B B' : Nat} {tv : Value} {N : Int} {T : List T3} (h : TabN w B tv N T) (hb : Below B' w w') (hB : B ≤ B') : TabN w' B tv N T := by
  rcases h with h | ⟨h1, h2, h3, h4⟩
  · exact .inl (h.below hb hB)
  · exact .inr ⟨h1, h2, h3, Nat.le_trans h4 hb.size⟩
theorem TabN.le {w : World} {B : Nat} {tv : Value} {N : Int} {T : List T3} (h : TabN w B tv N T) : B ≤ w.heap.size := by
  rcases h with h | ⟨_, _, _, h4⟩
  · exact h.le
  · exact h4
theorem TabN.form {w : World} {B : Nat} {tv : Value} {N : Int} {T : List T3} (h : TabN w B tv N T) : ∃ t, tv = .pointer t := by
  rcases h with ⟨g, _, _, _, _, _, rfl, _⟩ | ⟨h1, _⟩
  · exact ⟨_, rfl⟩
  · exact ⟨_, h1⟩
theorem TabN.tab {w : World} {B : Nat} {tv : Value} {N : Int} {T : List T3} (h : TabN w B tv N T) (hT : T ≠ []) : Tab w B tv N T := by
  rcases h with h | ⟨_, _, h3, _⟩
  · exact h
  · exact absurd h3 hT
theorem ringAt_nil (v : Int) : ringAt [] 0 v = [] := by unfold ringAt; rw [if_neg (by omega)]
theorem oi_nonneg {o : Option Nat} : (decide (0 ≤ oi o)) = o.isSome := by cases o <;> simp [oi]
end Go.Proofs.Ytpbdcppaiafbgaa

namespace Go.Proofs.Ytpbdcppaiafbgaa
open Go Go.RowKit Go.Words Go.Mesh
attribute [local go_sem] Oper.semAt_some

theorem infoInt : (Try.prog.info? 3).map (fun i => (i.zero, i.size, i.bytes)) = some (some (.int .i64 0), 1, 8) := by kernel_rfl
def nvals (l : List Nat) : List Value := l.map fun (x : Nat) => .int .i64 (x : Int)
theorem boxed_new' {w : World} {n : Nat} (hn : n = w.heap.size) (t : TypeId) (v : Value) : Boxed (w.alloc (.cells #[v] t)) n t v := by subst hn; exact Boxed.new w t v
/-- An append to a row whose blocks lie at or behind r; the variable's box lies ahead of r. -/
theorem own_append {W w1 : World} {r B : Nat} {t e : TypeId} {size : Nat} {v v' : Value} {k m : Nat} {xs ys : List Value} {tmp : Obj}
    (hv : Boxed W B t v) (hBr : B < r) (hrow : W.ownsRow r e size v k xs) (hrW : r ≤ W.heap.size) (hown' : w1.ownsRow r e size v' m ys) (hgrow : (W.alloc tmp).grownBy w1 v.ownBlock) :
    Boxed w1 B t v ∧ Boxed (w1.setCell ⟨B, 0, none⟩ v') B t v' ∧ (w1.setCell ⟨B, 0, none⟩ v').ownsRow r e size v' m ys ∧ KeepsOthers W (w1.setCell ⟨B, 0, none⟩ v') ∧ (∀ n₀, n₀ ≤ B → Below n₀ W (w1.setCell ⟨B, 0, none⟩ v')) ∧
    (∀ B' t' u, B' < r → B' ≠ B → Boxed W B' t' u → Boxed (w1.setCell ⟨B, 0, none⟩ v') B' t' u) := by
  have hlt : ∀ B', B' < r → some B' ≠ v.ownBlock := fun B' h e => by have := (hrow.lt B' e.symm).1; omega
  have hlt' : ∀ B', B' < r → some B' ≠ v'.ownBlock := fun B' h e => by have := (hown'.lt B' e.symm).1; omega
  have hv1 : Boxed w1 B t v := (hv.alloc tmp).kept hgrow (hlt B hBr)
  refine ⟨hv1, hv1.set v', hown'.kept (grownBy_setCell' w1 B v') (.inr (hlt' B hBr).symm), ?_, fun n₀ hn => ?_, fun B' t' u h1 h2 h3 => ?_⟩
  · refine ((KeepsOthers.alloc W tmp).trans (KeepsOthers.of_grownBy hgrow fun j o ej hj => ?_)).trans (KeepsOthers.setCell _ _ _)
    rcases (hrow.alloc tmp).2 with ⟨rfl, _⟩ | ⟨g, cap, cur, rfl, _, hgb, _⟩
    · simp [Value.ownBlock] at ej
    · obtain rfl : g = j := by simpa [Value.ownBlock] using ej
      rw [hgb] at hj; cases hj; rfl
  · refine (((Below.refl n₀ W).alloc (by omega) tmp).grown hgrow (by simp; omega) fun j ej => ?_).setCell (p := ⟨B, 0, none⟩) hn v'
    have := (hrow.lt j ej).1
    omega
  · exact ((h3.alloc tmp).kept hgrow (hlt B' h1)).other h2 v'
theorem func_nil (k : Nat) (a b : Value) (w : World) : Sem.run Try.prog (binOp .eql 63 (.func (.func k) #[] #[a, b]) .nilFunc) w = .ok (.bool false) w := by kernel_rfl

end Go.Proofs.Ytpbdcppaiafbgaa

namespace Go.Mesh
def lastI (l : List Nat) : Int := match l.getLast? with
  | some c => c
  | none => -1
theorem lastI_snoc (l : List Nat) (c : Nat) : lastI (l ++ [c]) = c := by unfold lastI; simp
end Go.Mesh
namespace Go.Proofs.Ytpbdcppaiafbgaa
open Go Go.RowKit Go.Words Go.Mesh
attribute [local go_sem] Oper.semAt_some

def ivals (l : List Int) : List Value := l.map fun (x : Int) => .int .i64 x
theorem keepU_alloc {U : Nat → Prop} {w0 w : World} (h : Go.Canon.KeepU U w0 w) (hU : ∀ b, U b → b < w.heap.size) (o : Obj) : Go.Canon.KeepU U w0 (w.alloc o) := fun b hb => (Below.heap_alloc w o b (hU b hb)).trans (h b hb)
theorem keepU_grown {U : Nat → Prop} {w0 w w' : World} (h : Go.Canon.KeepU U w0 w) {row : Option Nat} (hg : w.grownBy w' row) (hU : ∀ b, U b → b < w.heap.size ∧ some b ≠ row) : Go.Canon.KeepU U w0 w' := fun b hb => (hg.block b (hU b hb).1 (hU b hb).2).trans (h b hb)

end Go.Proofs.Ytpbdcppaiafbgaa
