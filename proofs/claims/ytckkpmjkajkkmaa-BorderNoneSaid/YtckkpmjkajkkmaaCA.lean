/- Walks: certify's mirrored; what the library's sorts leave. -/
import Derived.Test.YtckkpmjkajkkmaaC9
import Derived.Test.YtckkpmjkajkkmaaLay
namespace Go.Words
open Go Go.RowKit Go.Sort
theorem grown_sorted {α : Type} [Inhabited α] (enc : α → Value) {w : World} {g off n : Nat} {os : Array Obj} (d : Array α) : w.grownBy (grow (putRow enc (Sort.ahead w n) g off d) os) (some g) := by
  refine ⟨rfl, rfl, rfl, by simp, fun k hk hne => ?_⟩
  rw [heap_grow_old _ _ (by simpa using hk)]
  have : g ≠ k := fun e => hne (by rw [e])
  simp [putRow, mapBlock, Sort.ahead, Array.getElem?_modify, this]
theorem heap_sorted {α : Type} [Inhabited α] (enc : α → Value) {w : World} {g n : Nat} {os : Array Obj} {cur : Array Value} {e : TypeId} {fr : Nat × Nat} (d : Array α) (hb : w.heap[g]? = some (.cells cur e fr)) :
    (grow (putRow enc (Sort.ahead w n) g 0 d) os).heap[g]? = some (.cells (putCells enc 0 d cur) e fr) := by
  have hg : g < w.heap.size := (Array.getElem?_eq_some_iff.1 hb).1
  rw [heap_grow_old _ _ (by simpa using hg)]
  simp [putRow, mapBlock, Sort.ahead, Array.getElem?_modify, hb, onCells]
theorem putCells_all {α : Type} [Inhabited α] (enc : α → Value) (d : Array α) (cur : Array Value) (h : cur.size = d.size) : putCells enc 0 d cur = (d.toList.map enc).toArray := by
  apply Array.ext
  · simp [putCells, h]
  · intro i h1 h2
    have hi : i < d.size := by simp [putCells, h] at h1; exact h1
    simp [putCells, hi]
theorem Bk.sorted {α : Type} [Inhabited α] (enc : α → Value) {w : World} {g n : Nat} {os : Array Obj} {e : TypeId} {cs : List Value} (d : Array α) (hb : Bk w g e cs) (h : cs.length = d.size) : Bk (grow (putRow enc (Sort.ahead w n) g 0 d) os) g e (d.toList.map enc) := by
  have := heap_sorted enc (n := n) (os := os) d hb
  rw [putCells_all enc d cs.toArray (by simpa using h)] at this
  exact this
end Go.Words
namespace Go.Mesh
def tri3 (t : T3) : List Int := [t.1, t.2.1, t.2.2]
def sorted3 (t : T3) : List Int := (tri3 t).mergeSort fun x y => decide (x ≤ y)
/-- A triangle's vertices, rising. -/
def sort3 (t : T3) : T3 := ((sorted3 t).getD 0 0, (sorted3 t).getD 1 0, (sorted3 t).getD 2 0)
theorem sorted3_len (t : T3) : (sorted3 t).length = 3 := by unfold sorted3; rw [List.length_mergeSort]; rfl
theorem sorted3_eq (t : T3) : sorted3 t = tri3 (sort3 t) := by
  have h := sorted3_len t
  unfold sort3 tri3
  match hl : sorted3 t, h with
  | [a, b, c], _ => rfl
theorem sorted3_mem (t : T3) (x : Int) : x ∈ sorted3 t ↔ x ∈ tri3 t := (List.mergeSort_perm _ _).mem_iff
end Go.Mesh
namespace Go.Proofs.Ytckkpmjkajkkmaa
open Go Go.RowKit Go.Words Go.Mesh Go.Shelf Go.Sort

set_option maxRecDepth 20000 in
set_option maxHeartbeats 2000000 in
theorem mirrorkeys_block (t : T3) (w : World) :
    Calls Try.prog 105 #[enc3 t] w fun e w' => (∃ gk, e = .returned (.slice (some ⟨gk, 0, none⟩) [sort3 t].length [sort3 t].length) ∧ Bk w' gk 54 (flat3 [sort3 t])) ∧ RowKit.Below w.heap.size w w' := by
  have hsorted := sorted3_eq t
  obtain ⟨x1, x2, x3⟩ := t
  generalize hs : sort3 (x1, x2, x3) = y at *
  obtain ⟨y1, y2, y3⟩ := y
  have hb1 := ((RowKit.Below.refl w.heap.size w).alloc (Nat.le_refl _) (.cells #[.int .i64 x1, .int .i64 x2, .int .i64 x3] 55)).alloc (by simp) (.cells #[.int .i64 x1, .int .i64 x2, .int .i64 x3] 55)
  have hbk := Bk.new' (n := w.heap.size + 1) (w := w.alloc (.cells #[.int .i64 x1, .int .i64 x2, .int .i64 x3] 55)) 55 [.int .i64 x1, .int .i64 x2, .int .i64 x3] (by simp)
  have hH : Holds (Value.int .i64) ((w.alloc (.cells #[.int .i64 x1, .int .i64 x2, .int .i64 x3] 55)).alloc (.cells #[.int .i64 x1, .int .i64 x2, .int .i64 x3] 55)) (w.heap.size + 1) 0 (tri3 (x1, x2, x3)).toArray := by
    intro j hj
    have hj3 : j < 3 := by simpa [tri3] using hj
    rw [Nat.zero_add]
    refine ⟨?_, hbk.frozen j⟩
    rw [hbk.cell]
    have hj4 : j = 0 ∨ j = 1 ∨ j = 2 := by omega
    rcases hj4 with rfl | rfl | rfl <;> rfl
  have hcon := Any.slices_Sort_int Try.sortInts (w.heap.size + 1) 0 3 (tri3 (x1, x2, x3)) _ hH (by simp) (by simp [tri3])
  change Calls Try.prog 106 #[.slice (some ⟨w.heap.size + 1, 0, none⟩) 3 3] _ _ at hcon
  change sorted3 (x1, x2, x3) = [y1, y2, y3] at hsorted
  have hb2 := fun n os => hbk.sorted (Value.int .i64) (n := n) (os := os) (sorted3 (x1, x2, x3)).toArray (by rw [List.size_toArray, sorted3_len]; rfl)
  have hg2 := fun n os => grown_sorted (Value.int .i64) (w := ((w.alloc (.cells #[.int .i64 x1, .int .i64 x2, .int .i64 x3] 55)).alloc (.cells #[.int .i64 x1, .int .i64 x2, .int .i64 x3] 55))) (g := w.heap.size + 1) (off := 0) (n := n) (os := os) (sorted3 (x1, x2, x3)).toArray
  unfold sorted3 at hb2 hg2 hsorted
  generalize ((tri3 (x1, x2, x3)).mergeSort fun x y => decide (x ≤ y)) = zs at *
  show Calls Try.prog 105 #[.agg #[.int .i64 x1, .int .i64 x2, .int .i64 x3]] w _
  have HhH := Lib.hid hH; clear hH; have Hhbk := Lib.hid hbk; clear hbk; have Hhcon := Lib.hid hcon; clear hcon; have Hhb2 := Lib.hid hb2; clear hb2; have Hhg2 := Lib.hid hg2; clear hg2; have Hhsorted := Lib.hid hsorted; clear hsorted
  go_enter Try.func105, Try.ntmps105
  go_wp2_with fail
  refine Hhcon.out.mono ?_
  rintro e w1 ⟨rfl, n, os, hw1⟩
  have b3 := Hhb2.out n os
  have g3 := Hhg2.out n os
  rw [← hw1] at b3 g3
  clear hw1
  rw [Hhsorted.out] at b3
  have hbel := hb1.grown g3 (by simp; omega) (fun q hq => by injection hq with hq; omega)
  have hz := hbel.size
  have d0 : w1.cell? ⟨w.heap.size + 1, 0, none⟩ = some (.int .i64 y1) := b3.cell 0
  have d1 : w1.cell? ⟨w.heap.size + 1, 1, none⟩ = some (.int .i64 y2) := b3.cell 1
  have d2 : w1.cell? ⟨w.heap.size + 1, 2, none⟩ = some (.int .i64 y3) := b3.cell 2
  have Hb3 := Lib.hid b3; clear b3; have Hg3 := Lib.hid g3; clear g3
  go_wp2
  go_ret
  exact ⟨⟨_, rfl, Bk.new w1 54 (flat3 [(y1, y2, y3)])⟩, hbel.alloc hz _⟩
theorem sort3_ok {N : Int} {T : List T3} (hp : Plain N T) : ∀ t ∈ T, ∀ x ∈ [sort3 t], ok3 x := by
  intro t ht x hx
  obtain ⟨p1, p2, p3, p4⟩ := hp
  obtain ⟨⟨r1, r2⟩, ⟨r3, r4⟩, ⟨r5, r6⟩⟩ := p4 t ht
  have hx : x = sort3 t := by simpa using hx
  subst hx
  have hall : ∀ y ∈ tri3 (sort3 t), I64 y := by
    intro y hy
    rw [← sorted3_eq, sorted3_mem] at hy
    unfold tri3 at hy
    simp only [List.mem_cons, List.not_mem_nil, or_false] at hy
    unfold I64
    rcases hy with rfl | rfl | rfl <;> omega
  exact ⟨hall _ (by simp [tri3]), hall _ (by simp [tri3]), hall _ (by simp [tri3])⟩
set_option maxHeartbeats 1000000 in
theorem mirrored_calls (v : Value) (N : Int) (T : List T3) (w : World) {B : Nat} (hB0 : B ≤ w.heap.size) (h : Sl 3 RTri w B v T) (hp : Plain N T) :
    Calls Try.prog 95 #[.agg #[.int .i64 N, v]] w fun e w' => (∃ v', e = .returned v' ∧ Wits w' w.heap.size v' 4 (T.flatMap fun t => [sort3 t]).Nodup) ∧ RowKit.Below w.heap.size w w' := by
  have hc := fun w hB h => pairs_calls 105 (.inr rfl) 4 (fun t => [sort3 t]) v N T w (B := B) hB h hp.2.2.1 (fun t w _ => mirrorkeys_block t w) (fun t => by simp) (sort3_ok hp)
  obtain ⟨A, cap, rfl, hcap⟩ := h.form
  have hb1 := (RowKit.Below.refl w.heap.size w).alloc (Nat.le_refl _) (.cells #[.int .i64 N, .slice A T.length cap] 24)
  clear hp
  have Hh := Lib.hid h; clear h; have Hhc := Lib.hid hc; clear hc
  go_enter Try.func95, Try.ntmps95
  go_wp2_with fail
  refine (Hhc.out _ (by simp; omega) (Hh.out.below keeps_tri (hb1.mono hB0))).mono ?_
  rintro e w1 ⟨⟨v', rfl, L, o1, o2, o3, o4⟩, hb2⟩
  have hbel := below_call hb1 hb2 hb1.size
  have o1 := own_base o1 hb1.size
  have Ho1 := Lib.hid o1; clear o1; have Ho2 := Lib.hid o2; clear o2; have Ho3 := Lib.hid o3; clear o3; have Ho4 := Lib.hid o4; clear o4
  go_wp2
  go_ret
  exact ⟨⟨_, rfl, L, Ho1.out, Ho2.out, Ho3.out, Ho4.out⟩, hbel⟩
end Go.Proofs.Ytckkpmjkajkkmaa
