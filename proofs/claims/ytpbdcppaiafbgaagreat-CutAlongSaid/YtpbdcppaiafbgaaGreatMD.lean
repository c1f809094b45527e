/- Walks: certify's mirrored; what the library's sorts leave. Walks: the order of witnesses. Walks: witnesses sorted. Walks: certify.All, certify.Check. -/
import Derived.Test.YtpbdcppaiafbgaaGreatMC
import Derived.Test.YtpbdcppaiafbgaaGreatLay
namespace Go.Words
open Go Go.RowKit Go.Sort
theorem grown_sorted {α : Type} [Inhabited α] (enc : α → Value) {w : World} {g off n : Nat} {os : Array Obj} (d : Array α) : w.grownBy (grow (putRow enc (Sort.ahead w n) g off d) os) (some g) := by
  refine ⟨rfl, rfl, rfl, by simp, fun k hk hne => ?_⟩
  rw [heap_grow_old _ _ (by simpa using hk)]
  have : g ≠ k := fun e => hne (by rw [e])
  simp [putRow, mapBlock, Sort.ahead, Array.getElem?_modify, this]
theorem heap_sorted {α : Type} [Inhabited α] (enc : α → Value) {w : World} {g n : Nat} {os : Array Obj} {cur : Array Value} {e : TypeId} {fr : Nat × Nat} (d : Array α) (hb : w.heap[g]? = some (.cells cur e fr)) :
    (grow (putRow enc (Sort.ahead w n) g 0 d) os).heap[g]? = some (.cells (putCells enc 0 d cur) e fr) := by
  have hg : g < w.heap.size := (Array.getElem?_eq_some_iff.1 hb).1
  rw [heap_grow_old _ _ (by simpa using hg)]
  simp [putRow, mapBlock, Sort.ahead, Array.getElem?_modify, hb, onCells]
theorem putCells_all {α : Type} [Inhabited α] (enc : α → Value) (d : Array α) (cur : Array Value) (h : cur.size = d.size) : putCells enc 0 d cur = (d.toList.map enc).toArray := by
  apply Array.ext
  · simp [putCells, h]
  · intro i h1 h2
    have hi : i < d.size := by simp [putCells, h] at h1; exact h1
    simp [putCells, hi]
theorem Bk.sorted {α : Type} [Inhabited α] (enc : α → Value) {w : World} {g n : Nat} {os : Array Obj} {e : TypeId} {cs : List Value} (d : Array α) (hb : Bk w g e cs) (h : cs.length = d.size) : Bk (grow (putRow enc (Sort.ahead w n) g 0 d) os) g e (d.toList.map enc) := by
  have := heap_sorted enc (n := n) (os := os) d hb
  rw [putCells_all enc d cs.toArray (by simpa using h)] at this
  exact this
end Go.Words
namespace Go.Mesh
def tri3 (t : T3) : List Int := [t.1, t.2.1, t.2.2]
def sorted3 (t : T3) : List Int := (tri3 t).mergeSort fun x y => decide (x ≤ y)
def sort3 (t : T3) : T3 := ((sorted3 t).getD 0 0, (sorted3 t).getD 1 0, (sorted3 t).getD 2 0)
theorem sorted3_len (t : T3) : (sorted3 t).length = 3 := by unfold sorted3; rw [List.length_mergeSort]; rfl
theorem sorted3_eq (t : T3) : sorted3 t = tri3 (sort3 t) := by
  have h := sorted3_len t
  unfold sort3 tri3
  match hl : sorted3 t, h with
  | [a, b, c], _ => rfl
theorem sorted3_mem (t : T3) (x : Int) : x ∈ sorted3 t ↔ x ∈ tri3 t := (List.mergeSort_perm _ _).mem_iff
end Go.Mesh
namespace Go.Proofs.YtpbdcppaiafbgaaGreat
open Go Go.RowKit Go.Words Go.Mesh Go.Shelf Go.Sort

set_option maxRecDepth 20000 in
set_option maxHeartbeats 2000000 in
theorem mirrorkeys_block (t : T3) (w : World) :
    Calls Tryz.prog 166 #[enc3 t] w fun e w' => (∃ gk, e = .returned (.slice (some ⟨gk, 0, none⟩) [sort3 t].length [sort3 t].length) ∧ Bk w' gk 56 (flat3 [sort3 t])) ∧ RowKit.Below w.heap.size w w' := by
  have hsorted := sorted3_eq t
  obtain ⟨x1, x2, x3⟩ := t
  generalize hs : sort3 (x1, x2, x3) = y at *
  obtain ⟨y1, y2, y3⟩ := y
  have hb1 := ((RowKit.Below.refl w.heap.size w).alloc (Nat.le_refl _) (.cells #[.int .i64 x1, .int .i64 x2, .int .i64 x3] 57)).alloc (by simp) (.cells #[.int .i64 x1, .int .i64 x2, .int .i64 x3] 57)
  have hbk := Bk.new' (n := w.heap.size + 1) (w := w.alloc (.cells #[.int .i64 x1, .int .i64 x2, .int .i64 x3] 57)) 57 [.int .i64 x1, .int .i64 x2, .int .i64 x3] (by simp)
  have hH : Holds (Value.int .i64) ((w.alloc (.cells #[.int .i64 x1, .int .i64 x2, .int .i64 x3] 57)).alloc (.cells #[.int .i64 x1, .int .i64 x2, .int .i64 x3] 57)) (w.heap.size + 1) 0 (tri3 (x1, x2, x3)).toArray := by
    intro j hj
    have hj3 : j < 3 := by simpa [tri3] using hj
    rw [Nat.zero_add]
    refine ⟨?_, hbk.frozen j⟩
    rw [hbk.cell]
    have hj4 : j = 0 ∨ j = 1 ∨ j = 2 := by omega
    rcases hj4 with rfl | rfl | rfl <;> rfl
  have hcon := Any.slices_Sort_int Tryz.sortInts (w.heap.size + 1) 0 3 (tri3 (x1, x2, x3)) _ hH (by simp) (by simp [tri3])
  change Calls Tryz.prog 167 #[.slice (some ⟨w.heap.size + 1, 0, none⟩) 3 3] _ _ at hcon
  change sorted3 (x1, x2, x3) = [y1, y2, y3] at hsorted
  have hb2 := fun n os => hbk.sorted (Value.int .i64) (n := n) (os := os) (sorted3 (x1, x2, x3)).toArray (by rw [List.size_toArray, sorted3_len]; rfl)
  have hg2 := fun n os => grown_sorted (Value.int .i64) (w := ((w.alloc (.cells #[.int .i64 x1, .int .i64 x2, .int .i64 x3] 57)).alloc (.cells #[.int .i64 x1, .int .i64 x2, .int .i64 x3] 57))) (g := w.heap.size + 1) (off := 0) (n := n) (os := os) (sorted3 (x1, x2, x3)).toArray
  unfold sorted3 at hb2 hg2 hsorted
  generalize ((tri3 (x1, x2, x3)).mergeSort fun x y => decide (x ≤ y)) = zs at *
  show Calls Tryz.prog 166 #[.agg #[.int .i64 x1, .int .i64 x2, .int .i64 x3]] w _
  have HhH := Lib.hid hH; clear hH; have Hhbk := Lib.hid hbk; clear hbk; have Hhcon := Lib.hid hcon; clear hcon; have Hhb2 := Lib.hid hb2; clear hb2; have Hhg2 := Lib.hid hg2; clear hg2; have Hhsorted := Lib.hid hsorted; clear hsorted
  go_enter Tryz.func166, Tryz.ntmps166
  go_wp2_with fail
  refine Hhcon.out.mono ?_
  rintro e w1 ⟨rfl, n, os, hw1⟩
  have b3 := Hhb2.out n os
  have g3 := Hhg2.out n os
  rw [← hw1] at b3 g3
  clear hw1
  rw [Hhsorted.out] at b3
  have hbel := hb1.grown g3 (by simp; omega) (fun q hq => by injection hq with hq; omega)
  have hz := hbel.size
  have d0 : w1.cell? ⟨w.heap.size + 1, 0, none⟩ = some (.int .i64 y1) := b3.cell 0
  have d1 : w1.cell? ⟨w.heap.size + 1, 1, none⟩ = some (.int .i64 y2) := b3.cell 1
  have d2 : w1.cell? ⟨w.heap.size + 1, 2, none⟩ = some (.int .i64 y3) := b3.cell 2
  have Hb3 := Lib.hid b3; clear b3; have Hg3 := Lib.hid g3; clear g3
  go_wp2
  go_ret
  exact ⟨⟨_, rfl, Bk.new w1 56 (flat3 [(y1, y2, y3)])⟩, hbel.alloc hz _⟩
theorem sort3_ok {N : Int} {T : List T3} (hp : Plain N T) : ∀ t ∈ T, ∀ x ∈ [sort3 t], ok3 x := by
  intro t ht x hx
  obtain ⟨p1, p2, p3, p4⟩ := hp
  obtain ⟨⟨r1, r2⟩, ⟨r3, r4⟩, ⟨r5, r6⟩⟩ := p4 t ht
  have hx : x = sort3 t := by simpa using hx
  subst hx
  have hall : ∀ y ∈ tri3 (sort3 t), I64 y := by
    intro y hy
    rw [← sorted3_eq, sorted3_mem] at hy
    unfold tri3 at hy
    simp only [List.mem_cons, List.not_mem_nil, or_false] at hy
    unfold I64
    rcases hy with rfl | rfl | rfl <;> omega
  exact ⟨hall _ (by simp [tri3]), hall _ (by simp [tri3]), hall _ (by simp [tri3])⟩
set_option maxHeartbeats 1000000 in
theorem mirrored_calls (v : Value) (N : Int) (T : List T3) (w : World) {B : Nat} (hB0 : B ≤ w.heap.size) (h : Sl 3 RTri w B v T) (hp : Plain N T) :
    Calls Tryz.prog 148 #[.agg #[.int .i64 N, v]] w fun e w' => (∃ v', e = .returned v' ∧ Wits w' w.heap.size v' 4 (T.flatMap fun t => [sort3 t]).Nodup) ∧ RowKit.Below w.heap.size w w' := by
  have hc := fun w hB h => pairs_calls 166 (.inr rfl) 4 (fun t => [sort3 t]) v N T w (B := B) hB h hp.2.2.1 (fun t w _ => mirrorkeys_block t w) (fun t => by simp) (sort3_ok hp)
  obtain ⟨A, cap, rfl, hcap⟩ := h.form
  have hb1 := (RowKit.Below.refl w.heap.size w).alloc (Nat.le_refl _) (.cells #[.int .i64 N, .slice A T.length cap] 24)
  clear hp
  have Hh := Lib.hid h; clear h; have Hhc := Lib.hid hc; clear hc
  go_enter Tryz.func148, Tryz.ntmps148
  go_wp2_with fail
  refine (Hhc.out _ (by simp; omega) (Hh.out.below keeps_tri (hb1.mono hB0))).mono ?_
  rintro e w1 ⟨⟨v', rfl, L, o1, o2, o3, o4⟩, hb2⟩
  have hbel := below_call hb1 hb2 hb1.size
  have o1 := own_base o1 hb1.size
  have Ho1 := Lib.hid o1; clear o1; have Ho2 := Lib.hid o2; clear o2; have Ho3 := Lib.hid o3; clear o3; have Ho4 := Lib.hid o4; clear o4
  go_wp2
  go_ret
  exact ⟨⟨_, rfl, L, Ho1.out, Ho2.out, Ho3.out, Ho4.out⟩, hbel⟩
end Go.Proofs.YtpbdcppaiafbgaaGreat

namespace Go.Mesh
def cmpI (x y : Int) : Int := if x < y then -1 else if y < x then 1 else 0
def cmpW (x y : T3) : Int := if cmpI x.2.2 y.2.2 ≠ 0 then cmpI x.2.2 y.2.2 else cmpI x.2.1 y.2.1
end Go.Mesh
namespace Go.Proofs.YtpbdcppaiafbgaaGreat
open Go Go.RowKit Go.Words Go.Mesh Go.Shelf Go.Sort

set_option maxHeartbeats 1000000 in
theorem compare_calls (x y : Int) (w : World) : Calls Tryz.prog 112 #[.int .i64 x, .int .i64 y] w fun e w' => e = .returned (.int .i64 (cmpI x y)) ∧ w' = w := by
  unfold cmpI
  rcases (show x < y ∨ (¬ x < y ∧ y < x) ∨ (¬ x < y ∧ ¬ y < x) by omega) with h | ⟨h, h2⟩ | ⟨h, h2⟩
  · rw [if_pos h]
    go_enter Tryz.func112, Tryz.ntmps112
    go_wp2
    go_ret
    exact ⟨rfl, rfl⟩
  · rw [if_neg h, if_pos h2]
    go_enter Tryz.func112, Tryz.ntmps112
    go_wp2
    go_ret
    exact ⟨rfl, rfl⟩
  · rw [if_neg h, if_neg h2]
    go_enter Tryz.func112, Tryz.ntmps112
    go_wp2
    go_ret
    exact ⟨rfl, rfl⟩

set_option maxHeartbeats 1000000 in
theorem or_calls (g : Nat) (x y : Int) (w : World) (h0 : w.cell? ⟨g, 0, none⟩ = some (.int .i64 x)) (h1 : w.cell? ⟨g, 1, none⟩ = some (.int .i64 y)) :
    Calls Tryz.prog 111 #[.slice (some ⟨g, 0, none⟩) 2 2] w fun e w' => e = .returned (.int .i64 (if x ≠ 0 then x else y)) ∧ w' = w := by
  by_cases hx : x = 0
  · subst hx
    by_cases hy : y = 0
    · subst hy
      rw [if_neg (by simp)]
      go_enter Tryz.func111, Tryz.ntmps111
      go_wp2
      refine wp_loop_rounds 3 ?_
      rw [rounds_succ]
      go_wp2
      rw [rounds_succ]
      go_wp2
      rw [rounds_succ]
      go_wp2
      go_ret
      exact ⟨rfl, rfl⟩
    · rw [if_neg (by simp)]
      go_enter Tryz.func111, Tryz.ntmps111
      go_wp2
      refine wp_loop_rounds 3 ?_
      rw [rounds_succ]
      go_wp2
      rw [rounds_succ]
      go_wp2
      go_ret
      exact ⟨rfl, rfl⟩
  · rw [if_pos hx]
    go_enter Tryz.func111, Tryz.ntmps111
    go_wp2
    refine wp_loop_rounds 3 ?_
    rw [rounds_succ]
    go_wp2
    go_ret
    exact ⟨rfl, rfl⟩

set_option maxHeartbeats 2000000 in
theorem order_calls (x y : T3) (W : World) : Calls Tryz.prog 152 #[enc3 x, enc3 y] W fun e w' => e = .returned (.int .i64 (cmpW x y)) ∧ ∃ q os', w' = grow (W.drewN q) os' := by
  obtain ⟨x1, x2, x3⟩ := x
  obtain ⟨y1, y2, y3⟩ := y
  have hcw : cmpW (x1, x2, x3) (y1, y2, y3) = if cmpI x3 y3 ≠ 0 then cmpI x3 y3 else cmpI x2 y2 := rfl
  have ha := fun w => compare_calls x3 y3 w
  have hb := fun w => compare_calls x2 y2 w
  rw [hcw]
  generalize cmpI x3 y3 = c at *
  generalize cmpI x2 y2 = d at *
  have ho := fun g w h0 h1 => or_calls g c d w h0 h1
  generalize (if c ≠ 0 then c else d) = r at *
  show Calls Tryz.prog 152 #[.agg #[.int .i64 x1, .int .i64 x2, .int .i64 x3], .agg #[.int .i64 y1, .int .i64 y2, .int .i64 y3]] W _
  have Hha := Lib.hid ha; clear ha; have Hhb := Lib.hid hb; clear hb; have Hho := Lib.hid ho; clear ho; have Hhcw := Lib.hid hcw; clear hcw
  go_enter Tryz.func152, Tryz.ntmps152
  go_wp2_with (refine Go.Canon.wp_region_plan [6,8] (· < W.heap.size + 2) [0,1,2,3,5,6,7,8] [[[4],[9],[10],[11],[12]]] mixed (by kernel_rfl) (List.forall_mem_cons.2 ⟨?_, fun _ h => by cases h⟩))
  refine Go.Canon.seg_begin ?_
  simp only [List.map_cons, List.map_nil, List.getD_cons_zero, List.getD_cons_succ]
  go_wp2_with fail
  refine (Hha.out _).mono ?_
  rintro e w1 ⟨rfl, rfl⟩
  have kb : Go.Canon.KeepU (· < W.heap.size + 2) ((W.alloc (.cells #[.int .i64 x1, .int .i64 x2, .int .i64 x3] 48)).alloc (.cells #[.int .i64 y1, .int .i64 y2, .int .i64 y3] 48)).drew ((W.alloc (.cells #[.int .i64 x1, .int .i64 x2, .int .i64 x3] 48)).alloc (.cells #[.int .i64 y1, .int .i64 y2, .int .i64 y3] 48)).drew := keep_below (RowKit.Below.refl _ _)
  have kb2 : Go.Canon.KeepU (· < W.heap.size + 2) ((W.alloc (.cells #[.int .i64 x1, .int .i64 x2, .int .i64 x3] 48)).alloc (.cells #[.int .i64 y1, .int .i64 y2, .int .i64 y3] 48)).drew (((W.alloc (.cells #[.int .i64 x1, .int .i64 x2, .int .i64 x3] 48)).alloc (.cells #[.int .i64 y1, .int .i64 y2, .int .i64 y3] 48)).alloc (.cells #[.int .i64 c, .int .i64 d] 3)).drew := keep_below (RowKit.Below.alloc (B := W.heap.size + 2) (a := ((W.alloc (.cells #[.int .i64 x1, .int .i64 x2, .int .i64 x3] 48)).alloc (.cells #[.int .i64 y1, .int .i64 y2, .int .i64 y3] 48)).drew) (RowKit.Below.refl _ _) (by simp) (.cells #[.int .i64 c, .int .i64 d] 3))
  have hlit := (Bk.new' (n := W.heap.size + 2) (w := (W.alloc (.cells #[.int .i64 x1, .int .i64 x2, .int .i64 x3] 48)).alloc (.cells #[.int .i64 y1, .int .i64 y2, .int .i64 y3] 48)) 3 [.int .i64 c, .int .i64 d] (by simp)).drew
  have Hkb := Lib.hid kb; clear kb; have Hkb2 := Lib.hid kb2; clear kb2; have Hhlit := Lib.hid hlit; clear hlit
  go_wp2_with fail
  refine Go.Canon.seg_end Hkb.out (Go.Canon.seg_begin ?_)
  simp only [List.map_cons, List.map_nil, List.getD_cons_zero, List.getD_cons_succ]
  go_wp2_with fail
  refine (Hhb.out _).mono ?_
  rintro e w1 ⟨rfl, rfl⟩
  go_wp2_with fail
  refine Go.Canon.seg_end Hkb.out (Go.Canon.seg_begin ?_)
  simp only [List.map_cons, List.map_nil, List.getD_cons_zero, List.getD_cons_succ]
  go_wp2_with fail
  refine Go.Canon.seg_end Hkb2.out (Go.Canon.seg_begin ?_)
  simp only [List.map_cons, List.map_nil, List.getD_cons_zero, List.getD_cons_succ]
  go_wp2_with fail
  refine (Hho.out _ _ ?_ ?_).mono ?_
  · exact Hhlit.out.cell 0
  · exact Hhlit.out.cell 1
  rintro e w1 ⟨rfl, rfl⟩
  go_wp2_with fail
  refine Go.Canon.seg_end Hkb2.out (Go.Canon.seg_begin ?_)
  simp only [List.map_cons, List.map_nil, List.getD_cons_zero, List.getD_cons_succ]
  go_wp2_with fail
  refine Go.Canon.seg_end Hkb2.out (Go.Canon.seg_done (by rfl) (List.forall_mem_cons.2 ⟨.inl ⟨_, rfl, by simp, by simp⟩, List.forall_mem_cons.2 ⟨.inl ⟨_, rfl, by simp, by simp⟩, fun _ h => by cases h⟩⟩) ?_)
  go_wp2_with fail
  go_ret
  exact ⟨rfl, 1, #[.cells #[.int .i64 x1, .int .i64 x2, .int .i64 x3] 48, .cells #[.int .i64 y1, .int .i64 y2, .int .i64 y3] 48, .cells #[.int .i64 c, .int .i64 d] 3], by rw [alloc_eq_grow, alloc_eq_grow, alloc_eq_grow, grow_grow, grow_grow]; rfl⟩
end Go.Proofs.YtpbdcppaiafbgaaGreat

namespace Go.Words
open Go Go.RowKit Go.Sort
theorem own_sorted {w : World} {base g n cap size m : Nat} {e : TypeId} {xs : List Value} {os : Array Obj} (F : Array Value) (h : w.ownsRow base e size (.slice (some ⟨g, 0, none⟩) n cap) n xs) (hF : F.size = n * size) :
    (grow (putRow id (Sort.ahead w m) g 0 F) os).ownsRow base e size (.slice (some ⟨g, 0, none⟩) n cap) n F.toList := by
  rcases h.2 with ⟨h0, _⟩ | ⟨g', cap', cur, hv, hb, hg, hn, hc, hcs, _⟩
  · cases h0
  injection hv with hv _ hc'
  injection hv with hv
  injection hv with hg'
  subst hg'; subst hc'
  refine ⟨by simpa using hF, .inr ⟨g, cap, _, rfl, hb, heap_sorted id F hg, hn, hc, by simp [putCells, hcs], ?_⟩⟩
  apply List.ext_getElem?
  intro j
  have hle : n * size ≤ cap * size := Nat.mul_le_mul_right _ hn
  by_cases hj : j < n * size
  · rw [List.getElem?_take_of_lt hj, Array.getElem?_toList]
    simp [putCells, hF, hj, show j < cur.size by omega]
  · rw [List.getElem?_take_eq_none (by omega), List.getElem?_eq_none (by simp; omega)]
end Go.Words
namespace Go.Mesh
theorem cmpI_neg (x y : Int) : cmpI x y < 0 ↔ x < y := by
  unfold cmpI
  by_cases h1 : x < y
  · simp [h1]
  · by_cases h2 : y < x <;> simp [h1, h2]
theorem cmpI_zero (x y : Int) : cmpI x y = 0 ↔ x = y := by
  unfold cmpI
  by_cases h1 : x < y
  · rw [if_pos h1]; omega
  · rw [if_neg h1]
    by_cases h2 : y < x
    · rw [if_pos h2]; omega
    · rw [if_neg h2]; omega
theorem cmpW_neg (x y : T3) : cmpW x y < 0 ↔ x.2.2 < y.2.2 ∨ (x.2.2 = y.2.2 ∧ x.2.1 < y.2.1) := by
  have h1 := cmpI_neg x.2.2 y.2.2
  have h2 := cmpI_neg x.2.1 y.2.1
  have h3 := cmpI_zero x.2.2 y.2.2
  unfold cmpW
  split <;> omega
end Go.Mesh
namespace Go.Proofs.YtpbdcppaiafbgaaGreat
open Go Go.RowKit Go.Words Go.Mesh Go.Shelf Go.Sort Go.Lib

def encW (x : T3) : List Value := [.int .i64 x.1, .int .i64 x.2.1, .int .i64 x.2.2]
theorem ltW (x y : T3) : ltOf cmpW x y = decide (x.2.2 < y.2.2 ∨ (x.2.2 = y.2.2 ∧ x.2.1 < y.2.1)) := by
  unfold ltOf
  rw [Bool.eq_iff_iff, decide_eq_true_eq, decide_eq_true_eq]
  exact cmpW_neg x y
theorem swoW : SWO (ltOf cmpW) where
  irrefl x := by rw [ltW]; simp
  trans x y z h1 h2 := by rw [ltW] at *; simp at *; omega
  ntrans x y z h1 h2 := by rw [ltW] at *; simp at *; omega
theorem flatK_flat3 (L : List T3) : flatK encW 3 L.toArray = (flat3 L).toArray := by
  apply Array.ext
  · simp [flat3_len]
  · intro j h1 h2
    have hj : j < L.length * 3 := by simpa using h1
    have hq : j / 3 < L.length := by omega
    rw [show (flatK encW 3 L.toArray)[j] = (flatK encW 3 L.toArray)[j]! from (getElem!_pos (flatK encW 3 L.toArray) j h1).symm, get_flatK _ _ _ _ (by simpa using hj)]
    have hd : L.toArray[j / 3]! = L[j / 3] := by simp [getElem!_pos, hq]
    rw [hd]
    have h3 := flat3_at L (j / 3) L[j / 3] (List.getElem?_eq_getElem hq)
    have h4 := congrArg (fun l : List Value => l[j % 3]?) h3
    rw [List.getElem?_take, if_pos (by omega), List.getElem?_drop, show j / 3 * 3 + j % 3 = j from by omega] at h4
    have h5 : (flat3 L)[j]? = some ((flat3 L).toArray[j]) := by
      rw [List.getElem?_eq_getElem (by rw [flat3_len]; exact hj)]; simp
    rw [h5] at h4
    have h6 : (encW L[j / 3])[j % 3]? = some ((flat3 L).toArray[j]) := h4.symm
    have hlt : j % 3 < (encW L[j / 3]).length := by unfold encW; simp; omega
    rw [List.getElem?_eq_getElem hlt] at h6
    injection h6 with h6
    rw [getElem!_pos (encW L[j / 3]) (j % 3) hlt, h6]

set_option maxHeartbeats 1000000 in
theorem sortwit_calls (L : List T3) (g cap base : Nat) (w : World) (h : w.ownsRow base 48 3 (.slice (some ⟨g, 0, none⟩) L.length cap) L.length (flat3 L)) (hl : L.length ≤ 603979776) :
    Calls Tryz.prog 151 #[.slice (some ⟨g, 0, none⟩) L.length cap, .func (.func 152) #[] #[]] w fun e w' =>
      e = .returned (.tuple #[]) ∧ (∃ L' : List T3, L'.Perm L ∧ L'.length = L.length ∧ w'.ownsRow base 48 3 (.slice (some ⟨g, 0, none⟩) L.length cap) L.length (flat3 L')) ∧ w.grownBy w' (some g) := by
  have eg : ∀ args w, (callFunc 152 args).run Tryz.prog w = .ok (.enter 152 args) w := enters_of Tryz.func152 (by kernel_rfl) rfl
  have hlay : CmpLays Tryz.prog 152 #[] encW 3 cmpW g 0 L.toArray.size w := fun m os dk _ x y => order_calls x y _
  have hH : HoldsK encW 3 w g 0 L.toArray := by
    unfold HoldsK
    rw [flatK_flat3]
    intro j hj
    have hj : j < L.length * 3 := by simpa [flat3_len] using hj
    rw [Nat.zero_add]
    refine ⟨?_, h.frozenAt j⟩
    rw [h.cellAt j hj, List.getElem?_eq_getElem (by rw [flat3_len]; exact hj)]
    simp [getElem!_pos, flat3_len, hj]
  have hcon := AnyQ.slices_SortFunc Tryz.sortWit 3 Tryz.isAgg48 Tryz.sizeOf48 encW (fun _ => rfl) (fun x v hv => by simp [encW] at hv; rcases hv with rfl | rfl | rfl <;> rfl) cmpW swoW 152 #[] g 0 cap L.toArray w eg hlay hH (h.lt g rfl).2 (by simp; omega)
  change Calls Tryz.prog 151 _ _ _ at hcon
  refine hcon.mono ?_
  rintro e w' ⟨rfl, d', n, os, hp, _, rfl⟩
  have hsz : d'.size = L.length := by have := hp.1; simpa using this
  have hperm : d'.toList.Perm L := by
    have := hp.2.2
    have e1 : d'.extract 0 L.toArray.size = d' := by rw [show L.toArray.size = d'.size from by simp [hsz]]; simp
    have e2 : L.toArray.extract 0 L.toArray.size = L.toArray := by simp
    rw [e1, e2] at this
    simpa using this
  refine ⟨rfl, ⟨d'.toList, hperm, by simpa using hsz, ?_⟩, grown_sorted id _⟩
  have hf : flatK encW 3 d' = (flat3 d'.toList).toArray := by rw [← flatK_flat3]
  have := own_sorted (m := n) (os := os) (flatK encW 3 d') h (by simp [hsz])
  rw [hf] at this
  unfold sortWorldK putRowK
  rw [hf]
  simpa using this
end Go.Proofs.YtpbdcppaiafbgaaGreat

namespace Go.Words
open Go Go.RowKit
theorem own_some {w : World} {base e size n : Nat} {v : Value} {xs : List Value} (h : w.ownsRow base e size v n xs) (hn : 0 < n) : ∃ g cap, v = .slice (some ⟨g, 0, none⟩) n cap ∧ base ≤ g ∧ g < w.heap.size := by
  rcases h.2 with ⟨_, h0⟩ | ⟨g, cap, cur, hv, hb, hg, _⟩
  · omega
  · exact ⟨g, cap, hv, hb, (Array.getElem?_eq_some_iff.1 hg).1⟩
end Go.Words
namespace Go.Mesh
def KindOk (n : Nat) (T : List T3) : Nat → Prop
  | 0 => Plain n T
  | 1 => ∀ t ∈ T, Three t
  | 2 => (T.flatMap keys2).Nodup
  | 3 => (T.flatMap fun t => [sort3 t]).Nodup
  | 4 => ∀ u : Nat, u < n → ∃ t ∈ T, HasV t u
  | _ => ∀ u : Nat, u < n → PinchOk T u
def GoodTo (N : Int) (T : List T3) (k : Nat) : Prop := ∃ n : Nat, N = n ∧ ∀ j, j < k → KindOk n T j
theorem goodTo_one {N : Int} {T : List T3} : Plain N T ↔ GoodTo N T 1 := by
  constructor
  · intro h
    refine ⟨N.toNat, by have := h.1; omega, fun j hj => ?_⟩
    have : j = 0 := by omega
    subst this
    show Plain (N.toNat : Int) T
    rwa [Int.toNat_of_nonneg h.1]
  · rintro ⟨n, rfl, h⟩
    exact h 0 (by omega)
theorem goodTo_succ {n k : Nat} {T : List T3} (h : GoodTo (n : Int) T k) : KindOk n T k ↔ GoodTo (n : Int) T (k + 1) := by
  obtain ⟨m, hm, h⟩ := h
  have : m = n := by omega
  subst this
  constructor
  · intro h9
    refine ⟨m, rfl, fun j hj => ?_⟩
    by_cases hjk : j = k
    · subst hjk; exact h9
    · exact h j (by omega)
  · rintro ⟨m', hm', h'⟩
    have : m' = m := by omega
    subst this
    exact h' k (by omega)
def Cert (N : Int) (T : List T3) : Prop := GoodTo N T 6
theorem cert_to {N : Int} {T : List T3} (h : Cert N T) {k : Nat} (hk : k ≤ 6) : GoodTo N T k := by
  obtain ⟨n, e, h⟩ := h
  exact ⟨n, e, fun j hj => h j (by omega)⟩
end Go.Mesh
namespace Go.Proofs.YtpbdcppaiafbgaaGreat
open Go Go.RowKit Go.Words Go.Mesh Go.Shelf Go.Sort Go.Lib

def kindFs : List Value := [.func (.func 145) #[] #[], .func (.func 146) #[] #[], .func (.func 147) #[] #[], .func (.func 148) #[] #[], .func (.func 149) #[] #[], .func (.func 150) #[] #[]]

set_option maxRecDepth 20000 in
set_option maxHeartbeats 2000000 in
theorem all_calls (v : Value) (N : Int) (T : List T3) (w : World) {B : Nat} (hB0 : B ≤ w.heap.size) (h : Sl 3 RTri w B v T) (hN : I64 N) :
    Calls Tryz.prog 120 #[.agg #[.int .i64 N, v]] w fun e w' => (∃ v' L, e = .returned v' ∧ w'.ownsRow w.heap.size 48 3 v' L.length (flat3 L) ∧ (L = [] ↔ Cert N T) ∧ (∀ x ∈ L, 1 ≤ x.1) ∧ L.length ≤ 603979776) ∧ RowKit.Below w.heap.size w w' := by
  obtain ⟨A, cap, rfl, hcap⟩ := h.form
  have hbox := (Bk.new w 24 [.int .i64 N, .slice A T.length cap]).alloc (.cells kindFs.toArray 161)
  have hfs := Bk.new' (n := w.heap.size + 1) (w := w.alloc (.cells #[.int .i64 N, .slice A T.length cap] 24)) 161 kindFs (by simp)
  have hb1 := ((RowKit.Below.refl w.heap.size w).alloc (Nat.le_refl _) (.cells #[.int .i64 N, .slice A T.length cap] 24)).alloc (by simp) (.cells kindFs.toArray 161)
  unfold kindFs at *
  have Hh := Lib.hid h; clear h; have Hhbox := Lib.hid hbox; clear hbox; have Hhfs := Lib.hid hfs; clear hfs
  go_enter Tryz.func120, Tryz.ntmps120
  go_wp2
  go_loopw [8] (fun i wr => ∃ (k : Nat), k ≤ 6 ∧ i = .int .i64 k ∧ Bk wr w.heap.size 24 [.int .i64 N, .slice A T.length cap] ∧ Bk wr (w.heap.size + 1) 161 kindFs ∧ RowKit.Below w.heap.size w wr ∧ (0 < k → GoodTo N T k))
    (fun i _ => 6 - (intOf i).toNat)
  case atStart => exact ⟨0, by omega, rfl, Hhbox.out, Hhfs.out, hb1, by omega⟩
  case round =>
    obtain ⟨k, hk, rfl, hbox, hfs, hbel, hgood⟩ := hrel
    have hz := hbel.size
    have hz2 := hfs.lt
    have hz2' := hbox.lt
    have c0 : wr.cell? ⟨w.heap.size, 0, none⟩ = some (.int .i64 N) := hbox.cell 0
    have c1 : wr.cell? ⟨w.heap.size, 1, none⟩ = some (.slice A T.length cap) := hbox.cell 1
    have hsl := Hh.out.below keeps_tri (hbel.mono hB0)
    have hB9 := Nat.le_trans hB0 hz
    have fs := hfs.cell
    unfold kindFs at fs
    have hk7 : k = 0 ∨ k = 1 ∨ k = 2 ∨ k = 3 ∨ k = 4 ∨ k = 5 ∨ k = 6 := by omega
    rcases hk7 with rfl | rfl | rfl | rfl | rfl | rfl | rfl
    · have hc := index_calls _ N T wr hB9 hsl hN
      have hgk := @goodTo_one N T
      clear hgood
      have f0 : wr.cell? ⟨w.heap.size + 1, 0, none⟩ = some (.func (.func 145) #[] #[]) := fs 0
      have Hhbox := Lib.hid hbox; clear hbox; have Hhfs := Lib.hid hfs; clear hfs; have Hfs := Lib.hid fs; clear fs; have Hhc := Lib.hid hc; clear hc; have Hhgk := Lib.hid hgk; clear hgk; have Hhsl := Lib.hid hsl; clear hsl
      go_wp2_with fail
      refine Hhc.out.mono ?_
      rintro e w1 ⟨⟨v', rfl, L, o1, o2, o3, o4⟩, hb2⟩
      have oG : L = [] ↔ GoodTo N T 1 := o2.trans Hhgk.out
      clear o2
      have o5 : ∀ x ∈ L, 1 ≤ x.1 := fun x hx => by rw [o3 x hx]; omega
      clear o3
      have hbox1 := Hhbox.out.below hb2 hz2'
      have hfs1 := Hhfs.out.below hb2 hz2
      have hbel1 := below_call hbel hb2 hz
      have hz1 := hbel1.size
      rcases L with _ | ⟨x0, L⟩
      · obtain ⟨A5, cap5, rfl, hcap5⟩ := own_form o1
        simp only [List.length_nil] at *
        have Ho1 := Lib.hid o1; clear o1; have Ho5 := Lib.hid o5; clear o5; have HoG := Lib.hid oG; clear oG; have Hhbox1 := Lib.hid hbox1; clear hbox1; have Hhfs1 := Lib.hid hfs1; clear hfs1
        go_wp2
        exact ⟨⟨1, by omega, by simp, Hhbox1.out, Hhfs1.out, hbel1, fun _ => HoG.out.1 trivial⟩, by simp [intOf]⟩
      · obtain ⟨g5, cap5, rfl, hg5, hg6⟩ := own_some o1 (by simp)
        have hso := sortwit_calls (x0 :: L) g5 cap5 w.heap.size w1 (own_base o1 hz) o4
        have oN : ¬ GoodTo N T 1 := fun h9 => by have := oG.2 h9; cases this
        simp only [List.length_cons] at *
        have Ho1 := Lib.hid o1; clear o1; have Ho5 := Lib.hid o5; clear o5; have HoG := Lib.hid oG; clear oG; have HoN := Lib.hid oN; clear oN; have Hhso := Lib.hid hso; clear hso; have Hhbox1 := Lib.hid hbox1; clear hbox1; have Hhfs1 := Lib.hid hfs1; clear hfs1
        go_wp2_with fail
        refine Hhso.out.mono ?_
        rintro e w2 ⟨rfl, ⟨L', hperm, hlen, ho⟩, hgr⟩
        have hbel2 := hbel1.grown hgr (by omega) (fun q hq => by injection hq with hq; omega)
        have Hho := Lib.hid ho; clear ho; have Hhperm := Lib.hid hperm; clear hperm
        go_wp2
        go_ret
        refine ⟨⟨_, L', rfl, by rw [hlen]; exact Hho.out, ⟨fun h9 => ?_, fun h9 => absurd (cert_to h9 (by omega)) HoN.out⟩, fun x hx => Ho5.out x (Hhperm.out.mem_iff.1 hx), by rw [hlen]; exact o4⟩, hbel2⟩
        rw [h9] at hlen
        simp at hlen
    · obtain ⟨n, rfl, g⟩ := hgood (by omega)
      have hc := loop_calls _ n T wr hB9 hsl (g 0 (by omega)).2.2.1
      have hgk := goodTo_succ (k := 1) ⟨n, rfl, g⟩
      clear g
      have f0 : wr.cell? ⟨w.heap.size + 1, 1, none⟩ = some (.func (.func 146) #[] #[]) := fs 1
      have Hhbox := Lib.hid hbox; clear hbox; have Hhfs := Lib.hid hfs; clear hfs; have Hfs := Lib.hid fs; clear fs; have Hhc := Lib.hid hc; clear hc; have Hhgk := Lib.hid hgk; clear hgk; have Hhsl := Lib.hid hsl; clear hsl
      go_wp2_with fail
      refine Hhc.out.mono ?_
      rintro e w1 ⟨⟨v', rfl, L, o1, o2, o3, o4⟩, hb2⟩
      have oG : L = [] ↔ GoodTo (n : Int) T 2 := o2.trans Hhgk.out
      clear o2
      have o5 : ∀ x ∈ L, 1 ≤ x.1 := fun x hx => by rw [o3 x hx]; omega
      clear o3
      have hbox1 := Hhbox.out.below hb2 hz2'
      have hfs1 := Hhfs.out.below hb2 hz2
      have hbel1 := below_call hbel hb2 hz
      have hz1 := hbel1.size
      rcases L with _ | ⟨x0, L⟩
      · obtain ⟨A5, cap5, rfl, hcap5⟩ := own_form o1
        simp only [List.length_nil] at *
        have Ho1 := Lib.hid o1; clear o1; have Ho5 := Lib.hid o5; clear o5; have HoG := Lib.hid oG; clear oG; have Hhbox1 := Lib.hid hbox1; clear hbox1; have Hhfs1 := Lib.hid hfs1; clear hfs1
        go_wp2
        exact ⟨⟨2, by omega, by simp, Hhbox1.out, Hhfs1.out, hbel1, fun _ => HoG.out.1 trivial⟩, by simp [intOf]⟩
      · obtain ⟨g5, cap5, rfl, hg5, hg6⟩ := own_some o1 (by simp)
        have hso := sortwit_calls (x0 :: L) g5 cap5 w.heap.size w1 (own_base o1 hz) o4
        have oN : ¬ GoodTo (n : Int) T 2 := fun h9 => by have := oG.2 h9; cases this
        simp only [List.length_cons] at *
        have Ho1 := Lib.hid o1; clear o1; have Ho5 := Lib.hid o5; clear o5; have HoG := Lib.hid oG; clear oG; have HoN := Lib.hid oN; clear oN; have Hhso := Lib.hid hso; clear hso; have Hhbox1 := Lib.hid hbox1; clear hbox1; have Hhfs1 := Lib.hid hfs1; clear hfs1
        go_wp2_with fail
        refine Hhso.out.mono ?_
        rintro e w2 ⟨rfl, ⟨L', hperm, hlen, ho⟩, hgr⟩
        have hbel2 := hbel1.grown hgr (by omega) (fun q hq => by injection hq with hq; omega)
        have Hho := Lib.hid ho; clear ho; have Hhperm := Lib.hid hperm; clear hperm
        go_wp2
        go_ret
        refine ⟨⟨_, L', rfl, by rw [hlen]; exact Hho.out, ⟨fun h9 => ?_, fun h9 => absurd (cert_to h9 (by omega)) HoN.out⟩, fun x hx => Ho5.out x (Hhperm.out.mem_iff.1 hx), by rw [hlen]; exact o4⟩, hbel2⟩
        rw [h9] at hlen
        simp at hlen
    · obtain ⟨n, rfl, g⟩ := hgood (by omega)
      have hc := twice_calls _ n T wr hB9 hsl (g 0 (by omega))
      have hgk := goodTo_succ (k := 2) ⟨n, rfl, g⟩
      clear g
      have f0 : wr.cell? ⟨w.heap.size + 1, 2, none⟩ = some (.func (.func 147) #[] #[]) := fs 2
      have Hhbox := Lib.hid hbox; clear hbox; have Hhfs := Lib.hid hfs; clear hfs; have Hfs := Lib.hid fs; clear fs; have Hhc := Lib.hid hc; clear hc; have Hhgk := Lib.hid hgk; clear hgk; have Hhsl := Lib.hid hsl; clear hsl
      go_wp2_with fail
      refine Hhc.out.mono ?_
      rintro e w1 ⟨⟨v', rfl, L, o1, o2, o3, o4⟩, hb2⟩
      have oG : L = [] ↔ GoodTo (n : Int) T 3 := o2.trans Hhgk.out
      clear o2
      have o5 : ∀ x ∈ L, 1 ≤ x.1 := fun x hx => by rw [o3 x hx]; omega
      clear o3
      have hbox1 := Hhbox.out.below hb2 hz2'
      have hfs1 := Hhfs.out.below hb2 hz2
      have hbel1 := below_call hbel hb2 hz
      have hz1 := hbel1.size
      rcases L with _ | ⟨x0, L⟩
      · obtain ⟨A5, cap5, rfl, hcap5⟩ := own_form o1
        simp only [List.length_nil] at *
        have Ho1 := Lib.hid o1; clear o1; have Ho5 := Lib.hid o5; clear o5; have HoG := Lib.hid oG; clear oG; have Hhbox1 := Lib.hid hbox1; clear hbox1; have Hhfs1 := Lib.hid hfs1; clear hfs1
        go_wp2
        exact ⟨⟨3, by omega, by simp, Hhbox1.out, Hhfs1.out, hbel1, fun _ => HoG.out.1 trivial⟩, by simp [intOf]⟩
      · obtain ⟨g5, cap5, rfl, hg5, hg6⟩ := own_some o1 (by simp)
        have hso := sortwit_calls (x0 :: L) g5 cap5 w.heap.size w1 (own_base o1 hz) o4
        have oN : ¬ GoodTo (n : Int) T 3 := fun h9 => by have := oG.2 h9; cases this
        simp only [List.length_cons] at *
        have Ho1 := Lib.hid o1; clear o1; have Ho5 := Lib.hid o5; clear o5; have HoG := Lib.hid oG; clear oG; have HoN := Lib.hid oN; clear oN; have Hhso := Lib.hid hso; clear hso; have Hhbox1 := Lib.hid hbox1; clear hbox1; have Hhfs1 := Lib.hid hfs1; clear hfs1
        go_wp2_with fail
        refine Hhso.out.mono ?_
        rintro e w2 ⟨rfl, ⟨L', hperm, hlen, ho⟩, hgr⟩
        have hbel2 := hbel1.grown hgr (by omega) (fun q hq => by injection hq with hq; omega)
        have Hho := Lib.hid ho; clear ho; have Hhperm := Lib.hid hperm; clear hperm
        go_wp2
        go_ret
        refine ⟨⟨_, L', rfl, by rw [hlen]; exact Hho.out, ⟨fun h9 => ?_, fun h9 => absurd (cert_to h9 (by omega)) HoN.out⟩, fun x hx => Ho5.out x (Hhperm.out.mem_iff.1 hx), by rw [hlen]; exact o4⟩, hbel2⟩
        rw [h9] at hlen
        simp at hlen
    · obtain ⟨n, rfl, g⟩ := hgood (by omega)
      have hc := mirrored_calls _ n T wr hB9 hsl (g 0 (by omega))
      have hgk := goodTo_succ (k := 3) ⟨n, rfl, g⟩
      clear g
      have f0 : wr.cell? ⟨w.heap.size + 1, 3, none⟩ = some (.func (.func 148) #[] #[]) := fs 3
      have Hhbox := Lib.hid hbox; clear hbox; have Hhfs := Lib.hid hfs; clear hfs; have Hfs := Lib.hid fs; clear fs; have Hhc := Lib.hid hc; clear hc; have Hhgk := Lib.hid hgk; clear hgk; have Hhsl := Lib.hid hsl; clear hsl
      go_wp2_with fail
      refine Hhc.out.mono ?_
      rintro e w1 ⟨⟨v', rfl, L, o1, o2, o3, o4⟩, hb2⟩
      have oG : L = [] ↔ GoodTo (n : Int) T 4 := o2.trans Hhgk.out
      clear o2
      have o5 : ∀ x ∈ L, 1 ≤ x.1 := fun x hx => by rw [o3 x hx]; omega
      clear o3
      have hbox1 := Hhbox.out.below hb2 hz2'
      have hfs1 := Hhfs.out.below hb2 hz2
      have hbel1 := below_call hbel hb2 hz
      have hz1 := hbel1.size
      rcases L with _ | ⟨x0, L⟩
      · obtain ⟨A5, cap5, rfl, hcap5⟩ := own_form o1
        simp only [List.length_nil] at *
        have Ho1 := Lib.hid o1; clear o1; have Ho5 := Lib.hid o5; clear o5; have HoG := Lib.hid oG; clear oG; have Hhbox1 := Lib.hid hbox1; clear hbox1; have Hhfs1 := Lib.hid hfs1; clear hfs1
        go_wp2
        exact ⟨⟨4, by omega, by simp, Hhbox1.out, Hhfs1.out, hbel1, fun _ => HoG.out.1 trivial⟩, by simp [intOf]⟩
      · obtain ⟨g5, cap5, rfl, hg5, hg6⟩ := own_some o1 (by simp)
        have hso := sortwit_calls (x0 :: L) g5 cap5 w.heap.size w1 (own_base o1 hz) o4
        have oN : ¬ GoodTo (n : Int) T 4 := fun h9 => by have := oG.2 h9; cases this
        simp only [List.length_cons] at *
        have Ho1 := Lib.hid o1; clear o1; have Ho5 := Lib.hid o5; clear o5; have HoG := Lib.hid oG; clear oG; have HoN := Lib.hid oN; clear oN; have Hhso := Lib.hid hso; clear hso; have Hhbox1 := Lib.hid hbox1; clear hbox1; have Hhfs1 := Lib.hid hfs1; clear hfs1
        go_wp2_with fail
        refine Hhso.out.mono ?_
        rintro e w2 ⟨rfl, ⟨L', hperm, hlen, ho⟩, hgr⟩
        have hbel2 := hbel1.grown hgr (by omega) (fun q hq => by injection hq with hq; omega)
        have Hho := Lib.hid ho; clear ho; have Hhperm := Lib.hid hperm; clear hperm
        go_wp2
        go_ret
        refine ⟨⟨_, L', rfl, by rw [hlen]; exact Hho.out, ⟨fun h9 => ?_, fun h9 => absurd (cert_to h9 (by omega)) HoN.out⟩, fun x hx => Ho5.out x (Hhperm.out.mem_iff.1 hx), by rw [hlen]; exact o4⟩, hbel2⟩
        rw [h9] at hlen
        simp at hlen
    · obtain ⟨n, rfl, g⟩ := hgood (by omega)
      have hc := lonely_calls _ n T wr hB9 hsl (g 0 (by omega))
      have hgk := goodTo_succ (k := 4) ⟨n, rfl, g⟩
      clear g
      have f0 : wr.cell? ⟨w.heap.size + 1, 4, none⟩ = some (.func (.func 149) #[] #[]) := fs 4
      have Hhbox := Lib.hid hbox; clear hbox; have Hhfs := Lib.hid hfs; clear hfs; have Hfs := Lib.hid fs; clear fs; have Hhc := Lib.hid hc; clear hc; have Hhgk := Lib.hid hgk; clear hgk; have Hhsl := Lib.hid hsl; clear hsl
      go_wp2_with fail
      refine Hhc.out.mono ?_
      rintro e w1 ⟨⟨v', rfl, L, o1, o2, o3, o4⟩, hb2⟩
      have oG : L = [] ↔ GoodTo (n : Int) T 5 := o2.trans Hhgk.out
      clear o2
      have o5 : ∀ x ∈ L, 1 ≤ x.1 := fun x hx => by rw [o3 x hx]; omega
      clear o3
      have hbox1 := Hhbox.out.below hb2 hz2'
      have hfs1 := Hhfs.out.below hb2 hz2
      have hbel1 := below_call hbel hb2 hz
      have hz1 := hbel1.size
      rcases L with _ | ⟨x0, L⟩
      · obtain ⟨A5, cap5, rfl, hcap5⟩ := own_form o1
        simp only [List.length_nil] at *
        have Ho1 := Lib.hid o1; clear o1; have Ho5 := Lib.hid o5; clear o5; have HoG := Lib.hid oG; clear oG; have Hhbox1 := Lib.hid hbox1; clear hbox1; have Hhfs1 := Lib.hid hfs1; clear hfs1
        go_wp2
        exact ⟨⟨5, by omega, by simp, Hhbox1.out, Hhfs1.out, hbel1, fun _ => HoG.out.1 trivial⟩, by simp [intOf]⟩
      · obtain ⟨g5, cap5, rfl, hg5, hg6⟩ := own_some o1 (by simp)
        have hso := sortwit_calls (x0 :: L) g5 cap5 w.heap.size w1 (own_base o1 hz) o4
        have oN : ¬ GoodTo (n : Int) T 5 := fun h9 => by have := oG.2 h9; cases this
        simp only [List.length_cons] at *
        have Ho1 := Lib.hid o1; clear o1; have Ho5 := Lib.hid o5; clear o5; have HoG := Lib.hid oG; clear oG; have HoN := Lib.hid oN; clear oN; have Hhso := Lib.hid hso; clear hso; have Hhbox1 := Lib.hid hbox1; clear hbox1; have Hhfs1 := Lib.hid hfs1; clear hfs1
        go_wp2_with fail
        refine Hhso.out.mono ?_
        rintro e w2 ⟨rfl, ⟨L', hperm, hlen, ho⟩, hgr⟩
        have hbel2 := hbel1.grown hgr (by omega) (fun q hq => by injection hq with hq; omega)
        have Hho := Lib.hid ho; clear ho; have Hhperm := Lib.hid hperm; clear hperm
        go_wp2
        go_ret
        refine ⟨⟨_, L', rfl, by rw [hlen]; exact Hho.out, ⟨fun h9 => ?_, fun h9 => absurd (cert_to h9 (by omega)) HoN.out⟩, fun x hx => Ho5.out x (Hhperm.out.mem_iff.1 hx), by rw [hlen]; exact o4⟩, hbel2⟩
        rw [h9] at hlen
        simp at hlen
    · obtain ⟨n, rfl, g⟩ := hgood (by omega)
      have hc := pinch_calls _ n T wr hB9 hsl (g 0 (by omega)) (g 1 (by omega)) (g 4 (by omega))
      have hgk := goodTo_succ (k := 5) ⟨n, rfl, g⟩
      clear g
      have f0 : wr.cell? ⟨w.heap.size + 1, 5, none⟩ = some (.func (.func 150) #[] #[]) := fs 5
      have Hhbox := Lib.hid hbox; clear hbox; have Hhfs := Lib.hid hfs; clear hfs; have Hfs := Lib.hid fs; clear fs; have Hhc := Lib.hid hc; clear hc; have Hhgk := Lib.hid hgk; clear hgk; have Hhsl := Lib.hid hsl; clear hsl
      go_wp2_with fail
      refine Hhc.out.mono ?_
      rintro e w1 ⟨⟨v', rfl, L, o1, o2, o3, o4⟩, hb2⟩
      have oG : L = [] ↔ GoodTo (n : Int) T 6 := o2.trans Hhgk.out
      clear o2
      have o5 : ∀ x ∈ L, 1 ≤ x.1 := fun x hx => by rw [o3 x hx]; omega
      clear o3
      have hbox1 := Hhbox.out.below hb2 hz2'
      have hfs1 := Hhfs.out.below hb2 hz2
      have hbel1 := below_call hbel hb2 hz
      have hz1 := hbel1.size
      rcases L with _ | ⟨x0, L⟩
      · obtain ⟨A5, cap5, rfl, hcap5⟩ := own_form o1
        simp only [List.length_nil] at *
        have Ho1 := Lib.hid o1; clear o1; have Ho5 := Lib.hid o5; clear o5; have HoG := Lib.hid oG; clear oG; have Hhbox1 := Lib.hid hbox1; clear hbox1; have Hhfs1 := Lib.hid hfs1; clear hfs1
        go_wp2
        exact ⟨⟨6, by omega, by simp, Hhbox1.out, Hhfs1.out, hbel1, fun _ => HoG.out.1 trivial⟩, by simp [intOf]⟩
      · obtain ⟨g5, cap5, rfl, hg5, hg6⟩ := own_some o1 (by simp)
        have hso := sortwit_calls (x0 :: L) g5 cap5 w.heap.size w1 (own_base o1 hz) o4
        have oN : ¬ GoodTo (n : Int) T 6 := fun h9 => by have := oG.2 h9; cases this
        simp only [List.length_cons] at *
        have Ho1 := Lib.hid o1; clear o1; have Ho5 := Lib.hid o5; clear o5; have HoG := Lib.hid oG; clear oG; have HoN := Lib.hid oN; clear oN; have Hhso := Lib.hid hso; clear hso; have Hhbox1 := Lib.hid hbox1; clear hbox1; have Hhfs1 := Lib.hid hfs1; clear hfs1
        go_wp2_with fail
        refine Hhso.out.mono ?_
        rintro e w2 ⟨rfl, ⟨L', hperm, hlen, ho⟩, hgr⟩
        have hbel2 := hbel1.grown hgr (by omega) (fun q hq => by injection hq with hq; omega)
        have Hho := Lib.hid ho; clear ho; have Hhperm := Lib.hid hperm; clear hperm
        go_wp2
        go_ret
        refine ⟨⟨_, L', rfl, by rw [hlen]; exact Hho.out, ⟨fun h9 => ?_, fun h9 => absurd (cert_to h9 (by omega)) HoN.out⟩, fun x hx => Ho5.out x (Hhperm.out.mem_iff.1 hx), by rw [hlen]; exact o4⟩, hbel2⟩
        rw [h9] at hlen
        simp at hlen
    · have Hhbox := Lib.hid hbox; clear hbox; have Hhfs := Lib.hid hfs; clear hfs; have Hfs := Lib.hid fs; clear fs; have Hhsl := Lib.hid hsl; clear hsl; have Hhgood := Lib.hid hgood; clear hgood
      go_wp2
      go_ret
      exact ⟨⟨_, [], rfl, World.ownsRow_nil _ _ _ _, ⟨fun _ => Hhgood.out (by omega), fun _ => rfl⟩, by simp, by simp⟩, hbel⟩

set_option maxRecDepth 20000 in
set_option maxHeartbeats 2000000 in
theorem check_calls (v : Value) (N : Int) (T : List T3) (w : World) {B : Nat} (hB0 : B ≤ w.heap.size) (h : Sl 3 RTri w B v T) (hN : I64 N) :
    Calls Tryz.prog 75 #[.agg #[.int .i64 N, v]] w fun e w' => (∃ k a b : Int, e = .returned (.agg #[.int .i64 k, .int .i64 a, .int .i64 b]) ∧ 0 ≤ k ∧ (k = 0 ↔ Cert N T) ∧ (k = 0 → a = 0 ∧ b = 0)) ∧ RowKit.Below w.heap.size w w' := by
  obtain ⟨A, cap, rfl, hcap⟩ := h.form
  have hres := Bk.new' (n := w.heap.size + 1) (w := w.alloc (.cells #[.int .i64 N, .slice A T.length cap] 24)) 48 [.int .i64 0, .int .i64 0, .int .i64 0] (by simp)
  have hb1 := ((RowKit.Below.refl w.heap.size w).alloc (Nat.le_refl _) (.cells #[.int .i64 N, .slice A T.length cap] 24)).alloc (by simp) (.cells #[.int .i64 0, .int .i64 0, .int .i64 0] 48)
  have hc := all_calls _ N T ((w.alloc (.cells #[.int .i64 N, .slice A T.length cap] 24)).alloc (.cells #[.int .i64 0, .int .i64 0, .int .i64 0] 48)) (B := B) (by simp; omega) (h.below keeps_tri (hb1.mono hB0)) hN
  have Hh := Lib.hid h; clear h; have Hhres := Lib.hid hres; clear hres; have Hhc := Lib.hid hc; clear hc
  go_enter Tryz.func75, Tryz.ntmps75
  go_wp2_with fail
  refine Hhc.out.mono ?_
  rintro e w1 ⟨⟨v', L, rfl, o1, o2, o3, o4⟩, hb2⟩
  have hz1 := hb2.size
  simp only [World.size_alloc] at hz1
  have hres1 := Hhres.out.below hb2 (by simp)
  have hbel := below_call hb1 hb2 hb1.size
  rcases L with _ | ⟨⟨x1, x2, x3⟩, L⟩
  · obtain ⟨A5, cap5, rfl, hcap5⟩ := own_form o1
    simp only [List.length_nil] at *
    have f1 := hres1.frozen
    have r0 : w1.cell? ⟨w.heap.size + 1, 0, none⟩ = some (.int .i64 0) := hres1.cell 0
    have r1 : w1.cell? ⟨w.heap.size + 1, 1, none⟩ = some (.int .i64 0) := hres1.cell 1
    have r2 : w1.cell? ⟨w.heap.size + 1, 2, none⟩ = some (.int .i64 0) := hres1.cell 2
    have Ho1 := Lib.hid o1; clear o1; have Ho2 := Lib.hid o2; clear o2; have Hhres1 := Lib.hid hres1; clear hres1
    go_wp2
    refine ret_cell rfl rfl (((Hhres1.out.set 0 _).set 1 _).set 2 _) Tryz.underlying48 rfl (by kernel_rfl) rfl ⟨⟨0, 0, 0, rfl, by omega, ?_, by simp⟩, ((hbel.setCell (by simp) _).setCell (by simp) _).setCell (by simp) _⟩
    exact ⟨fun _ => Ho2.out.1 trivial, fun _ => rfl⟩
  · have hk := o3 (x1, x2, x3) (by simp)
    obtain ⟨g5, cap5, rfl, hg5, hg6⟩ := own_some o1 (by simp)
    have d0 := o1.cellAt 0 (by simp)
    have d1 := o1.cellAt 1 (by simp; omega)
    have d2 := o1.cellAt 2 (by simp; omega)
    have oN : ¬ Cert N T := fun h9 => by have := o2.2 h9; cases this
    simp only [List.length_cons] at *
    have e0 : w1.cell? ⟨g5, 0, none⟩ = some (.int .i64 x1) := d0
    have e1 : w1.cell? ⟨g5, 1, none⟩ = some (.int .i64 x2) := d1
    have e2 : w1.cell? ⟨g5, 2, none⟩ = some (.int .i64 x3) := d2
    clear d0 d1 d2
    have f1 := hres1.frozen
    have r0 : w1.cell? ⟨w.heap.size + 1, 0, none⟩ = some (.int .i64 0) := hres1.cell 0
    have r1 : w1.cell? ⟨w.heap.size + 1, 1, none⟩ = some (.int .i64 0) := hres1.cell 1
    have r2 : w1.cell? ⟨w.heap.size + 1, 2, none⟩ = some (.int .i64 0) := hres1.cell 2
    have Ho1 := Lib.hid o1; clear o1; have Ho2 := Lib.hid o2; clear o2; have Ho3 := Lib.hid o3; clear o3; have HoN := Lib.hid oN; clear oN; have Hhres1 := Lib.hid hres1; clear hres1
    go_wp2
    refine ret_cell rfl rfl (((Hhres1.out.set 0 _).set 1 _).set 2 _) Tryz.underlying48 rfl (by kernel_rfl) rfl ⟨⟨x1, x2, x3, rfl, by omega, ?_, fun h9 => by omega⟩, ((hbel.setCell (by simp) _).setCell (by simp) _).setCell (by simp) _⟩
    exact ⟨fun h9 => by omega, fun h9 => absurd h9 HoN.out⟩
end Go.Proofs.YtpbdcppaiafbgaaGreat
