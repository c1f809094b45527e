/- Walks: witnesses sorted. -/
import Derived.Test.YtckkpmjkajkkmaaCB
namespace Go.Words
open Go Go.RowKit Go.Sort
theorem own_sorted {w : World} {base g n cap size m : Nat} {e : TypeId} {xs : List Value} {os : Array Obj} (F : Array Value) (h : w.ownsRow base e size (.slice (some ⟨g, 0, none⟩) n cap) n xs) (hF : F.size = n * size) :
    (grow (putRow id (Sort.ahead w m) g 0 F) os).ownsRow base e size (.slice (some ⟨g, 0, none⟩) n cap) n F.toList := by
  rcases h.2 with ⟨h0, _⟩ | ⟨g', cap', cur, hv, hb, hg, hn, hc, hcs, _⟩
  · cases h0
  injection hv with hv _ hc'
  injection hv with hv
  injection hv with hg'
  subst hg'; subst hc'
  refine ⟨by simpa using hF, .inr ⟨g, cap, _, rfl, hb, heap_sorted id F hg, hn, hc, by simp [putCells, hcs], ?_⟩⟩
  apply List.ext_getElem?
  intro j
  have hle : n * size ≤ cap * size := Nat.mul_le_mul_right _ hn
  by_cases hj : j < n * size
  · rw [List.getElem?_take_of_lt hj, Array.getElem?_toList]
    simp [putCells, hF, hj, show j < cur.size by omega]
  · rw [List.getElem?_take_eq_none (by omega), List.getElem?_eq_none (by simp; omega)]
end Go.Words
namespace Go.Mesh
theorem cmpI_neg (x y : Int) : cmpI x y < 0 ↔ x < y := by
  unfold cmpI
  by_cases h1 : x < y
  · simp [h1]
  · by_cases h2 : y < x <;> simp [h1, h2]
theorem cmpI_zero (x y : Int) : cmpI x y = 0 ↔ x = y := by
  unfold cmpI
  by_cases h1 : x < y
  · rw [if_pos h1]; omega
  · rw [if_neg h1]
    by_cases h2 : y < x
    · rw [if_pos h2]; omega
    · rw [if_neg h2]; omega
theorem cmpW_neg (x y : T3) : cmpW x y < 0 ↔ x.2.2 < y.2.2 ∨ (x.2.2 = y.2.2 ∧ x.2.1 < y.2.1) := by
  have h1 := cmpI_neg x.2.2 y.2.2
  have h2 := cmpI_neg x.2.1 y.2.1
  have h3 := cmpI_zero x.2.2 y.2.2
  unfold cmpW
  split <;> omega
end Go.Mesh
namespace Go.Proofs.Ytckkpmjkajkkmaa
open Go Go.RowKit Go.Words Go.Mesh Go.Shelf Go.Sort Go.Lib

def encW (x : T3) : List Value := [.int .i64 x.1, .int .i64 x.2.1, .int .i64 x.2.2]
theorem ltW (x y : T3) : ltOf cmpW x y = decide (x.2.2 < y.2.2 ∨ (x.2.2 = y.2.2 ∧ x.2.1 < y.2.1)) := by
  unfold ltOf
  rw [Bool.eq_iff_iff, decide_eq_true_eq, decide_eq_true_eq]
  exact cmpW_neg x y
theorem swoW : SWO (ltOf cmpW) where
  irrefl x := by rw [ltW]; simp
  trans x y z h1 h2 := by rw [ltW] at *; simp at *; omega
  ntrans x y z h1 h2 := by rw [ltW] at *; simp at *; omega
theorem flatK_flat3 (L : List T3) : flatK encW 3 L.toArray = (flat3 L).toArray := by
  apply Array.ext
  · simp [flat3_len]
  · intro j h1 h2
    have hj : j < L.length * 3 := by simpa using h1
    have hq : j / 3 < L.length := by omega
    rw [show (flatK encW 3 L.toArray)[j] = (flatK encW 3 L.toArray)[j]! from (getElem!_pos (flatK encW 3 L.toArray) j h1).symm, get_flatK _ _ _ _ (by simpa using hj)]
    have hd : L.toArray[j / 3]! = L[j / 3] := by simp [getElem!_pos, hq]
    rw [hd]
    have h3 := flat3_at L (j / 3) L[j / 3] (List.getElem?_eq_getElem hq)
    have h4 := congrArg (fun l : List Value => l[j % 3]?) h3
    rw [List.getElem?_take, if_pos (by omega), List.getElem?_drop, show j / 3 * 3 + j % 3 = j from by omega] at h4
    have h5 : (flat3 L)[j]? = some ((flat3 L).toArray[j]) := by
      rw [List.getElem?_eq_getElem (by rw [flat3_len]; exact hj)]; simp
    rw [h5] at h4
    have h6 : (encW L[j / 3])[j % 3]? = some ((flat3 L).toArray[j]) := h4.symm
    have hlt : j % 3 < (encW L[j / 3]).length := by unfold encW; simp; omega
    rw [List.getElem?_eq_getElem hlt] at h6
    injection h6 with h6
    rw [getElem!_pos (encW L[j / 3]) (j % 3) hlt, h6]

set_option maxHeartbeats 1000000 in
theorem sortwit_calls (L : List T3) (g cap base : Nat) (w : World) (h : w.ownsRow base 61 3 (.slice (some ⟨g, 0, none⟩) L.length cap) L.length (flat3 L)) (hl : L.length ≤ 603979776) :
    Calls Try.prog 98 #[.slice (some ⟨g, 0, none⟩) L.length cap, .func (.func 99) #[] #[]] w fun e w' =>
      e = .returned (.tuple #[]) ∧ (∃ L' : List T3, L'.Perm L ∧ L'.length = L.length ∧ w'.ownsRow base 61 3 (.slice (some ⟨g, 0, none⟩) L.length cap) L.length (flat3 L')) ∧ w.grownBy w' (some g) := by
  have eg : ∀ args w, (callFunc 99 args).run Try.prog w = .ok (.enter 99 args) w := enters_of Try.func99 (by kernel_rfl) rfl
  have hlay : CmpLays Try.prog 99 #[] encW 3 cmpW g 0 L.toArray.size w := fun m os dk _ x y => order_calls x y _
  have hH : HoldsK encW 3 w g 0 L.toArray := by
    unfold HoldsK
    rw [flatK_flat3]
    intro j hj
    have hj : j < L.length * 3 := by simpa [flat3_len] using hj
    rw [Nat.zero_add]
    refine ⟨?_, h.frozenAt j⟩
    rw [h.cellAt j hj, List.getElem?_eq_getElem (by rw [flat3_len]; exact hj)]
    simp [getElem!_pos, flat3_len, hj]
  have hcon := AnyQ.slices_SortFunc Try.sortWit 3 Try.isAgg61 Try.sizeOf61 encW (fun _ => rfl) (fun x v hv => by simp [encW] at hv; rcases hv with rfl | rfl | rfl <;> rfl) cmpW swoW 99 #[] g 0 cap L.toArray w eg hlay hH (h.lt g rfl).2 (by simp; omega)
  change Calls Try.prog 98 _ _ _ at hcon
  refine hcon.mono ?_
  rintro e w' ⟨rfl, d', n, os, hp, _, rfl⟩
  have hsz : d'.size = L.length := by have := hp.1; simpa using this
  have hperm : d'.toList.Perm L := by
    have := hp.2.2
    have e1 : d'.extract 0 L.toArray.size = d' := by rw [show L.toArray.size = d'.size from by simp [hsz]]; simp
    have e2 : L.toArray.extract 0 L.toArray.size = L.toArray := by simp
    rw [e1, e2] at this
    simpa using this
  refine ⟨rfl, ⟨d'.toList, hperm, by simpa using hsz, ?_⟩, grown_sorted id _⟩
  have hf : flatK encW 3 d' = (flat3 d'.toList).toArray := by rw [← flatK_flat3]
  have := own_sorted (m := n) (os := os) (flatK encW 3 d') h (by simp [hsz])
  rw [hf] at this
  unfold sortWorldK putRowK
  rw [hf]
  simpa using this
end Go.Proofs.Ytckkpmjkajkkmaa
