/- Rows of corners that are one's own; lists that are written over. -/
import Derived.Test.YtpbdcppaiafbgaaGreatRT
import Derived.Test.YtpbdcppaiafbgaaGreatRV
import Derived.Test.YtpbdcppaiafbgaaGreatVB
import Derived.Test.YtpbdcppaiafbgaaGreatIE
import Derived.Test.YtpbdcppaiafbgaaGreatApp
namespace Go.Mesh
def mixL (f g : Nat → Int) (i n : Nat) : List Int := (List.range n).map fun a => if a < i then g a else f a
theorem mixL_len (f g : Nat → Int) (i n : Nat) : (mixL f g i n).length = n := by unfold mixL; simp
theorem mixL_at (f g : Nat → Int) (i : Nat) {n a : Nat} (h : a < n) : (mixL f g i n)[a]? = some (if a < i then g a else f a) := by
  unfold mixL
  rw [List.getElem?_map, List.getElem?_range h]; rfl
theorem mixL_set (f g : Nat → Int) {i n : Nat} (h : i < n) : (mixL f g i n).set i (g i) = mixL f g (i + 1) n := by
  apply List.ext_getElem?
  intro j
  rw [List.getElem?_set]
  by_cases hj : j < n
  · rw [mixL_at _ _ _ hj, mixL_at _ _ _ hj]
    by_cases e : i = j
    · subst e
      rw [if_pos rfl, mixL_len, if_pos h, if_pos (by omega)]
    · rw [if_neg e]
      by_cases h1 : j < i
      · rw [if_pos h1, if_pos (by omega)]
      · rw [if_neg h1, if_neg (by omega)]
  · rw [List.getElem?_eq_none (by rw [mixL_len]; omega), List.getElem?_eq_none (by rw [mixL_len]; omega)]
    split
    · rw [mixL_len]; rename_i e; subst e; rw [if_neg hj]
    · rfl
theorem mixL_skip (f g : Nat → Int) {i n : Nat} (h : g i = f i) : mixL f g i n = mixL f g (i + 1) n := by
  unfold mixL
  refine List.map_congr_left fun a _ => ?_
  by_cases h1 : a < i
  · rw [if_pos h1, if_pos (by omega)]
  · by_cases h2 : a = i
    · subst h2; rw [if_neg h1, if_pos (by omega), h]
    · rw [if_neg h1, if_neg (by omega)]
theorem mixL_zero (f g : Nat → Int) (n : Nat) : mixL f g 0 n = (List.range n).map f := by
  unfold mixL
  exact List.map_congr_left fun a _ => by rw [if_neg (by omega)]
theorem mixL_full (f g : Nat → Int) (n : Nat) : mixL f g n n = (List.range n).map g := by
  unfold mixL
  exact List.map_congr_left fun a h => by rw [if_pos (List.mem_range.1 h)]
theorem mixL_first {g : Nat → Int} (h : g 0 = 0) (n : Nat) : mixL (fun _ => 0) g 1 n = List.replicate n 0 := by
  rw [show mixL (fun _ => 0) g 1 n = mixL (fun _ => 0) g 0 n from (mixL_skip (fun _ => 0) g (i := 0) (n := n) h).symm, mixL_zero]
  exact List.ext_getElem? fun j => by
    rw [List.getElem?_map, List.getElem?_replicate]
    by_cases hj : j < n
    · rw [List.getElem?_range hj, if_pos hj]; rfl
    · rw [if_neg hj, List.getElem?_eq_none (by simp; omega)]; rfl
section
variable {N : Int} {T : List T3} {C : List (Int × Int)} {v : Int} {l : List Nat} {inner : Bool}
noncomputable def rowsD (T : List T3) (C : List (Int × Int)) (v : Int) (l : List Nat) (c i : Nat) : List (List Nat) := if c ∈ l.take i then secL T C v (c + 1) else secL T C v c
theorem rowsD_zero (c : Nat) : rowsD T C v l c 0 = secL T C v c := by unfold rowsD; rw [List.take_zero, if_neg List.not_mem_nil]
theorem rowsD_ne {c i : Nat} (hi : i < l.length) (h : l[i] ≠ c) : rowsD T C v l c (i + 1) = rowsD T C v l c i := by
  unfold rowsD
  rw [List.take_succ_eq_append_getElem hi]
  by_cases h1 : c ∈ l.take i
  · rw [if_pos h1, if_pos (List.mem_append_left _ h1)]
  · rw [if_neg h1, if_neg (fun h9 => (List.mem_append.1 h9).elim h1 fun h8 => h (List.mem_singleton.1 h8).symm)]
theorem rowsD_eq {i : Nat} (hn : l.Nodup) (hi : i < l.length) : rowsD T C v l l[i] i = secL T C v l[i] ∧ rowsD T C v l l[i] (i + 1) = secL T C v (l[i] + 1) := by
  unfold rowsD
  rw [List.take_succ_eq_append_getElem hi]
  refine ⟨if_neg fun h => ?_, if_pos (List.mem_append_right _ (List.mem_singleton.2 rfl))⟩
  obtain ⟨j, hj, e⟩ := List.getElem_of_mem h
  rw [List.length_take] at hj
  rw [List.getElem_take] at e
  have := (List.getElem_inj hn).1 e
  omega
theorem rowsD_end (r : Ring T v l inner) {c : Nat} (hc : c < 3 * T.length) : rowsD T C v l c l.length = secL T C v (c + 1) := by
  unfold rowsD
  rw [List.take_length]
  by_cases h : c ∈ l
  · rw [if_pos h]
  · rw [if_neg h, secL_skip fun h9 => h ((r.mem c).2 ⟨hc, h9⟩)]
theorem hdsC_len (c : Nat) : (hdsC T C v c).length ≤ c := by
  unfold hdsC
  have := List.length_filter_le (fun h => @decide (vt T h = v ∧ Head T C h) (Classical.propDecidable _)) (List.range c)
  rwa [List.length_range] at this
theorem secL_row_len (c : Nat) : ∀ row ∈ secL T C v c, row.length ≤ c := fun row h => by
  unfold secL at h
  obtain ⟨x, _, rfl⟩ := List.mem_map.1 h
  unfold rowC
  have := List.length_filter_le (fun d => @decide (vt T d = v ∧ Sect T C x d) (Classical.propDecidable _)) (List.range c)
  rwa [List.length_range] at this
end
end Go.Mesh
namespace Go.Proofs.YtpbdcppaiafbgaaGreat
open Go Go.RowKit Go.Words Go.Mesh
def ORows (w : World) (base : Nat) (r : Value) (Ls : List (List Nat)) : Prop := ∃ vs : List Value, vs.length = Ls.length ∧ w.ownsRow base 28 1 r Ls.length vs ∧ ∀ (i : Nat) (v : Value) (L : List Nat), vs[i]? = some v → Ls[i]? = some L → w.ownsRow base 3 1 v L.length (nvals L)
theorem ORows.below {w w' : World} {base : Nat} {r : Value} {Ls : List (List Nat)} (h : ORows w base r Ls) (hb : Below w.heap.size w w') : ORows w' base r Ls := by
  obtain ⟨vs, h1, h2, h3⟩ := h
  exact ⟨vs, h1, own_below h2 hb (Nat.le_refl _), fun i v L e1 e2 => own_below (h3 i v L e1 e2) hb (Nat.le_refl _)⟩
theorem ORows.nil (w : World) (base : Nat) : ORows w base (.slice none 0 0) [] := ⟨[], rfl, World.ownsRow_nil _ _ _ _, fun i v L h => by simp at h⟩
theorem ORows.form {w : World} {base : Nat} {r : Value} {Ls : List (List Nat)} (h : ORows w base r Ls) : ∃ A cap, r = .slice A Ls.length cap ∧ Ls.length ≤ cap := by
  obtain ⟨vs, _, h2, _⟩ := h
  obtain ⟨A, cap, h3, h4⟩ := own_form h2
  exact ⟨A, cap, h3, h4⟩
theorem ORows.at_ {w : World} {base : Nat} {A : Option Addr} {n cap : Nat} {Ls : List (List Nat)} (h : ORows w base (.slice A n cap) Ls) (hn : Ls.length = n) {i : Nat} (hi : i < Ls.length) :
    ∃ g v, A = some ⟨g, 0, none⟩ ∧ w.cell? ⟨g, i, none⟩ = some v ∧ w.frozen? ⟨g, i, none⟩ = false ∧ base ≤ g ∧ g < w.heap.size ∧ w.ownsRow base 3 1 v Ls[i].length (nvals Ls[i]) := by
  obtain ⟨vs, h1, h2, h3⟩ := h
  subst hn
  obtain ⟨g, cap', he, hg, hgz⟩ := own_some h2 (by omega)
  injection he with he1 _ he2
  subst he1; subst he2
  have hv : vs[i]? = some (vs[i]'(by omega)) := List.getElem?_eq_getElem (by omega)
  exact ⟨g, _, rfl, (h2.cellAt i (by omega)).trans hv, h2.frozenAt i, hg, hgz, h3 i _ _ hv (List.getElem?_eq_getElem hi)⟩
theorem ORows.put {w : World} {base g cap k : Nat} {Ls : List (List Nat)} {u : Value} {L : List Nat} (h : ORows w base (.slice (some ⟨g, 0, none⟩) Ls.length cap) Ls) (hk : k < Ls.length) (hu : w.ownsRow base 3 1 u L.length (nvals L)) :
    ORows (w.setCell ⟨g, k, none⟩ u) base (.slice (some ⟨g, 0, none⟩) (Ls.set k L).length cap) (Ls.set k L) := by
  obtain ⟨vs, h1, h2, h3⟩ := h
  have hset := grow_cell w g k u
  have hkeep : ∀ (x : Value) (L' : List Nat), w.ownsRow base 3 1 x L'.length (nvals L') → (w.setCell ⟨g, k, none⟩ u).ownsRow base 3 1 x L'.length (nvals L') := fun x L' h9 => h9.kept hset (own_apart h2 h9 (by decide))
  refine ⟨vs.set k u, by rw [List.length_set, List.length_set]; exact h1, by rw [List.length_set]; exact own_put h2 k u, fun i v L' e1 e2 => ?_⟩
  rw [List.getElem?_set] at e1 e2
  by_cases hik : k = i
  · subst hik
    rw [if_pos rfl, if_pos (by omega)] at e1
    rw [if_pos rfl, if_pos hk] at e2
    injection e1 with e1
    injection e2 with e2
    subst e1; subst e2
    exact hkeep _ _ hu
  · rw [if_neg hik] at e1 e2
    exact hkeep _ _ (h3 i v L' e1 e2)
theorem nvals_cell {w : World} {base g n cap : Nat} {l : List Nat} (h : w.ownsRow base 3 1 (.slice (some ⟨g, 0, none⟩) n cap) n (nvals l)) {i : Nat} (hi : i < l.length) (hl : l.length = n) : w.cell? ⟨g, i, none⟩ = some (.int .i64 (l[i] : Int)) := by
  rw [h.cellAt i (by omega)]
  unfold nvals
  simp [hi]
end Go.Proofs.YtpbdcppaiafbgaaGreat
