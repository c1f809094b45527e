/- Plain: the sectors of a vertex, gathered corner by corner; no program in sight. -/
import Derived.Test.YtpbdcppaiafbgaaGreatHP
namespace Go.Mesh
section
variable {N : Int} {T : List T3} {C : List (Int × Int)} {v : Int} {l : List Nat} {inner : Bool}
noncomputable def hdsC (T : List T3) (C : List (Int × Int)) (v : Int) (c : Nat) : List Nat := (List.range c).filter fun h => @decide (vt T h = v ∧ Head T C h) (Classical.propDecidable _)
noncomputable def rowC (T : List T3) (C : List (Int × Int)) (v : Int) (c h : Nat) : List Nat := (List.range c).filter fun d => @decide (vt T d = v ∧ Sect T C h d) (Classical.propDecidable _)
noncomputable def secL (T : List T3) (C : List (Int × Int)) (v : Int) (c : Nat) : List (List Nat) := (hdsC T C v c).map (rowC T C v c)
theorem mem_hdsC {c h : Nat} : h ∈ hdsC T C v c ↔ h < c ∧ vt T h = v ∧ Head T C h := by
  unfold hdsC
  rw [List.mem_filter, List.mem_range]
  exact and_congr_right fun _ => @decide_eq_true_iff _ (Classical.propDecidable _)
theorem mem_rowC {c h d : Nat} : d ∈ rowC T C v c h ↔ d < c ∧ vt T d = v ∧ Sect T C h d := by
  unfold rowC
  rw [List.mem_filter, List.mem_range]
  exact and_congr_right fun _ => @decide_eq_true_iff _ (Classical.propDecidable _)
theorem filter_succ (p : Nat → Bool) (c : Nat) : (List.range (c + 1)).filter p = (List.range c).filter p ++ if p c = true then [c] else [] := by
  rw [List.range_succ, List.filter_append, List.filter_cons, List.filter_nil]
theorem hdsC_succ (c : Nat) : hdsC T C v (c + 1) = hdsC T C v c ++ if @decide (vt T c = v ∧ Head T C c) (Classical.propDecidable _) = true then [c] else [] := filter_succ _ _
theorem rowC_succ (c h : Nat) : rowC T C v (c + 1) h = rowC T C v c h ++ if @decide (vt T c = v ∧ Sect T C h c) (Classical.propDecidable _) = true then [c] else [] := filter_succ _ _
theorem hdsC_no {c : Nat} (h : ¬ (vt T c = v ∧ Head T C c)) : hdsC T C v (c + 1) = hdsC T C v c := by
  rw [hdsC_succ, if_neg (fun h9 => h ((@decide_eq_true_iff _ (Classical.propDecidable _)).1 h9)), List.append_nil]
theorem hdsC_yes {c : Nat} (h : vt T c = v ∧ Head T C c) : hdsC T C v (c + 1) = hdsC T C v c ++ [c] := by
  rw [hdsC_succ, if_pos ((@decide_eq_true_iff _ (Classical.propDecidable _)).2 h)]
theorem rowC_no {c h : Nat} (h9 : ¬ (vt T c = v ∧ Sect T C h c)) : rowC T C v (c + 1) h = rowC T C v c h := by
  rw [rowC_succ, if_neg (fun h8 => h9 ((@decide_eq_true_iff _ (Classical.propDecidable _)).1 h8)), List.append_nil]
theorem rowC_yes {c h : Nat} (h9 : vt T c = v ∧ Sect T C h c) : rowC T C v (c + 1) h = rowC T C v c h ++ [c] := by
  rw [rowC_succ, if_pos ((@decide_eq_true_iff _ (Classical.propDecidable _)).2 h9)]
theorem secL_zero : secL T C v 0 = [] := rfl
theorem secL_skip {c : Nat} (h : vt T c ≠ v) : secL T C v (c + 1) = secL T C v c := by
  unfold secL
  rw [hdsC_no (fun h9 => h h9.1)]
  exact List.map_congr_left fun x _ => rowC_no fun h9 => h h9.1
theorem secL_new {c : Nat} (h : vt T c = v) (hh : Head T C c) : secL T C v (c + 1) = secL T C v c ++ [[c]] := by
  unfold secL
  rw [hdsC_yes ⟨h, hh⟩, List.map_append]
  congr 1
  · exact List.map_congr_left fun x hx => rowC_no fun h9 => hh x (mem_hdsC.1 hx).1 h9.2
  · rw [List.map_cons, List.map_nil, rowC_yes ⟨h, Sect.refl c⟩]
    have : rowC T C v c c = [] := List.eq_nil_iff_forall_not_mem.2 fun d hd => by
      obtain ⟨h1, _, h3⟩ := mem_rowC.1 hd
      exact hh d h1 h3.symm
    rw [this]; rfl
theorem hds_one {c j k : Nat} {d : Nat} (hj : j < (hdsC T C v c).length) (hk : k < (hdsC T C v c).length) (h1 : Sect T C (hdsC T C v c)[j] d) (h2 : Sect T C (hdsC T C v c)[k] d) : j = k := by
  have hn : (hdsC T C v c).Nodup := List.nodup_range.filter _
  have mj := mem_hdsC.1 (List.getElem_mem hj)
  have mk := mem_hdsC.1 (List.getElem_mem hk)
  have hs := h1.trans h2.symm
  refine (List.getElem_inj hn).1 (?_ : (hdsC T C v c)[j] = (hdsC T C v c)[k])
  rcases Nat.lt_trichotomy (hdsC T C v c)[j] (hdsC T C v c)[k] with h | h | h
  · exact absurd hs (mk.2.2 _ h)
  · exact h
  · exact absurd hs.symm (mj.2.2 _ h)
theorem secL_len (c : Nat) : (secL T C v c).length = (hdsC T C v c).length := by unfold secL; rw [List.length_map]
theorem secL_more {c k : Nat} (h : vt T c = v) (hk : k < (hdsC T C v c).length) (hs : Sect T C (hdsC T C v c)[k] c) : secL T C v (c + 1) = (secL T C v c).set k ((secL T C v c)[k]'(by rw [secL_len]; exact hk) ++ [c]) := by
  have mk := mem_hdsC.1 (List.getElem_mem hk)
  refine List.ext_getElem (by rw [List.length_set, secL_len, secL_len, hdsC_no fun h9 => h9.2 _ mk.1 hs]) fun j h1 h2 => ?_
  rw [List.length_set, secL_len] at h2
  rw [List.getElem_set]
  unfold secL
  simp only [List.getElem_map, hdsC_no (T := T) (C := C) (v := v) (c := c) fun h9 => h9.2 _ mk.1 hs]
  by_cases hj : k = j
  · subst hj
    rw [if_pos rfl, rowC_yes ⟨h, hs⟩]
  · rw [if_neg hj, rowC_no fun h9 => hj (hds_one hk h2 hs h9.2)]
theorem hds_some {c : Nat} (h : vt T c = v) (hh : ¬ Head T C c) (hs : Surf N T) : ∃ k, ∃ hk : k < (hdsC T C v c).length, Sect T C (hdsC T C v c)[k] c := by
  obtain ⟨d, hd, h1, h2⟩ := head_of T C c
  have hne : d ≠ c := fun e => hh (e ▸ h2)
  have hm : d ∈ hdsC T C v c := mem_hdsC.2 ⟨by omega, by rw [← h]; exact (h1.vt hs).symm, h2⟩
  obtain ⟨k, hk, e⟩ := List.getElem_of_mem hm
  exact ⟨k, hk, e ▸ h1⟩
theorem secL_end (hs : Surf N T) : Secs T C (hdV T C v) (secL T C v (3 * T.length)) := by
  refine ⟨secL_len _, fun k row h h1 h2 c => ?_⟩
  have h2 : (hdsC T C v (3 * T.length))[k]? = some h := h2
  unfold secL at h1
  rw [List.getElem?_map, h2] at h1
  have h1 := Option.some.inj h1
  subst h1
  have hv := (mem_hdsC.1 (List.mem_of_getElem? h2)).2.1
  rw [mem_rowC]
  exact and_congr_right fun _ => ⟨fun h => h.2, fun h9 => ⟨(h9.vt hs).trans hv, h9⟩⟩
theorem secL_first {c j : Nat} (hj : j < (hdsC T C v c).length) : ((secL T C v c)[j]'(by rw [secL_len]; exact hj))[0]? = some (hdsC T C v c)[j] := by
  unfold secL
  rw [List.getElem_map, ← List.head?_eq_getElem?]
  obtain ⟨h1, h2, h3⟩ := mem_hdsC.1 (List.getElem_mem hj)
  generalize (hdsC T C v c)[j] = h at *
  unfold rowC
  rw [List.head?_filter, List.find?_range_eq_some]
  refine ⟨(@decide_eq_true_iff _ (Classical.propDecidable _)).2 ⟨h2, Sect.refl h⟩, List.mem_range.2 h1, fun d hd => ?_⟩
  have : ¬ (vt T d = v ∧ Sect T C h d) := fun h9 => h3 d hd h9.2.symm
  simp only [Bool.not_eq_eq_eq_not, Bool.not_true]
  exact @decide_eq_false _ (Classical.propDecidable _) this
def whr (q : Nat → Bool) : Nat → Int
  | 0 => -1
  | j + 1 => if q j = true then (j : Int) else whr q j
theorem whr_none {q : Nat → Bool} : ∀ {n : Nat}, (∀ j, j < n → q j = false) → whr q n = -1
  | 0, _ => rfl
  | n + 1, h => by
    unfold whr
    rw [h n (by omega), if_neg (by decide)]
    exact whr_none fun j hj => h j (by omega)
theorem whr_one {q : Nat → Bool} {k : Nat} : ∀ {n : Nat}, k < n → q k = true → (∀ j, j < n → q j = true → j = k) → whr q n = k
  | 0, h, _, _ => absurd h (by omega)
  | n + 1, h, h1, h2 => by
    unfold whr
    by_cases hq : q n = true
    · rw [if_pos hq, h2 n (by omega) hq]
    · rw [if_neg hq]
      by_cases hk : k = n
      · subst hk; exact absurd h1 hq
      · exact whr_one (by omega) h1 fun j hj => h2 j (by omega)
theorem whr_range (q : Nat → Bool) : ∀ n : Nat, -1 ≤ whr q n ∧ whr q n < n
  | 0 => by unfold whr; omega
  | n + 1 => by
    have := whr_range q n
    unfold whr
    split <;> omega
def wmL (p : Nat → Bool) (x0 j : Int) (m : Nat) : Int := if (List.range m).any p = true then j else x0
theorem wmL_yes {p : Nat → Bool} {x0 j : Int} {m : Nat} (h : p m = true) : wmL p x0 j (m + 1) = j := by
  unfold wmL
  rw [List.range_succ, List.any_append, if_pos (by simp [h])]
theorem wmL_no {p : Nat → Bool} {x0 j : Int} {m : Nat} (h : p m = false) : wmL p x0 j (m + 1) = wmL p x0 j m := by
  unfold wmL
  rw [List.range_succ, List.any_append]
  simp [h]
def samP (T : List T3) (C : List (Int × Int)) (l : List Nat) (inner : Bool) (h i m : Nat) : Bool := decide (l.getD m 0 = h) && decide (mlab T C l inner m = mlab T C l inner i)
theorem Ring.samP (r : Ring T v l inner) {h i : Nat} (hi : i < l.length) (hh : h < 3 * T.length ∧ vt T h = v) : (List.range l.length).any (samP T C l inner h i) = true ↔ Sect T C h l[i] := by
  rw [List.any_eq_true]
  unfold Go.Mesh.samP
  simp only [List.mem_range, Bool.and_eq_true, decide_eq_true_eq]
  constructor
  · rintro ⟨m, hm, rfl, h2⟩
    rw [getD_at hm]
    exact (r.sect hm hi).2 h2
  · intro h1
    obtain ⟨m, hm, rfl⟩ := List.getElem_of_mem ((r.mem h).2 hh)
    exact ⟨m, hm, getD_at hm, (r.sect hm hi).1 h1⟩
end
end Go.Mesh
