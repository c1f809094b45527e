/- The document's answer around a vertex: plain. -/
import Derived.Test.YtckkpmjkajkkmaaTP
namespace Go.Mesh
section
variable {N : Int} {T : List T3}
/-- The least corner from which a directed edge goes. -/
def dirc (T : List T3) (a b : Int) : Option Nat := leastFrom (fun c => vt T c == a && vt T (nx c) == b) 0 (3 * T.length)
theorem dirc_some {a b : Int} {d : Nat} (h : dirc T a b = some d) : d < 3 * T.length ∧ vt T d = a ∧ vt T (nx d) = b := by
  obtain ⟨_, h2, h3, _⟩ := (leastFrom_some _ _ _ _).1 h
  simp only [Bool.and_eq_true, beq_iff_eq] at h3
  exact ⟨by omega, h3.1, h3.2⟩
theorem Surf.dirc_iff (h : Surf N T) {a b : Int} {d : Nat} : dirc T a b = some d ↔ d < 3 * T.length ∧ vt T d = a ∧ vt T (nx d) = b := by
  constructor
  · exact dirc_some
  · rintro ⟨h1, h2, h3⟩
    obtain ⟨e, he⟩ := leastFrom_isSome (p := fun c => vt T c == a && vt T (nx c) == b) (n := 3 * T.length) (k := 0) (c := d) (by omega) (by omega) (by simp [h2, h3])
    have he : dirc T a b = some e := he
    obtain ⟨g1, g2, g3⟩ := dirc_some he
    have : pv e = pv d := h.once _ _ (pv_lt g1) (pv_lt h1) (by unfold eg; rw [nx_pv, nx_pv, pv_pv, pv_pv, g2, g3, h2, h3])
    rw [he, pv_inj this]
theorem option_ext {α : Type} {a b : Option α} (h : ∀ x, a = some x ↔ b = some x) : a = b := by
  cases a with
  | none => cases b with
    | none => rfl
    | some y => exact absurd ((h y).2 rfl) (by simp)
  | some x => exact ((h x).1 rfl).symm
theorem Surf.dirc_aft (h : Surf N T) (c : Nat) : dirc T (vt T c) (vt T (pv c)) = aft T c := option_ext fun d => by rw [h.dirc_iff, h.aft_iff]
theorem Surf.dirc_bef (h : Surf N T) (c : Nat) : dirc T (vt T (nx c)) (vt T c) = (bef T c).map pv := option_ext fun d => by
  rw [h.dirc_iff, Option.map_eq_some_iff]
  constructor
  · rintro ⟨h1, h2, h3⟩
    exact ⟨nx d, h.bef_iff.2 ⟨nx_lt h1, h3, by rw [pv_nx]; exact h2⟩, pv_nx d⟩
  · rintro ⟨x, hx, rfl⟩
    obtain ⟨h1, h2, h3⟩ := h.bef_iff.1 hx
    exact ⟨pv_lt h1, h3, by rw [nx_pv]; exact h2⟩
theorem Surf.dirc_facing (h : Surf N T) (a b : Int) : dirc T a b = (facing T (a, b)).map nx := option_ext fun d => by
  rw [h.dirc_iff, Option.map_eq_some_iff]
  constructor
  · rintro ⟨h1, h2, h3⟩
    exact ⟨pv d, h.facing_iff.2 ⟨pv_lt h1, by unfold eg; rw [nx_pv, pv_pv, h2, h3]⟩, nx_pv d⟩
  · rintro ⟨x, hx, rfl⟩
    obtain ⟨h1, h2⟩ := h.facing_iff.1 hx
    unfold eg at h2
    injection h2 with h2 h3
    exact ⟨nx_lt h1, h2, by rw [nx_nx]; exact h3⟩
/-- A triangle has a vertex once. -/
theorem Surf.same_tri (h : Surf N T) {c d : Nat} (hc : c < 3 * T.length) (hd : c / 3 = d / 3) (hv : vt T c = vt T d) : c = d := by
  have h1 := h.loop c hc
  have h2 := h.loop2 hc
  have : d = c ∨ d = nx c ∨ d = pv c := by unfold nx pv; omega
  rcases this with e | e | e
  · exact e.symm
  · subst e; exact absurd hv h1
  · subst e; exact absurd hv h2
/-- The corner of a vertex in a triangle. -/
def atC (T : List T3) (t : Nat) (v : Int) : Option Nat := leastFrom (fun c => vt T c == v) (3 * t) 3
theorem Surf.atC_eq (h : Surf N T) {c : Nat} (hc : c < 3 * T.length) : atC T (c / 3) (vt T c) = some c := by
  obtain ⟨e, he⟩ := leastFrom_isSome (p := fun d => vt T d == vt T c) (n := 3) (k := 3 * (c / 3)) (c := c) (by omega) (by omega) (by simp)
  obtain ⟨g1, g2, g3, _⟩ := (leastFrom_some _ _ _ _).1 he
  have : c = e := h.same_tri hc (by omega) (by simpa using (beq_iff_eq.1 g3).symm)
  unfold atC
  rw [he, this]
theorem nodup_inj {α β : Type} {f : α → β} : ∀ {l : List α}, l.Nodup → (∀ a ∈ l, ∀ b ∈ l, f a = f b → a = b) → (l.map f).Nodup
  | [], _, _ => List.nodup_nil
  | x :: l, h, hf => by
    rw [List.nodup_cons] at h
    rw [List.map_cons, List.nodup_cons]
    refine ⟨fun hm => ?_, nodup_inj h.2 fun a ha b hb => hf a (List.mem_cons_of_mem _ ha) b (List.mem_cons_of_mem _ hb)⟩
    obtain ⟨y, hy, e⟩ := List.mem_map.1 hm
    have := hf y (List.mem_cons_of_mem _ hy) x List.mem_cons_self e
    exact h.1 (this ▸ hy)
/-- No more corners stand around a vertex than there are triangles. -/
theorem Surf.ring_len (h : Surf N T) (v : Int) : (ringAt T N v).length ≤ T.length := by
  have := nodup_lt T.length ((ringAt T N v).map (· / 3)) (nodup_inj (h.ring_nodup v) fun a ha b hb e =>
    h.same_tri ((h.ring_mem v a).1 ha).1 e (((h.ring_mem v a).1 ha).2.trans ((h.ring_mem v b).1 hb).2.symm)) fun x hx => by
      obtain ⟨y, hy, rfl⟩ := List.mem_map.1 hx
      have := ((h.ring_mem v y).1 hy).1
      omega
  simpa using this
/-- The corner with which the document begins. -/
def refFirst (T : List T3) (v : Int) : Option Nat :=
  match leastFrom (fun c => vt T c == v && (bef T c).isNone) 0 (3 * T.length) with
  | some c => some c
  | none => cornerOf T v
theorem Surf.ref_first (h : Surf N T) (v : Int) : refFirst T v = (ringAt T N v).head? := by
  rcases h.ring_or v with ⟨h1, h2, _⟩ | ⟨hl, hv, hr⟩
  · rw [h1]
    have e1 : ∀ n, leastFrom (fun c => vt T c == v && (bef T c).isNone) 0 (3 * T.length) ≠ some n := by
      intro n hn
      obtain ⟨_, g2, g3, _⟩ := (leastFrom_some _ _ _ _).1 hn
      simp only [Bool.and_eq_true, beq_iff_eq] at g3
      exact h.no_corner h2 (by omega) g3.1
    have e2 : cornerOf T v = none := by
      cases hc : cornerOf T v with
      | none => rfl
      | some c =>
        obtain ⟨_, g2, g3, _⟩ := (leastFrom_some _ _ _ _).1 hc
        exact absurd (by simpa using g3) (h.no_corner h2 (show c < 3 * T.length by omega))
    unfold refFirst
    rw [e2]
    cases hl : leastFrom (fun c => vt T c == v && (bef T c).isNone) 0 (3 * T.length) with
    | none => rfl
    | some c => exact absurd hl (e1 c)
  · rw [List.head?_eq_getElem?, List.getElem?_eq_getElem hl]
    unfold refFirst
    cases hq : leastFrom (fun c => vt T c == v && (bef T c).isNone) 0 (3 * T.length) with
    | none =>
      have hall := (leastFrom_none _ _ _).1 hq
      obtain ⟨b, hb⟩ := h.corner_some hv.1 hv.2
      simp only []
      rw [hb]
      obtain ⟨g1, g2, g3⟩ := h.ring hv.1 hv.2 hb
      have e : ringAt T N v = runF (aft T) (begins T b).1 (3 * T.length) (begins T b).1 := by unfold ringAt; rw [if_pos hv, hb]
      have e0 : (ringAt T N v)[0] = (begins T b).1 := by
        have := g1.head
        simp only [e]
        exact this
      rw [e0]
      have hm := (hr.mem _).1 (List.getElem_mem hl)
      have := hall _ (Nat.zero_le _) (by omega : (ringAt T N v)[0] < 0 + 3 * T.length)
      have hb0 : bef T (ringAt T N v)[0] ≠ none := by
        intro h9
        rw [h9, hm.2] at this
        simp at this
      have hin : innerAt T N v = true := by
        cases hi : innerAt T N v with
        | true => rfl
        | false => exact absurd ((hr.head hl).2 hi) hb0
      have : (begins T b).2 = false := by
        unfold innerAt at hin
        rw [if_pos hv, hb] at hin
        simpa using hin
      rw [g3 this]
    | some c =>
      obtain ⟨_, g2, g3, _⟩ := (leastFrom_some _ _ _ _).1 hq
      simp only [Bool.and_eq_true, beq_iff_eq, Option.isNone_iff_eq_none] at g3
      have hc := (hr.mem c).2 ⟨by omega, g3.1⟩
      obtain ⟨i, hi, he⟩ := List.getElem_of_mem hc
      cases i with
      | zero => exact congrArg some he.symm
      | succ i =>
        exfalso
        obtain ⟨b, hb⟩ := hr.run
        have := h.aft_bef (hb.lt _ (List.getElem_mem (by omega))) (hb.steps i hi)
        rw [he, g3.2] at this
        cases this
/-- The vertices next to a vertex. -/
def linkAt (T : List T3) (N v : Int) : List Int :=
  (ringAt T N v).map (fun c => vt T (nx c)) ++ (match (ringAt T N v).getLast? with
    | some c => if aft T c = none then [vt T (pv c)] else []
    | none => [])
theorem Surf.link_inner (h : Surf N T) (v : Int) : linkAt T N v = (ringAt T N v).map (fun c => vt T (nx c)) ++ (match (ringAt T N v).getLast? with
    | some c => if innerAt T N v = false then [vt T (pv c)] else []
    | none => []) := by
  unfold linkAt
  congr 1
  rcases h.ring_or v with ⟨h1, h2, _⟩ | ⟨hl, hv, hr⟩
  · rw [h1]; rfl
  · rw [List.getLast?_eq_getElem?, List.getElem?_eq_getElem (by omega)]
    simp only [hr.last hl]
end
end Go.Mesh
