/- Links and neighbours: plain laws. -/
import Derived.Test.YtckkpmjkajkkmaaTQ
namespace Go.Mesh
section
variable {N : Int} {T : List T3}
/-- Is there an edge between two vertices? -/
def near (T : List T3) (a b : Int) : Bool := (facing T (a, b)).isSome || (facing T (b, a)).isSome
theorem near_comm (T : List T3) (a b : Int) : near T a b = near T b a := by unfold near; rw [Bool.or_comm]
theorem Surf.ring_none (h : Surf N T) {v : Int} (hv : ¬ (0 ≤ v ∧ v < N)) : ringAt T N v = [] ∧ innerAt T N v = false := by
  rcases h.ring_or v with ⟨h1, h2, h3⟩ | ⟨_, h2, _⟩
  · exact ⟨h1, h3⟩
  · exact absurd h2 hv
theorem Surf.ring_in (h : Surf N T) {v : Int} (hv : 0 ≤ v ∧ v < N) : 0 < (ringAt T N v).length ∧ Ring T v (ringAt T N v) (innerAt T N v) := by
  rcases h.ring_or v with ⟨h1, h2, h3⟩ | ⟨h1, h2, h3⟩
  · exact absurd hv h2
  · exact ⟨h1, h3⟩
theorem linkAt_of_inner (h : Surf N T) {v : Int} (hv : 0 ≤ v ∧ v < N) (hi : innerAt T N v = true) : linkAt T N v = (ringAt T N v).map (fun c => vt T (nx c)) := by
  rw [h.link_inner, List.getLast?_eq_getElem?, List.getElem?_eq_getElem (by have := (h.ring_in hv).1; omega)]
  simp [hi]
theorem linkAt_of_border (h : Surf N T) {v : Int} (hv : 0 ≤ v ∧ v < N) (hi : innerAt T N v = false) :
    linkAt T N v = (ringAt T N v).map (fun c => vt T (nx c)) ++ [vt T (pv ((ringAt T N v)[(ringAt T N v).length - 1]'(by have := (h.ring_in hv).1; omega)))] := by
  rw [h.link_inner, List.getLast?_eq_getElem?, List.getElem?_eq_getElem (by have := (h.ring_in hv).1; omega)]
  simp [hi]
theorem link_len (h : Surf N T) {v : Int} (hv : 0 ≤ v ∧ v < N) : (linkAt T N v).length = (ringAt T N v).length + (if innerAt T N v = true then 0 else 1) := by
  cases hi : innerAt T N v with
  | true => rw [linkAt_of_inner h hv hi]; simp
  | false => rw [linkAt_of_border h hv hi]; simp
/-- The place behind a corner's in a link bears the vertex ahead of it in its triangle. -/
theorem link_next (h : Surf N T) {v : Int} (hv : 0 ≤ v ∧ v < N) {i : Nat} (hi : i < (ringAt T N v).length) :
    (linkAt T N v)[i]? = some (vt T (nx (ringAt T N v)[i])) ∧ (linkAt T N v)[(i + 1) % (linkAt T N v).length]? = some (vt T (pv (ringAt T N v)[i])) := by
  obtain ⟨hl, hr⟩ := h.ring_in hv
  obtain ⟨b, hrun⟩ := hr.run
  have hlen := link_len h hv
  cases hin : innerAt T N v with
  | true =>
    rw [hin] at hlen
    simp only [if_true, Nat.add_zero] at hlen
    rw [hlen, linkAt_of_inner h hv hin]
    refine ⟨by simp [hi], ?_⟩
    rcases Nat.lt_or_ge (i + 1) (ringAt T N v).length with h1 | h1
    · rw [Nat.mod_eq_of_lt h1, List.getElem?_map, List.getElem?_eq_getElem h1]
      have := (h.aft_iff.1 (hrun.steps i h1)).2.2
      simp [this]
    · rw [show i + 1 = (ringAt T N v).length by omega, Nat.mod_self, List.getElem?_map, List.getElem?_eq_getElem hl]
      have h2 := hr.turn hl hin
      have h3 := (h.aft_iff.1 h2).2.2
      have h4 : (ringAt T N v)[(ringAt T N v).length - 1]'(by omega) = (ringAt T N v)[i] := by congr 1; omega
      rw [h4] at h3
      simp [h3]
  | false =>
    rw [hin] at hlen
    simp only [Bool.false_eq_true, if_false] at hlen
    rw [hlen, Nat.mod_eq_of_lt (by omega), linkAt_of_border h hv hin]
    refine ⟨by rw [List.getElem?_append_left (by simpa using hi), List.getElem?_map, List.getElem?_eq_getElem hi]; rfl, ?_⟩
    rcases Nat.lt_or_ge (i + 1) (ringAt T N v).length with h1 | h1
    · rw [List.getElem?_append_left (by simpa using h1), List.getElem?_map, List.getElem?_eq_getElem h1]
      have := (h.aft_iff.1 (hrun.steps i h1)).2.2
      simp [this]
    · rw [List.getElem?_append_right (by simpa using h1)]
      have h4 : (ringAt T N v)[(ringAt T N v).length - 1]'(by omega) = (ringAt T N v)[i] := by congr 1; omega
      rw [h4]
      simp only [List.length_map]
      rw [show i + 1 - (ringAt T N v).length = 0 by omega]
      rfl
theorem link_mem (h : Surf N T) {v : Int} (hv : 0 ≤ v ∧ v < N) (x : Int) : x ∈ linkAt T N v ↔ ∃ c, c < 3 * T.length ∧ vt T c = v ∧ (x = vt T (nx c) ∨ x = vt T (pv c)) := by
  constructor
  · intro hx
    have hmem : ∀ c ∈ ringAt T N v, c < 3 * T.length ∧ vt T c = v := fun c hc => (h.ring_mem v c).1 hc
    cases hin : innerAt T N v with
    | true =>
      rw [linkAt_of_inner h hv hin] at hx
      obtain ⟨c, hc, rfl⟩ := List.mem_map.1 hx
      exact ⟨c, (hmem c hc).1, (hmem c hc).2, .inl rfl⟩
    | false =>
      rw [linkAt_of_border h hv hin] at hx
      rcases List.mem_append.1 hx with hx | hx
      · obtain ⟨c, hc, rfl⟩ := List.mem_map.1 hx
        exact ⟨c, (hmem c hc).1, (hmem c hc).2, .inl rfl⟩
      · have hc := hmem _ (List.getElem_mem (l := ringAt T N v) (n := (ringAt T N v).length - 1) (by have := (h.ring_in hv).1; omega))
        exact ⟨_, hc.1, hc.2, .inr (by simpa using hx)⟩
  · rintro ⟨c, hc, hcv, hx⟩
    obtain ⟨i, hi, rfl⟩ := List.getElem_of_mem ((h.ring_mem v c).2 ⟨hc, hcv⟩)
    obtain ⟨h1, h2⟩ := link_next h hv hi
    rcases hx with rfl | rfl
    · exact List.mem_of_getElem? h1
    · exact List.mem_of_getElem? h2
theorem link_rng (h : Surf N T) {v : Int} (hv : 0 ≤ v ∧ v < N) {x : Int} (hx : x ∈ linkAt T N v) : 0 ≤ x ∧ x < N ∧ x ≠ v := by
  obtain ⟨c, hc, rfl, rfl | rfl⟩ := (link_mem h hv x).1 hx
  · have := h.rng _ (nx_lt hc)
    exact ⟨this.1, this.2, (h.loop c hc).symm⟩
  · have := h.rng _ (pv_lt hc)
    exact ⟨this.1, this.2, (h.loop2 hc).symm⟩
theorem link_nodup (h : Surf N T) {v : Int} (hv : 0 ≤ v ∧ v < N) : (linkAt T N v).Nodup := by
  have hmem : ∀ c ∈ ringAt T N v, c < 3 * T.length ∧ vt T c = v := fun c hc => (h.ring_mem v c).1 hc
  have h1 : ((ringAt T N v).map fun c => vt T (nx c)).Nodup := nodup_inj (h.ring_nodup v) fun a ha b hb e => by
    refine pv_inj (h.once _ _ (pv_lt (hmem a ha).1) (pv_lt (hmem b hb).1) ?_)
    unfold eg
    rw [nx_pv, nx_pv, pv_pv, pv_pv, (hmem a ha).2, (hmem b hb).2, e]
  cases hin : innerAt T N v with
  | true => rw [linkAt_of_inner h hv hin]; exact h1
  | false =>
    rw [linkAt_of_border h hv hin, List.nodup_append]
    refine ⟨h1, by simp, ?_⟩
    intro x hx y hy e
    obtain ⟨c, hc, rfl⟩ := List.mem_map.1 hx
    have hl := (h.ring_in hv).1
    have hnone := ((h.ring_in hv).2.last hl).2 hin
    have hlm := hmem _ (List.getElem_mem (l := ringAt T N v) (n := (ringAt T N v).length - 1) (by omega))
    have hy : y = vt T (pv ((ringAt T N v)[(ringAt T N v).length - 1]'(by omega))) := by simpa using hy
    have := h.aft_iff.2 ⟨(hmem c hc).1, (hmem c hc).2.trans hlm.2.symm, e.trans hy⟩
    rw [hnone] at this
    cases this
theorem near_iff (h : Surf N T) {v : Int} (hv : 0 ≤ v ∧ v < N) (w : Int) : near T v w = true ↔ w ∈ linkAt T N v := by
  rw [link_mem h hv]
  unfold near
  rw [Bool.or_eq_true, Option.isSome_iff_exists, Option.isSome_iff_exists]
  constructor
  · rintro (⟨c, hc⟩ | ⟨c, hc⟩)
    · obtain ⟨h1, h2⟩ := h.facing_iff.1 hc
      unfold eg at h2
      injection h2 with h2 h3
      exact ⟨nx c, nx_lt h1, h2, .inl (by rw [nx_nx]; exact h3.symm)⟩
    · obtain ⟨h1, h2⟩ := h.facing_iff.1 hc
      unfold eg at h2
      injection h2 with h2 h3
      exact ⟨pv c, pv_lt h1, h3, .inr (by rw [pv_pv]; exact h2.symm)⟩
  · rintro ⟨c, hc, rfl, rfl | rfl⟩
    · exact .inl ⟨pv c, h.facing_iff.2 ⟨pv_lt hc, by unfold eg; rw [nx_pv, pv_pv]⟩⟩
    · exact .inr ⟨nx c, h.facing_iff.2 ⟨nx_lt hc, by unfold eg; rw [nx_nx, pv_nx]⟩⟩
theorem near_out (h : Surf N T) {v w : Int} (hn : near T v w = true) : (0 ≤ v ∧ v < N) ∧ 0 ≤ w ∧ w < N := by
  unfold near at hn
  rw [Bool.or_eq_true, Option.isSome_iff_exists, Option.isSome_iff_exists] at hn
  rcases hn with ⟨c, hc⟩ | ⟨c, hc⟩
  · obtain ⟨h1, h2⟩ := h.facing_iff.1 hc
    unfold eg at h2
    injection h2 with h2 h3
    have g1 := h.rng _ (nx_lt h1)
    have g2 := h.rng _ (pv_lt h1)
    rw [h2] at g1; rw [h3] at g2
    exact ⟨g1, g2⟩
  · obtain ⟨h1, h2⟩ := h.facing_iff.1 hc
    unfold eg at h2
    injection h2 with h2 h3
    have g1 := h.rng _ (nx_lt h1)
    have g2 := h.rng _ (pv_lt h1)
    rw [h2] at g1; rw [h3] at g2
    exact ⟨g2, g1⟩
/-- Next to one another in a link. -/
theorem link_near (h : Surf N T) {v : Int} (hv : 0 ≤ v ∧ v < N) {i : Nat} (hi : i < (ringAt T N v).length) {x y : Int} (hx : (linkAt T N v)[i]? = some x) (hy : (linkAt T N v)[(i + 1) % (linkAt T N v).length]? = some y) : near T x y = true := by
  obtain ⟨h1, h2⟩ := link_next h hv hi
  rw [h1] at hx; rw [h2] at hy
  injection hx with hx; injection hy with hy
  subst hx hy
  have hc := ((h.ring_mem v _).1 (List.getElem_mem hi)).1
  unfold near
  rw [show ((vt T (nx (ringAt T N v)[i]), vt T (pv (ringAt T N v)[i])) : Int × Int) = eg T (ringAt T N v)[i] from rfl, h.facing_eg hc]
  rfl
/-- How many corners stand at vertices below v. -/
def below (T : List T3) (v : Int) : Nat := (List.range (3 * T.length)).countP fun c => decide (vt T c < v)
theorem countP_split {α : Type} (p q r : α → Bool) : ∀ l : List α, (∀ a ∈ l, (r a = (p a || q a)) ∧ ¬ (p a = true ∧ q a = true)) → l.countP r = l.countP p + l.countP q
  | [], _ => rfl
  | x :: l, h => by
    have ih := countP_split p q r l fun a ha => h a (List.mem_cons_of_mem _ ha)
    obtain ⟨h1, h2⟩ := h x List.mem_cons_self
    rw [List.countP_cons, List.countP_cons, List.countP_cons, ih, h1]
    cases hp : p x <;> cases hq : q x <;> simp_all <;> omega
theorem below_zero (h : Surf N T) : below T 0 = 0 := by
  unfold below
  rw [List.countP_eq_zero]
  intro c hc
  have := h.rng c (by simpa using hc)
  simp; omega
theorem below_all (h : Surf N T) : below T N = 3 * T.length := by
  unfold below
  rw [List.countP_eq_length.2, List.length_range]
  intro c hc
  have := h.rng c (by simpa using hc)
  simp; omega
theorem below_succ (h : Surf N T) (v : Int) : below T (v + 1) = below T v + (ringAt T N v).length := by
  have e : (ringAt T N v).length = (List.range (3 * T.length)).countP fun c => vt T c == v := by
    rw [List.countP_eq_length_filter]
    apply List.Perm.length_eq
    refine (List.perm_ext_iff_of_nodup (h.ring_nodup v) (List.nodup_range.filter _)).2 fun c => ?_
    rw [h.ring_mem, List.mem_filter, List.mem_range, beq_iff_eq]
  unfold below
  rw [e]
  refine countP_split _ _ _ _ fun c _ => ?_
  simp only [decide_eq_true_eq, beq_iff_eq]
  refine ⟨?_, by omega⟩
  rw [Bool.eq_iff_iff]
  simp only [decide_eq_true_eq, Bool.or_eq_true, beq_iff_eq]
  omega
end
end Go.Mesh
