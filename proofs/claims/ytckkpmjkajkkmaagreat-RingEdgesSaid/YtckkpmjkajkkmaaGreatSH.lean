/- Plain: edges in their order, and how many a vertex has; no program in sight. -/
import Derived.Test.YtckkpmjkajkkmaaGreatSG
import Derived.Test.YtckkpmjkajkkmaaGreatMP
namespace Go.Mesh
section
variable {N : Int} {T : List T3} {L : List (Int × Int)}
theorem ek_near (h : Surf N T) {a b : Int} : (∃ c, c < 3 * T.length ∧ (a, b) = ek T c) ↔ a < b ∧ near T a b = true := by
  constructor
  · rintro ⟨c, hc, he⟩
    have hl := h.loop c hc
    have hr := h.rng c hc
    unfold ek at he
    have h1 : a = min (vt T c) (vt T (nx c)) := congrArg Prod.fst he
    have h2 : b = max (vt T c) (vt T (nx c)) := congrArg Prod.snd he
    have hn : near T (vt T c) (vt T (nx c)) = true := (near_iff h hr _).2 ((link_mem h hr _).2 ⟨c, hc, rfl, .inl rfl⟩)
    rcases Int.lt_or_gt_of_ne hl with h3 | h3
    · rw [show a = vt T c by omega, show b = vt T (nx c) by omega]
      exact ⟨h3, hn⟩
    · rw [show a = vt T (nx c) by omega, show b = vt T c by omega, near_comm]
      exact ⟨h3, hn⟩
  · rintro ⟨hab, hn⟩
    have ho := near_out h hn
    obtain ⟨c, hc, h1, h2⟩ := (link_mem h ho.1 b).1 ((near_iff h ho.1 b).1 hn)
    rcases h2 with h2 | h2
    · refine ⟨c, hc, ?_⟩
      unfold ek
      rw [h1, ← h2]
      exact Prod.ext (by show a = min a b; omega) (by show b = max a b; omega)
    · refine ⟨pv c, by unfold pv; omega, ?_⟩
      unfold ek
      have e : nx (pv c) = c := by unfold nx pv; omega
      rw [e, h1, ← h2]
      exact Prod.ext (by show a = min b a; omega) (by show b = max b a; omega)
theorem EdgesIs.mem (h : Surf N T) (hL : EdgesIs T L) (a b : Int) : (a, b) ∈ L ↔ a < b ∧ near T a b = true := by rw [hL.2, ek_near h]
theorem EdgesIs.rng (h : Surf N T) (hL : EdgesIs T L) {e : Int × Int} (he : e ∈ L) : 0 ≤ e.1 ∧ e.1 < e.2 ∧ e.2 < N := by
  obtain ⟨a, b⟩ := e
  have h1 := (hL.mem h a b).1 he
  have h2 := near_out h h1.2
  exact ⟨h2.1.1, h1.1, h2.2.2⟩
/-- k of the edges lie ahead of (a, b). -/
def Ahead (L : List (Int × Int)) (k : Nat) (a b : Int) : Prop := k ≤ L.length ∧ (∀ e ∈ L.take k, ltE e (a, b)) ∧ ∀ e ∈ L.drop k, ¬ ltE e (a, b)
theorem Ahead.start (h : Surf N T) (hL : EdgesIs T L) : Ahead L 0 0 1 := ⟨Nat.zero_le _, (fun e he => by simp at he), fun e he hlt => by
  have := hL.rng h (by simpa using he)
  unfold ltE at hlt
  simp only at hlt
  omega⟩
theorem Ahead.hit (h : Surf N T) (hL : EdgesIs T L) {k : Nat} {a b : Int} (hk : Ahead L k a b) (hab : a < b) (hn : near T a b = true) : L[k]? = some (a, b) ∧ Ahead L (k + 1) a (b + 1) := by
  obtain ⟨h1, h2, h3⟩ := hk
  have hm := (hL.mem h a b).2 ⟨hab, hn⟩
  have hd : (a, b) ∈ L.drop k := by
    rw [← List.take_append_drop k L] at hm
    rcases List.mem_append.1 hm with h4 | h4
    · exact absurd (h2 _ h4) (by unfold ltE; simp)
    · exact h4
  have hkl : k < L.length := by
    rcases Nat.lt_or_ge k L.length with h4 | h4
    · exact h4
    · rw [List.drop_eq_nil_of_le h4] at hd; cases hd
  have hpw : (L.drop k).Pairwise ltE := hL.1.sublist (List.drop_sublist k L)
  rw [List.drop_eq_getElem_cons hkl] at hd hpw h3
  have hpw := List.pairwise_cons.1 hpw
  have hLk : L[k] = (a, b) := by
    rcases List.mem_cons.1 hd with h4 | h4
    · exact h4.symm
    · exact absurd (hpw.1 _ h4) (h3 _ (List.mem_cons_self ..))
  refine ⟨by rw [List.getElem?_eq_getElem hkl, hLk], hkl, fun e he => ?_, fun e he hlt => ?_⟩
  · rw [List.take_succ_eq_append_getElem hkl, hLk] at he
    rcases List.mem_append.1 he with h4 | h4
    · have h5 : e.1 < a ∨ (e.1 = a ∧ e.2 < b) := h2 e h4
      show e.1 < a ∨ (e.1 = a ∧ e.2 < b + 1)
      omega
    · rw [List.mem_singleton.1 h4]
      exact .inr ⟨rfl, by show b < b + 1; omega⟩
  · have := hpw.1 e he
    rw [hLk] at this
    have hlt2 : e.1 < a ∨ (e.1 = a ∧ e.2 < b + 1) := hlt
    have this2 : a < e.1 ∨ (a = e.1 ∧ b < e.2) := this
    omega
theorem Ahead.miss (h : Surf N T) (hL : EdgesIs T L) {k : Nat} {a b : Int} (hk : Ahead L k a b) (hn : near T a b = false) : Ahead L k a (b + 1) := by
  obtain ⟨h1, h2, h3⟩ := hk
  refine ⟨h1, fun e he => ?_, fun e he hlt => ?_⟩
  · have := h2 e he
    unfold ltE at *
    simp only at *
    omega
  · have h4 := h3 e he
    have h5 : e ≠ (a, b) := fun e1 => by
      have := ((hL.mem h a b).1 (e1 ▸ List.mem_of_mem_drop he)).2
      rw [hn] at this; cases this
    have h6 : e.1 ≠ a ∨ e.2 ≠ b := by
      rcases Decidable.em (e.1 = a) with h7 | h7
      · exact .inr fun h8 => h5 (Prod.ext h7 h8)
      · exact .inl h7
    unfold ltE at *
    simp only at *
    omega
theorem Ahead.row (h : Surf N T) (hL : EdgesIs T L) {k : Nat} {a b : Int} (hk : Ahead L k a b) (hb : N ≤ b) : Ahead L k (a + 1) (a + 1 + 1) := by
  obtain ⟨h1, h2, h3⟩ := hk
  refine ⟨h1, fun e he => ?_, fun e he hlt => ?_⟩
  · have := h2 e he
    unfold ltE at *
    simp only at *
    omega
  · have h4 := h3 e he
    have := hL.rng h (List.mem_of_mem_drop he)
    unfold ltE at *
    simp only at *
    omega
theorem Ahead.all (h : Surf N T) (hL : EdgesIs T L) {k : Nat} {a b : Int} (hk : Ahead L k a b) (ha : N ≤ a) : k = L.length := by
  obtain ⟨h1, _, h3⟩ := hk
  rcases Nat.lt_or_ge k L.length with h4 | h4
  · exfalso
    have h5 : L[k] ∈ L.drop k := by rw [List.drop_eq_getElem_cons h4]; exact List.mem_cons_self ..
    have h6 := h3 _ h5
    have := hL.rng h (List.mem_of_mem_drop h5)
    unfold ltE at h6
    simp only at h6
    omega
  · omega
/-- How many ends lie below a. -/
def lowE (L : List (Int × Int)) (a : Int) : Nat := (L.filter fun e => decide (e.1 < a)).length + (L.filter fun e => decide (e.2 < a)).length
theorem filter_split (p q : Int × Int → Bool) (r : Int × Int → Bool) (hp : ∀ e, r e = (p e || q e)) (hd : ∀ e, ¬ (p e = true ∧ q e = true)) : ∀ L : List (Int × Int), (L.filter r).length = (L.filter p).length + (L.filter q).length
  | [] => rfl
  | e :: L => by
    have ih := filter_split p q r hp hd L
    have h1 := hp e
    have h2 := hd e
    cases hpe : p e <;> cases hqe : q e <;> simp_all <;> omega
theorem lowE_succ (L : List (Int × Int)) (a : Int) : lowE L (a + 1) = lowE L a + ((L.filter fun e => decide (e.1 = a)).length + (L.filter fun e => decide (e.2 = a)).length) := by
  unfold lowE
  rw [filter_split (fun e => decide (e.1 < a)) (fun e => decide (e.1 = a)) (fun e => decide (e.1 < a + 1)) (fun e => by rw [Bool.eq_iff_iff]; simp; omega) (fun e => by simp; omega) L,
    filter_split (fun e => decide (e.2 < a)) (fun e => decide (e.2 = a)) (fun e => decide (e.2 < a + 1)) (fun e => by rw [Bool.eq_iff_iff]; simp; omega) (fun e => by simp; omega) L]
  omega
theorem lowE_start (h : Surf N T) (hL : EdgesIs T L) : lowE L 0 = 0 := by
  unfold lowE
  rw [List.filter_eq_nil_iff.2 fun e he => by have := hL.rng h he; simp; omega, List.filter_eq_nil_iff.2 fun e he => by have := hL.rng h he; simp; omega]
  rfl
theorem lowE_all (h : Surf N T) (hL : EdgesIs T L) : lowE L N = 2 * L.length := by
  unfold lowE
  rw [List.filter_eq_self.2 fun e he => by have := hL.rng h he; simp; omega, List.filter_eq_self.2 fun e he => by have := hL.rng h he; simp; omega]
  omega
theorem EdgesIs.nodup (hL : EdgesIs T L) : L.Nodup := hL.1.imp fun {x y} h e => by subst e; unfold ltE at h; omega
theorem link_deg (h : Surf N T) (hL : EdgesIs T L) {a : Int} (ha : 0 ≤ a ∧ a < N) : (linkAt T N a).length = (L.filter fun e => decide (e.1 = a)).length + (L.filter fun e => decide (e.2 = a)).length := by
  have hnd := hL.nodup
  have h1 : ((L.filter fun e => decide (e.1 = a)).map (·.2)).Nodup := by
    refine List.Pairwise.map _ (S := fun x y => x ≠ y) (R := fun x y : Int × Int => x.2 ≠ y.2) (fun x y h => h) ?_
    refine (hnd.filter _).imp_of_mem fun {x y} hx hy hne e => hne ?_
    simp at hx hy
    exact Prod.ext (hx.2.trans hy.2.symm) e
  have h2 : ((L.filter fun e => decide (e.2 = a)).map (·.1)).Nodup := by
    refine List.Pairwise.map _ (S := fun x y => x ≠ y) (R := fun x y : Int × Int => x.1 ≠ y.1) (fun x y h => h) ?_
    refine (hnd.filter _).imp_of_mem fun {x y} hx hy hne e => hne ?_
    simp at hx hy
    exact Prod.ext e (hx.2.trans hy.2.symm)
  have h3 : (((L.filter fun e => decide (e.1 = a)).map (·.2)) ++ ((L.filter fun e => decide (e.2 = a)).map (·.1))).Nodup := by
    refine List.nodup_append.2 ⟨h1, h2, fun x hx y hy e => ?_⟩
    obtain ⟨p, hp, rfl⟩ := List.mem_map.1 hx
    obtain ⟨q, hq, rfl⟩ := List.mem_map.1 hy
    simp at hp hq
    have := hL.rng h hp.1
    have := hL.rng h hq.1
    omega
  have hp := (List.perm_ext_iff_of_nodup (link_nodup h ha) h3).2 fun x => by
    rw [← near_iff h ha, List.mem_append, List.mem_map, List.mem_map]
    constructor
    · intro hn
      have hxa : x ≠ a := (link_rng h ha ((near_iff h ha x).1 hn)).2.2
      rcases Int.lt_or_gt_of_ne hxa with h4 | h4
      · refine .inr ⟨(x, a), ?_, rfl⟩
        simp
        exact (hL.mem h x a).2 ⟨h4, by rw [near_comm]; exact hn⟩
      · refine .inl ⟨(a, x), ?_, rfl⟩
        simp
        exact (hL.mem h a x).2 ⟨h4, hn⟩
    · rintro (⟨⟨p, q⟩, hp, rfl⟩ | ⟨⟨p, q⟩, hp, rfl⟩)
      · simp at hp
        obtain ⟨hp, rfl⟩ := hp
        exact ((hL.mem h p q).1 hp).2
      · simp at hp
        obtain ⟨hp, rfl⟩ := hp
        rw [near_comm]
        exact ((hL.mem h p q).1 hp).2
  rw [hp.length_eq, List.length_append, List.length_map, List.length_map]
end
end Go.Mesh
