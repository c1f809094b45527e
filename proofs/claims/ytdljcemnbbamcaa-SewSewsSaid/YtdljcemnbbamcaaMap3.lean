/- Words for maps of rows of numbers: what is read, what an append leaves. Plain lemmas; no condition of their own. -/
import Derived.Test.YtdljcemnbbamcaaMap2
namespace Go.Words
open Go Go.RowKit
section
variable {κ : Type} {w w' : World} {base : Nat} {e : TypeId} {lm : List (κ × Value)} {G : List (κ × List Nat)}
/-- The map's values are the rows that G tells, key by key. -/
structure GRows (w : World) (base : Nat) (e : TypeId) (lm : List (κ × Value)) (G : List (κ × List Nat)) : Prop where
  keys : lm.map (·.1) = G.map (·.1)
  nodup : (G.map (·.1)).Nodup
  fam : Fam w base e (lm.map (·.2)) (G.map (·.2))
theorem GRows.kept (h : GRows w base e lm G) {row : Option Nat} (hg : w.grownBy w' row) (hr : ∀ i (hi : i < (lm.map Prod.snd).length), ((lm.map Prod.snd)[i]'hi).ownBlock = none ∨ ((lm.map Prod.snd)[i]'hi).ownBlock ≠ row) : GRows w' base e lm G :=
  ⟨h.keys, h.nodup, h.fam.kept hg hr⟩
theorem GRows.below (h : GRows w base e lm G) {B : Nat} (hb : Below B w w') (hB : w.heap.size ≤ B) : GRows w' base e lm G := ⟨h.keys, h.nodup, h.fam.below hb hB⟩
theorem GRows.nil (w : World) (base : Nat) (e : TypeId) : GRows w base e ([] : List (κ × Value)) [] := ⟨rfl, List.nodup_nil, Fam.nil _ _ _⟩
end
section
variable {κ : Type} [DecidableEq κ] {w w' : World} {base : Nat} {e : TypeId} {lm : List (κ × Value)} {G : List (κ × List Nat)}
def rowOf (G : List (κ × List Nat)) (x : κ) : List Nat := (look G x).getD []
def valOf (lm : List (κ × Value)) (x : κ) : Value := (look lm x).getD (.slice none 0 0)
theorem look_idx {α : Type} {l : List (κ × α)} {x : κ} (h : x ∈ l.map (·.1)) : ∃ j, ∃ hj : j < l.length, l[j].1 = x ∧ look l x = some l[j].2 ∧ ∀ i (_ : i < l.length), i < j → l[i].1 ≠ x := by
  induction l with
  | nil => simp at h
  | cons p l ih =>
    by_cases hp : p.1 = x
    · exact ⟨0, by simp, hp, by simp [look, hp], fun i _ hi => by omega⟩
    · simp only [List.map_cons, List.mem_cons] at h
      obtain ⟨j, hj, h1, h2, h3⟩ := ih (h.resolve_left fun e => hp e.symm)
      refine ⟨j + 1, by simpa using hj, by simpa using h1, by simp [look, hp, h2], fun i hi hij => ?_⟩
      cases i with
      | zero => simpa using hp
      | succ i => simpa using h3 i (by simpa using hi) (by omega)
theorem GRows.at_ (h : GRows w base e lm G) {x : κ} (hx : x ∈ G.map (·.1)) : ∃ j, ∃ h1 : j < lm.length, ∃ h2 : j < G.length, lm[j].1 = x ∧ G[j].1 = x ∧ look lm x = some lm[j].2 ∧ look G x = some G[j].2 ∧ (∀ i (hi : i < lm.length), i ≠ j → lm[i].1 ≠ x) ∧ (∀ i (hi : i < G.length), i ≠ j → G[i].1 ≠ x) := by
  obtain ⟨j, hj, e1, e2, _⟩ := look_idx hx
  have hl : lm.length = G.length := by have := congrArg List.length h.keys; simpa using this
  have hk : ∀ i (hi : i < lm.length), lm[i].1 = (G[i]'(by omega)).1 := fun i hi => by
    have : (lm.map (·.1))[i]'(by simpa using hi) = (G.map (·.1))[i]'(by simp; omega) := by simp only [h.keys]
    simpa using this
  have hG : ∀ i (hi : i < G.length), i ≠ j → G[i].1 ≠ x := fun i hi hne he => hne ((List.getElem_inj (h₀ := by simpa using hi) (h₁ := by simpa using hj) h.nodup).1 (by simp [he, e1]))
  have hL : ∀ i (hi : i < lm.length), i ≠ j → lm[i].1 ≠ x := fun i hi hne => by rw [hk i hi]; exact hG i (by omega) hne
  have hjl : j < lm.length := by omega
  refine ⟨j, hjl, hj, by rw [hk j hjl, e1], e1, ?_, e2, hL, hG⟩
  have hx2 : x ∈ lm.map (·.1) := by rw [h.keys]; exact hx
  obtain ⟨j', hj', f1, f2, _⟩ := look_idx hx2
  have : j' = j := Decidable.byContradiction fun hne => hL j' hj' hne f1
  subst this
  exact f2
/-- The row at a key. -/
theorem GRows.row (h : GRows w base e lm G) (x : κ) : w.ownsRow base e 1 (valOf lm x) (rowOf G x).length ((rowOf G x).map encI) := by
  unfold valOf rowOf
  by_cases hx : x ∈ G.map (·.1)
  · obtain ⟨j, h1, h2, _, _, e1, e2, _⟩ := h.at_ hx
    rw [e1, e2]
    have := h.fam.own j (by simpa using h1) (by simpa using h2)
    simpa using this
  · rw [(look_none G x).2 hx, (look_none lm x).2 (by rw [h.keys]; exact hx)]
    exact World.ownsRow_nil _ _ _ _
theorem GRows.ent (h : GRows w base e lm G) (x : κ) : GRows w base e (ent lm x (.slice none 0 0)) (ent G x []) := by
  unfold Words.ent
  by_cases hx : x ∈ G.map (·.1)
  · rw [if_pos ((look_isSome lm x).2 (by rw [h.keys]; exact hx)), if_pos ((look_isSome G x).2 hx)]
    exact h
  · rw [if_neg (by rw [look_isSome, h.keys]; exact hx), if_neg (by rw [look_isSome]; exact hx)]
    refine ⟨by simp [h.keys], ?_, ?_⟩
    · rw [List.map_append]
      exact List.nodup_append.2 ⟨h.nodup, by simp, fun a ha c hc e => by simp at hc; subst hc; exact hx (e ▸ ha)⟩
    · rw [List.map_append, List.map_append]
      exact h.fam.snoc_nil
theorem ent_keys {α : Type} (l : List (κ × α)) (x : κ) (z : α) (y : κ) : y ∈ (ent l x z).map (·.1) ↔ y = x ∨ y ∈ l.map (·.1) := by
  unfold Words.ent
  by_cases hx : x ∈ l.map (·.1)
  · rw [if_pos ((look_isSome l x).2 hx)]
    exact ⟨.inr, fun h => h.elim (fun e => e ▸ hx) id⟩
  · rw [if_neg (by rw [look_isSome]; exact hx)]
    simp [or_comm]
theorem look_ent {α : Type} (l : List (κ × α)) (x y : κ) (z : α) : (look (ent l x z) y).getD z = (look l y).getD z := by
  unfold Words.ent
  by_cases hx : x ∈ l.map (·.1)
  · rw [if_pos ((look_isSome l x).2 hx)]
  · rw [if_neg (by rw [look_isSome]; exact hx), ← put_new z hx, look_put]
    by_cases h : x = y
    · subst h; rw [if_pos rfl, (look_none l x).2 hx]; rfl
    · rw [if_neg h]
/-- The row at a key is made anew. -/
theorem GRows.put (h : GRows w base e lm G) {x : κ} (hx : x ∈ G.map (·.1)) {v' : Value} {L' : List Nat} (hown : w'.ownsRow base e 1 v' L'.length (L'.map encI)) (hg : w.grownBy w' (valOf lm x).ownBlock) (hat : v'.ownBlock = (valOf lm x).ownBlock ∨ ∃ k, v'.ownBlock = some k ∧ w.heap.size ≤ k) :
    GRows w' base e (put lm x v') (put G x L') := by
  obtain ⟨j, h1, h2, k1, k2, e1, e2, n1, n2⟩ := h.at_ hx
  have hv : valOf lm x = lm[j].2 := by unfold valOf; rw [e1]; rfl
  rw [hv] at hg hat
  rw [put_at v' h1 k1 n1, put_at L' h2 k2 n2]
  have ek : (G.set j (x, L')).map (·.1) = G.map (·.1) := by
    rw [List.map_set]
    refine List.ext_getElem (by simp) fun i a b => ?_
    rw [List.getElem_set]
    split
    · rename_i hij; subst hij; simp [k2]
    · rfl
  have el : (lm.set j (x, v')).map (·.1) = lm.map (·.1) := by
    rw [List.map_set]
    refine List.ext_getElem (by simp) fun i a b => ?_
    rw [List.getElem_set]
    split
    · rename_i hij; subst hij; simp [k1]
    · rfl
  refine ⟨by rw [el, ek, h.keys], by rw [ek]; exact h.nodup, ?_⟩
  rw [List.map_set, List.map_set]
  exact h.fam.set (by simpa using h1) hown (by simpa using hg) (by simpa using hat)
theorem rowOf_put (G : List (κ × List Nat)) (x y : κ) (L : List Nat) : rowOf (put G x L) y = if x = y then L else rowOf G y := by
  unfold rowOf
  rw [look_put]
  split <;> rfl
end
theorem ints_own {w : World} {base : Nat} {e : TypeId} {v : Value} {g : List Nat} (h : w.ownsRow base e 1 v g.length (g.map encI)) : Sl 1 RInt w w.heap.size v (g.map fun n : Nat => (n : Int)) := by
  refine Sl.of_own (by simpa using h) fun i a hi => ?_
  unfold RInt
  rw [List.getElem?_map] at hi
  obtain ⟨p, hp, rfl⟩ := Option.map_eq_some_iff.1 hi
  obtain ⟨hlt, rfl⟩ := List.getElem?_eq_some_iff.1 hp
  rw [Nat.mul_one, List.drop_eq_getElem_cons (by simpa using hlt)]
  simp [encI]
end Go.Words
