/- Plain: all pairs of numbers in their order, and the edges among them; no program in sight. -/
import Derived.Test.YtpbdcppaiafbgaaGreatHL
namespace Go.Mesh
def rowE (n a : Nat) : List (Int × Int) := ((List.range n).filter fun b => decide (a < b)).map fun b : Nat => ((a : Int), (b : Int))
def allE (n : Nat) : List (Int × Int) := (List.range n).flatMap (rowE n)
def preE (n a b : Nat) : List (Int × Int) := (List.range a).flatMap (rowE n) ++ ((List.range b).filter fun b => decide (a < b)).map fun b : Nat => ((a : Int), (b : Int))
theorem preE_start (n a : Nat) : preE n a (a + 1) = (List.range a).flatMap (rowE n) := by
  unfold preE
  have : ((List.range (a + 1)).filter fun b => decide (a < b)) = [] := List.filter_eq_nil_iff.2 fun b hb => by
    have := List.mem_range.1 hb
    simp; omega
  rw [this]; simp
theorem preE_step {n a b : Nat} (h : a < b) : preE n a (b + 1) = preE n a b ++ [((a : Int), (b : Int))] := by
  unfold preE
  rw [List.range_succ, List.filter_append, List.map_append, ← List.append_assoc]
  simp [h]
theorem preE_next (n a : Nat) : preE n a n = (List.range (a + 1)).flatMap (rowE n) := by
  unfold preE rowE
  rw [List.range_succ, List.flatMap_append]
  simp
theorem mem_allE {n : Nat} {e : Int × Int} : e ∈ allE n ↔ 0 ≤ e.1 ∧ e.1 < e.2 ∧ e.2 < n := by
  unfold allE rowE
  simp only [List.mem_flatMap, List.mem_range, List.mem_map, List.mem_filter, decide_eq_true_eq]
  constructor
  · rintro ⟨a, ha, b, ⟨hb, hab⟩, rfl⟩
    simp only []
    omega
  · rintro ⟨h1, h2, h3⟩
    exact ⟨e.1.toNat, by omega, e.2.toNat, ⟨by omega, by omega⟩, Prod.ext (by simp only []; omega) (by simp only []; omega)⟩
theorem allE_sorted (n : Nat) : (allE n).Pairwise ltE := by
  unfold allE
  refine List.pairwise_flatMap.2 ⟨fun a _ => ?_, ?_⟩
  · unfold rowE
    refine List.pairwise_map.2 ?_
    refine List.Pairwise.filter _ ?_
    refine List.pairwise_lt_range.imp fun {x y} h => ?_
    unfold ltE
    exact .inr ⟨rfl, by simp only []; omega⟩
  · refine List.pairwise_lt_range.imp fun {x y} h p hp q hq => ?_
    unfold rowE at hp hq
    obtain ⟨_, _, rfl⟩ := List.mem_map.1 hp
    obtain ⟨_, _, rfl⟩ := List.mem_map.1 hq
    unfold ltE
    exact .inl (by simp only []; omega)
open Classical in
theorem Surf.edges_are {N : Int} {T : List T3} (hs : Surf N T) : EdgesIs T ((allE N.toNat).filter fun e => decide (∃ c, c < 3 * T.length ∧ e = ek T c)) := by
  refine ⟨(allE_sorted _).filter _, fun e => ?_⟩
  rw [List.mem_filter, decide_eq_true_eq, mem_allE]
  refine ⟨fun h => h.2, fun h => ⟨?_, h⟩⟩
  obtain ⟨c, hc, rfl⟩ := h
  have h1 := hs.rng _ hc
  have h2 := hs.rng _ (nx_lt hc)
  have h3 := hs.loop _ hc
  have h0 := hs.n0
  unfold ek
  simp only []
  omega
theorem cut_all {N : Int} {T : List T3} {C Es : List (Int × Int)} (hs : Surf N T) (he : EdgesIs T Es) (hC : ∀ e ∈ C, e.1 < e.2 → ∃ c, c < 3 * T.length ∧ e = ek T c) :
    (allE N.toNat).filter (fun e => decide (e ∈ C)) = Es.filter fun e => decide (e ∈ C) := by
  rw [edges_one he hs.edges_are, List.filter_filter]
  refine List.filter_congr fun e hm => ?_
  have hlt := (mem_allE.1 hm).2.1
  by_cases h : e ∈ C
  · have h9 := hC e h hlt
    simp [h, h9]
  · simp [h]
theorem preE_len (n a b : Nat) : (preE n a b).length ≤ a * n + b := by
  have h1 : ∀ a : Nat, ((List.range a).flatMap (rowE n)).length ≤ a * n := fun a => by
    induction a with
    | zero => simp
    | succ a ih =>
      have h2 : (rowE n a).length ≤ n := by
        unfold rowE
        rw [List.length_map]
        exact Nat.le_trans (List.length_filter_le _ _) (by rw [List.length_range]; exact Nat.le_refl _)
      rw [List.range_succ, List.flatMap_append, List.length_append, Nat.succ_mul]
      simp only [List.flatMap_cons, List.flatMap_nil, List.append_nil]
      omega
  unfold preE
  rw [List.length_append, List.length_map]
  have h3 := List.length_filter_le (fun b => decide (a < b)) (List.range b)
  rw [List.length_range] at h3
  have := h1 a
  omega
def parP (T X : List T3) (C : List (Int × Int)) (n a b : Nat) : List P4 := ((preE n a b).filter fun e => decide (e ∈ C)).map (pairE T X)
section
variable {T X : List T3} {C : List (Int × Int)} {n a b : Nat}
theorem parP_start (T X : List T3) (C : List (Int × Int)) (n : Nat) : parP T X C n 0 1 = [] := by unfold parP; rw [preE_start]; rfl
theorem parP_no (hab : a < b) (h : ((a : Int), (b : Int)) ∉ C) : parP T X C n a (b + 1) = parP T X C n a b := by
  unfold parP
  rw [preE_step hab, List.filter_append, List.filter_cons_of_neg (by simpa using h), List.filter_nil, List.append_nil]
theorem parP_yes (hab : a < b) (h : ((a : Int), (b : Int)) ∈ C) : parP T X C n a (b + 1) = parP T X C n a b ++ [pairE T X ((a : Int), (b : Int))] := by
  unfold parP
  rw [preE_step hab, List.filter_append, List.filter_cons_of_pos (by simpa using h), List.filter_nil, List.map_append]; rfl
theorem parP_next : parP T X C n (a + 1) (a + 1 + 1) = parP T X C n a n := by unfold parP; rw [preE_next, preE_start]
theorem parP_end : parP T X C n n (n + 1) = ((allE n).filter fun e => decide (e ∈ C)).map (pairE T X) := by unfold parP; rw [preE_start]; rfl
theorem parP_len : (parP T X C n a b).length ≤ a * n + b := by
  unfold parP
  rw [List.length_map]
  exact Nat.le_trans (List.length_filter_le _ _) (preE_len n a b)
end
theorem AlongC.one {N : Int} {T : List T3} {l : List (Int × Int)} {c d : Int} (h : AlongC N T l c) (k : AlongC N T l d) : c = d := by
  have fail : ∀ (a : Nat) (ha : a < l.length) (x : Int), addC T (l.take a) l[a] = x → x ≠ 0 → ¬ Clean T l := fun a ha x h1 h2 h3 => h2 (h1.symm.trans (h3 a ha))
  rcases h with ⟨h1, h2⟩ | ⟨h1, a, ha, h2, h3, h4⟩ | ⟨h1, h2, h3⟩
  · rcases k with ⟨_, k2⟩ | ⟨k1, _⟩ | ⟨k1, _⟩
    · omega
    · exact absurd k1 h1
    · exact absurd k1 h1
  · rcases k with ⟨k1, _⟩ | ⟨_, b, hb, k2, k3, k4⟩ | ⟨_, k2, _⟩
    · exact absurd h1 k1
    · rcases Nat.lt_trichotomy a b with h | h | h
      · exact absurd (h3.symm.trans (k2 a ha h)) h4
      · subst h; exact h3.symm.trans k3
      · exact absurd (k3.symm.trans (h2 b hb h)) k4
    · exact absurd k2 (fail a ha c h3 h4)
  · rcases k with ⟨k1, _⟩ | ⟨_, b, hb, k2, k3, k4⟩ | ⟨_, _, k3⟩
    · exact absurd h1 k1
    · exact absurd h2 (fail b hb d k3 k4)
    · rcases h3 with ⟨a1, a2⟩ | ⟨a1, a2, a3⟩ | ⟨a1, a2, a3⟩ <;> rcases k3 with ⟨b1, b2⟩ | ⟨b1, b2, b3⟩ | ⟨b1, b2, b3⟩ <;> first | omega | (rw [a1] at b1; cases b1)
end Go.Mesh
