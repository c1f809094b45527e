/- Plain: runs of pairs of a loop's edges (sew, ref20); no program in sight. -/
import Derived.Test.YtpbdcppaiafbgaaMesh
namespace Go.Mesh
/-- The pairs of places that a run tells. -/
def exR (r : T3) : List (Int × Int) := (List.range r.2.2.toNat).map fun i : Nat => (r.1 + (i : Int), r.2.1 - (i : Int))
/-- A pair more: it goes on with the last run, or begins one. -/
def addR (R : List T3) (a b : Int) : List T3 := match R.getLast? with
  | none => [(a, b, 1)]
  | some r => if a = r.1 + r.2.2 ∧ b = r.2.1 - r.2.2 then R.dropLast ++ [(r.1, r.2.1, r.2.2 + 1)] else R ++ [(a, b, 1)]
def runsL (P : List (Int × Int)) : List T3 := P.foldl (fun R p => addR R p.1 p.2) []
theorem runsL_snoc (P : List (Int × Int)) (p : Int × Int) : runsL (P ++ [p]) = addR (runsL P) p.1 p.2 := by unfold runsL; rw [List.foldl_append]; rfl
theorem exR_one (a b : Int) : exR (a, b, 1) = [(a, b)] := by simp [exR]
theorem exR_more {a b l : Int} (hl : 0 ≤ l) : exR (a, b, l + 1) = exR (a, b, l) ++ [(a + l, b - l)] := by
  obtain ⟨n, rfl⟩ : ∃ n : Nat, l = n := ⟨l.toNat, by omega⟩
  unfold exR
  simp only
  rw [show ((n : Int) + 1).toNat = n + 1 by omega, show ((n : Int)).toNat = n by omega, List.range_succ, List.map_append]
  rfl
theorem last_split {R : List T3} {r : T3} (h : R.getLast? = some r) : R = R.dropLast ++ [r] := by
  have hne : R ≠ [] := fun e => by rw [e] at h; cases h
  have h1 := List.dropLast_concat_getLast hne
  rw [List.getLast?_eq_some_getLast hne] at h
  rw [Option.some.inj h] at h1
  exact h1.symm
theorem snoc_ind {α : Type} {motive : List α → Prop} (h0 : motive []) (h1 : ∀ l a, motive l → motive (l ++ [a])) : ∀ l, motive l := fun l => by
  have key : ∀ m : List α, motive m.reverse := fun m => by
    induction m with
    | nil => exact h0
    | cons a m ih => rw [List.reverse_cons]; exact h1 _ a ih
  have := key l.reverse
  rwa [List.reverse_reverse] at this
/-- A pair more, told. -/
theorem addR_all {R : List T3} {a b : Int} (hR : ∀ r ∈ R, 1 ≤ r.2.2) : (addR R a b).flatMap exR = R.flatMap exR ++ [(a, b)] ∧ ∀ r ∈ addR R a b, 1 ≤ r.2.2 := by
  unfold addR
  cases h : R.getLast? with
  | none =>
    have : R = [] := List.getLast?_eq_none_iff.1 h
    subst this
    simp [exR_one]
  | some r =>
    have hs := last_split h
    have hr : r ∈ R := by rw [hs]; simp
    have hr1 := hR r hr
    simp only
    split
    · rename_i hc
      obtain ⟨c1, c2⟩ := hc
      have hex : exR (r.1, r.2.1, r.2.2 + 1) = exR r ++ [(a, b)] := by
        have := exR_more (a := r.1) (b := r.2.1) (l := r.2.2) (by omega)
        rw [this, c1, c2]
      refine ⟨?_, fun x hx => ?_⟩
      · rw [List.flatMap_append, List.flatMap_cons, List.flatMap_nil, List.append_nil, hex]
        conv => rhs; rw [hs]
        rw [List.flatMap_append, List.flatMap_cons, List.flatMap_nil, List.append_nil, List.append_assoc]
      · rcases List.mem_append.1 hx with h1 | h1
        · exact hR x (List.dropLast_subset _ h1)
        · rw [List.mem_singleton.1 h1]; show 1 ≤ r.2.2 + 1; omega
    · refine ⟨by rw [List.flatMap_append, List.flatMap_cons, List.flatMap_nil, List.append_nil, exR_one], fun x hx => ?_⟩
      rcases List.mem_append.1 hx with h1 | h1
      · exact hR x h1
      · rw [List.mem_singleton.1 h1]; show (1 : Int) ≤ 1; omega
/-- Runs tell all. -/
theorem runs_all (P : List (Int × Int)) : (runsL P).flatMap exR = P ∧ ∀ r ∈ runsL P, 1 ≤ r.2.2 := by
  refine snoc_ind (motive := fun P => (runsL P).flatMap exR = P ∧ ∀ r ∈ runsL P, 1 ≤ r.2.2) ?_ (fun P p ih => ?_) P
  · exact ⟨rfl, fun r hr => by cases hr⟩
  · rw [runsL_snoc]
    obtain ⟨h1, h2⟩ := addR_all (a := p.1) (b := p.2) ih.2
    exact ⟨by rw [h1, ih.1], h2⟩
/-- Where the first places rise, no run begins within the one ahead, and no two could be one. -/
def Sep (R : List T3) : Prop := R.Pairwise (fun r s => r.1 + r.2.2 ≤ s.1) ∧ ∀ i r s, R[i]? = some r → R[i + 1]? = some s → ¬ (s.1 = r.1 + r.2.2 ∧ s.2.1 = r.2.1 - r.2.2)
theorem runs_end {P : List (Int × Int)} {p : Int × Int} (hp : P.getLast? = some p) : ∃ r, (runsL P).getLast? = some r ∧ r.1 + r.2.2 = p.1 + 1 ∧ r.2.1 - r.2.2 = p.2 - 1 := by
  have hs : P = P.dropLast ++ [p] := by
    have hne : P ≠ [] := fun e => by rw [e] at hp; cases hp
    have h1 := List.dropLast_concat_getLast hne
    rw [List.getLast?_eq_some_getLast hne] at hp
    rw [Option.some.inj hp] at h1
    exact h1.symm
  rw [hs, runsL_snoc]
  unfold addR
  cases h : (runsL P.dropLast).getLast? with
  | none => exact ⟨(p.1, p.2, 1), by simp, by simp, by simp⟩
  | some r =>
    simp only
    split
    · rename_i hc
      refine ⟨(r.1, r.2.1, r.2.2 + 1), by simp, ?_, ?_⟩
      · show r.1 + (r.2.2 + 1) = p.1 + 1; omega
      · show r.2.1 - (r.2.2 + 1) = p.2 - 1; omega
    · exact ⟨(p.1, p.2, 1), by simp, by simp, by simp⟩
theorem sep_add {R : List T3} {a b : Int} (h : Sep R) (hR : ∀ r ∈ R, r.1 + r.2.2 ≤ a) : Sep (addR R a b) := by
  unfold addR
  cases hl : R.getLast? with
  | none =>
    have : R = [] := List.getLast?_eq_none_iff.1 hl
    subst this
    refine ⟨by simp, fun i r s h1 h2 => ?_⟩
    have := (List.getElem?_eq_some_iff.1 h2).1
    simp at this
  | some r =>
    have hs := last_split hl
    obtain ⟨h1, h2⟩ := h
    simp only
    have hlen : R.length = R.dropLast.length + 1 := by
      have := congrArg List.length hs
      rw [List.length_append, List.length_singleton] at this
      exact this
    split
    · rename_i hc
      constructor
      · rw [hs] at h1
        obtain ⟨p1, p2, p3⟩ := List.pairwise_append.1 h1
        exact List.pairwise_append.2 ⟨p1, by simp, fun x hx y hy => by
          rw [List.mem_singleton.1 hy]
          exact p3 x hx r (by simp)⟩
      · intro i x y hx hy
        have hyl := (List.getElem?_eq_some_iff.1 hy).1
        rw [List.length_append, List.length_singleton] at hyl
        rw [List.getElem?_append_left (by omega)] at hx
        have hx2 : R[i]? = some x := by
          rw [hs, List.getElem?_append_left (by omega)]; exact hx
        by_cases hi : i + 1 < R.dropLast.length
        · rw [List.getElem?_append_left hi] at hy
          exact h2 i x y hx2 (by rw [hs, List.getElem?_append_left hi]; exact hy)
        · rw [List.getElem?_append_right (by omega), show i + 1 - R.dropLast.length = 0 by omega] at hy
          have hy := Option.some.inj hy
          have hr : R[i + 1]? = some r := by
            rw [hs, List.getElem?_append_right (by omega), show i + 1 - R.dropLast.length = 0 by omega]; rfl
          have := h2 i x r hx2 hr
          rw [← hy]
          exact this
    · rename_i hc
      constructor
      · exact List.pairwise_append.2 ⟨h1, by simp, fun x hx y hy => by
          rw [List.mem_singleton.1 hy]
          exact hR x hx⟩
      · intro i x y hx hy
        have hyl := (List.getElem?_eq_some_iff.1 hy).1
        rw [List.length_append, List.length_singleton] at hyl
        rw [List.getElem?_append_left (by omega)] at hx
        by_cases hi : i + 1 < R.length
        · rw [List.getElem?_append_left hi] at hy
          exact h2 i x y hx hy
        · rw [List.getElem?_append_right (by omega), show i + 1 - R.length = 0 by omega] at hy
          have hy := Option.some.inj hy
          have hr : R[i]? = some r := by
            rw [hs, List.getElem?_append_right (by omega), show i - R.dropLast.length = 0 by omega]; rfl
          rw [hx] at hr
          obtain rfl := Option.some.inj hr
          rw [← hy]
          exact hc
/-- Runs of places that rise are apart. -/
theorem runs_sep (P : List (Int × Int)) (hP : P.Pairwise fun p q => p.1 < q.1) : Sep (runsL P) ∧ ∀ a : Int, (∀ p ∈ P, p.1 < a) → ∀ r ∈ runsL P, r.1 + r.2.2 ≤ a := by
  have hlast : ∀ P : List (Int × Int), ∀ a : Int, (∀ p ∈ P, p.1 < a) → ∀ r ∈ runsL P, r.1 + r.2.2 ≤ a := fun P a ha r hr => by
    have h1 := (runs_all P).2 r hr
    have h2 : (r.1 + (((r.2.2 - 1).toNat : Nat) : Int), r.2.1 - (((r.2.2 - 1).toNat : Nat) : Int)) ∈ P := by
      rw [← (runs_all P).1]
      refine List.mem_flatMap.2 ⟨r, hr, ?_⟩
      unfold exR
      exact List.mem_map.2 ⟨(r.2.2 - 1).toNat, List.mem_range.2 (by omega), rfl⟩
    have := ha _ h2
    simp only at this
    omega
  refine ⟨?_, hlast P⟩
  revert hP
  refine snoc_ind (motive := fun P : List (Int × Int) => (P.Pairwise fun p q => p.1 < q.1) → Sep (runsL P)) ?_ (fun P p ih hP => ?_) P
  · intro _
    exact ⟨List.Pairwise.nil, fun i r s h1 => by simp [runsL] at h1⟩
  · obtain ⟨p1, _, p3⟩ := List.pairwise_append.1 hP
    rw [runsL_snoc]
    exact sep_add (ih p1) (hlast P p.1 fun q hq => p3 q hq p (by simp))
/-- Runs of pairs of places of a loop of n are such as Pairs takes. -/
theorem runs_fit {P : List (Int × Int)} {n : Int} (hP : ∀ p ∈ P, 0 ≤ p.1 ∧ p.1 < p.2 ∧ p.2 < n) : ∀ r ∈ runsL P, 1 ≤ r.2.2 ∧ r.2.2 ≤ n ∧ 0 ≤ r.1 ∧ 0 ≤ r.2.1 ∧ r.2.1 < n ∧ 2 * r.2.2 - 1 ≤ r.2.1 - r.1 := fun r hr => by
  have h1 := (runs_all P).2 r hr
  have hm : ∀ i : Nat, (i : Int) < r.2.2 → 0 ≤ r.1 + (i : Int) ∧ r.1 + (i : Int) < r.2.1 - (i : Int) ∧ r.2.1 - (i : Int) < n := fun i hi => by
    refine hP (r.1 + (i : Int), r.2.1 - (i : Int)) ?_
    rw [← (runs_all P).1]
    refine List.mem_flatMap.2 ⟨r, hr, ?_⟩
    unfold exR
    exact List.mem_map.2 ⟨i, List.mem_range.2 (by omega), rfl⟩
  have h0 := hm 0 (by omega)
  have h9 := hm (r.2.2 - 1).toNat (by omega)
  omega
/-- The pair of places that begins at a. -/
def toP (l : List (Int × Int)) (a : Int) : Option (Int × Int) := l.find? fun p => decide (min p.1 p.2 = a)
/-- The pairs by their lesser places, rising, the lesser first. -/
def sortP (l : List (Int × Int)) (n : Nat) : List (Int × Int) := (List.range n).filterMap fun a : Nat => (toP l (a : Int)).map fun p => (min p.1 p.2, max p.1 p.2)
theorem toP_some {l : List (Int × Int)} {a : Int} {p : Int × Int} (h : toP l a = some p) : p ∈ l ∧ min p.1 p.2 = a := by
  unfold toP at h
  exact ⟨List.mem_of_find?_eq_some h, by simpa using List.find?_some h⟩
theorem sortP_mem {l : List (Int × Int)} {n : Nat} {q : Int × Int} (h : q ∈ sortP l n) : ∃ p ∈ l, q = (min p.1 p.2, max p.1 p.2) ∧ 0 ≤ q.1 ∧ q.1 < n := by
  unfold sortP at h
  obtain ⟨a, ha, h1⟩ := List.mem_filterMap.1 h
  obtain ⟨p, hp, rfl⟩ := Option.map_eq_some_iff.1 h1
  obtain ⟨h2, h3⟩ := toP_some hp
  have := List.mem_range.1 ha
  exact ⟨p, h2, rfl, by show 0 ≤ min p.1 p.2; omega, by show min p.1 p.2 < (n : Int); omega⟩
theorem sortP_has {l : List (Int × Int)} {n : Nat} (hd : ∀ p ∈ l, ∀ q ∈ l, min p.1 p.2 = min q.1 q.2 → p = q) {p : Int × Int} (hp : p ∈ l) (h0 : 0 ≤ min p.1 p.2) (hn : min p.1 p.2 < n) : (min p.1 p.2, max p.1 p.2) ∈ sortP l n := by
  unfold sortP
  refine List.mem_filterMap.2 ⟨(min p.1 p.2).toNat, List.mem_range.2 (by omega), ?_⟩
  have e : (((min p.1 p.2).toNat : Nat) : Int) = min p.1 p.2 := by omega
  rw [e]
  cases h : toP l (min p.1 p.2) with
  | none =>
    unfold toP at h
    have := List.find?_eq_none.1 h p hp
    simp at this
  | some q =>
    obtain ⟨h1, h2⟩ := toP_some h
    rw [hd q h1 p hp h2]
    rfl
theorem sortP_rise (l : List (Int × Int)) (n : Nat) : (sortP l n).Pairwise fun p q => p.1 < q.1 := by
  unfold sortP
  refine List.Pairwise.filterMap _ (R := fun a b : Nat => a < b) (fun a b hab p hp q hq => ?_) List.pairwise_lt_range
  obtain ⟨p', hp', rfl⟩ := Option.map_eq_some_iff.1 hp
  obtain ⟨q', hq', rfl⟩ := Option.map_eq_some_iff.1 hq
  have h1 := (toP_some hp').2
  have h2 := (toP_some hq').2
  show min p'.1 p'.2 < min q'.1 q'.2
  omega
theorem rise_eq {P Q : List (Int × Int)} (hP : P.Pairwise fun p q => p.1 < q.1) (hQ : Q.Pairwise fun p q => p.1 < q.1) (h : ∀ p, p ∈ P ↔ p ∈ Q) : P = Q := by
  have n1 : P.Nodup := hP.imp fun {a b} hab e => by subst e; omega
  have n2 : Q.Nodup := hQ.imp fun {a b} hab e => by subst e; omega
  exact List.Perm.eq_of_pairwise (le := fun p q : Int × Int => p.1 < q.1) (fun a b _ _ h1 h2 => by omega) hP hQ ((List.perm_ext_iff_of_nodup n1 n2).2 h)
/-- As many as there are. -/
theorem sortP_len {l : List (Int × Int)} {n : Nat} (hd : l.Pairwise fun p q => min p.1 p.2 ≠ min q.1 q.2) (hr : ∀ p ∈ l, 0 ≤ min p.1 p.2 ∧ min p.1 p.2 < n) : (sortP l n).length = l.length := by
  have hinj : ∀ p ∈ l, ∀ q ∈ l, min p.1 p.2 = min q.1 q.2 → p = q := fun p hp q hq e => by
    refine Classical.byContradiction fun hne => ?_
    obtain ⟨i, hi, rfl⟩ := List.getElem_of_mem hp
    obtain ⟨j, hj, rfl⟩ := List.getElem_of_mem hq
    have hpw := List.pairwise_iff_getElem.1 hd
    rcases Nat.lt_trichotomy i j with h1 | h1 | h1
    · exact hpw i j hi hj h1 e
    · subst h1; exact hne rfl
    · exact hpw j i hj hi h1 e.symm
  have n1 : (sortP l n).Nodup := (sortP_rise l n).imp fun {a b} hab e => by subst e; omega
  have n2 : (l.map fun p => (min p.1 p.2, max p.1 p.2)).Nodup := by
    refine List.Pairwise.map _ (fun p q h => ?_) hd
    intro e
    exact h (congrArg Prod.fst e)
  have hp := (List.perm_ext_iff_of_nodup n1 n2).2 fun q => by
    constructor
    · intro h
      obtain ⟨p, h1, rfl, _⟩ := sortP_mem h
      exact List.mem_map.2 ⟨p, h1, rfl⟩
    · intro h
      obtain ⟨p, h1, rfl⟩ := List.mem_map.1 h
      exact sortP_has hinj h1 (hr p h1).1 (hr p h1).2
  rw [hp.length_eq, List.length_map]
/-- What is sorted, stays. -/
theorem sortP_again {P : List (Int × Int)} {n : Nat} (hP : P.Pairwise fun p q => p.1 < q.1) (hr : ∀ p ∈ P, 0 ≤ p.1 ∧ p.1 < p.2 ∧ p.2 < n) : sortP P n = P := by
  have hmm : ∀ p ∈ P, (min p.1 p.2, max p.1 p.2) = p := fun p hp => by
    have := hr p hp
    exact Prod.ext (by show min p.1 p.2 = p.1; omega) (by show max p.1 p.2 = p.2; omega)
  refine rise_eq (sortP_rise P n) hP fun q => ?_
  constructor
  · intro h
    obtain ⟨p, h1, rfl, _⟩ := sortP_mem h
    rw [hmm p h1]; exact h1
  · intro h
    have hq := hr q h
    have := sortP_has (n := n) (fun p hp r hr' e => by
      have h1 := hr p hp
      have h2 := hr r hr'
      refine Classical.byContradiction fun hne => ?_
      obtain ⟨i, hi, rfl⟩ := List.getElem_of_mem hp
      obtain ⟨j, hj, rfl⟩ := List.getElem_of_mem hr'
      have hpw := List.pairwise_iff_getElem.1 hP
      rcases Nat.lt_trichotomy i j with h3 | h3 | h3
      · have := hpw i j hi hj h3; omega
      · subst h3; exact hne rfl
      · have := hpw j i hj hi h3; omega) h (by omega) (by omega)
    rwa [hmm q h] at this
end Go.Mesh
