/- Plain: the edges of a loop, and the places of pairs of them (sew.Runs, sew.Pairs); no program in sight. -/
import Derived.Test.YtpbdcppaiafbgaaFB
import Derived.Test.YtpbdcppaiafbgaaFH
namespace Go.Mesh
/-- A loop's edge. -/
def edgeL (lo : List Int) (i : Nat) : Int × Int := (lo.getD ((i + 1) % lo.length) 0, lo.getD i 0)
theorem edgeL_inj {lo : List Int} (hn : lo.Nodup) {i j : Nat} (hi : i < lo.length) (hj : j < lo.length) (h : edgeL lo i = edgeL lo j) : i = j := by
  have h2 : lo.getD i 0 = lo.getD j 0 := congrArg Prod.snd h
  rw [List.getD_eq_getElem?_getD, List.getD_eq_getElem?_getD, List.getElem?_eq_getElem hi, List.getElem?_eq_getElem hj] at h2
  exact (List.getElem_inj (h₀ := hi) (h₁ := hj) hn).1 h2
def hasL (lo : List Int) (e : Int × Int) : Bool := (List.range lo.length).any fun i => edgeL lo i == e
theorem hasL_iff {lo : List Int} {e : Int × Int} : hasL lo e = true ↔ ∃ i, i < lo.length ∧ edgeL lo i = e := by
  unfold hasL
  rw [List.any_eq_true]
  constructor
  · rintro ⟨i, hi, h⟩
    exact ⟨i, List.mem_range.1 hi, by simpa using h⟩
  · rintro ⟨i, hi, h⟩
    exact ⟨i, List.mem_range.2 hi, by simpa using h⟩
/-- The place of an edge on a loop. -/
def plI (lo : List Int) (e : Int × Int) : Int := match leastFrom (fun i => edgeL lo i == e) 0 lo.length with
  | some i => (i : Int)
  | none => -1
theorem plI_has {lo : List Int} {e : Int × Int} (h : hasL lo e = true) : ∃ i : Nat, i < lo.length ∧ edgeL lo i = e ∧ plI lo e = i := by
  obtain ⟨i, hi, he⟩ := hasL_iff.1 h
  obtain ⟨d, hd⟩ := leastFrom_isSome (p := fun i => edgeL lo i == e) (n := lo.length) (Nat.zero_le i) (by omega) (by simpa using he)
  obtain ⟨h1, h2, h3, _⟩ := (leastFrom_some _ _ _ _).1 hd
  refine ⟨d, by omega, by simpa using h3, ?_⟩
  unfold plI
  rw [hd]
theorem plI_edge {lo : List Int} (hn : lo.Nodup) {i : Nat} (hi : i < lo.length) : plI lo (edgeL lo i) = i := by
  obtain ⟨j, h1, h2, h3⟩ := plI_has (hasL_iff.2 ⟨i, hi, rfl⟩)
  rw [h3, edgeL_inj hn h1 hi h2]
def plP (lo : List Int) (p : P4) : Int × Int := (plI lo p.1, plI lo p.2)
/-- All places of pairs. -/
def flP (P : List (Int × Int)) : List Int := P.flatMap fun p => [p.1, p.2]
def Apart (p q : Int × Int) : Prop := p.1 ≠ q.1 ∧ p.1 ≠ q.2 ∧ p.2 ≠ q.1 ∧ p.2 ≠ q.2
theorem flP_nodup : ∀ {P : List (Int × Int)}, (flP P).Nodup ↔ P.Pairwise Apart ∧ ∀ p ∈ P, p.1 ≠ p.2
  | [] => by simp [flP]
  | p :: P => by
    have ih := flP_nodup (P := P)
    have e : flP (p :: P) = p.1 :: p.2 :: flP P := rfl
    have hm : ∀ x, x ∈ flP P ↔ ∃ q ∈ P, x = q.1 ∨ x = q.2 := fun x => by
      unfold flP
      rw [List.mem_flatMap]
      simp
    rw [e, List.nodup_cons, List.nodup_cons, ih, List.pairwise_cons, List.mem_cons, hm, hm]
    constructor
    · rintro ⟨h1, h2, h3, h4⟩
      refine ⟨⟨fun q hq => ⟨fun h => h1 (.inr ⟨q, hq, .inl h⟩), fun h => h1 (.inr ⟨q, hq, .inr h⟩), fun h => h2 ⟨q, hq, .inl h⟩, fun h => h2 ⟨q, hq, .inr h⟩⟩, h3⟩, fun q hq => ?_⟩
      rcases List.mem_cons.1 hq with rfl | hq
      · exact fun h => h1 (.inl h)
      · exact h4 q hq
    · rintro ⟨⟨h1, h2⟩, h3⟩
      refine ⟨?_, ?_, h2, fun q hq => h3 q (List.mem_cons_of_mem _ hq)⟩
      · rintro (h | ⟨q, hq, h | h⟩)
        · exact h3 p (by simp) h
        · exact (h1 q hq).1 h
        · exact (h1 q hq).2.1 h
      · rintro ⟨q, hq, h | h⟩
        · exact (h1 q hq).2.2.1 h
        · exact (h1 q hq).2.2.2 h
theorem flP_map (lo : List Int) (l : List P4) : flP (l.map (plP lo)) = (edgs l).map (plI lo) := by
  induction l with
  | nil => rfl
  | cons p l ih =>
    have : flP ((p :: l).map (plP lo)) = plI lo p.1 :: plI lo p.2 :: flP (l.map (plP lo)) := rfl
    rw [this, ih]; rfl
theorem edgs_map (P : List (Int × Int)) (f : Int → Int × Int) : edgs (P.map fun p => (f p.1, f p.2)) = (flP P).map f := by
  induction P with
  | nil => rfl
  | cons p P ih =>
    have : edgs ((p :: P).map fun p => (f p.1, f p.2)) = f p.1 :: f p.2 :: edgs (P.map fun p => (f p.1, f p.2)) := rfl
    rw [this, ih]; rfl
theorem nodup_map_on {α β : Type} {f : α → β} : ∀ {l : List α}, (∀ x ∈ l, ∀ y ∈ l, f x = f y → x = y) → l.Nodup → (l.map f).Nodup
  | [], _, _ => List.nodup_nil
  | a :: l, hf, h => by
    rw [List.map_cons, List.nodup_cons]
    obtain ⟨h1, h2⟩ := List.nodup_cons.1 h
    refine ⟨fun hm => ?_, nodup_map_on (fun x hx y hy => hf x (List.mem_cons_of_mem _ hx) y (List.mem_cons_of_mem _ hy)) h2⟩
    obtain ⟨y, hy, he⟩ := List.mem_map.1 hm
    have := hf y (List.mem_cons_of_mem _ hy) a (by simp) he
    exact h1 (this ▸ hy)
/-- The places of pairs that all stand on a loop, each edge once. -/
theorem places_of {lo : List Int} {l : List P4} (hz : placedN (hasL lo) l = 0) : (l.map (plP lo)).Pairwise Apart ∧ ∀ p ∈ l.map (plP lo), p.1 ≠ p.2 ∧ 0 ≤ p.1 ∧ p.1 < lo.length ∧ 0 ≤ p.2 ∧ p.2 < lo.length := by
  have hz : (∀ e ∈ edgs l, hasL lo e = true) ∧ (edgs l).Nodup := by
    unfold placedN at hz
    split at hz
    · rename_i h1
      split at hz
      · rename_i h2
        exact ⟨List.all_eq_true.1 h1, h2⟩
      · cases hz
    · cases hz
  have hnd : (flP (l.map (plP lo))).Nodup := by
    rw [flP_map]
    refine nodup_map_on (fun x hx y hy he => ?_) hz.2
    obtain ⟨i, h1, h2, h3⟩ := plI_has (hz.1 x hx)
    obtain ⟨j, h4, h5, h6⟩ := plI_has (hz.1 y hy)
    rw [h3, h6] at he
    have : i = j := by omega
    rw [← h2, ← h5, this]
  obtain ⟨h1, h2⟩ := flP_nodup.1 hnd
  refine ⟨h1, fun p hp => ⟨h2 p hp, ?_⟩⟩
  obtain ⟨q, hq, rfl⟩ := List.mem_map.1 hp
  obtain ⟨i, h3, _, h4⟩ := plI_has (hz.1 q.1 (List.mem_flatMap.2 ⟨q, hq, by simp⟩))
  obtain ⟨j, h5, _, h6⟩ := plI_has (hz.1 q.2 (List.mem_flatMap.2 ⟨q, hq, by simp⟩))
  show 0 ≤ plI lo q.1 ∧ plI lo q.1 < _ ∧ 0 ≤ plI lo q.2 ∧ plI lo q.2 < _
  rw [h4, h6]
  omega
theorem apart_min {P : List (Int × Int)} (h : P.Pairwise Apart) : P.Pairwise fun p q => min p.1 p.2 ≠ min q.1 q.2 := h.imp fun {p q} h => by
  obtain ⟨h1, h2, h3, h4⟩ := h
  omega
theorem apart_mem {P : List (Int × Int)} (h : P.Pairwise Apart) : ∀ p ∈ P, ∀ q ∈ P, p = q ∨ Apart p q := fun p hp q hq => by
  obtain ⟨i, hi, rfl⟩ := List.getElem_of_mem hp
  obtain ⟨j, hj, rfl⟩ := List.getElem_of_mem hq
  have hpw := List.pairwise_iff_getElem.1 h
  rcases Nat.lt_trichotomy i j with h1 | h1 | h1
  · exact .inr (hpw i j hi hj h1)
  · subst h1; exact .inl rfl
  · obtain ⟨a, b, c, d⟩ := hpw j i hj hi h1
    exact .inr ⟨Ne.symm a, Ne.symm c, Ne.symm b, Ne.symm d⟩
/-- Sorted places are as they were. -/
theorem sort_apart {P : List (Int × Int)} {n : Nat} (h : P.Pairwise Apart) (hr : ∀ p ∈ P, p.1 ≠ p.2 ∧ 0 ≤ p.1 ∧ p.1 < n ∧ 0 ≤ p.2 ∧ p.2 < n) : (flP (sortP P n)).Nodup ∧ (∀ q ∈ sortP P n, 0 ≤ q.1 ∧ q.1 < q.2 ∧ q.2 < n) ∧ (sortP P n).length = P.length := by
  refine ⟨flP_nodup.2 ⟨(sortP_rise P n).imp_of_mem fun {a b} ha hb hab => ?_, fun q hq => ?_⟩, fun q hq => ?_, sortP_len (apart_min h) fun p hp => ?_⟩
  · obtain ⟨p, hp, rfl, _⟩ := sortP_mem ha
    obtain ⟨q, hq, rfl, _⟩ := sortP_mem hb
    rcases apart_mem h p hp q hq with rfl | ⟨h1, h2, h3, h4⟩
    · omega
    · unfold Apart
      simp only
      omega
  · obtain ⟨p, hp, rfl, _⟩ := sortP_mem hq
    have := hr p hp
    show min p.1 p.2 ≠ max p.1 p.2
    omega
  · obtain ⟨p, hp, rfl, _⟩ := sortP_mem hq
    have := hr p hp
    show 0 ≤ min p.1 p.2 ∧ min p.1 p.2 < max p.1 p.2 ∧ max p.1 p.2 < (n : Int)
    omega
  · have := hr p hp
    omega
/-- The pairs of edges at pairs of places. -/
def exP (lo : List Int) (P : List (Int × Int)) : List P4 := P.map fun p => (edgeL lo p.1.toNat, edgeL lo p.2.toNat)
theorem exP_places {lo : List Int} (hn : lo.Nodup) {P : List (Int × Int)} (hr : ∀ p ∈ P, 0 ≤ p.1 ∧ p.1 < lo.length ∧ 0 ≤ p.2 ∧ p.2 < lo.length) : (exP lo P).map (plP lo) = P := by
  unfold exP
  rw [List.map_map]
  conv => rhs; rw [← List.map_id P]
  apply List.map_congr_left
  intro p hp
  have := hr p hp
  show (plI lo (edgeL lo p.1.toNat), plI lo (edgeL lo p.2.toNat)) = p
  rw [plI_edge hn (by omega), plI_edge hn (by omega)]
  exact Prod.ext (by show ((p.1.toNat : Nat) : Int) = p.1; omega) (by show ((p.2.toNat : Nat) : Int) = p.2; omega)
theorem exP_placed {lo : List Int} (hn : lo.Nodup) {P : List (Int × Int)} (hr : ∀ p ∈ P, 0 ≤ p.1 ∧ p.1 < lo.length ∧ 0 ≤ p.2 ∧ p.2 < lo.length) (hd : (flP P).Nodup) : placedN (hasL lo) (exP lo P) = 0 := by
  have he : edgs (exP lo P) = (flP P).map fun x => edgeL lo x.toNat := by
    unfold exP
    rw [edgs_map P fun x => edgeL lo x.toNat]
  have hm : ∀ x ∈ flP P, 0 ≤ x ∧ x < lo.length := fun x hx => by
    obtain ⟨p, hp, h1⟩ := List.mem_flatMap.1 hx
    have := hr p hp
    simp at h1
    rcases h1 with rfl | rfl <;> omega
  refine placed_ok (List.all_eq_true.2 fun e h1 => ?_) ?_
  · rw [he] at h1
    obtain ⟨x, hx, rfl⟩ := List.mem_map.1 h1
    have := hm x hx
    exact hasL_iff.2 ⟨x.toNat, by omega, rfl⟩
  · rw [he]
    refine nodup_map_on (fun x hx y hy h1 => ?_) hd
    have i1 := hm x hx
    have i2 := hm y hy
    have := edgeL_inj hn (by omega) (by omega) h1
    omega
/-- A run that is one. -/
def okR (n : Int) (r : T3) : Prop := 1 ≤ r.2.2 ∧ r.2.2 ≤ n ∧ 0 ≤ r.1 ∧ 0 ≤ r.2.1 ∧ r.2.1 < n ∧ 2 * r.2.2 - 1 ≤ r.2.1 - r.1
/-- The runs of the first places. -/
theorem sortP_succ (P : List (Int × Int)) (a : Nat) : sortP P (a + 1) = sortP P a ++ ((toP P (a : Int)).map fun p => (min p.1 p.2, max p.1 p.2)).toList := by
  unfold sortP
  rw [List.range_succ, List.filterMap_append, List.filterMap_cons, List.filterMap_nil]
  cases toP P (a : Int) <;> rfl
theorem placed_all {has : Int × Int → Bool} {l : List P4} (h : placedN has l = 0) : ∀ p ∈ l, has p.1 = true ∧ has p.2 = true := fun p hp => by
  unfold placedN at h
  split at h
  · rename_i h1
    rw [List.all_eq_true] at h1
    exact ⟨h1 _ (List.mem_flatMap.2 ⟨p, hp, by simp⟩), h1 _ (List.mem_flatMap.2 ⟨p, hp, by simp⟩)⟩
  · cases h
end Go.Mesh
