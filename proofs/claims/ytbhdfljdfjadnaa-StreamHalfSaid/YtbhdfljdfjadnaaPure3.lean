/- Plain laws: a row's pieces fall in yield; the last front that yields most. -/
import Derived.Test.YtbhdfljdfjadnaaPure2
namespace Go.StreamP

/-- Yields at most as much. -/
def LeY (a b : B2) : Prop := a.2 * b.1 ≤ b.2 * a.1
theorem LeY.trans {a b c : B2} (h1 : LeY a b) (h2 : LeY b c) (ha : 0 ≤ a.1) (hb : 0 < b.1) (hc : 0 ≤ c.1) : LeY a c := by
  unfold LeY at *
  have e1 : a.2 * b.1 * c.1 ≤ b.2 * a.1 * c.1 := Int.mul_le_mul_of_nonneg_right h1 hc
  have e2 : b.2 * c.1 * a.1 ≤ c.2 * b.1 * a.1 := Int.mul_le_mul_of_nonneg_right h2 ha
  refine Int.le_of_mul_le_mul_right ?_ hb
  have e3 : a.2 * c.1 * b.1 = a.2 * b.1 * c.1 := by rw [Int.mul_assoc, Int.mul_comm c.1, ← Int.mul_assoc]
  have e4 : b.2 * a.1 * c.1 = b.2 * c.1 * a.1 := by rw [Int.mul_assoc, Int.mul_comm a.1, ← Int.mul_assoc]
  have e5 : c.2 * b.1 * a.1 = c.2 * a.1 * b.1 := by rw [Int.mul_assoc, Int.mul_comm b.1, ← Int.mul_assoc]
  omega
theorem bestTo_most (l : List B2) (hp : ∀ j, 1 ≤ j → j ≤ l.length → 0 < (tot (l.take j)).1) : ∀ k, 1 ≤ k → k ≤ l.length →
    (∀ j, 1 ≤ j → j ≤ k → LeY (tot (l.take j)) (tot (l.take (bestTo l k)))) ∧
    (∀ j, bestTo l k < j → j ≤ k → more (tot (l.take (bestTo l k))) (tot (l.take j)) = true)
  | 0, h, _ => by omega
  | k + 1, _, hk => by
    by_cases h0 : k = 0
    · subst h0
      rw [bestTo_one]
      refine ⟨fun j h1 h2 => ?_, fun j h1 h2 => by omega⟩
      have : j = 1 := by omega
      subst this
      exact Int.le_refl _
    · have ih := bestTo_most l hp k (by omega) (by omega)
      have hb := bestTo_bound l k
      have hbk : bestTo l k ≤ k := by rcases hb.2 with h | h; · exact h
                                      · omega
      unfold bestTo
      by_cases hm : more (tot (l.take (bestTo l k))) (tot (l.take (k + 1))) = true
      · rw [if_pos hm]
        refine ⟨fun j h1 h2 => ?_, fun j h1 h2 => ?_⟩
        · by_cases hj : j = k + 1
          · subst hj
            unfold more at hm
            unfold LeY
            have := of_decide_eq_true hm
            omega
          · exact ih.1 j h1 (by omega)
        · by_cases hj : j = k + 1
          · subst hj; exact hm
          · exact ih.2 j h1 (by omega)
      · rw [if_neg hm]
        refine ⟨fun j h1 h2 => ?_, fun j h1 h2 => by omega⟩
        by_cases hj : j = k + 1
        · subst hj
          exact Int.le_refl _
        · have e1 := ih.1 j h1 (by omega)
          have e2 : LeY (tot (l.take (bestTo l k))) (tot (l.take (k + 1))) := by
            unfold LeY
            unfold more at hm
            exact Int.not_lt.1 fun h9 => hm (decide_eq_true h9)
          have p1 := hp j h1 (by omega)
          have p2 := hp (bestTo l k) hb.1 (by omega)
          have p3 := hp (k + 1) (by omega) hk
          exact e1.trans e2 (by omega) p2 (by omega)
theorem cost_pos {l : List B2} (h : ∀ b ∈ l, GoodB b) (j : Nat) (h1 : 1 ≤ j) (h2 : j ≤ l.length) : 0 < (tot (l.take j)).1 := by
  have := tot_bound (l.take j) (good_take h j)
  have h3 : (l.take j).length = j := by rw [List.length_take]; omega
  omega
/-- The first piece yields no less than any front. -/
theorem first_most {l : List B2} (h : ∀ b ∈ l, GoodB b) (j : Nat) (hj : j ≤ l.length) : LeY (tot (l.take j)) (tot (l.take (firstN l))) := by
  by_cases h0 : j = 0
  · subst h0
    simp [LeY, tot_nil]
  · exact (bestTo_most l (cost_pos h) l.length (by omega) (Nat.le_refl _)).1 j (by omega) hj
/-- Behind the first piece a front yields less. -/
theorem first_last {l : List B2} (h : ∀ b ∈ l, GoodB b) (j : Nat) (h1 : firstN l < j) (hj : j ≤ l.length) : more (tot (l.take (firstN l))) (tot (l.take j)) = true :=
  (bestTo_most l (cost_pos h) l.length (by omega) (Nat.le_refl _)).2 j h1 hj
theorem tot_drop_take (l : List B2) (a b : Nat) : tot (l.take (a + b)) = plus (tot (l.take a)) (tot ((l.drop a).take b)) := by
  rw [List.take_add, tot_append]
/-- The next piece yields less. -/
theorem next_less {l : List B2} (h : ∀ b ∈ l, GoodB b) (hn : firstN l < l.length) :
    more (tot (l.take (firstN l))) (tot ((l.drop (firstN l)).take (firstN (l.drop (firstN l))))) = true := by
  have hne : l.drop (firstN l) ≠ [] := by
    intro h0
    have := congrArg List.length h0
    rw [List.length_drop] at this
    simp at this
    omega
  have hb := firstN_bound hne
  rw [List.length_drop] at hb
  have hl := first_last h (firstN l + firstN (l.drop (firstN l))) (by omega) (by omega)
  rw [tot_drop_take] at hl
  unfold more at hl ⊢
  have := of_decide_eq_true hl
  simp only [plus, Int.add_mul, Int.mul_add] at this
  refine decide_eq_true ?_
  omega

/-! ## Pieces -/
/-- From place k on these are the pieces. -/
def Chain (l : List B2) : Nat → List (B2 × Nat) → Prop
  | k, [] => l.length ≤ k
  | k, (p, e) :: t => k < l.length ∧ p = tot ((l.drop k).take (firstN (l.drop k))) ∧ e = k + firstN (l.drop k) ∧ Chain l e t
theorem hullF_chain (l : List B2) : ∀ f k, l.length ≤ k + f → Chain l k (hullF f k l)
  | 0, k, h => by unfold hullF; exact h
  | f + 1, k, h => by
    unfold hullF
    split
    · rename_i hlt
      have := firstN_bound (l := l.drop k) (by intro h0; have := congrArg List.length h0; simp at this; omega)
      exact ⟨hlt, rfl, rfl, hullF_chain l f _ (by omega)⟩
    · unfold Chain; omega
theorem hull_chain (l : List B2) : Chain l 0 (hull l) := hullF_chain l _ _ (by omega)
/-- Where piece i begins. -/
def startAt (k : Nat) (h : List (B2 × Nat)) (i : Nat) : Nat := if i = 0 then k else (h.getD (i - 1) ((0, 0), 0)).2
theorem chain_at (l : List B2) : ∀ (h : List (B2 × Nat)) (k : Nat), Chain l k h → ∀ i (hi : i < h.length),
    startAt k h i < l.length ∧ h[i].1 = tot ((l.drop (startAt k h i)).take (firstN (l.drop (startAt k h i)))) ∧ h[i].2 = startAt k h i + firstN (l.drop (startAt k h i))
  | [], _, _, i, hi => by simp at hi
  | (p, e) :: t, k, hc, 0, _ => ⟨hc.1, hc.2.1, hc.2.2.1⟩
  | (p, e) :: t, k, hc, i + 1, hi => by
    have ih := chain_at l t e hc.2.2.2 i (by simpa using hi)
    have hs : startAt k ((p, e) :: t) (i + 1) = startAt e t i := by
      unfold startAt
      cases i with
      | zero => rfl
      | succ i => simp
    rw [hs]
    exact ih
theorem chain_end (l : List B2) : ∀ (h : List (B2 × Nat)) (k : Nat), k ≤ l.length → Chain l k h → startAt k h h.length = l.length
  | [], k, hk, hc => by unfold Chain at hc; unfold startAt; simp; omega
  | (p, e) :: t, k, hk, hc => by
    obtain ⟨h1, h2, h3, h4⟩ := hc
    have hb := firstN_bound (l := l.drop k) (by intro h0; have := congrArg List.length h0; simp at this; omega)
    rw [List.length_drop] at hb
    have ih := chain_end l t e (by omega) h4
    rw [← ih]
    unfold startAt
    cases t with
    | nil => rfl
    | cons x t => simp
/-- What the law asks of piece i. -/
structure PieceAt (l : List B2) (h : List (B2 × Nat)) (i : Nat) (fr : Nat) (p : B2) (e : Nat) : Prop where
  lt : fr < e
  le : e ≤ l.length
  sum : p = tot ((l.drop fr).take (e - fr))
  front : ∀ k, k ≤ e - fr → LeY (tot ((l.drop fr).take k)) p
  falls : ∀ j (hj : j < h.length), i = j + 1 → p.2 * h[j].1.1 < h[j].1.2 * p.1
  from_ : ∀ j (hj : j < h.length), i = j + 1 → fr = h[j].2
theorem hull_piece {l : List B2} (hg : ∀ b ∈ l, GoodB b) (i : Nat) (hi : i < (hull l).length) : PieceAt l (hull l) i (startAt 0 (hull l) i) (hull l)[i].1 (hull l)[i].2 := by
  have hc := hull_chain l
  obtain ⟨h1, h2, h3⟩ := chain_at l _ _ hc i hi
  have hne : l.drop (startAt 0 (hull l) i) ≠ [] := by
    intro h0
    have := congrArg List.length h0
    simp at this
    omega
  have hb := firstN_bound hne
  rw [List.length_drop] at hb
  have hgd := good_drop hg (startAt 0 (hull l) i)
  refine ⟨by omega, by omega, ?_, fun k hk => ?_, fun j hj he => ?_, fun j hj he => ?_⟩
  · rw [h2, h3, Nat.add_sub_cancel_left]
  · rw [h2]
    exact first_most hgd k (by rw [List.length_drop]; omega)
  · subst he
    obtain ⟨g1, g2, g3⟩ := chain_at l _ _ hc j hj
    have hs : startAt 0 (hull l) (j + 1) = (hull l)[j].2 := by
      unfold startAt
      rw [if_neg (by omega), Nat.add_sub_cancel, getD_at _ _ _ hj]
    have hgj := good_drop hg (startAt 0 (hull l) j)
    have hn := next_less hgj (by rw [List.length_drop]; omega)
    rw [List.drop_drop, ← g3, ← g2, ← hs, ← h2] at hn
    unfold more at hn
    exact of_decide_eq_true hn
  · subst he
    unfold startAt
    rw [if_neg (by omega), Nat.add_sub_cancel, getD_at _ _ _ hj]
end Go.StreamP
