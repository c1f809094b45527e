/- Batches and rows as lists of pairs (cost, gain): plain definitions and their laws; no program in sight. -/
namespace Go.StreamP

abbrev B2 := Int × Int
/-- The sum of two batches. -/
def plus (a b : B2) : B2 := (a.1 + b.1, a.2 + b.2)
/-- All together. -/
def tot (l : List B2) : B2 := l.foldl plus (0, 0)
/-- A batch as told. -/
def GoodB (b : B2) : Prop := 1 ≤ b.1 ∧ b.1 ≤ 1048576 ∧ 0 ≤ b.2 ∧ b.2 ≤ 1048576
instance (b : B2) : Decidable (GoodB b) := by unfold GoodB; exact inferInstance

theorem foldl_plus (l : List B2) : ∀ a : B2, l.foldl plus a = plus a (tot l) := by
  induction l with
  | nil => intro a; simp [tot, plus]
  | cons x l ih =>
    intro a
    have h : tot (x :: l) = plus x (tot l) := by
      show List.foldl plus (0, 0) (x :: l) = _
      rw [List.foldl_cons, ih]; simp [plus]
    rw [List.foldl_cons, ih, h]
    simp [plus]; omega
theorem tot_nil : tot [] = (0, 0) := rfl
theorem tot_cons (x : B2) (l : List B2) : tot (x :: l) = plus x (tot l) := by
  rw [tot, List.foldl_cons, foldl_plus]; simp [plus]
theorem tot_append (l m : List B2) : tot (l ++ m) = plus (tot l) (tot m) := by
  rw [tot, List.foldl_append, foldl_plus]; rfl
theorem tot_one (x : B2) : tot [x] = x := by rw [tot_cons, tot_nil]; simp [plus]
theorem tot_take_succ (l : List B2) (k : Nat) (h : k < l.length) : tot (l.take (k + 1)) = plus (tot (l.take k)) l[k] := by
  rw [List.take_succ_eq_append_getElem h, tot_append, tot_one]
theorem tot_bound (l : List B2) (h : ∀ b ∈ l, GoodB b) : l.length ≤ (tot l).1 ∧ (tot l).1 ≤ 1048576 * l.length ∧ 0 ≤ (tot l).2 ∧ (tot l).2 ≤ 1048576 * l.length := by
  induction l with
  | nil => simp [tot_nil]
  | cons x l ih =>
    have hx := h x List.mem_cons_self
    have hl := ih fun b hb => h b (List.mem_cons_of_mem _ hb)
    rw [tot_cons]
    unfold GoodB at hx
    simp only [plus, List.length_cons]
    omega
theorem good_take {l : List B2} (h : ∀ b ∈ l, GoodB b) (k : Nat) : ∀ b ∈ l.take k, GoodB b := fun b hb => h b (List.mem_of_mem_take hb)
theorem good_drop {l : List B2} (h : ∀ b ∈ l, GoodB b) (k : Nat) : ∀ b ∈ l.drop k, GoodB b := fun b hb => h b (List.mem_of_mem_drop hb)
theorem tot_take_bound (l : List B2) (h : ∀ b ∈ l, GoodB b) (hl : l.length ≤ 1024) (k : Nat) : 0 ≤ (tot (l.take k)).1 ∧ (tot (l.take k)).1 ≤ 1073741824 ∧ 0 ≤ (tot (l.take k)).2 ∧ (tot (l.take k)).2 ≤ 1073741824 := by
  have h1 := tot_bound (l.take k) (good_take h k)
  have h2 : (l.take k).length ≤ 1024 := by rw [List.length_take]; omega
  omega
/-- Does a yield more than b? -/
def more (a b : B2) : Bool := decide (b.2 * a.1 < a.2 * b.1)
theorem mul_bd {x y : Int} (hx : 0 ≤ x ∧ x ≤ 1073741824) (hy : 0 ≤ y ∧ y ≤ 1073741824) : 0 ≤ x * y ∧ x * y ≤ 1152921504606846976 :=
  ⟨Int.mul_nonneg hx.1 hy.1, Int.le_trans (Int.mul_le_mul hx.2 hy.2 hy.1 (by omega)) (by omega)⟩
/-- Both numbers are from 0 to 2^30. -/
def Mid (b : B2) : Prop := 0 ≤ b.1 ∧ b.1 ≤ 1073741824 ∧ 0 ≤ b.2 ∧ b.2 ≤ 1073741824
/-- Few rows, few batches. -/
def Few (L : List (List B2)) : Prop := L.length ≤ 5 ∧ ∀ l ∈ L, l.length ≤ 8
theorem mid_good {b : B2} (h : GoodB b) : Mid b := by unfold GoodB at h; unfold Mid; omega
theorem mid_tot (l : List B2) (h : ∀ b ∈ l, GoodB b) (hl : l.length ≤ 1024) : Mid (tot l) := by
  have h1 := tot_bound l h
  unfold Mid
  omega
theorem mid_take (l : List B2) (h : ∀ b ∈ l, GoodB b) (hl : l.length ≤ 1024) (k : Nat) : Mid (tot (l.take k)) :=
  mid_tot _ (good_take h k) (by rw [List.length_take]; omega)

/-! ## The front of a row -/
/-- The longest front whose cost is within the budget (costs are positive). -/
def frontR : List B2 → Int → Int → Nat
  | [], _, _ => 0
  | b :: l, c, bud => if bud < c + b.1 then 0 else 1 + frontR l (c + b.1) bud
def frontN (l : List B2) (bud : Int) : Nat := frontR l 0 bud
structure IsFront (l : List B2) (bud : Int) (n : Nat) : Prop where
  le : n ≤ l.length
  fits : ∀ j, 1 ≤ j → j ≤ n → (tot (l.take j)).1 ≤ bud
  more : n < l.length → bud < (tot (l.take (n + 1))).1
theorem IsFront.unique {l : List B2} {bud : Int} {n m : Nat} (hn : IsFront l bud n) (hm : IsFront l bud m) : n = m := by
  rcases Nat.lt_trichotomy n m with h | h | h
  · have h1 := hn.more (by have := hm.le; omega)
    have h2 := hm.fits (n + 1) (by omega) (by omega)
    omega
  · exact h
  · have h1 := hm.more (by have := hn.le; omega)
    have h2 := hn.fits (m + 1) (by omega) (by omega)
    omega
theorem frontR_spec (l : List B2) : ∀ (c bud : Int), frontR l c bud ≤ l.length ∧ (∀ j, 1 ≤ j → j ≤ frontR l c bud → c + (tot (l.take j)).1 ≤ bud) ∧
    (frontR l c bud < l.length → bud < c + (tot (l.take (frontR l c bud + 1))).1) := by
  induction l with
  | nil => intro c bud; simp [frontR]; intro j h1 h2; omega
  | cons b l ih =>
    intro c bud
    unfold frontR
    by_cases h : bud < c + b.1
    · rw [if_pos h]
      refine ⟨by simp, fun j h1 h2 => by omega, fun _ => ?_⟩
      simp [tot_one, h]
    · rw [if_neg h]
      obtain ⟨i1, i2, i3⟩ := ih (c + b.1) bud
      refine ⟨by simp only [List.length_cons]; omega, fun j h1 h2 => ?_, fun h2 => ?_⟩
      · obtain ⟨j', rfl⟩ : ∃ j', j = j' + 1 := ⟨j - 1, by omega⟩
        rw [List.take_succ_cons, tot_cons]
        simp only [plus]
        by_cases h0 : j' = 0
        · subst h0; simp [tot_nil]; omega
        · have := i2 j' (by omega) (by omega); omega
      · simp only [List.length_cons] at h2
        have := i3 (by omega)
        rw [show 1 + frontR l (c + b.1) bud + 1 = (frontR l (c + b.1) bud + 1) + 1 from by omega, List.take_succ_cons, tot_cons]
        simp only [plus]
        omega
theorem frontN_is (l : List B2) (bud : Int) : IsFront l bud (frontN l bud) := by
  obtain ⟨h1, h2, h3⟩ := frontR_spec l 0 bud
  exact ⟨h1, fun j a b => by have := h2 j a b; unfold frontN at *; omega, fun h => by have := h3 h; unfold frontN at *; omega⟩
theorem frontN_of {l : List B2} {bud : Int} {n : Nat} (h : IsFront l bud n) : frontN l bud = n := (frontN_is l bud).unique h
theorem tot_take_mono {l : List B2} (h : ∀ b ∈ l, GoodB b) {j k : Nat} (hjk : j ≤ k) : (tot (l.take j)).1 ≤ (tot (l.take k)).1 := by
  have : l.take k = l.take j ++ (l.drop j).take (k - j) := by
    rw [← List.take_append_drop j (l.take k), List.take_take, List.drop_take, Nat.min_eq_left hjk]
  rw [this, tot_append]
  have := tot_bound ((l.drop j).take (k - j)) (good_take (good_drop h j) _)
  simp only [plus]
  omega
theorem front_take {l : List B2} (h : ∀ b ∈ l, GoodB b) (bud : Int) (k : Nat) (hk : k < l.length) :
    frontN (l.take (k + 1)) bud = if (tot (l.take (k + 1))).1 ≤ bud then k + 1 else frontN (l.take k) bud := by
  have hl1 : (l.take (k + 1)).length = k + 1 := by rw [List.length_take]; omega
  have hl0 : (l.take k).length = k := by rw [List.length_take]; omega
  split
  · rename_i hle
    refine frontN_of ⟨by omega, fun j h1 h2 => ?_, fun h3 => by omega⟩
    rw [List.take_take, Nat.min_eq_left h2]
    exact Int.le_trans (tot_take_mono h h2) hle
  · rename_i hgt
    have hf := frontN_is (l.take k) bud
    have hle := hf.le
    refine frontN_of ⟨by omega, fun j h1 h2 => ?_, fun h3 => ?_⟩
    · have := hf.fits j h1 h2
      rw [List.take_take, Nat.min_eq_left (by omega)] at this ⊢
      exact this
    · rw [List.take_take]
      by_cases hlt : frontN (l.take k) bud < k
      · have := hf.more (by omega)
        rw [List.take_take, Nat.min_eq_left (by omega)] at this
        rw [Nat.min_eq_left (by omega)]
        exact this
      · have : frontN (l.take k) bud = k := by omega
        rw [this, Nat.min_self]
        omega

/-! ## The first piece -/
/-- Of the fronts of one to k batches the last one that yields most. -/
def bestTo (l : List B2) : Nat → Nat
  | 0 => 1
  | k + 1 => if more (tot (l.take (bestTo l k))) (tot (l.take (k + 1))) then bestTo l k else k + 1
def firstN (l : List B2) : Nat := bestTo l l.length
theorem bestTo_bound (l : List B2) : ∀ k, 1 ≤ bestTo l k ∧ (bestTo l k ≤ k ∨ k = 0)
  | 0 => ⟨Nat.le_refl _, .inr rfl⟩
  | k + 1 => by
    have ih := bestTo_bound l k
    unfold bestTo
    split
    · refine ⟨ih.1, .inl ?_⟩
      rcases ih.2 with h | h
      · omega
      · subst h; simp [bestTo]
    · exact ⟨by omega, .inl (Nat.le_refl _)⟩
theorem bestTo_one (l : List B2) : bestTo l 1 = 1 := by
  unfold bestTo bestTo
  split <;> rfl
theorem firstN_bound {l : List B2} (h : l ≠ []) : 1 ≤ firstN l ∧ firstN l ≤ l.length := by
  have h1 := bestTo_bound l l.length
  have : l.length ≠ 0 := fun h0 => h (List.eq_nil_of_length_eq_zero h0)
  unfold firstN
  omega

/-! ## The pieces of a row -/
/-- From place 'at' on: the pieces and where they end. -/
def hullF : Nat → Nat → List B2 → List (B2 × Nat)
  | 0, _, _ => []
  | f + 1, k, l => if k < l.length then (tot ((l.drop k).take (firstN (l.drop k))), k + firstN (l.drop k)) :: hullF f (k + firstN (l.drop k)) l else []
def hull (l : List B2) : List (B2 × Nat) := hullF l.length 0 l
theorem hullF_more (l : List B2) : ∀ f g k, l.length ≤ k + f → f ≤ g → hullF g k l = hullF f k l
  | 0, 0, _, _, _ => rfl
  | 0, g + 1, k, h, _ => by
    unfold hullF
    rw [if_neg (by omega)]
  | f + 1, g + 1, k, h, hg => by
    unfold hullF
    split
    · have := firstN_bound (l := l.drop k) (by intro h0; have := congrArg List.length h0; simp at this; omega)
      rw [hullF_more l f g _ (by omega) (by omega)]
    · rfl

/-! ## What is taken -/
def okTake : List (List B2) → List Int → Bool
  | [], [] => true
  | l :: L, t :: T => decide (0 ≤ t ∧ t ≤ l.length) && okTake L T
  | _, _ => false
def sumAll : List (List B2) → List Nat → B2
  | l :: L, t :: T => plus (tot (l.take t)) (sumAll L T)
  | _, _ => (0, 0)
theorem okTake_iff : ∀ (L : List (List B2)) (T : List Int), okTake L T = true ↔ T.length = L.length ∧ ∀ i (h : i < L.length) (h' : i < T.length), 0 ≤ T[i] ∧ T[i] ≤ L[i].length
  | [], [] => by simp [okTake]
  | [], t :: T => by simp [okTake]
  | l :: L, [] => by simp [okTake]
  | l :: L, t :: T => by
    simp only [okTake, Bool.and_eq_true, decide_eq_true_eq, okTake_iff L T, List.length_cons]
    constructor
    · rintro ⟨h1, h2, h3⟩
      refine ⟨by omega, fun i h h' => ?_⟩
      cases i with
      | zero => exact h1
      | succ i => exact h3 i (by omega) (by omega)
    · rintro ⟨h1, h2⟩
      exact ⟨h2 0 (by omega) (by omega), by omega, fun i h h' => h2 (i + 1) (by omega) (by omega)⟩
theorem sumAll_snoc : ∀ (L : List (List B2)) (T : List Nat) (k : Nat) (h : k < L.length) (h' : k < T.length),
    sumAll (L.take (k + 1)) (T.take (k + 1)) = plus (sumAll (L.take k) (T.take k)) (tot (L[k].take T[k]))
  | [], _, _, h, _ => by simp at h
  | _ :: _, [], _, _, h => by simp at h
  | l :: L, t :: T, 0, _, _ => by simp [sumAll, plus]
  | l :: L, t :: T, k + 1, h, h' => by
    simp only [List.length_cons] at h h'
    have ih := sumAll_snoc L T k (by omega) (by omega)
    simp only [List.take_succ_cons, sumAll, List.getElem_cons_succ] at ih ⊢
    rw [ih]
    simp [plus]
    omega
theorem sumAll_bound : ∀ (L : List (List B2)) (T : List Nat), (∀ l ∈ L, l.length ≤ 8 ∧ ∀ b ∈ l, GoodB b) →
    0 ≤ (sumAll L T).1 ∧ (sumAll L T).1 ≤ 8388608 * L.length ∧ 0 ≤ (sumAll L T).2 ∧ (sumAll L T).2 ≤ 8388608 * L.length
  | [], _, _ => by simp [sumAll]
  | l :: L, [], _ => by simp [sumAll]; omega
  | l :: L, t :: T, h => by
    have ih := sumAll_bound L T fun l hl => h l (List.mem_cons_of_mem _ hl)
    obtain ⟨h1, h2⟩ := h l List.mem_cons_self
    have hb := tot_bound (l.take t) (good_take h2 t)
    have hl : (l.take t).length ≤ 8 := by rw [List.length_take]; omega
    simp only [sumAll, plus, List.length_cons]
    omega
theorem sumAll_mid {L : List (List B2)} (hf : Few L) (hg : ∀ l ∈ L, ∀ b ∈ l, GoodB b) (T : List Nat) (k : Nat) : Mid (sumAll (L.take k) T) := by
  have := sumAll_bound (L.take k) T fun l hl => ⟨hf.2 l (List.mem_of_mem_take hl), hg l (List.mem_of_mem_take hl)⟩
  have h2 : (L.take k).length ≤ 5 := by rw [List.length_take]; have := hf.1; omega
  unfold Mid
  omega
/-- A sum and why there is none. -/
def sumRes (L : List (List B2)) (T : List Int) (right : Bool) : Int × Int × Int :=
  if right then (if okTake L T then ((sumAll L (T.map Int.toNat)).1, (sumAll L (T.map Int.toNat)).2, 0) else (0, 0, 2)) else (0, 0, 1)

theorem getD_at {α : Type} (l : List α) (i : Nat) (d : α) (h : i < l.length) : l.getD i d = l[i] := by
  rw [List.getD_eq_getElem?_getD, List.getElem?_eq_getElem h]; rfl

/-! ## Which row goes next -/
theorem hull_nil : hull [] = [] := rfl
theorem hull_head {l : List B2} (h : l ≠ []) : ∃ tl, hull l = (tot (l.take (firstN l)), firstN l) :: tl := by
  have h1 : 0 < l.length := List.length_pos_iff.2 h
  obtain ⟨f, hf⟩ : ∃ f, l.length = f + 1 := ⟨l.length - 1, by omega⟩
  unfold hull
  rw [hf, hullF, if_pos h1]
  simp only [List.drop_zero, Nat.zero_add]
  exact ⟨_, rfl⟩
def stepN (acc : Option (Nat × B2 × Nat)) (i : Nat) (rest : List B2) : Option (Nat × B2 × Nat) :=
  if rest = [] then acc else match acc with
    | none => some (i, tot (rest.take (firstN rest)), firstN rest)
    | some (j, q, m) => if more (tot (rest.take (firstN rest))) q then some (i, tot (rest.take (firstN rest)), firstN rest) else some (j, q, m)
def nextTo (L : List (List B2)) (T : List Nat) : Nat → Option (Nat × B2 × Nat)
  | 0 => none
  | k + 1 => stepN (nextTo L T k) k ((L.getD k []).drop (T.getD k 0))
def nextL (L : List (List B2)) (T : List Nat) : Option (Nat × B2 × Nat) := nextTo L T L.length
/-- Fronts that there are. -/
structure Fits (L : List (List B2)) (T : List Nat) : Prop where
  len : T.length = L.length
  le : ∀ i (h : i < L.length) (h' : i < T.length), T[i] ≤ L[i].length
theorem nextTo_some (L : List (List B2)) (T : List Nat) : ∀ k j q m, nextTo L T k = some (j, q, m) →
    j < k ∧ (L.getD j []).drop (T.getD j 0) ≠ [] ∧ q = tot (((L.getD j []).drop (T.getD j 0)).take (firstN ((L.getD j []).drop (T.getD j 0)))) ∧ m = firstN ((L.getD j []).drop (T.getD j 0))
  | 0, j, q, m, h => by cases h
  | k + 1, j, q, m, h => by
    unfold nextTo stepN at h
    have ih := nextTo_some L T k
    by_cases hr : (L.getD k []).drop (T.getD k 0) = []
    · rw [if_pos hr] at h
      obtain ⟨h1, h2⟩ := ih _ _ _ h
      exact ⟨by omega, h2⟩
    · rw [if_neg hr] at h
      cases hn : nextTo L T k with
      | none =>
        rw [hn] at h
        simp only [Option.some.injEq, Prod.mk.injEq] at h
        obtain ⟨rfl, rfl, rfl⟩ := h
        exact ⟨by omega, hr, rfl, rfl⟩
      | some x =>
        obtain ⟨j', q', m'⟩ := x
        rw [hn] at h
        simp only [] at h
        split at h
        · simp only [Option.some.injEq, Prod.mk.injEq] at h
          obtain ⟨rfl, rfl, rfl⟩ := h
          exact ⟨by omega, hr, rfl, rfl⟩
        · simp only [Option.some.injEq, Prod.mk.injEq] at h
          obtain ⟨rfl, rfl, rfl⟩ := h
          obtain ⟨h1, h2⟩ := ih _ _ _ hn
          exact ⟨by omega, h2⟩
def nextRow : Option (Nat × B2 × Nat) → Int
  | none => -1
  | some (i, _, _) => i
def nextPiece : Option (Nat × B2 × Nat) → B2
  | none => (0, 0)
  | some (_, p, _) => p
def nextSize : Option (Nat × B2 × Nat) → Int
  | none => 0
  | some (_, _, n) => n
end Go.StreamP
