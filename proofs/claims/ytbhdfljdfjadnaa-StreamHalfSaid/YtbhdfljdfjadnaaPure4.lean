/- Plain laws: greed, or one row alone, has at least half of the best. -/
import Derived.Test.YtbhdfljdfjadnaaPure3
namespace Go.StreamP

theorem sum_cut : ∀ (L : List (List B2)) (T : List Nat) (bud : Int), Fits (cutL L bud) T → sumAll (cutL L bud) T = sumAll L T
  | [], T, bud, h => rfl
  | l :: L, T, bud, h => by
    have hl := h.len
    match T, hl with
    | t :: T, hl =>
      have ih := sum_cut L T bud ⟨by simpa [cutL] using hl, fun i h1 h2 => by
        have := h.le (i + 1) (by simpa [cutL] using h1) (by simpa using h2)
        simpa [cutL] using this⟩
      have h0 := h.le 0 (by simp [cutL]) (by simp)
      simp only [cutL, List.map_cons, List.getElem_cons_zero, List.length_take] at h0
      show plus (tot ((l.take (frontN l bud)).take t)) (sumAll (cutL L bud) T) = plus (tot (l.take t)) (sumAll L T)
      rw [ih, List.take_take, Nat.min_eq_left (by omega)]
theorem sum_zero2 : ∀ (C : List (List B2)) (n : Nat), sumAll C (List.replicate n 0) = (0, 0)
  | [], n => by cases n <;> rfl
  | l :: C, 0 => rfl
  | l :: C, n + 1 => by
    have := sum_zero2 C n
    rw [List.replicate_succ, sumAll, this]
    simp [plus, tot_nil]
theorem sum_one : ∀ (L : List (List B2)) (i m : Nat) (h : i < L.length), sumAll L ((List.replicate L.length 0).set i m) = tot (L[i].take m)
  | [], _, _, h => by simp at h
  | l :: L, 0, m, _ => by
    have := sum_zero2 L L.length
    rw [List.length_cons, List.replicate_succ, List.set_cons_zero, sumAll, this]
    simp [plus]
  | l :: L, i + 1, m, h => by
    have := sum_one L i m (by simpa using h)
    rw [List.length_cons, List.replicate_succ, List.set_cons_succ, sumAll, this]
    simp [plus, tot_nil]
theorem sum_gain_cost : ∀ (L : List (List B2)) (T : List Nat), (∀ l ∈ L, ∀ b ∈ l, GoodB b) → 0 ≤ (sumAll L T).1 ∧ 0 ≤ (sumAll L T).2 ∧ (sumAll L T).2 ≤ 1048576 * (sumAll L T).1
  | [], _, _ => by simp [sumAll]
  | _ :: _, [], _ => by simp [sumAll]
  | l :: L, t :: T, h => by
    have ih := sum_gain_cost L T fun m hm => h m (List.mem_cons_of_mem _ hm)
    have hb := tot_bound (l.take t) (good_take (h l List.mem_cons_self) t)
    simp only [sumAll, plus]
    omega
theorem one_le_sum : ∀ (L : List (List B2)) (T : List Nat) (i : Nat) (h : i < L.length) (h' : i < T.length), (∀ l ∈ L, ∀ b ∈ l, GoodB b) → (tot (L[i].take T[i])).1 ≤ (sumAll L T).1
  | [], _, _, h, _, _ => by simp at h
  | _ :: _, [], _, _, h, _ => by simp at h
  | l :: L, t :: T, 0, _, _, hg => by
    have := sum_gain_cost L T fun m hm => hg m (List.mem_cons_of_mem _ hm)
    simp only [sumAll, plus, List.getElem_cons_zero]
    omega
  | l :: L, t :: T, i + 1, h, h', hg => by
    have ih := one_le_sum L T i (by simpa using h) (by simpa using h') fun m hm => hg m (List.mem_cons_of_mem _ hm)
    have hb := tot_bound (l.take t) (good_take (hg l List.mem_cons_self) t)
    simp only [sumAll, plus, List.getElem_cons_succ]
    omega
theorem cut_at (L : List (List B2)) (bud : Int) (i : Nat) (h : i < (cutL L bud).length) (h' : i < L.length) : (cutL L bud)[i] = L[i].take (frontN L[i] bud) :=
  List.getElem_map (f := fun l : List B2 => l.take (frontN l bud)) (l := L) (h := h)
/-- What the budget bears lies within the fronts that it bears. -/
theorem fits_to_cut {L : List (List B2)} {T : List Nat} {bud : Int} (hg : ∀ l ∈ L, ∀ b ∈ l, GoodB b) (h : Fits L T) (hc : (sumAll L T).1 ≤ bud) : Fits (cutL L bud) T := by
  refine ⟨by rw [h.len, length_cut], fun i h1 h2 => ?_⟩
  have h3 : i < L.length := by rw [length_cut] at h1; exact h1
  have hle := h.le i h3 h2
  have hf := frontN_is L[i] bud
  have hone := one_le_sum L T i h3 h2 hg
  have he : (cutL L bud)[i] = L[i].take (frontN L[i] bud) := cut_at L bud i h1 h3
  rw [he, List.length_take]
  by_cases hlt : frontN L[i] bud < T[i]
  · have h4 := hf.more (by omega)
    have h5 := tot_take_mono (hg _ (List.getElem_mem h3)) (show frontN L[i] bud + 1 ≤ T[i] by omega)
    omega
  · omega
theorem tot_take_mono3 {l : List B2} (h : ∀ b ∈ l, GoodB b) {j k : Nat} (hjk : j ≤ k) : (tot (l.take j)).2 ≤ (tot (l.take k)).2 := by
  obtain ⟨d, rfl⟩ : ∃ d, k = j + d := ⟨k - j, by omega⟩
  rw [tot_drop_take]
  have := tot_bound ((l.drop j).take d) (good_take (good_drop h j) _)
  simp only [plus]
  omega

/-! ## The next row's piece yields most -/
def restL (C : List (List B2)) (T : List Nat) (j : Nat) : List B2 := (C.getD j []).drop (T.getD j 0)
def pieceL (C : List (List B2)) (T : List Nat) (j : Nat) : B2 := tot ((restL C T j).take (firstN (restL C T j)))
theorem good_rest {C : List (List B2)} (hg : ∀ l ∈ C, ∀ b ∈ l, GoodB b) (T : List Nat) (j : Nat) : ∀ b ∈ restL C T j, GoodB b := by
  unfold restL
  by_cases h : j < C.length
  · rw [getD_at _ _ _ h]
    exact good_drop (hg _ (List.getElem_mem h)) _
  · have : C.getD j [] = [] := by rw [List.getD_eq_getElem?_getD, List.getElem?_eq_none (Nat.not_lt.1 h)]; rfl
    rw [this]
    simp
theorem piece_pos {C : List (List B2)} (hg : ∀ l ∈ C, ∀ b ∈ l, GoodB b) {T : List Nat} {j : Nat} (hr : restL C T j ≠ []) : 0 < (pieceL C T j).1 ∧ 0 ≤ (pieceL C T j).2 := by
  have hb := firstN_bound hr
  have h1 := cost_pos (good_rest hg T j) _ hb.1 hb.2
  have h2 := tot_bound ((restL C T j).take (firstN (restL C T j))) (good_take (good_rest hg T j) _)
  unfold pieceL
  omega
theorem nextTo_nil (L : List (List B2)) (T : List Nat) : ∀ k, nextTo L T k = none → ∀ j, j < k → restL L T j = []
  | 0, _, j, hj => by omega
  | k + 1, h, j, hj => by
    unfold nextTo stepN at h
    by_cases hr : restL L T k = []
    · unfold restL at hr
      rw [if_pos hr] at h
      by_cases hjk : j = k
      · subst hjk; exact hr
      · exact nextTo_nil L T k h j (by omega)
    · unfold restL at hr
      rw [if_neg hr] at h
      cases hn : nextTo L T k with
      | none => rw [hn] at h; cases h
      | some x =>
        rw [hn] at h
        obtain ⟨a, q, m⟩ := x
        simp only [] at h
        split at h <;> cases h
theorem nextTo_most {L : List (List B2)} (hg : ∀ l ∈ L, ∀ b ∈ l, GoodB b) (T : List Nat) : ∀ k i P n, nextTo L T k = some (i, P, n) →
    restL L T i ≠ [] ∧ P = pieceL L T i ∧ ∀ j, j < k → restL L T j ≠ [] → LeY (pieceL L T j) P
  | 0, i, P, n, h => by cases h
  | k + 1, i, P, n, h => by
    have hs := nextTo_some L T (k + 1) i P n h
    refine ⟨hs.2.1, hs.2.2.1, ?_⟩
    unfold nextTo stepN at h
    by_cases hr : restL L T k = []
    · have hr' := hr
      unfold restL at hr
      rw [if_pos hr] at h
      intro j hj hjr
      have hjk : j ≠ k := fun h9 => hjr (by rw [h9]; exact hr')
      exact (nextTo_most hg T k i P n h).2.2 j (by omega) hjr
    · have hr' := hr
      unfold restL at hr
      rw [if_neg hr] at h
      cases hn : nextTo L T k with
      | none =>
        rw [hn] at h
        simp only [Option.some.injEq, Prod.mk.injEq] at h
        obtain ⟨rfl, rfl, rfl⟩ := h
        intro j hj hjr
        by_cases hjk : j = k
        · subst hjk; exact Int.le_refl _
        · exact absurd (nextTo_nil L T k hn j (by omega)) hjr
      | some x =>
        obtain ⟨a, q, m⟩ := x
        have ih := nextTo_most hg T k a q m hn
        have pq : 0 < q.1 := by rw [ih.2.1]; exact (piece_pos hg ih.1).1
        have pk := piece_pos hg hr'
        rw [hn] at h
        simp only [] at h
        split at h
        · rename_i hm
          simp only [Option.some.injEq, Prod.mk.injEq] at h
          obtain ⟨rfl, rfl, rfl⟩ := h
          have hle : LeY q (pieceL L T k) := by
            unfold more at hm
            have := of_decide_eq_true hm
            exact Int.le_of_lt this
          intro j hj hjr
          by_cases hjk : j = k
          · subst hjk; exact Int.le_refl _
          · have pj := piece_pos hg hjr
            exact (ih.2.2 j (by omega) hjr).trans hle (Int.le_of_lt pj.1) pq (Int.le_of_lt pk.1)
        · rename_i hm
          simp only [Option.some.injEq, Prod.mk.injEq] at h
          obtain ⟨rfl, rfl, rfl⟩ := h
          intro j hj hjr
          by_cases hjk : j = k
          · subst hjk
            exact Int.not_lt.1 fun h9 => hm (decide_eq_true h9)
          · exact ih.2.2 j (by omega) hjr

/-! ## What greed has taken yields more than what is left -/
structure Inv (C : List (List B2)) (T : List Nat) : Prop where
  fits : Fits C T
  ge : ∀ a (h : a < C.length) (h' : a < T.length) t, t ≤ T[a] → ∀ j, restL C T j ≠ [] → LeY (pieceL C T j) (tot ((C[a].drop t).take (T[a] - t)))
theorem inv_zero (C : List (List B2)) : Inv C (List.replicate C.length 0) := by
  refine ⟨fits_zero C _ rfl, fun a h h' t ht j hj => ?_⟩
  have h0 : t = 0 := by simpa using ht
  subst h0
  simp [LeY, tot_nil]
theorem LeY.plus_right {a b c : B2} (h1 : LeY a b) (h2 : LeY a c) : LeY a (plus b c) := by
  unfold LeY at *
  simp only [plus, Int.add_mul, Int.mul_add]
  omega
theorem LeY.rest {p f s : B2} (hp : p = plus f s) (h : LeY f p) : LeY p s := by
  unfold LeY at *
  subst hp
  simp only [plus, Int.add_mul, Int.mul_add] at *
  omega
theorem inv_step {C : List (List B2)} (hg : ∀ l ∈ C, ∀ b ∈ l, GoodB b) {T : List Nat} {i n : Nat} {P : B2} (h : Inv C T) (hn : nextL C T = some (i, P, n)) : Inv C (T.set i (T.getD i 0 + n)) := by
  have hf := fits_set h.fits hn
  obtain ⟨h1, h2, h3, h4, h5, h6, h7⟩ := next_facts h.fits hn
  obtain ⟨g1, g2, g3⟩ := nextTo_most hg T C.length i P n hn
  have hP := piece_pos hg g1
  rw [← g2] at hP
  have hri : restL C T i = C[i].drop T[i] := by unfold restL; rw [getD_at _ _ _ h1, getD_at _ _ _ h2]
  have hgr := good_drop (hg _ (List.getElem_mem h1)) T[i]
  have hgd := getD_at T i 0 h2
  rw [hgd] at hf ⊢
  -- what is left yields at most P
  have hle : ∀ j, restL C (T.set i (T[i] + n)) j ≠ [] → LeY (pieceL C (T.set i (T[i] + n)) j) P := by
    intro j hj
    by_cases hji : j = i
    · subst hji
      have hr' : restL C (T.set j (T[j] + n)) j = (C[j].drop T[j]).drop n := by
        unfold restL
        rw [getD_at _ _ _ h1, getD_at _ _ _ (by simpa using h2), List.getElem_set_self, List.drop_drop]
      unfold pieceL
      rw [hr'] at hj ⊢
      have hl : firstN (C[j].drop T[j]) < (C[j].drop T[j]).length := by
        rw [← h7]
        have h0 : ((C[j].drop T[j]).drop n).length ≠ 0 := fun h9 => hj (List.eq_nil_of_length_eq_zero h9)
        rw [List.length_drop] at h0
        omega
      have hnl := next_less hgr hl
      rw [← h7, ← h6] at hnl
      unfold more at hnl
      exact Int.le_of_lt (of_decide_eq_true hnl)
    · have hr' : restL C (T.set i (T[i] + n)) j = restL C T j := by
        unfold restL
        congr 1
        rw [List.getD_eq_getElem?_getD, List.getD_eq_getElem?_getD, List.getElem?_set_ne (fun h9 => hji h9.symm)]
      have hp' : pieceL C (T.set i (T[i] + n)) j = pieceL C T j := by unfold pieceL; rw [hr']
      rw [hr'] at hj
      rw [hp']
      by_cases hjC : j < C.length
      · exact g3 j hjC hj
      · exfalso
        apply hj
        unfold restL
        have : C.getD j [] = [] := by rw [List.getD_eq_getElem?_getD, List.getElem?_eq_none (Nat.not_lt.1 hjC)]; rfl
        rw [this]
        simp
  refine ⟨hf, fun a ha ha' t ht j hj => ?_⟩
  have hq := hle j hj
  have hpj := piece_pos hg hj
  -- what is taken yields at least P
  have hge : LeY P (tot ((C[a].drop t).take ((T.set i (T[i] + n))[a] - t))) := by
    rw [List.getElem_set] at ht ⊢
    by_cases hai : i = a
    · subst hai
      rw [if_pos rfl] at ht ⊢
      by_cases htT : t ≤ T[i]
      · have e1 : (C[i].drop t).take (T[i] + n - t) = (C[i].drop t).take (T[i] - t) ++ (C[i].drop T[i]).take n := by
          rw [show T[i] + n - t = (T[i] - t) + n from by omega, List.take_add, List.drop_drop, show t + (T[i] - t) = T[i] from by omega]
        rw [e1, tot_append, ← h6]
        refine LeY.plus_right ?_ (Int.le_refl _)
        rw [g2]
        exact h.ge i h1 h2 t htT i g1
      · have hfm := first_most hgr (t - T[i]) (by rw [List.length_drop]; omega)
        rw [← h7, ← h6] at hfm
        refine LeY.rest (f := tot ((C[i].drop T[i]).take (t - T[i]))) ?_ hfm
        rw [h6, show (C[i].drop t).take (T[i] + n - t) = ((C[i].drop T[i]).drop (t - T[i])).take (n - (t - T[i])) from by
          rw [List.drop_drop, show T[i] + (t - T[i]) = t from by omega, show T[i] + n - t = n - (t - T[i]) from by omega], ← tot_drop_take, show t - T[i] + (n - (t - T[i])) = n from by omega]
    · rw [if_neg hai] at ht ⊢
      rw [g2]
      exact h.ge a ha (by simpa using ha') t ht i g1
  have hs := tot_bound ((C[a].drop t).take ((T.set i (T[i] + n))[a] - t)) (good_take (good_drop (hg _ (List.getElem_mem ha)) t) _)
  exact hq.trans hge (by omega) hP.1 (by omega)
/-- How greed ends. -/
theorem greedyF_end {C : List (List B2)} (hg : ∀ l ∈ C, ∀ b ∈ l, GoodB b) (hs : ∀ l ∈ C, l.length ≤ 1024) : ∀ (f : Nat) (T : List Nat) (left : Int), Inv C T → left.toNat < f →
    Inv C (greedyF f C T left) ∧ (0 ≤ left → (sumAll C (greedyF f C T left)).1 ≤ left + (sumAll C T).1) ∧ (left < 0 → greedyF f C T left = T) ∧
    (nextL C (greedyF f C T left) = none ∨ ∃ i P n, nextL C (greedyF f C T left) = some (i, P, n) ∧ left + (sumAll C T).1 - (sumAll C (greedyF f C T left)).1 < P.1)
  | 0, T, left, _, h => by omega
  | f + 1, T, left, hi, h => by
    cases hn : nextL C T with
    | none =>
      rw [greedyF_none hn]
      exact ⟨hi, fun h9 => by omega, fun _ => rfl, .inl hn⟩
    | some x =>
      obtain ⟨i, P, n⟩ := x
      have hpc := next_piece hg hs hi.fits hn
      by_cases hlt : left < P.1
      · rw [greedyF_stop hn hlt]
        exact ⟨hi, fun h9 => by omega, fun _ => rfl, .inr ⟨i, P, n, hn, by omega⟩⟩
      · rw [greedyF_go hn hlt]
        obtain ⟨h1, h2, h3, h4, h5, h6, h7⟩ := next_facts hi.fits hn
        have ih := greedyF_end hg hs f (T.set i (T.getD i 0 + n)) (left - P.1) (inv_step hg hi hn) (by omega)
        have hset : (sumAll C (T.set i (T.getD i 0 + n))).1 = (sumAll C T).1 + P.1 := by
          rw [getD_at _ _ _ h2, sumAll_set' C T i n h1 h2, ← h6]
          rfl
        rw [hset] at ih
        refine ⟨ih.1, fun h9 => by have := ih.2.1 (by omega); omega, fun h9 => by omega, ?_⟩
        rcases ih.2.2.2 with h9 | ⟨a, Q, m, h9, h10⟩
        · exact .inl h9
        · exact .inr ⟨a, Q, m, h9, by omega⟩
where sumAll_set' : ∀ (C : List (List B2)) (T : List Nat) (i n : Nat) (h : i < C.length) (h' : i < T.length), sumAll C (T.set i (T[i] + n)) = plus (sumAll C T) (tot ((C[i].drop T[i]).take n))
  | [], _, _, _, h, _ => by simp at h
  | _ :: _, [], _, _, _, h => by simp at h
  | c :: C, t :: T, 0, n, _, _ => by
    simp only [List.set_cons_zero, List.getElem_cons_zero, sumAll, tot_drop_take]
    simp [plus]
    omega
  | c :: C, t :: T, i + 1, n, h, h' => by
    have ih := sumAll_set' C T i n (by simpa using h) (by simpa using h')
    simp only [List.set_cons_succ, List.getElem_cons_succ, sumAll, ih]
    simp [plus]
    omega
theorem sum_le_all : ∀ (C : List (List B2)) (T G : List Nat), Fits C T → Fits C G → (∀ l ∈ C, ∀ b ∈ l, GoodB b) → (∀ i (_ : i < C.length) (h' : i < T.length) (h'' : i < G.length), T[i] ≤ G[i]) → (sumAll C T).2 ≤ (sumAll C G).2
  | [], T, G, _, _, _, _ => by simp [sumAll]
  | l :: C, T, G, hT, hG, hg, hle => by
    have e1 := hT.len
    have e2 := hG.len
    match T, G, e1, e2 with
    | t :: T, g :: G, e1, e2 =>
      have ih := sum_le_all C T G ⟨by simpa using e1, fun i h1 h2 => hT.le (i + 1) (Nat.succ_lt_succ h1) (Nat.succ_lt_succ h2)⟩ ⟨by simpa using e2, fun i h1 h2 => hG.le (i + 1) (Nat.succ_lt_succ h1) (Nat.succ_lt_succ h2)⟩
        (fun m hm => hg m (List.mem_cons_of_mem _ hm)) (fun i h1 h2 h3 => hle (i + 1) (Nat.succ_lt_succ h1) (Nat.succ_lt_succ h2) (Nat.succ_lt_succ h3))
      have h0 := hle 0 (by simp) (by simp) (by simp)
      have := tot_take_mono3 (hg l List.mem_cons_self) (show t ≤ g from h0)
      simp only [sumAll, plus]
      omega
/-- By the yield of one piece, row by row. -/
theorem sum_yield (P : B2) : ∀ (C : List (List B2)) (T G : List Nat), T.length = C.length → G.length = C.length →
    (∀ i (h : i < C.length) (h' : i < T.length) (h'' : i < G.length), ((tot (C[i].take T[i])).2 - (tot (C[i].take G[i])).2) * P.1 ≤ P.2 * ((tot (C[i].take T[i])).1 - (tot (C[i].take G[i])).1)) →
    ((sumAll C T).2 - (sumAll C G).2) * P.1 ≤ P.2 * ((sumAll C T).1 - (sumAll C G).1)
  | [], T, G, _, _, _ => by simp [sumAll]
  | l :: C, T, G, e1, e2, h => by
    match T, G, e1, e2 with
    | t :: T, g :: G, e1, e2 =>
      have ih := sum_yield P C T G (by simpa using e1) (by simpa using e2) (fun i h1 h2 h3 => h (i + 1) (Nat.succ_lt_succ h1) (Nat.succ_lt_succ h2) (Nat.succ_lt_succ h3))
      have h0 := h 0 (by simp) (by simp) (by simp)
      simp only [List.getElem_cons_zero] at h0
      simp only [sumAll, plus]
      simp only [Int.sub_mul, Int.mul_sub, Int.add_mul, Int.mul_add] at *
      omega
theorem greedy_bound {C : List (List B2)} (hg : ∀ l ∈ C, ∀ b ∈ l, GoodB b) {G : List Nat} (hi : Inv C G) {i n : Nat} {P : B2} (hn : nextL C G = some (i, P, n)) {T : List Nat} (hT : Fits C T) {bud : Int} (hc : (sumAll C T).1 ≤ bud) (hb : bud - (sumAll C G).1 < P.1) :
    (sumAll C T).2 ≤ (sumAll C G).2 + P.2 := by
  obtain ⟨g1, g2, g3⟩ := nextTo_most hg G C.length i P n hn
  have hP := piece_pos hg g1
  rw [← g2] at hP
  have key := sum_yield P C T G hT.len hi.fits.len fun a h1 h2 h3 => by
    by_cases hle : G[a] ≤ T[a]
    · obtain ⟨d, hd⟩ : ∃ d, T[a] = G[a] + d := ⟨T[a] - G[a], by omega⟩
      have hTa := hT.le a h1 h2
      rw [hd, tot_drop_take]
      have hra : restL C G a = C[a].drop G[a] := by unfold restL; rw [getD_at _ _ _ h1, getD_at _ _ _ h3]
      have hx : LeY (tot ((C[a].drop G[a]).take d)) P := by
        by_cases h0 : C[a].drop G[a] = []
        · rw [h0]; simp [LeY, tot_nil]
        · have hr : restL C G a ≠ [] := by rw [hra]; exact h0
          have hgr := good_drop (hg _ (List.getElem_mem h1)) G[a]
          have l1 := first_most hgr d (by rw [List.length_drop]; omega)
          have l2 := g3 a h1 hr
          unfold pieceL at l2
          have pp := piece_pos hg hr
          unfold pieceL at pp
          rw [hra] at l2 pp
          have hb2 := tot_bound ((C[a].drop G[a]).take d) (good_take hgr _)
          exact l1.trans l2 (by omega) pp.1 (by omega)
      unfold LeY at hx
      simp only [plus]
      rw [show ∀ x y : Int, x + y - x = y from fun x y => by omega, show ∀ x y : Int, x + y - x = y from fun x y => by omega]
      exact hx
    · obtain ⟨d, hd⟩ : ∃ d, G[a] = T[a] + d := ⟨G[a] - T[a], by omega⟩
      have hx := hi.ge a h1 h3 T[a] (by omega) i g1
      rw [← g2] at hx
      unfold LeY at hx
      rw [show G[a] - T[a] = d from by omega] at hx
      rw [hd, tot_drop_take]
      simp only [plus]
      rw [show ∀ x y : Int, x - (x + y) = -y from fun x y => by omega, show ∀ x y : Int, x - (x + y) = -y from fun x y => by omega, Int.neg_mul, Int.mul_neg]
      omega
  have h1 : P.2 * ((sumAll C T).1 - (sumAll C G).1) ≤ P.2 * P.1 := Int.mul_le_mul_of_nonneg_left (by omega) hP.2
  have h2 : (sumAll C T).2 - (sumAll C G).2 ≤ P.2 := Int.le_of_mul_le_mul_right (Int.le_trans key h1) hP.1
  omega

/-! ## The best by trying all -/
def bestRow (f : Int → Int) (l : List B2) (bud : Int) : Nat → Int
  | 0 => 0
  | k + 1 => if (tot (l.take k)).1 ≤ bud then (if bestRow f l bud k < (tot (l.take k)).2 + f (bud - (tot (l.take k)).1) then (tot (l.take k)).2 + f (bud - (tot (l.take k)).1) else bestRow f l bud k) else bestRow f l bud k
def bestV : List (List B2) → Int → Int
  | [], _ => 0
  | l :: L, bud => if bud < 0 then 0 else bestRow (bestV L) l bud (l.length + 1)
theorem bestRow_ge (f : Int → Int) (l : List B2) (bud : Int) : ∀ k j, j < k → (tot (l.take j)).1 ≤ bud → (tot (l.take j)).2 + f (bud - (tot (l.take j)).1) ≤ bestRow f l bud k
  | 0, j, h, _ => by omega
  | k + 1, j, h, hc => by
    unfold bestRow
    by_cases hj : j = k
    · subst hj
      rw [if_pos hc]
      split <;> omega
    · have ih := bestRow_ge f l bud k j (by omega) hc
      split
      · split <;> omega
      · exact ih
theorem bestRow_is (f : Int → Int) (l : List B2) (bud : Int) : ∀ k, bestRow f l bud k = 0 ∨ ∃ j, j < k ∧ (tot (l.take j)).1 ≤ bud ∧ bestRow f l bud k = (tot (l.take j)).2 + f (bud - (tot (l.take j)).1)
  | 0 => .inl rfl
  | k + 1 => by
    have ih := bestRow_is f l bud k
    have ih' : bestRow f l bud k = 0 ∨ ∃ j, j < k + 1 ∧ (tot (l.take j)).1 ≤ bud ∧ bestRow f l bud k = (tot (l.take j)).2 + f (bud - (tot (l.take j)).1) := by
      rcases ih with h | ⟨j, h1, h2⟩
      · exact .inl h
      · exact .inr ⟨j, by omega, h2⟩
    unfold bestRow
    split
    · rename_i hc
      split
      · exact .inr ⟨k, by omega, hc, rfl⟩
      · exact ih'
    · exact ih'
theorem best_ge : ∀ (L : List (List B2)) (T : List Nat) (bud : Int), (∀ l ∈ L, ∀ b ∈ l, GoodB b) → Fits L T → (sumAll L T).1 ≤ bud → (sumAll L T).2 ≤ bestV L bud
  | [], T, bud, _, _, _ => by simp [sumAll, bestV]
  | l :: L, T, bud, hg, hf, hc => by
    have e1 := hf.len
    match T, e1 with
    | t :: T, e1 =>
      have hs := sum_gain_cost L T fun m hm => hg m (List.mem_cons_of_mem _ hm)
      have hb := tot_bound (l.take t) (good_take (hg l List.mem_cons_self) t)
      have h0 := hf.le 0 (by simp) (by simp)
      simp only [List.getElem_cons_zero] at h0
      simp only [sumAll, plus] at hc ⊢
      have ih := best_ge L T (bud - (tot (l.take t)).1) (fun m hm => hg m (List.mem_cons_of_mem _ hm)) ⟨by simpa using e1, fun i h1 h2 => hf.le (i + 1) (Nat.succ_lt_succ h1) (Nat.succ_lt_succ h2)⟩ (by omega)
      unfold bestV
      rw [if_neg (by omega)]
      have := bestRow_ge (bestV L) l bud (l.length + 1) t (by omega) (by omega)
      omega
theorem best_is : ∀ (L : List (List B2)) (bud : Int), 0 ≤ bud → ∃ T, Fits L T ∧ (sumAll L T).1 ≤ bud ∧ (sumAll L T).2 = bestV L bud
  | [], bud, h => ⟨[], ⟨rfl, fun i h => by simp at h⟩, by simpa [sumAll] using h, rfl⟩
  | l :: L, bud, h => by
    unfold bestV
    rw [if_neg (by omega)]
    rcases bestRow_is (bestV L) l bud (l.length + 1) with h9 | ⟨j, h1, h2, h3⟩
    · rw [h9]
      refine ⟨List.replicate (l :: L).length 0, fits_zero _ _ rfl, ?_, ?_⟩ <;> rw [sum_zero2]
      exact h
    · obtain ⟨T, t1, t2, t3⟩ := best_is L (bud - (tot (l.take j)).1) (by omega)
      refine ⟨j :: T, ⟨by simp [t1.len], fun i a b => ?_⟩, ?_, ?_⟩
      · cases i with
        | zero => simp; omega
        | succ i => simpa using t1.le i (by simpa using a) (by simpa using b)
      · simp only [sumAll, plus]; omega
      · rw [h3]; simp only [sumAll, plus]; omega
theorem best_neg (L : List (List B2)) (bud : Int) (h : bud < 0) : bestV L bud = 0 := by
  cases L with
  | nil => rfl
  | cons l L => unfold bestV; rw [if_pos h]

/-! ## At least half of the best -/
theorem cost_better {L : List (List B2)} (hg : ∀ l ∈ L, ∀ b ∈ l, GoodB b) (hs : ∀ l ∈ L, l.length ≤ 1024) (bud : Int) : (sumAll L (betterL L bud)).1 ≤ bud ∨ (sumAll L (betterL L bud)).1 = 0 := by
  have hlc := length_cut L bud
  have hz := inv_zero (cutL L bud)
  rw [hlc] at hz
  obtain ⟨h1, h2, h3, _⟩ := greedyF_end (good_cut hg bud) (small_cut hs bud) (bud.toNat + 1) (List.replicate L.length 0) bud hz (by omega)
  rw [sum_zero2] at h2
  have hgr : (sumAll L (greedyL L bud)).1 ≤ bud ∨ (sumAll L (greedyL L bud)).1 = 0 := by
    by_cases hb : 0 ≤ bud
    · have := h2 hb
      rw [sum_cut L _ bud h1.fits] at this
      left
      simpa [greedyL] using this
    · right
      have := h3 (by omega)
      unfold greedyL
      rw [this, sum_zero2]
  rcases bestOf_mem (gainL L) (tries L bud) (greedyL L bud) with h | h
  · unfold betterL; rw [h]; exact hgr
  · unfold betterL
    generalize bestOf (gainL L) (tries L bud) (greedyL L bud) = T at *
    obtain ⟨i, hi, rfl⟩ := List.mem_map.1 h
    have hi := List.mem_range.1 hi
    unfold tryRow
    rw [getD_at _ _ _ hi, sum_one L i _ hi]
    have hf := frontN_is L[i] bud
    by_cases h0 : frontN L[i] bud = 0
    · rw [h0]; right; rfl
    · exact .inl (hf.fits _ (by omega) (Nat.le_refl _))
theorem half_gain {L : List (List B2)} (hg : ∀ l ∈ L, ∀ b ∈ l, GoodB b) (hs : ∀ l ∈ L, l.length ≤ 1024) {bud : Int} {T : List Nat} (hT : Fits L T) (hc : (sumAll L T).1 ≤ bud) : (sumAll L T).2 ≤ 2 * (sumAll L (betterL L bud)).2 := by
  have hlc := length_cut L bud
  have hz := inv_zero (cutL L bud)
  rw [hlc] at hz
  have hgc := good_cut hg bud
  obtain ⟨h1, h2, h3, h4⟩ := greedyF_end hgc (small_cut hs bud) (bud.toNat + 1) (List.replicate L.length 0) bud hz (by omega)
  change Inv (cutL L bud) (greedyL L bud) at h1
  change nextL (cutL L bud) (greedyL L bud) = none ∨ ∃ i P n, nextL (cutL L bud) (greedyL L bud) = some (i, P, n) ∧ bud + (sumAll (cutL L bud) (List.replicate L.length 0)).1 - (sumAll (cutL L bud) (greedyL L bud)).1 < P.1 at h4
  rw [sum_zero2] at h4
  have hTc := fits_to_cut hg hT hc
  have s1 := sum_cut L T bud hTc
  have s2 := sum_cut L _ bud h1.fits
  have hge := bestOf_ge (gainL L) (tries L bud) (greedyL L bud)
  change gainL L (greedyL L bud) ≤ gainL L (betterL L bud) ∧ ∀ x ∈ tries L bud, gainL L x ≤ gainL L (betterL L bud) at hge
  unfold gainL at hge
  have hpos := (sum_gain_cost L (greedyL L bud) hg).2.1
  rcases h4 with h4 | ⟨i, P, n, h4, h5⟩
  · have hall := sum_le_all (cutL L bud) T (greedyL L bud) hTc h1.fits hgc fun a a1 a2 a3 => by
      have hr := nextTo_nil (cutL L bud) (greedyL L bud) _ h4 a a1
      unfold restL at hr
      rw [getD_at _ _ _ a1, getD_at _ _ _ a3] at hr
      have := congrArg List.length hr
      rw [List.length_drop] at this
      have := hTc.le a a1 a2
      simp at *
      omega
    rw [s1, s2] at hall
    omega
  · obtain ⟨q1, q2, q3, q4, q5, q6, q7⟩ := next_facts h1.fits h4
    have hbd := greedy_bound hgc h1 h4 (bud := bud) hTc (by rw [s1]; exact hc) (by simpa using h5)
    rw [s1, s2] at hbd
    have hiL : i < L.length := by rw [hlc] at q1; exact q1
    have htry := hge.2 (tryRow L bud i) (List.mem_map.2 ⟨i, List.mem_range.2 hiL, rfl⟩)
    have he : tryRow L bud i = (List.replicate L.length 0).set i (frontN L[i] bud) := by unfold tryRow; rw [getD_at _ _ _ hiL]
    rw [he, sum_one L i _ hiL] at htry
    have hgi := hgc _ (List.getElem_mem q1)
    have hx := tot_drop_take (cutL L bud)[i] (greedyL L bud)[i] n
    rw [← q6] at hx
    have hx2 := congrArg Prod.snd hx
    simp only [plus] at hx2
    have hm := tot_take_mono3 hgi q5
    rw [List.take_length] at hm
    have hcI : (cutL L bud)[i] = L[i].take (frontN L[i] bud) := cut_at L bud i q1 hiL
    have hp0 := tot_bound ((cutL L bud)[i].take (greedyL L bud)[i]) (good_take hgi _)
    rw [hcI] at hm hx2 hp0
    omega
theorem half_plain {L : List (List B2)} (hg : ∀ l ∈ L, ∀ b ∈ l, GoodB b) (hs : ∀ l ∈ L, l.length ≤ 1024) (bud : Int) :
    ((sumAll L (betterL L bud)).1 ≤ bud ∨ (sumAll L (betterL L bud)).1 = 0) ∧ bestV L bud ≤ 2 * (sumAll L (betterL L bud)).2 ∧ (sumAll L (betterL L bud)).2 ≤ max (bestV L bud) 0 := by
  have hc := cost_better hg hs bud
  have hp := sum_gain_cost L (betterL L bud) hg
  refine ⟨hc, ?_, ?_⟩
  · by_cases hb : 0 ≤ bud
    · obtain ⟨T, t1, t2, t3⟩ := best_is L bud hb
      have := half_gain hg hs t1 t2
      omega
    · rw [best_neg L bud (by omega)]; omega
  · rcases hc with h | h
    · have := best_ge L _ bud hg (better_fits L bud) h
      omega
    · omega
theorem best_bound (L : List (List B2)) (hg : ∀ l ∈ L, ∀ b ∈ l, GoodB b) (hs : ∀ l ∈ L, l.length ≤ 8) (bud : Int) : 0 ≤ bestV L bud ∧ bestV L bud ≤ 8388608 * L.length := by
  by_cases hb : 0 ≤ bud
  · obtain ⟨T, t1, t2, t3⟩ := best_is L bud hb
    have := sumAll_bound L T fun l hl => ⟨hs l hl, hg l hl⟩
    omega
  · rw [best_neg L bud (by omega)]; omega
end Go.StreamP
