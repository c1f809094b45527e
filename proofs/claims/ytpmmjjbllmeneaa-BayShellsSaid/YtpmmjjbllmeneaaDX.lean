/- Plain: shells, and the seeds that stand for them. -/
import Derived.Test.YtpmmjjbllmeneaaDB
namespace Go.Mesh
/-- Does one come from x to y? -/
def Con (T : List T3) (x y : Nat) : Prop := ∃ d, rch T x d y = true
/-- The i-th seed. -/
def sd (T : List T3) (i : Nat) : Nat := (seedsL T i).getD i 0
section
variable {N : Int} {T : List T3}
theorem Con.refl (x : Nat) : Con T x x := ⟨0, rch_zero.2 rfl⟩
theorem Con.symm (h : Surf N T) {x y : Nat} (c : Con T x y) : Con T y x := ⟨_, h.rch_symm c.choose_spec⟩
theorem Con.trans (h : Surf N T) {x y z : Nat} (c : Con T x y) (c1 : Con T y z) : Con T x z := by
  obtain ⟨d, hd⟩ := c
  obtain ⟨e, he⟩ := c1
  exact ⟨_, h.rch_trans hd he⟩
theorem Con.step (h : Surf N T) {x y z : Nat} (c : Con T x y) (hb : besd T y z = true) : Con T x z := by
  obtain ⟨d, hd⟩ := c
  exact ⟨d + 1, h.rch_succ.2 (.inr ⟨y, hd, hb⟩)⟩
theorem Surf.sd_at (h : Surf N T) {i m : Nat} (him : i ≤ m) (hm : m < T.length) : (seedsL T m)[i]? = some (sd T i) := by
  obtain ⟨hl, _, _⟩ := h.seeds_ok (by omega) i (by omega)
  obtain ⟨t, ht⟩ := seeds_prefix T him
  rw [← ht, List.getElem?_append_left (by omega)]
  unfold sd
  rw [List.getD_eq_getElem?_getD, List.getElem?_eq_getElem (by omega)]; rfl
theorem Surf.sd_lt (h : Surf N T) {i : Nat} (hi : i < T.length) : sd T i < T.length :=
  (h.seeds_ok (by omega) i hi).2.2 _ (List.mem_of_getElem? (h.sd_at (Nat.le_refl _) hi))
/-- Whom nobody reaches, is picked first. -/
theorem pick_neg {st : List Int} {p : Nat} (hp : st.getD p 0 < 0) (hb : ∀ x, x < p → 0 ≤ st.getD x 0) : ∀ k, p < k → pick st k = some p
  | 0, h => by omega
  | k + 1, h => by
    by_cases hk : p = k
    · subst hk
      rw [pick, if_neg (by omega)]
      cases hq : pick st p with
      | none => rfl
      | some b =>
        obtain ⟨h1, h2, _⟩ := pick_is hq
        have := hb b h1
        simp only []
        rw [if_pos ⟨this, .inl hp⟩]
    · rw [pick, pick_neg hp hb k (by omega)]
      split
      · rfl
      · simp only []
        rw [if_neg (by omega)]
/-- The triangles below p are numbered, by n parts. -/
structure Pt (T : List T3) (out : List Int) (n p : Nat) : Prop where
  len : out.length = T.length
  np : n ≤ p ∧ p ≤ T.length
  is : ∀ x, x < T.length → (∃ i, i < n ∧ out[x]? = some (i : Int) ∧ Con T (sd T i) x) ∨ (out[x]? = some (-1) ∧ ∀ i, i < n → ¬ Con T (sd T i) x)
  done : ∀ x, x < p → out[x]? ≠ some (-1)
  apart : ∀ i j, i < j → j < n → ¬ Con T (sd T i) (sd T j)
theorem Pt.start {out : List Int} (hl : out.length = T.length) (h : ∀ x, x < T.length → out[x]? = some (-1)) : Pt T out 0 0 :=
  ⟨hl, by omega, fun x hx => .inr ⟨h x hx, fun i hi => by omega⟩, fun x hx => by omega, fun i j _ hj => by omega⟩
theorem Pt.val {out : List Int} {n p x : Nat} (h : Pt T out n p) (hx : x < T.length) : ∃ d : Int, out[x]? = some d ∧ -1 ≤ d ∧ d < n := by
  rcases h.is x hx with ⟨i, h1, h2, _⟩ | ⟨h1, _⟩
  · exact ⟨i, h2, by omega, by omega⟩
  · exact ⟨-1, h1, by omega, by omega⟩
/-- Of each part the number is told. -/
theorem Pt.at_ (hs : Surf N T) {out : List Int} {n p i x : Nat} (h : Pt T out n p) (hi : i < n) (hx : x < T.length) (c : Con T (sd T i) x) : out[x]? = some (i : Int) := by
  rcases h.is x hx with ⟨j, h1, h2, h3⟩ | ⟨_, h2⟩
  · have hc := c.trans hs (h3.symm hs)
    rcases Nat.lt_trichotomy i j with h4 | h4 | h4
    · exact absurd hc (h.apart i j h4 h1)
    · rw [h4]; exact h2
    · exact absurd (hc.symm hs) (h.apart j i h4 hi)
  · exact absurd c (h2 i hi)
theorem Pt.skip {out : List Int} {n p : Nat} (h : Pt T out n p) (hp : p < T.length) (ho : out[p]? ≠ some (-1)) : Pt T out n (p + 1) :=
  ⟨h.len, by have := h.np; omega, h.is, fun x hx => by
    by_cases hxp : x = p
    · rw [hxp]; exact ho
    · exact h.done x (by omega), h.apart⟩
/-- The next seed is the least triangle without a number. -/
theorem Pt.next (hs : Surf N T) {out : List Int} {n p : Nat} (h : Pt T out n p) (hp : p < T.length) (ho : out[p]? = some (-1)) : sd T n = p := by
  have hno := h.np
  have hpn : ∀ i, i < n → ¬ Con T (sd T i) p := by
    rcases h.is p hp with ⟨i, _, h2, _⟩ | ⟨_, h2⟩
    · rw [ho] at h2
      have := Option.some.inj h2
      omega
    · exact h2
  cases n with
  | zero =>
    have : p = 0 := by
      rcases Nat.eq_zero_or_pos p with h0 | h0
      · exact h0
      · rcases h.is 0 (by omega) with ⟨i, h1, _⟩ | ⟨h1, _⟩
        · omega
        · exact absurd h1 (h.done 0 h0)
    subst this
    rfl
  | succ m =>
    obtain ⟨hl, _, hlt⟩ := hs.seeds_ok (by omega) m (by omega)
    obtain ⟨b, h1, h2, _⟩ := hs.seeds_succ (by omega) (m := m) (by omega)
    have hrc : ∀ x i d, rc T (seedsL T m) i d x = true → i < m + 1 ∧ Con T (sd T i) x := fun x i d hr => by
      have hi := rc_lt hr
      rw [hl] at hi
      obtain ⟨s, h3, h4⟩ := rc_some.1 hr
      rw [hs.sd_at (by omega) (by omega)] at h3
      obtain rfl := Option.some.inj h3
      exact ⟨hi, d, h4⟩
    have hneg : (distL T (seedsL T m)).getD p 0 < 0 := by
      rw [distL_getD hp, (hs.best_none hlt).1 fun i d => by
        rw [Bool.eq_false_iff]
        intro h9
        obtain ⟨h3, h4⟩ := hrc p i d h9
        exact hpn i h3 h4]
      simp [optI]
    have hpos : ∀ x, x < p → 0 ≤ (distL T (seedsL T m)).getD x 0 := fun x hx => by
      rcases h.is x (by omega) with ⟨i, h3, _, d, h4⟩ | ⟨h3, _⟩
      · obtain ⟨e, h5, _⟩ := dist_some (T := T) (S := seedsL T m) (rc_some.2 ⟨_, hs.sd_at (i := i) (m := m) (by omega) (by omega), h4⟩)
        rw [distL_getD (by omega), (hs.dist_iff hlt).2 h5]
        simp [optI]
      · exact absurd h3 (h.done x hx)
    rw [pick_neg hneg hpos _ hp] at h1
    obtain rfl := Option.some.inj h1
    unfold sd
    rw [h2, List.getD_eq_getElem?_getD, List.getElem?_append_right (by omega), hl, Nat.sub_self]; rfl
/-- A part is gone over: those met, i of them looked at and k edges of the next. -/
structure Bf (T : List T3) (out0 out : List Int) (row : List Nat) (n p i k : Nat) : Prop where
  len : out.length = T.length
  nd : row.Nodup
  lt : ∀ x ∈ row, x < T.length
  il : i ≤ row.length
  inn : ∀ x ∈ row, out[x]? = some (n : Int) ∧ Con T p x
  oth : ∀ x, x ∉ row → out[x]? = out0[x]?
  fst : p ∈ row
  cl : ∀ a x k' y, row[a]? = some x → (a < i ∨ (a = i ∧ k' < k)) → k' < 3 → nb T x k' = some y → out[y]? ≠ some (-1)
theorem Bf.start {out : List Int} {n p : Nat} (hl : out.length = T.length) (hp : p < T.length) : Bf T out (out.set p (n : Int)) [p] n p 0 0 :=
  ⟨by rw [List.length_set]; exact hl, by simp, fun x hx => by rw [List.mem_singleton.1 hx]; exact hp, by simp, fun x hx => by
    rw [List.mem_singleton.1 hx]
    exact ⟨set_same (by omega), Con.refl p⟩, fun x hx => set_other fun e => hx (by rw [e]; simp), by simp, fun a x k' y _ h => by omega⟩
theorem Bf.few {out0 out : List Int} {row : List Nat} {n p i k : Nat} (h : Bf T out0 out row n p i k) : row.length ≤ T.length := by
  have := nodup_len (m := List.range T.length) h.nd fun x hx => List.mem_range.2 (h.lt x hx)
  rwa [List.length_range] at this
theorem Bf.val {out0 out : List Int} {row : List Nat} {n p i k m q x : Nat} (h : Bf T out0 out row n p i k) (h0 : Pt T out0 m q) (hx : x < T.length) : ∃ d : Int, out[x]? = some d ∧ -1 ≤ d ∧ d ≤ m + n := by
  by_cases hr : x ∈ row
  · exact ⟨n, (h.inn x hr).1, by omega, by omega⟩
  · obtain ⟨d, h1, h2, h3⟩ := h0.val hx
    exact ⟨d, by rw [h.oth x hr]; exact h1, h2, by omega⟩
theorem Bf.skip {out0 out : List Int} {row : List Nat} {n p i k x : Nat} (h : Bf T out0 out row n p i k) (hx : row[i]? = some x) (hn : ∀ y, nb T x k = some y → out[y]? ≠ some (-1)) : Bf T out0 out row n p i (k + 1) :=
  ⟨h.len, h.nd, h.lt, h.il, h.inn, h.oth, h.fst, fun a x' k' y h1 h2 h3 h4 => by
    by_cases hq : a = i ∧ k' = k
    · obtain ⟨rfl, rfl⟩ := hq
      rw [hx] at h1
      obtain rfl := Option.some.inj h1
      exact hn y h4
    · exact h.cl a x' k' y h1 (by omega) h3 h4⟩
theorem Bf.meet (hs : Surf N T) {out0 out : List Int} {row : List Nat} {n p i k x y : Nat} (h : Bf T out0 out row n p i k) (hk : k < 3) (hx : row[i]? = some x) (hn : nb T x k = some y) (hy : out[y]? = some (-1)) : Bf T out0 (out.set y (n : Int)) (row ++ [y]) n p i (k + 1) := by
  have hyl := (hs.nb_rng hk hn).2
  have hlen := h.len
  have hyr : y ∉ row := fun hr => by
    have := (h.inn y hr).1
    rw [hy] at this
    have := Option.some.inj this
    omega
  have hset : ∀ z, out[z]? ≠ some (-1) → (out.set y (n : Int))[z]? ≠ some (-1) := fun z hz => by
    by_cases hzy : z = y
    · subst hzy
      rw [set_same (by omega)]
      intro e
      have := Option.some.inj e
      omega
    · rw [set_other hzy]; exact hz
  have hil := (List.getElem?_eq_some_iff.1 hx).1
  refine ⟨by rw [List.length_set]; exact hlen, ?_, ?_, by rw [List.length_append]; omega, ?_, ?_, List.mem_append_left _ h.fst, ?_⟩
  · exact List.nodup_append.2 ⟨h.nd, by simp, fun a ha b hb e => by
      rw [List.mem_singleton.1 hb] at e
      exact hyr (e ▸ ha)⟩
  · intro z hz
    rcases List.mem_append.1 hz with h1 | h1
    · exact h.lt z h1
    · rw [List.mem_singleton.1 h1]; exact hyl
  · intro z hz
    rcases List.mem_append.1 hz with h1 | h1
    · have hzy : z ≠ y := fun e => hyr (e ▸ h1)
      rw [set_other hzy]; exact h.inn z h1
    · rw [List.mem_singleton.1 h1]
      exact ⟨set_same (by omega), (h.inn x (List.mem_of_getElem? hx)).2.step hs (besd_iff.2 ⟨k, hk, hn⟩)⟩
  · intro z hz
    have hzy : z ≠ y := fun e => hz (by rw [e]; simp)
    rw [set_other hzy]
    exact h.oth z fun h1 => hz (List.mem_append_left _ h1)
  · intro a x' k' y' h1 h2 h3 h4
    have hal : a < row.length := by omega
    rw [List.getElem?_append_left hal] at h1
    by_cases hq : a = i ∧ k' = k
    · obtain ⟨rfl, rfl⟩ := hq
      rw [hx] at h1
      obtain rfl := Option.some.inj h1
      rw [hn] at h4
      obtain rfl := Option.some.inj h4
      rw [set_same (by omega)]
      intro e
      have := Option.some.inj e
      omega
    · exact hset y' (h.cl a x' k' y' h1 (by omega) h3 h4)
theorem Bf.row {out0 out : List Int} {row : List Nat} {n p i : Nat} (h : Bf T out0 out row n p i 3) (hi : i < row.length) : Bf T out0 out row n p (i + 1) 0 :=
  ⟨h.len, h.nd, h.lt, by omega, h.inn, h.oth, h.fst, fun a x k' y h1 h2 h3 h4 => h.cl a x k' y h1 (by omega) h3 h4⟩
theorem Bf.all (hs : Surf N T) {out0 out : List Int} {row : List Nat} {n p : Nat} (h0 : Pt T out0 n p) (hp : p < T.length) (ho : out0[p]? = some (-1)) (h : Bf T out0 out row n p row.length 0) : Pt T out (n + 1) (p + 1) := by
  have hsd := h0.next hs hp ho
  have hnp := h0.np
  have hpn : ∀ i, i < n → ¬ Con T (sd T i) p := by
    rcases h0.is p hp with ⟨i, _, h2, _⟩ | ⟨_, h2⟩
    · rw [ho] at h2
      have := Option.some.inj h2
      omega
    · exact h2
  have hrow : ∀ d x, rch T p d x = true → x ∈ row := by
    intro d
    induction d with
    | zero => intro x hx; rw [rch_zero.1 hx]; exact h.fst
    | succ d ih =>
      intro x hx
      rcases hs.rch_succ.1 hx with h1 | ⟨y, h1, h2⟩
      · exact ih x h1
      · obtain ⟨a, ha⟩ := List.getElem?_of_mem (ih y h1)
        obtain ⟨k, hk, h3⟩ := besd_iff.1 h2
        have h4 := h.cl a y k x ha (.inl (List.getElem?_eq_some_iff.1 ha).1) hk h3
        have hxl := (hs.nb_rng hk h3).2
        by_cases hxr : x ∈ row
        · exact hxr
        · rw [h.oth x hxr] at h4
          rcases h0.is x hxl with ⟨i, h5, _, h6⟩ | ⟨h5, _⟩
          · exact absurd (h6.trans hs (Con.symm hs ⟨d + 1, hx⟩)) (hpn i h5)
          · exact absurd h5 h4
  refine ⟨h.len, by omega, fun x hx => ?_, fun x hx => ?_, fun i j hij hj => ?_⟩
  · by_cases hxr : x ∈ row
    · exact .inl ⟨n, by omega, (h.inn x hxr).1, by rw [hsd]; exact (h.inn x hxr).2⟩
    · rw [h.oth x hxr]
      rcases h0.is x hx with ⟨i, h1, h2, h3⟩ | ⟨h1, h2⟩
      · exact .inl ⟨i, by omega, h2, h3⟩
      · refine .inr ⟨h1, fun i hi c => ?_⟩
        by_cases hin : i = n
        · rw [hin, hsd] at c
          obtain ⟨d, hd⟩ := c
          exact hxr (hrow d x hd)
        · exact h2 i (by omega) c
  · by_cases hxr : x ∈ row
    · rw [(h.inn x hxr).1]
      intro e
      have := Option.some.inj e
      omega
    · rw [h.oth x hxr]
      by_cases hxp : x = p
      · rw [hxp] at hxr; exact absurd h.fst hxr
      · exact h0.done x (by omega)
  · by_cases hjn : j = n
    · rw [hjn, hsd]; exact hpn i (by omega)
    · exact h0.apart i j hij (by omega)
/-- All is told: so many parts. -/
theorem Pt.full {out : List Int} {C x : Nat} (h : Pt T out C T.length) (hx : x < T.length) : ∃ i, i < C ∧ out[x]? = some (i : Int) ∧ Con T (sd T i) x := by
  rcases h.is x hx with h1 | ⟨h1, _⟩
  · exact h1
  · exact absurd h1 (h.done x hx)
/-- Bays grow by the first seeds just if these are as many as the parts. -/
theorem Pt.grows (hs : Surf N T) {out : List Int} {C m : Nat} (h : Pt T out C T.length) (hm : m < T.length) : (-1 : Int) ∈ nearL T (seedsL T m) ↔ m + 1 < C := by
  obtain ⟨hl, _, hlt⟩ := hs.seeds_ok (by omega) m hm
  have hnp := h.np
  constructor
  · intro h1
    rcases Nat.lt_or_ge (m + 1) C with h2 | h2
    · exact h2
    · exfalso
      refine near_all.2 (fun x hx => ?_) h1
      obtain ⟨i, h3, _, d, h4⟩ := h.full hx
      obtain ⟨e, h5, _⟩ := dist_some (T := T) (S := seedsL T m) (rc_some.2 ⟨_, hs.sd_at (i := i) (m := m) (by omega) (by omega), h4⟩)
      obtain ⟨j, h6, _⟩ := hs.nearO_some hlt ((hs.dist_iff hlt).2 h5)
      exact ⟨j, h6⟩
  · intro h1
    by_cases h2 : (-1 : Int) ∈ nearL T (seedsL T m)
    · exact h2
    · exfalso
      have hxl := hs.sd_lt (i := m + 1) (by omega)
      obtain ⟨i, hi⟩ := near_all.1 h2 (sd T (m + 1)) hxl
      cases hd : distO T (seedsL T m) (sd T (m + 1)) with
      | none => rw [nearO_none hd] at hi; cases hi
      | some d =>
        obtain ⟨j, _, hb⟩ := hs.nearO_some hlt hd
        have hj := rc_lt hb.1
        rw [hl] at hj
        obtain ⟨s, h3, h4⟩ := rc_some.1 hb.1
        rw [hs.sd_at (by omega) hm] at h3
        obtain rfl := Option.some.inj h3
        exact h.apart j (m + 1) (by omega) h1 ⟨d, h4⟩
end
end Go.Mesh
