/- Plain: what the document tells of bays, and seeds; no program in sight. -/
import Derived.Test.YtpmmjjbllmeneaaDA
namespace Go.Mesh
/-- The least number of steps from any of some. -/
def Dist (T : List T3) (S : List Nat) (x d : Nat) : Prop := (∃ i, rc T S i d x = true) ∧ ∀ j e, rc T S j e x = true → d ≤ e
section
variable {N : Int} {T : List T3} {S : List Nat}
theorem Dist.uniq {x d e : Nat} (h : Dist T S x d) (h1 : Dist T S x e) : d = e := by
  obtain ⟨i, hi⟩ := h.1
  obtain ⟨j, hj⟩ := h1.1
  have := h.2 _ _ hj
  have := h1.2 _ _ hi
  omega
theorem Best.dist {x d i : Nat} (h : Best T S x d i) : Dist T S x d := ⟨⟨i, h.1⟩, fun j e he => by have := h.2 j e he; omega⟩
theorem Surf.dist_iff (h : Surf N T) (hS : ∀ s ∈ S, s < T.length) {x d : Nat} : distO T S x = some d ↔ Dist T S x d := by
  constructor
  · intro h1
    obtain ⟨i, _, h2⟩ := h.nearO_some hS h1
    exact h2.dist
  · intro h1
    obtain ⟨i, hi⟩ := h1.1
    obtain ⟨e, j, h2⟩ := best_some hi
    rw [((h.best_iff hS).2 h2).1, h2.dist.uniq h1]
theorem dist_some {x i d : Nat} (h1 : rc T S i d x = true) : ∃ e, Dist T S x e ∧ e ≤ d := by
  obtain ⟨e, j, h2⟩ := best_some h1
  exact ⟨e, h2.dist, by have := h2.2 _ _ h1; omega⟩
/-- Who is farther has one beside that is nearer. -/
theorem Surf.dist_pred (h : Surf N T) {x d : Nat} (h1 : Dist T S x (d + 1)) : ∃ y, Dist T S y d ∧ besd T y x = true := by
  obtain ⟨i, hi⟩ := h1.1
  obtain ⟨s, h2, h3⟩ := rc_some.1 hi
  rcases h.rch_succ.1 h3 with h4 | ⟨y, h4, h5⟩
  · have := h1.2 i d (rc_some.2 ⟨s, h2, h4⟩)
    omega
  · obtain ⟨e, h6, h7⟩ := dist_some (rc_some.2 ⟨s, h2, h4⟩)
    obtain ⟨j, hj⟩ := h6.1
    obtain ⟨s', h8, h9⟩ := rc_some.1 hj
    have := h1.2 j (e + 1) (rc_some.2 ⟨s', h8, h.rch_succ.2 (.inr ⟨y, h9, h5⟩)⟩)
    have he : e = d := by omega
    exact ⟨y, he ▸ h6, h5⟩
theorem dist_zero {x : Nat} : Dist T S x 0 ↔ x ∈ S := by
  constructor
  · rintro ⟨⟨i, hi⟩, _⟩
    obtain ⟨s, h1, h2⟩ := rc_some.1 hi
    rw [rch_zero.1 h2]
    exact List.mem_of_getElem? h1
  · intro hx
    obtain ⟨i, hi⟩ := mem_at hx
    exact ⟨⟨i, rc_some.2 ⟨x, hi, rch_zero.2 rfl⟩⟩, fun _ _ _ => Nat.zero_le _⟩
theorem Surf.dist_lt (h : Surf N T) (hS : ∀ s ∈ S, s < T.length) {x d : Nat} (h1 : Dist T S x d) : d < T.length ∧ x < T.length := by
  obtain ⟨i, hi⟩ := h1.1
  obtain ⟨s, h2, h3⟩ := rc_some.1 hi
  have hs := hS s (List.mem_of_getElem? h2)
  have := h1.2 i _ (rc_some.2 ⟨s, h2, h.rch_few hs h3⟩)
  exact ⟨by omega, h.rch_lt hs h3⟩
/-- Within a round: the triangles below t are gone over, of t the edges below k (in the document's order). -/
structure Fr (T : List T3) (S : List Nat) (far : List Int) (r t k : Nat) : Prop where
  len : far.length = T.length
  is : ∀ x, x < T.length → far[x]? = some (-1) ∨ ∃ d : Nat, far[x]? = some (d : Int) ∧ Dist T S x d ∧ d ≤ r + 1
  near : ∀ (x d : Nat), Dist T S x d → d ≤ r → far[x]? = some (d : Int)
  done : ∀ (y k' x : Nat), (y < t ∨ (y = t ∧ k' < k)) → k' < 3 → Dist T S y r → nb T y ((k' + 2) % 3) = some x → far[x]? ≠ some (-1)
theorem Fr.val {far : List Int} {r t k x : Nat} (h : Fr T S far r t k) (hx : x < T.length) : ∃ d : Int, far[x]? = some d ∧ -1 ≤ d ∧ d ≤ r + 1 := by
  rcases h.is x hx with h1 | ⟨d, h1, _, h2⟩
  · exact ⟨-1, h1, by omega, by omega⟩
  · exact ⟨d, h1, by omega, by omega⟩
theorem Fr.at_ {far : List Int} {r t k x : Nat} (h : Fr T S far r t k) (hx : x < T.length) : far[x]? = some (r : Int) ↔ Dist T S x r := by
  constructor
  · intro h1
    rcases h.is x hx with h2 | ⟨d, h2, h3, _⟩
    · rw [h1] at h2; have := Option.some.inj h2; omega
    · rw [h1] at h2
      have e : d = r := by have := Option.some.inj h2; omega
      exact e ▸ h3
  · intro h1; exact h.near x r h1 (Nat.le_refl _)
/-- A triangle that isn't so far is passed over. -/
theorem Fr.pass {far : List Int} {r t : Nat} (h : Fr T S far r t 0) (hn : ¬ Dist T S t r) : Fr T S far r (t + 1) 0 :=
  ⟨h.len, h.is, h.near, fun y k' x h1 h2 h3 h4 => by
    by_cases hy : y = t
    · subst hy; exact absurd h3 hn
    · exact h.done y k' x (by omega) h2 h3 h4⟩
theorem Fr.row {far : List Int} {r t : Nat} (h : Fr T S far r t 3) : Fr T S far r (t + 1) 0 := ⟨h.len, h.is, h.near, fun y k' x h1 h2 h3 h4 => h.done y k' x (by omega) h2 h3 h4⟩
/-- An edge with nobody behind it, or with one that is told already. -/
theorem Fr.skip {far : List Int} {r t k : Nat} (h : Fr T S far r t k) (hn : ∀ x, nb T t ((k + 2) % 3) = some x → far[x]? ≠ some (-1)) : Fr T S far r t (k + 1) :=
  ⟨h.len, h.is, h.near, fun y k' x h1 h2 h3 h4 => by
    by_cases hy : y = t ∧ k' = k
    · obtain ⟨rfl, rfl⟩ := hy; exact hn x h4
    · exact h.done y k' x (by omega) h2 h3 h4⟩
theorem Fr.mark (hs : Surf N T) {far : List Int} {r t k x : Nat} (h : Fr T S far r t k) (hk : k < 3) (ht : Dist T S t r) (hn : nb T t ((k + 2) % 3) = some x) (hx : far[x]? = some (-1)) : Fr T S (far.set x ((r : Int) + 1)) r t (k + 1) := by
  have hlen := h.len
  have hxl := (hs.nb_rng (by omega : (k + 2) % 3 < 3) hn).2
  have hbesd : besd T t x = true := besd_iff.2 ⟨_, by omega, hn⟩
  have hd : Dist T S x (r + 1) := by
    obtain ⟨i, hi⟩ := ht.1
    obtain ⟨s, h1, h2⟩ := rc_some.1 hi
    refine ⟨⟨i, rc_some.2 ⟨s, h1, hs.rch_succ.2 (.inr ⟨t, h2, hbesd⟩)⟩⟩, fun j e he => ?_⟩
    obtain ⟨d, h3, h4⟩ := dist_some he
    rcases Nat.lt_or_ge r d with h5 | h5
    · omega
    · have := h.near x d h3 h5
      rw [hx] at this
      have := Option.some.inj this
      omega
  refine ⟨by rw [List.length_set]; exact hlen, fun z hz => ?_, fun z d h1 h2 => ?_, fun y k' z h1 h2 h3 h4 => ?_⟩
  · by_cases hzx : z = x
    · subst hzx
      exact .inr ⟨r + 1, by rw [set_same (by omega)]; rfl, hd, Nat.le_refl _⟩
    · rw [set_other hzx]; exact h.is z hz
  · have hzx : z ≠ x := fun e => by
      subst e
      have := h1.uniq hd
      omega
    rw [set_other hzx]; exact h.near z d h1 h2
  · by_cases hzx : z = x
    · subst hzx
      rw [set_same (by omega)]
      intro e
      have := Option.some.inj e
      omega
    · rw [set_other hzx]
      by_cases hy : y = t ∧ k' = k
      · obtain ⟨rfl, rfl⟩ := hy
        rw [hn] at h4
        exact absurd (Option.some.inj h4).symm hzx
      · exact h.done y k' z (by omega) h2 h3 h4
theorem Fr.next (hs : Surf N T) {far : List Int} {r : Nat} (h : Fr T S far r T.length 0) : Fr T S far (r + 1) 0 0 := by
  refine ⟨h.len, fun x hx => ?_, fun x d h1 h2 => ?_, fun y k' x h1 => by omega⟩
  · rcases h.is x hx with h1 | ⟨d, h1, h2, h3⟩
    · exact .inl h1
    · exact .inr ⟨d, h1, h2, by omega⟩
  · rcases Nat.lt_or_ge r d with h3 | h3
    · have : d = r + 1 := by omega
      subst this
      obtain ⟨y, h4, h5⟩ := hs.dist_pred h1
      obtain ⟨k, hk, h6⟩ := besd_iff.1 h5
      have hyl := (hs.besd_rng h5).1
      have hxl := (hs.besd_rng h5).2
      have h7 := h.done y ((k + 1) % 3) x (.inl hyl) (by omega) h4 (by rw [show ((k + 1) % 3 + 2) % 3 = k by omega]; exact h6)
      rcases h.is x hxl with h8 | ⟨e, h8, h9, _⟩
      · exact absurd h8 h7
      · rw [h8, h1.uniq h9]
    · exact h.near x d h1 h3
/-- With the seeds told, before the first round. -/
theorem Fr.start (hS : ∀ s ∈ S, s < T.length) {far : List Int} (hl : far.length = T.length) (h1 : ∀ x, x < T.length → (x ∈ S → far[x]? = some 0) ∧ (x ∉ S → far[x]? = some (-1))) : Fr T S far 0 0 0 := by
  refine ⟨hl, fun x hx => ?_, fun x d h2 h3 => ?_, fun y k' x h2 => by omega⟩
  · by_cases hm : x ∈ S
    · exact .inr ⟨0, (h1 x hx).1 hm, dist_zero.2 hm, by omega⟩
    · exact .inl ((h1 x hx).2 hm)
  · have : d = 0 := by omega
    subst this
    have hm := dist_zero.1 h2
    exact (h1 x (hS x hm)).1 hm
theorem Fr.all (hs : Surf N T) (hS : ∀ s ∈ S, s < T.length) {far : List Int} (h : Fr T S far T.length 0 0) : far = distL T S := by
  have hlen := h.len
  refine List.ext_getElem? fun x => ?_
  by_cases hx : x < T.length
  · rw [distL_at hx]
    rcases h.is x hx with h1 | ⟨d, h1, h2, _⟩
    · cases hd : distO T S x with
      | none => exact h1
      | some d =>
        have h2 := (hs.dist_iff hS).1 hd
        have h3 := (hs.dist_lt hS h2).1
        rw [h.near x d h2 (by omega)] at h1
        have := Option.some.inj h1
        omega
    · rw [h1, (hs.dist_iff hS).2 h2]; rfl
  · rw [List.getElem?_eq_none (by omega), List.getElem?_eq_none (by rw [distL_len]; omega)]
/-! ## Seeds -/
/-- The one farthest of the first k. -/
def pick (st : List Int) : Nat → Option Nat
  | 0 => none
  | k + 1 => if st.getD k 0 = 0 then pick st k else match pick st k with
    | none => some k
    | some b => if 0 ≤ st.getD b 0 ∧ (st.getD k 0 < 0 ∨ st.getD b 0 < st.getD k 0) then some k else some b
theorem pick_is {st : List Int} : ∀ {k b : Nat}, pick st k = some b → b < k ∧ st.getD b 0 ≠ 0 ∧ ∀ x, x < k → st.getD x 0 ≠ 0 → st.getD b 0 < 0 ∨ (0 ≤ st.getD x 0 ∧ st.getD x 0 ≤ st.getD b 0)
  | 0, b, h => by cases h
  | k + 1, b, h => by
    unfold pick at h
    split at h
    · rename_i h0
      obtain ⟨h1, h2, h3⟩ := pick_is h
      refine ⟨by omega, h2, fun x hx hx0 => ?_⟩
      by_cases hxk : x = k
      · rw [hxk] at hx0; exact absurd h0 hx0
      · exact h3 x (by omega) hx0
    · rename_i h0
      cases hp : pick st k with
      | none =>
        rw [hp] at h
        obtain rfl := Option.some.inj h
        refine ⟨by omega, h0, fun x hx hx0 => ?_⟩
        by_cases hxk : x = k
        · rw [hxk]; omega
        · exfalso
          have : ∀ j x, x < j → pick st j = none → st.getD x 0 = 0 := by
            intro j
            induction j with
            | zero => intro x hx; omega
            | succ j ih =>
              intro x hx hj
              unfold pick at hj
              split at hj
              · rename_i h9
                by_cases hxj : x = j
                · rw [hxj]; exact h9
                · exact ih x (by omega) hj
              · split at hj
                · cases hj
                · split at hj <;> cases hj
          exact hx0 (this k x (by omega) hp)
      | some c =>
        rw [hp] at h
        obtain ⟨h1, h2, h3⟩ := pick_is hp
        simp only [] at h
        split at h
        · rename_i h4
          obtain rfl := Option.some.inj h
          refine ⟨by omega, h0, fun x hx hx0 => ?_⟩
          by_cases hxk : x = k
          · rw [hxk]; omega
          · have := h3 x (by omega) hx0
            omega
        · rename_i h4
          obtain rfl := Option.some.inj h
          refine ⟨by omega, h2, fun x hx hx0 => ?_⟩
          by_cases hxk : x = k
          · subst hxk; omega
          · exact h3 x (by omega) hx0
theorem pick_none {st : List Int} : ∀ {k : Nat}, pick st k = none → ∀ x, x < k → st.getD x 0 = 0
  | 0, _, x, hx => by omega
  | k + 1, h, x, hx => by
    unfold pick at h
    split at h
    · rename_i h9
      by_cases hxj : x = k
      · rw [hxj]; exact h9
      · exact pick_none h x (by omega)
    · split at h
      · cases h
      · split at h <;> cases h
/-- The first m + 1 seeds. -/
def seedsL (T : List T3) : Nat → List Nat
  | 0 => [0]
  | m + 1 => seedsL T m ++ (pick (distL T (seedsL T m)) T.length).toList
theorem distL_getD {x : Nat} (hx : x < T.length) : (distL T S).getD x 0 = optI (distO T S x) := by rw [List.getD_eq_getElem?_getD, distL_at hx]; rfl
theorem Surf.dist_mem (h : Surf N T) (hS : ∀ s ∈ S, s < T.length) {x : Nat} (hx : x < T.length) : (distL T S).getD x 0 = 0 ↔ x ∈ S := by
  rw [distL_getD hx, ← dist_zero (T := T), ← h.dist_iff hS]
  cases distO T S x with
  | none => simp [optI]
  | some d => simp [optI]
theorem Surf.seeds_ok (h : Surf N T) (hT : 0 < T.length) : ∀ m, m < T.length → (seedsL T m).length = m + 1 ∧ (seedsL T m).Nodup ∧ ∀ s ∈ seedsL T m, s < T.length
  | 0, _ => by simp [seedsL]; exact hT
  | m + 1, hm => by
    obtain ⟨h1, h2, h3⟩ := h.seeds_ok hT m (by omega)
    cases hp : pick (distL T (seedsL T m)) T.length with
    | none =>
      exfalso
      have h4 : ∀ x, x < T.length → x ∈ seedsL T m := fun x hx => (h.dist_mem h3 hx).1 (pick_none hp x hx)
      have h5 : (List.range T.length).length ≤ (seedsL T m).length := nodup_len List.nodup_range fun x hx => h4 x (List.mem_range.1 hx)
      rw [List.length_range] at h5
      omega
    | some b =>
      obtain ⟨h4, h5, _⟩ := pick_is hp
      have h6 : b ∉ seedsL T m := fun h9 => h5 ((h.dist_mem h3 h4).2 h9)
      unfold seedsL
      rw [hp]
      refine ⟨by simp [h1], ?_, ?_⟩
      · exact List.nodup_append.2 ⟨h2, by simp, fun a ha c hc e => by
          simp at hc
          subst hc; subst e
          exact h6 ha⟩
      · intro s hs
        rcases List.mem_append.1 hs with h7 | h7
        · exact h3 s h7
        · simp at h7; rw [h7]; exact h4
theorem Surf.seeds_succ (h : Surf N T) (hT : 0 < T.length) {m : Nat} (hm : m + 1 < T.length) : ∃ b, pick (distL T (seedsL T m)) T.length = some b ∧ seedsL T (m + 1) = seedsL T m ++ [b] ∧ b ∉ seedsL T m := by
  have h1 := h.seeds_ok hT (m + 1) hm
  have h2 := h.seeds_ok hT m (by omega)
  cases hp : pick (distL T (seedsL T m)) T.length with
  | none =>
    exfalso
    have : seedsL T (m + 1) = seedsL T m := by rw [seedsL, hp]; simp
    rw [this] at h1
    omega
  | some b =>
    have h3 : seedsL T (m + 1) = seedsL T m ++ [b] := by rw [seedsL, hp]; rfl
    refine ⟨b, rfl, h3, fun h9 => ?_⟩
    have := h1.2.1
    rw [h3] at this
    exact (List.nodup_append.1 this).2.2 b h9 b (by simp) rfl
theorem seeds_prefix (T : List T3) {a b : Nat} (h : a ≤ b) : seedsL T a <+: seedsL T b := by
  induction b with
  | zero => rw [show a = 0 by omega]; exact List.prefix_rfl
  | succ b ih =>
    by_cases hab : a = b + 1
    · rw [hab]; exact List.prefix_rfl
    · exact (ih (by omega)).trans (by rw [seedsL]; exact List.prefix_append _ _)
/-- What Seeds tells. -/
def seedsOf (T : List T3) (most : Int) : List Nat := if T.length = 0 ∨ most < 1 then [] else seedsL T (min most.toNat (min 256 T.length) - 1)
end
end Go.Mesh
namespace Go.Mesh
section
variable {N : Int} {T : List T3} {S : List Nat}
/-- In a bay, whoever is not the seed has one beside in the bay that is nearer. -/
theorem Surf.bay_pred (h : Surf N T) {x d i : Nat} (hb : Best T S x (d + 1) i) : ∃ y, Best T S y d i ∧ besd T y x = true := by
  obtain ⟨s, h2, h3⟩ := rc_some.1 hb.1
  rcases h.rch_succ.1 h3 with h4 | ⟨y, h4, h5⟩
  · have := hb.2 i d (rc_some.2 ⟨s, h2, h4⟩)
    omega
  · refine ⟨y, ⟨rc_some.2 ⟨s, h2, h4⟩, fun j e he => ?_⟩, h5⟩
    obtain ⟨s', h6, h7⟩ := rc_some.1 he
    have := hb.2 j (e + 1) (rc_some.2 ⟨s', h6, h.rch_succ.2 (.inr ⟨y, h7, h5⟩)⟩)
    omega
/-- What holds of the seed, and goes over edges within the bay, holds of all the bay. -/
theorem Surf.bay_all (h : Surf N T) (P : Nat → Prop) {i s : Nat} (hi : S[i]? = some s) (h0 : P s)
    (hP : ∀ y x, (∃ d, Best T S y d i) → (∃ d, Best T S x d i) → P y → besd T y x = true → P x) : ∀ d x, Best T S x d i → P x := by
  intro d
  induction d with
  | zero =>
    intro x hx
    obtain ⟨s', h1, h2⟩ := rc_some.1 hx.1
    rw [hi] at h1
    obtain rfl := Option.some.inj h1
    rw [rch_zero.1 h2]; exact h0
  | succ d ih =>
    intro x hx
    obtain ⟨y, h1, h2⟩ := h.bay_pred hx
    exact hP y x ⟨d, h1⟩ ⟨d + 1, hx⟩ (ih y h1) h2
/-- A seed is in its own bay. -/
theorem best_seed (hS : S.Nodup) {i s : Nat} (hi : S[i]? = some s) : Best T S s 0 i := by
  refine ⟨rc_some.2 ⟨s, hi, rch_zero.2 rfl⟩, fun j e he => ?_⟩
  rcases Nat.eq_zero_or_pos e with rfl | h1
  · obtain ⟨s', h2, h3⟩ := rc_some.1 he
    obtain rfl := rch_zero.1 h3
    refine .inr ⟨rfl, ?_⟩
    obtain ⟨h4, h5⟩ := List.getElem?_eq_some_iff.1 hi
    obtain ⟨h6, h7⟩ := List.getElem?_eq_some_iff.1 h2
    have := (List.getElem_inj hS).1 (h5.trans h7.symm)
    omega
  · exact .inl h1
theorem Surf.near_seed (h : Surf N T) (hl : ∀ s ∈ S, s < T.length) (hS : S.Nodup) {i s : Nat} (hi : S[i]? = some s) : (nearL T S)[s]? = some (i : Int) := by
  rw [nearL_at (hl s (List.mem_of_getElem? hi)), ((h.best_iff hl).2 (best_seed hS hi)).2]; rfl
/-- Nobody is out of reach. -/
theorem near_all : (-1 : Int) ∉ nearL T S ↔ ∀ x, x < T.length → ∃ i, nearO T S x = some i := by
  constructor
  · intro h1 x hx
    cases hn : nearO T S x with
    | some i => exact ⟨i, rfl⟩
    | none =>
      exfalso
      refine h1 (List.mem_of_getElem? (i := x) ?_)
      rw [nearL_at hx, hn]; rfl
  · intro h1 h2
    obtain ⟨x, hx⟩ := List.getElem?_of_mem h2
    have hl := (List.getElem?_eq_some_iff.1 hx).1
    rw [nearL_len] at hl
    obtain ⟨i, hi⟩ := h1 x hl
    rw [nearL_at hl, hi] at hx
    have := Option.some.inj hx
    simp [optI] at this
theorem rc_app_old {a x d i : Nat} (hi : i < S.length) : rc T (S ++ [a]) i d x = rc T S i d x := by
  unfold rc; rw [List.getElem?_append_left hi]
theorem rc_app_new {a x d : Nat} : rc T (S ++ [a]) S.length d x = rch T a d x := by
  unfold rc; simp
/-- One seed more takes, and gives none. -/
theorem Surf.near_more (h : Surf N T) (hS : ∀ s ∈ S, s < T.length) {a x i j : Nat} (ha : a < T.length) (h1 : nearO T S x = some i) (h2 : nearO T (S ++ [a]) x = some j) : j = i ∨ j = S.length := by
  have hS2 : ∀ s ∈ S ++ [a], s < T.length := fun s hs => by
    rcases List.mem_append.1 hs with h3 | h3
    · exact hS s h3
    · rw [List.mem_singleton.1 h3]; exact ha
  have hd1 : ∃ d, distO T S x = some d := by
    unfold nearO at h1
    cases hd : distO T S x with
    | none => rw [hd] at h1; cases h1
    | some d => exact ⟨d, rfl⟩
  have hd2 : ∃ d, distO T (S ++ [a]) x = some d := by
    unfold nearO at h2
    cases hd : distO T (S ++ [a]) x with
    | none => rw [hd] at h2; cases h2
    | some d => exact ⟨d, rfl⟩
  obtain ⟨d, hd1⟩ := hd1
  obtain ⟨e, hd2⟩ := hd2
  have b1 := (h.best_iff hS).1 ⟨hd1, h1⟩
  have b2 := (h.best_iff hS2).1 ⟨hd2, h2⟩
  have hj := rc_lt b2.1
  simp at hj
  by_cases hjl : j = S.length
  · exact .inr hjl
  · refine .inl ?_
    have hi := rc_lt b1.1
    have h3 := b1.2 j e (by rw [← rc_app_old (a := a) (by omega)]; exact b2.1)
    have h4 := b2.2 i d (by rw [rc_app_old hi]; exact b1.1)
    omega
/-- How far apart seeds are. -/
theorem Surf.seeds_apart (h : Surf N T) (hT : 0 < T.length) {m : Nat} (hm : m < T.length) {i k a b d : Nat} (hik : i < k) (ha : (seedsL T m)[i]? = some a) (hb : (seedsL T m)[k]? = some b) (hd : rch T a d b = true) {x e : Nat} (hx : Dist T (seedsL T m) x e) : e ≤ d := by
  obtain ⟨hl, _, hlt⟩ := h.seeds_ok hT m hm
  have hk := (List.getElem?_eq_some_iff.1 hb).1
  obtain ⟨k', rfl⟩ : ∃ k', k = k' + 1 := ⟨k - 1, by omega⟩
  obtain ⟨hl1, _, hlt1⟩ := h.seeds_ok hT k' (by omega)
  obtain ⟨b', hp, hs, _⟩ := h.seeds_succ hT (m := k') (by omega)
  have hpre := seeds_prefix T (a := k' + 1) (b := m) (by omega)
  have hpre1 := seeds_prefix T (a := k') (b := m) (by omega)
  have hbb : b' = b := by
    obtain ⟨t, ht⟩ := hpre
    rw [← ht, List.getElem?_append_left (by rw [hs]; simp [hl1]), hs, List.getElem?_append_right (by omega), hl1] at hb
    simpa using hb
  subst hbb
  have haS : (seedsL T k')[i]? = some a := by
    obtain ⟨t, ht⟩ := hpre1
    rw [← ht, List.getElem?_append_left (by omega)] at ha
    exact ha
  obtain ⟨hbl, hb0, hbest⟩ := pick_is hp
  obtain ⟨f, hf, hfd⟩ := dist_some (rc_some.2 ⟨a, haS, hd⟩)
  have hfo := (h.dist_iff hlt1).2 hf
  have hxl := (h.dist_lt hlt hx).2
  -- x is no farther from the first seeds than b
  have h1 : ∃ g, Dist T (seedsL T k') x g ∧ g ≤ f := by
    by_cases hx0 : (distL T (seedsL T k')).getD x 0 = 0
    · exact ⟨0, dist_zero.2 ((h.dist_mem hlt1 hxl).1 hx0), by omega⟩
    · have h2 := hbest x hxl hx0
      rw [distL_getD hbl, hfo, distL_getD hxl] at h2
      cases hg : distO T (seedsL T k') x with
      | none => rw [hg] at h2; simp [optI] at h2; omega
      | some g =>
        rw [hg] at h2
        refine ⟨g, (h.dist_iff hlt1).1 hg, ?_⟩
        simp [optI] at h2
        omega
  obtain ⟨g, hg, hgf⟩ := h1
  obtain ⟨j, hj⟩ := hg.1
  obtain ⟨s, hs1, hs2⟩ := rc_some.1 hj
  have h3 : rc T (seedsL T m) j g x = true := by
    obtain ⟨t, ht⟩ := hpre1
    refine rc_some.2 ⟨s, ?_, hs2⟩
    rw [← ht, List.getElem?_append_left (List.getElem?_eq_some_iff.1 hs1).1]
    exact hs1
  have := hx.2 j g h3
  omega
end
end Go.Mesh
