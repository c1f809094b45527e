/- Plain: how far triangles are from one another, over their edges; the nearest of some; a search in breadth; no program in sight. -/
import Derived.Test.YtpmmjjbllmeneaaMP
namespace Go.Mesh
theorem nodup_len {α : Type} [DecidableEq α] : ∀ {l m : List α}, l.Nodup → l ⊆ m → l.length ≤ m.length
  | [], _, _, _ => Nat.zero_le _
  | a :: l, m, hn, hs => by
    have hm : a ∈ m := hs (List.mem_cons_self ..)
    have h1 := nodup_len (l := l) (m := m.erase a) (List.nodup_cons.1 hn).2 fun x hx => by
      have hne : x ≠ a := fun e => (List.nodup_cons.1 hn).1 (e ▸ hx)
      exact (List.mem_erase_of_ne hne).2 (hs (List.mem_cons_of_mem _ hx))
    rw [List.length_erase_of_mem hm] at h1
    have := List.length_pos_of_mem hm
    rw [List.length_cons]
    omega
/-- The triangle over an edge. -/
def nb (T : List T3) (x k : Nat) : Option Nat := (opp T (3 * x + k)).map (· / 3)
/-- Are two triangles beside one another? -/
def besd (T : List T3) (y x : Nat) : Bool := (nb T y 0 == some x) || (nb T y 1 == some x) || (nb T y 2 == some x)
theorem besd_iff {T : List T3} {y x : Nat} : besd T y x = true ↔ ∃ k, k < 3 ∧ nb T y k = some x := by
  unfold besd
  simp only [Bool.or_eq_true, beq_iff_eq]
  constructor
  · rintro ((h | h) | h)
    · exact ⟨0, by omega, h⟩
    · exact ⟨1, by omega, h⟩
    · exact ⟨2, by omega, h⟩
  · rintro ⟨k, hk, h⟩
    have : k = 0 ∨ k = 1 ∨ k = 2 := by omega
    rcases this with rfl | rfl | rfl
    · exact .inl (.inl h)
    · exact .inl (.inr h)
    · exact .inr h
theorem Surf.nb_rng {N : Int} {T : List T3} (h : Surf N T) {x k y : Nat} (hk : k < 3) (e : nb T x k = some y) : x < T.length ∧ y < T.length := by
  unfold nb at e
  obtain ⟨d, hd, rfl⟩ := Option.map_eq_some_iff.1 e
  have h1 := h.opp_lt hd
  have h2 := (h.opp_iff.1 hd).1
  omega
theorem Surf.besd_rng {N : Int} {T : List T3} (h : Surf N T) {x y : Nat} (e : besd T x y = true) : x < T.length ∧ y < T.length := by
  obtain ⟨k, hk, e⟩ := besd_iff.1 e
  exact h.nb_rng hk e
theorem Surf.besd_symm {N : Int} {T : List T3} (h : Surf N T) {x y : Nat} (e : besd T x y = true) : besd T y x = true := by
  obtain ⟨k, hk, e⟩ := besd_iff.1 e
  unfold nb at e
  obtain ⟨d, hd, rfl⟩ := Option.map_eq_some_iff.1 e
  have h1 := h.opp_lt hd
  have h2 := h.opp_symm h1 hd
  refine besd_iff.2 ⟨d % 3, by omega, ?_⟩
  unfold nb
  rw [show 3 * (d / 3) + d % 3 = d by omega, h2]
  simp only [Option.map_some]
  congr 1
  omega
/-- Does one come from s to x in at most d steps? -/
def rch (T : List T3) (s : Nat) : Nat → Nat → Bool
  | 0, x => x == s
  | d + 1, x => rch T s d x || (List.range T.length).any fun y => rch T s d y && besd T y x
section
variable {N : Int} {T : List T3}
theorem Surf.rch_succ (h : Surf N T) {s d x : Nat} : rch T s (d + 1) x = true ↔ rch T s d x = true ∨ ∃ y, rch T s d y = true ∧ besd T y x = true := by
  rw [rch, Bool.or_eq_true, List.any_eq_true]
  simp only [Bool.and_eq_true, List.mem_range]
  constructor
  · rintro (h1 | ⟨y, _, h2⟩)
    · exact .inl h1
    · exact .inr ⟨y, h2⟩
  · rintro (h1 | ⟨y, h2, h3⟩)
    · exact .inl h1
    · exact .inr ⟨y, (h.besd_rng h3).1, h2, h3⟩
theorem rch_zero {s x : Nat} : rch T s 0 x = true ↔ x = s := by rw [rch, beq_iff_eq]
theorem rch_mono {s x : Nat} : ∀ {d e : Nat}, d ≤ e → rch T s d x = true → rch T s e x = true
  | d, 0, h, h1 => by
    have : d = 0 := by omega
    rw [← this]; exact h1
  | d, e + 1, h, h1 => by
    by_cases he : d = e + 1
    · rw [← he]; exact h1
    · rw [rch, Bool.or_eq_true]
      exact .inl (rch_mono (e := e) (by omega) h1)
theorem Surf.rch_lt (h : Surf N T) {s : Nat} (hs : s < T.length) : ∀ {d x : Nat}, rch T s d x = true → x < T.length
  | 0, x, h1 => by rw [rch_zero.1 h1]; exact hs
  | d + 1, x, h1 => by
    rcases h.rch_succ.1 h1 with h2 | ⟨y, _, h3⟩
    · exact h.rch_lt hs h2
    · exact (h.besd_rng h3).2
theorem Surf.rch_trans (h : Surf N T) {a b : Nat} {d : Nat} (h1 : rch T a d b = true) : ∀ {e x : Nat}, rch T b e x = true → rch T a (d + e) x = true
  | 0, x, h2 => by rw [rch_zero.1 h2]; exact h1
  | e + 1, x, h2 => by
    rcases h.rch_succ.1 h2 with h3 | ⟨y, h3, h4⟩
    · exact rch_mono (by omega) (h.rch_trans h1 h3)
    · exact h.rch_succ.2 (.inr ⟨y, h.rch_trans h1 h3, h4⟩)
theorem Surf.rch_symm (h : Surf N T) {s : Nat} : ∀ {d x : Nat}, rch T s d x = true → rch T x d s = true
  | 0, x, h1 => by rw [rch_zero.1 h1]; exact rch_zero.2 rfl
  | d + 1, x, h1 => by
    rcases h.rch_succ.1 h1 with h2 | ⟨y, h2, h3⟩
    · exact rch_mono (by omega) (h.rch_symm h2)
    · have h4 : rch T x 1 y = true := h.rch_succ.2 (.inr ⟨x, rch_zero.2 rfl, h.besd_symm h3⟩)
      have := h.rch_trans h4 (h.rch_symm h2)
      rwa [Nat.add_comm] at this
/-- Nobody new within a step: nobody new ever. -/
theorem Surf.rch_stop (h : Surf N T) {s d : Nat} (hd : ∀ x, rch T s (d + 1) x = true → rch T s d x = true) : ∀ {e x : Nat}, rch T s e x = true → rch T s d x = true
  | 0, x, h1 => rch_mono (by omega) h1
  | e + 1, x, h1 => by
    rcases h.rch_succ.1 h1 with h2 | ⟨y, h2, h3⟩
    · exact h.rch_stop hd h2
    · exact hd x (h.rch_succ.2 (.inr ⟨y, h.rch_stop hd h2, h3⟩))
/-- How many are within d steps. -/
def ball (T : List T3) (s d : Nat) : Nat := ((List.range T.length).filter fun x => rch T s d x).length
theorem Surf.ball_grow (h : Surf N T) {s : Nat} (hs : s < T.length) (d : Nat) : (∀ x, rch T s (d + 1) x = true → rch T s d x = true) ∨ ball T s d + 1 ≤ ball T s (d + 1) := by
  by_cases hall : ∀ x, rch T s (d + 1) x = true → rch T s d x = true
  · exact .inl hall
  · refine .inr ?_
    obtain ⟨x, hx⟩ := Classical.not_forall.1 hall
    have h1 : rch T s (d + 1) x = true := Classical.byContradiction fun h9 => hx fun h8 => absurd h8 h9
    have h2 : ¬ rch T s d x = true := fun h9 => hx fun _ => h9
    have hlt := h.rch_lt hs h1
    unfold ball
    have h3 : (x :: (List.range T.length).filter fun x => rch T s d x).Nodup := by
      rw [List.nodup_cons]
      refine ⟨fun h9 => h2 (List.mem_filter.1 h9).2, List.nodup_range.sublist List.filter_sublist⟩
    have h4 := nodup_len (m := (List.range T.length).filter fun x => rch T s (d + 1) x) h3 fun a ha => by
      rcases List.mem_cons.1 ha with rfl | ha
      · exact List.mem_filter.2 ⟨List.mem_range.2 hlt, h1⟩
      · obtain ⟨h5, h6⟩ := List.mem_filter.1 ha
        exact List.mem_filter.2 ⟨h5, rch_mono (by omega) h6⟩
    simpa using h4
/-- Whoever is reached is reached in fewer steps than there are triangles. -/
theorem Surf.rch_few (h : Surf N T) {s : Nat} (hs : s < T.length) {e x : Nat} (hx : rch T s e x = true) : rch T s (T.length - 1) x = true := by
  have key : ∀ d, (∀ x e, rch T s e x = true → rch T s d x = true) ∨ d + 1 ≤ ball T s d := by
    intro d
    induction d with
    | zero =>
      refine .inr ?_
      unfold ball
      have : s ∈ (List.range T.length).filter fun x => rch T s 0 x := List.mem_filter.2 ⟨List.mem_range.2 hs, rch_zero.2 rfl⟩
      have := List.length_pos_of_mem this
      omega
    | succ d ih =>
      rcases ih with ih | ih
      · exact .inl fun x e hx => rch_mono (by omega) (ih x e hx)
      · rcases h.ball_grow hs d with h1 | h1
        · exact .inl fun x e hx => rch_mono (by omega) (h.rch_stop h1 hx)
        · exact .inr (by omega)
  rcases key (T.length - 1) with h1 | h1
  · exact h1 x e hx
  · rcases h.ball_grow hs (T.length - 1) with h2 | h2
    · exact h.rch_stop h2 hx
    · exfalso
      have : ball T s (T.length - 1 + 1) ≤ T.length := by
        unfold ball
        exact Nat.le_trans (List.length_filter_le _ _) (by rw [List.length_range]; exact Nat.le_refl _)
      omega
end

/-! ## The nearest of some -/
/-- Does one come from the i-th to x in at most d steps? -/
def rc (T : List T3) (S : List Nat) (i d x : Nat) : Bool := match S[i]? with
  | some s => rch T s d x
  | none => false
theorem rc_some {T : List T3} {S : List Nat} {i d x : Nat} : rc T S i d x = true ↔ ∃ s, S[i]? = some s ∧ rch T s d x = true := by
  unfold rc
  cases S[i]? with
  | none => simp
  | some s => simp
theorem rc_mono {T : List T3} {S : List Nat} {i d e x : Nat} (h : d ≤ e) (h1 : rc T S i d x = true) : rc T S i e x = true := by
  obtain ⟨s, h2, h3⟩ := rc_some.1 h1
  exact rc_some.2 ⟨s, h2, rch_mono h h3⟩
/-- The least number of steps, and the first of those from which it's no more. -/
def Best (T : List T3) (S : List Nat) (x d i : Nat) : Prop := rc T S i d x = true ∧ ∀ j e, rc T S j e x = true → d < e ∨ (d = e ∧ i ≤ j)
theorem Best.uniq {T : List T3} {S : List Nat} {x d i e j : Nat} (h : Best T S x d i) (h1 : Best T S x e j) : d = e ∧ i = j := by
  have h2 := h.2 _ _ h1.1
  have h3 := h1.2 _ _ h.1
  omega
def optI : Option Nat → Int
  | none => -1
  | some n => n
/-- How far a triangle is from the nearest, and which of them that is. -/
def distO (T : List T3) (S : List Nat) (x : Nat) : Option Nat := leastFrom (fun d => (List.range S.length).any fun i => rc T S i d x) 0 T.length
def nearO (T : List T3) (S : List Nat) (x : Nat) : Option Nat := (distO T S x).bind fun d => leastFrom (fun i => rc T S i d x) 0 S.length
def distL (T : List T3) (S : List Nat) : List Int := (List.range T.length).map fun x => optI (distO T S x)
def nearL (T : List T3) (S : List Nat) : List Int := (List.range T.length).map fun x => optI (nearO T S x)
theorem distL_len (T : List T3) (S : List Nat) : (distL T S).length = T.length := by unfold distL; simp
theorem nearL_len (T : List T3) (S : List Nat) : (nearL T S).length = T.length := by unfold nearL; simp
theorem distL_at {T : List T3} {S : List Nat} {x : Nat} (hx : x < T.length) : (distL T S)[x]? = some (optI (distO T S x)) := by unfold distL; simp [hx]
theorem nearL_at {T : List T3} {S : List Nat} {x : Nat} (hx : x < T.length) : (nearL T S)[x]? = some (optI (nearO T S x)) := by unfold nearL; simp [hx]
section
variable {N : Int} {T : List T3} {S : List Nat}
theorem rc_lt {i d x : Nat} (h : rc T S i d x = true) : i < S.length := by
  obtain ⟨s, h1, _⟩ := rc_some.1 h
  exact (List.getElem?_eq_some_iff.1 h1).1
theorem Surf.best_iff (h : Surf N T) (hS : ∀ s ∈ S, s < T.length) {x d i : Nat} : (distO T S x = some d ∧ nearO T S x = some i) ↔ Best T S x d i := by
  have hany : ∀ d, ((List.range S.length).any fun i => rc T S i d x) = true ↔ ∃ i, rc T S i d x = true := fun d => by
    rw [List.any_eq_true]
    constructor
    · rintro ⟨i, _, h2⟩; exact ⟨i, h2⟩
    · rintro ⟨i, h2⟩; exact ⟨i, List.mem_range.2 (rc_lt h2), h2⟩
  constructor
  · rintro ⟨h1, h2⟩
    unfold nearO at h2
    rw [h1] at h2
    obtain ⟨_, _, h3, h4⟩ := (leastFrom_some _ _ _ _).1 h1
    obtain ⟨_, _, h5, h6⟩ := (leastFrom_some _ _ _ _).1 h2
    refine ⟨h5, fun j e hj => ?_⟩
    rcases Nat.lt_trichotomy d e with h7 | h7 | h7
    · exact .inl h7
    · refine .inr ⟨h7, ?_⟩
      subst h7
      rcases Nat.lt_or_ge j i with h8 | h8
      · have := h6 j (by omega) h8
        rw [hj] at this; cases this
      · exact h8
    · have h8 := h4 e (by omega) h7
      have h9 := (hany e).2 ⟨j, hj⟩
      rw [h8] at h9; cases h9
  · rintro ⟨h1, h2⟩
    obtain ⟨s, h3, h4⟩ := rc_some.1 h1
    have hs := hS s (List.mem_of_getElem? h3)
    have hfew : rc T S i (T.length - 1) x = true := rc_some.2 ⟨s, h3, h.rch_few hs h4⟩
    have hd : d < T.length := by
      have := h2 i _ hfew
      omega
    have h5 : distO T S x = some d := by
      refine (leastFrom_some _ _ _ _).2 ⟨by omega, by omega, (hany d).2 ⟨i, h1⟩, fun e _ he => ?_⟩
      rw [Bool.eq_false_iff]
      intro h9
      obtain ⟨j, hj⟩ := (hany e).1 h9
      have := h2 j e hj
      omega
    refine ⟨h5, ?_⟩
    unfold nearO
    rw [h5]
    refine (leastFrom_some _ _ _ _).2 ⟨by omega, by have := rc_lt h1; omega, h1, fun j _ hj => ?_⟩
    show rc T S j d x = false
    rw [Bool.eq_false_iff]
    intro h9
    have := h2 j d h9
    omega
theorem best_some {x i d : Nat} (h1 : rc T S i d x = true) : ∃ e j, Best T S x e j := by
  have key : ∀ n d i, d ≤ n → rc T S i d x = true → ∃ e j, Best T S x e j := by
    intro n
    induction n with
    | zero =>
      intro d i hd h1
      have hm : ∃ i, leastFrom (fun i => rc T S i d x) 0 S.length = some i := leastFrom_isSome (c := i) (by omega) (by have := rc_lt h1; omega) h1
      obtain ⟨j, hj⟩ := hm
      obtain ⟨_, _, h3, h4⟩ := (leastFrom_some _ _ _ _).1 hj
      refine ⟨d, j, h3, fun j' e h5 => ?_⟩
      rcases Nat.lt_or_ge d e with h6 | h6
      · exact .inl h6
      · refine .inr ⟨by omega, ?_⟩
        rcases Nat.lt_or_ge j' j with h7 | h7
        · have := h4 j' (by omega) h7
          rw [show d = e by omega, h5] at this; cases this
        · exact h7
    | succ n ih =>
      intro d i hd h1
      by_cases hex : ∃ j e, e ≤ n ∧ rc T S j e x = true
      · obtain ⟨j, e, h2, h3⟩ := hex
        exact ih e j h2 h3
      · have hm : ∃ i, leastFrom (fun i => rc T S i d x) 0 S.length = some i := leastFrom_isSome (c := i) (by omega) (by have := rc_lt h1; omega) h1
        obtain ⟨j, hj⟩ := hm
        obtain ⟨_, _, h3, h4⟩ := (leastFrom_some _ _ _ _).1 hj
        refine ⟨d, j, h3, fun j' e h5 => ?_⟩
        have h8 : ¬ e ≤ n := fun h9 => hex ⟨j', e, h9, h5⟩
        have h7 : ¬ d ≤ n := fun h9 => hex ⟨i, d, h9, h1⟩
        rcases Nat.lt_or_ge d e with h6 | h6
        · exact .inl h6
        · refine .inr ⟨by omega, ?_⟩
          rcases Nat.lt_or_ge j' j with h7 | h7
          · have := h4 j' (by omega) h7
            rw [show d = e by omega, h5] at this; cases this
          · exact h7
  exact key d d i (Nat.le_refl _) h1
theorem Surf.best_none (h : Surf N T) (hS : ∀ s ∈ S, s < T.length) {x : Nat} : (∀ i d, rc T S i d x = false) ↔ distO T S x = none := by
  constructor
  · intro h1
    unfold distO
    rw [leastFrom_none]
    intro d _ _
    rw [Bool.eq_false_iff]
    intro h9
    obtain ⟨i, _, h2⟩ := List.any_eq_true.1 h9
    rw [h1] at h2; cases h2
  · intro h1 i d
    rw [Bool.eq_false_iff]
    intro h2
    obtain ⟨e, j, h3⟩ := best_some h2
    rw [((h.best_iff hS).2 h3).1] at h1
    cases h1
theorem nearO_none {x : Nat} (h : distO T S x = none) : nearO T S x = none := by unfold nearO; rw [h]; rfl
theorem Surf.nearO_some (h : Surf N T) (hS : ∀ s ∈ S, s < T.length) {x d : Nat} (hd : distO T S x = some d) : ∃ i, nearO T S x = some i ∧ Best T S x d i := by
  obtain ⟨_, _, h3, _⟩ := (leastFrom_some _ _ _ _).1 hd
  obtain ⟨i, _, h4⟩ := List.any_eq_true.1 h3
  obtain ⟨e, j, h5⟩ := best_some h4
  have h6 := (h.best_iff hS).2 h5
  rw [hd] at h6
  obtain rfl := Option.some.inj h6.1
  exact ⟨j, h6.2, h5⟩
/-- What a search tells, is so. -/
def FarIs (T : List T3) (S : List Nat) (st nr : List Int) : Prop := st.length = T.length ∧ nr.length = T.length ∧ ∀ x, x < T.length →
  (st[x]? = some (-1) ∧ nr[x]? = some (-1) ∧ ∀ i d, rc T S i d x = false) ∨ ∃ d i : Nat, st[x]? = some (d : Int) ∧ nr[x]? = some (i : Int) ∧ Best T S x d i
theorem Surf.far_eq (h : Surf N T) (hS : ∀ s ∈ S, s < T.length) {st nr : List Int} (hf : FarIs T S st nr) : st = distL T S ∧ nr = nearL T S := by
  obtain ⟨h1, h2, h3⟩ := hf
  constructor
  · refine List.ext_getElem? fun x => ?_
    by_cases hx : x < T.length
    · rw [distL_at hx]
      rcases h3 x hx with ⟨h4, _, h6⟩ | ⟨d, i, h4, _, h6⟩
      · rw [h4, (h.best_none hS).1 h6]; rfl
      · rw [h4, ((h.best_iff hS).2 h6).1]; rfl
    · rw [List.getElem?_eq_none (by omega), List.getElem?_eq_none (by rw [distL_len]; omega)]
  · refine List.ext_getElem? fun x => ?_
    by_cases hx : x < T.length
    · rw [nearL_at hx]
      rcases h3 x hx with ⟨_, h5, h6⟩ | ⟨d, i, _, h5, h6⟩
      · rw [h5, nearO_none ((h.best_none hS).1 h6)]; rfl
      · rw [h5, ((h.best_iff hS).2 h6).2]; rfl
    · rw [List.getElem?_eq_none (by omega), List.getElem?_eq_none (by rw [nearL_len]; omega)]
end

/-! ## A search in breadth -/
/-- How far they are, the nearest, and the row of those met. -/
structure Bq (T : List T3) (S : List Nat) (st nr : List Int) (row : List Nat) : Prop where
  ls : st.length = T.length
  ln : nr.length = T.length
  nd : row.Nodup
  lt : ∀ x ∈ row, x < T.length
  inn : ∀ x ∈ row, ∃ d i : Nat, st[x]? = some (d : Int) ∧ nr[x]? = some (i : Int) ∧ rc T S i d x = true
  out : ∀ x, x < T.length → x ∉ row → st[x]? = some (-1) ∧ nr[x]? = some (-1)
  mono : ∀ (a b x y : Nat) (d e : Int), a ≤ b → row[a]? = some x → row[b]? = some y → st[x]? = some d → st[y]? = some e → d ≤ e
  few : ∀ (a x : Nat) (d : Int), row[a]? = some x → st[x]? = some d → d ≤ (a : Int)
section
variable {N : Int} {T : List T3} {S : List Nat} {st nr : List Int} {row : List Nat} {k : Nat}
theorem mem_at {row : List Nat} {x : Nat} (h : x ∈ row) : ∃ a : Nat, row[a]? = some x := by
  obtain ⟨a, ha, e⟩ := List.getElem_of_mem h
  exact ⟨a, by rw [List.getElem?_eq_getElem ha, e]⟩
theorem Bq.len (h : Bq T S st nr row) : row.length ≤ T.length := nodup_lt _ _ h.nd h.lt
theorem Bq.st_lt (h : Bq T S st nr row) {x : Nat} (hx : x ∈ row) {d : Int} (hd : st[x]? = some d) : 0 ≤ d ∧ d < T.length := by
  obtain ⟨a, ha⟩ := mem_at hx
  have h1 := h.few a x d ha hd
  have h2 := (List.getElem?_eq_some_iff.1 ha).1
  have h3 := h.len
  obtain ⟨e, i, h4, _⟩ := h.inn x hx
  rw [hd] at h4
  have := Option.some.inj h4
  omega
theorem Bq.val (h : Bq T S st nr row) {x : Nat} (hx : x < T.length) : ∃ d m : Int, st[x]? = some d ∧ nr[x]? = some m ∧ -1 ≤ d ∧ d < T.length ∧ -1 ≤ m ∧ m < max 1 S.length ∧ (d < 0 ↔ x ∉ row) ∧ (d < 0 → d = -1 ∧ m = -1) := by
  by_cases hr : x ∈ row
  · obtain ⟨d, i, h1, h2, h3⟩ := h.inn x hr
    have := h.st_lt hr h1
    have := rc_lt h3
    exact ⟨d, i, h1, h2, by omega, by omega, by omega, by omega, ⟨fun _ => by omega, fun h9 => absurd hr h9⟩, by omega⟩
  · obtain ⟨h1, h2⟩ := h.out x hx hr
    exact ⟨-1, -1, h1, h2, by omega, by omega, by omega, by omega, ⟨fun _ => hr, fun _ => by omega⟩, fun _ => ⟨rfl, rfl⟩⟩
theorem Bq.start (T : List T3) (S : List Nat) : Bq T S (List.replicate T.length (-1)) (List.replicate T.length (-1)) [] where
  ls := List.length_replicate
  ln := List.length_replicate
  nd := List.nodup_nil
  lt := fun _ h => (by cases h)
  inn := fun _ h => (by cases h)
  out := fun x hx _ => by simp [hx]
  mono := fun a b x y d e _ h => by simp at h
  few := fun a x d h => by simp at h
theorem snoc_at {row : List Nat} {y a x : Nat} (h : (row ++ [y])[a]? = some x) : row[a]? = some x ∨ (a = row.length ∧ x = y) := by
  rw [List.getElem?_append] at h
  split at h
  · exact .inl h
  · rename_i h1
    refine .inr ?_
    rcases Nat.lt_or_ge (a - row.length) 1 with h2 | h2
    · rw [show a - row.length = 0 by omega] at h
      simp at h
      exact ⟨by omega, h.symm⟩
    · rw [List.getElem?_eq_none (by simpa using h2)] at h
      cases h
theorem set_same {l : List Int} {y : Nat} {v : Int} (h : y < l.length) : (l.set y v)[y]? = some v := by rw [List.getElem?_set_self h]
theorem set_other {l : List Int} {x y : Nat} {v : Int} (h : x ≠ y) : (l.set y v)[x]? = l[x]? := List.getElem?_set_ne (Ne.symm h)
/-- One more is met. -/
theorem Bq.meet (h : Bq T S st nr row) {y : Nat} (hy : y < T.length) (hn : y ∉ row) {d m : Nat} (hrc : rc T S m d y = true)
    (hd : ∀ x ∈ row, ∀ e, st[x]? = some e → e ≤ (d : Int)) (hl : d ≤ row.length) : Bq T S (st.set y (d : Int)) (nr.set y (m : Int)) (row ++ [y]) := by
  have hls := h.ls
  have hln := h.ln
  have hne : ∀ x ∈ row, x ≠ y := fun x hx e => hn (e ▸ hx)
  have hat : ∀ (a x : Nat) (e : Int), (row ++ [y])[a]? = some x → (st.set y (d : Int))[x]? = some e → (row[a]? = some x ∧ x ≠ y ∧ st[x]? = some e) ∨ (a = row.length ∧ x = y ∧ e = d) := by
    intro a x e h1 h2
    rcases snoc_at h1 with h3 | ⟨h3, rfl⟩
    · have h4 := hne x (List.mem_of_getElem? h3)
      rw [set_other h4] at h2
      exact .inl ⟨h3, h4, h2⟩
    · rw [set_same (by omega)] at h2
      exact .inr ⟨h3, rfl, (Option.some.inj h2).symm⟩
  refine ⟨by rw [List.length_set]; exact hls, by rw [List.length_set]; exact hln, ?_, ?_, ?_, ?_, ?_, ?_⟩
  · exact List.nodup_append.2 ⟨h.nd, by simp, fun a ha b hb => by rw [List.mem_singleton.1 hb]; exact hne a ha⟩
  · intro x hx
    rcases List.mem_append.1 hx with h1 | h1
    · exact h.lt x h1
    · rw [List.mem_singleton.1 h1]; exact hy
  · intro x hx
    by_cases hxy : x = y
    · subst hxy
      exact ⟨d, m, set_same (by omega), set_same (by omega), hrc⟩
    · rcases List.mem_append.1 hx with h1 | h1
      · rw [set_other hxy, set_other hxy]; exact h.inn x h1
      · exact absurd (List.mem_singleton.1 h1) hxy
  · intro x hx hxr
    have hxy : x ≠ y := fun e => hxr (List.mem_append.2 (.inr (by simpa using e)))
    rw [set_other hxy, set_other hxy]
    exact h.out x hx fun h9 => hxr (List.mem_append.2 (.inl h9))
  · intro a b x z e f hab hx hz he hf
    rcases hat a x e hx he with ⟨h1, h2, h3⟩ | ⟨h1, rfl, rfl⟩
    · rcases hat b z f hz hf with ⟨h4, h5, h6⟩ | ⟨h4, rfl, rfl⟩
      · exact h.mono a b x z e f hab h1 h4 h3 h6
      · exact hd x (List.mem_of_getElem? h1) e h3
    · rcases hat b z f hz hf with ⟨h4, h5, h6⟩ | ⟨h4, rfl, rfl⟩
      · have := (List.getElem?_eq_some_iff.1 h4).1
        omega
      · exact Int.le_refl _
  · intro a x e hx he
    rcases hat a x e hx he with ⟨h1, h2, h3⟩ | ⟨h1, rfl, rfl⟩
    · exact h.few a x e h1 h3
    · omega
/-- Another one that is as near. -/
theorem Bq.tie (h : Bq T S st nr row) {y d n m : Nat} (hy : y ∈ row) (hst : st[y]? = some (d : Int)) (hnr : nr[y]? = some (n : Int)) (hrc : rc T S m d y = true) : Bq T S st (nr.set y (min (n : Int) m)) row := by
  have hln := h.ln
  have hyl := h.lt y hy
  refine ⟨h.ls, by rw [List.length_set]; exact hln, h.nd, h.lt, ?_, ?_, h.mono, h.few⟩
  · intro x hx
    by_cases hxy : x = y
    · subst hxy
      rcases Nat.le_total n m with h1 | h1
      · obtain ⟨e, i, h2, h3, h4⟩ := h.inn x hx
        rw [hst] at h2
        rw [hnr] at h3
        have e1 : d = e := by have := Option.some.inj h2; omega
        have e2 : n = i := by have := Option.some.inj h3; omega
        subst e1; subst e2
        exact ⟨d, n, hst, by rw [set_same (by omega), show min (n : Int) m = n by omega], h4⟩
      · exact ⟨d, m, hst, by rw [set_same (by omega), show min (n : Int) m = m by omega], hrc⟩
    · rw [set_other hxy]; exact h.inn x hx
  · intro x hx hxr
    have hxy : x ≠ y := fun e => hxr (e ▸ hy)
    rw [set_other hxy]
    exact h.out x hx hxr
/-- While the first k are met. -/
structure Sk (T : List T3) (S : List Nat) (st nr : List Int) (row : List Nat) (k : Nat) : Prop where
  bq : Bq T S st nr row
  zero : ∀ x ∈ row, st[x]? = some 0
  seeds : ∀ (j s : Nat), j < k → S[j]? = some s → s ∈ row ∧ ∃ m : Nat, nr[s]? = some (m : Int) ∧ m ≤ j
theorem Sk.start (T : List T3) (S : List Nat) : Sk T S (List.replicate T.length (-1)) (List.replicate T.length (-1)) [] 0 := ⟨Bq.start T S, fun _ h => (by cases h), fun j s h => by omega⟩
theorem Sk.meet (h : Sk T S st nr row k) {s : Nat} (hs : s < T.length) (hk : S[k]? = some s) (hn : s ∉ row) : Sk T S (st.set s 0) (nr.set s (k : Int)) (row ++ [s]) (k + 1) := by
  have hls := h.bq.ls
  have hln := h.bq.ln
  refine ⟨h.bq.meet (d := 0) hs hn (rc_some.2 ⟨s, hk, rch_zero.2 rfl⟩) (fun x hx e he => by rw [h.zero x hx] at he; have := Option.some.inj he; omega) (by omega), ?_, ?_⟩
  · intro x hx
    by_cases hxs : x = s
    · rw [hxs, set_same (by omega)]
    · rw [set_other hxs]
      rcases List.mem_append.1 hx with h1 | h1
      · exact h.zero x h1
      · exact absurd (List.mem_singleton.1 h1) hxs
  · intro j t hj ht
    by_cases hts : t = s
    · subst hts
      refine ⟨by simp, k, set_same (by omega), ?_⟩
      rcases Nat.lt_or_ge j k with h1 | h1
      · exact absurd (h.seeds j t h1 ht).1 hn
      · exact h1
    · have hjk : j < k := by
        rcases Nat.lt_or_ge j k with h1 | h1
        · exact h1
        · have : j = k := by omega
          subst this
          rw [hk] at ht
          exact absurd (Option.some.inj ht).symm hts
      obtain ⟨h1, m, h2, h3⟩ := h.seeds j t hjk ht
      exact ⟨List.mem_append.2 (.inl h1), m, by rw [set_other hts]; exact h2, h3⟩
theorem Sk.tie (h : Sk T S st nr row k) {s n : Nat} (hk : S[k]? = some s) (hn : s ∈ row) (hnr : nr[s]? = some (n : Int)) : Sk T S st (nr.set s (min (n : Int) (k : Int))) row (k + 1) := by
  have hln := h.bq.ln
  have hsl := h.bq.lt s hn
  refine ⟨h.bq.tie (d := 0) hn (h.zero s hn) hnr (rc_some.2 ⟨s, hk, rch_zero.2 rfl⟩), h.zero, ?_⟩
  intro j t hj ht
  by_cases hts : t = s
  · subst hts
    refine ⟨hn, min n k, by rw [set_same (by omega)]; congr 1; omega, ?_⟩
    rcases Nat.lt_or_ge j k with h1 | h1
    · obtain ⟨_, m, h2, h3⟩ := h.seeds j t h1 ht
      rw [hnr] at h2
      have := Option.some.inj h2
      omega
    · omega
  · have hjk : j < k := by
      rcases Nat.lt_or_ge j k with h1 | h1
      · exact h1
      · have : j = k := by omega
        subst this
        rw [hk] at ht
        exact absurd (Option.some.inj ht).symm hts
    obtain ⟨h1, m, h2, h3⟩ := h.seeds j t hjk ht
    exact ⟨h1, m, by rw [set_other hts]; exact h2, h3⟩
/-- y is no worse off than by way of x. -/
def Via (st nr : List Int) (x y : Nat) : Prop := ∃ d m e n : Nat, st[x]? = some (d : Int) ∧ nr[x]? = some (m : Int) ∧ st[y]? = some (e : Int) ∧ nr[y]? = some (n : Int) ∧ (e ≤ d ∨ (e = d + 1 ∧ n ≤ m))
/-- While those behind the i-th are met over its edges from the k-th on. -/
structure Qi (T : List T3) (S : List Nat) (st nr : List Int) (row : List Nat) (i k : Nat) : Prop where
  bq : Bq T S st nr row
  seeds : ∀ (j s : Nat), S[j]? = some s → s ∈ row ∧ st[s]? = some 0 ∧ ∃ m : Nat, nr[s]? = some (m : Int) ∧ m ≤ j
  top : ∀ (x y : Nat) (d e : Int), row[i]? = some x → y ∈ row → st[x]? = some d → st[y]? = some e → e ≤ d + 1
  done : ∀ (a x k' y : Nat), (a < i ∨ (a = i ∧ k' < k)) → k' < 3 → row[a]? = some x → nb T x k' = some y → y ∈ row ∧ Via st nr x y
theorem Sk.queue (h : Sk T S st nr row S.length) : Qi T S st nr row 0 0 := by
  refine ⟨h.bq, fun j s hs => ?_, fun x y d e hx hy hd he => ?_, fun a x k' y h1 => by omega⟩
  · obtain ⟨h1, h2⟩ := h.seeds j s (List.getElem?_eq_some_iff.1 hs).1 hs
    exact ⟨h1, h.zero s h1, h2⟩
  · rw [h.zero x (List.mem_of_getElem? hx)] at hd
    rw [h.zero y hy] at he
    have := Option.some.inj hd
    have := Option.some.inj he
    omega
variable {i : Nat}
theorem Qi.next (h : Qi T S st nr row i 3) : Qi T S st nr row (i + 1) 0 := by
  refine ⟨h.bq, h.seeds, fun x y d e hx hy hd he => ?_, fun a x k' y h1 h2 h3 h4 => h.done a x k' y (by omega) h2 h3 h4⟩
  have hi : i + 1 < row.length := (List.getElem?_eq_some_iff.1 hx).1
  obtain ⟨d0, m0, h1, _, _⟩ := h.bq.inn row[i] (List.getElem_mem _)
  have h2 : row[i]? = some row[i] := List.getElem?_eq_getElem _
  have h3 := h.top _ y d0 e h2 hy h1 he
  have h4 := h.bq.mono i (i + 1) _ x d0 d (by omega) h2 hx h1 hd
  omega
theorem Qi.none_ (h : Qi T S st nr row i k) {x : Nat} (hx : row[i]? = some x) (hn : nb T x k = none) : Qi T S st nr row i (k + 1) := by
  refine ⟨h.bq, h.seeds, h.top, fun a z k' y h1 h2 h3 h4 => ?_⟩
  by_cases h9 : a = i ∧ k' = k
  · obtain ⟨rfl, rfl⟩ := h9
    rw [hx] at h3
    obtain rfl := Option.some.inj h3
    rw [hn] at h4; cases h4
  · exact h.done a z k' y (by omega) h2 h3 h4
/-- One that is met already, nearer. -/
theorem Qi.skip (h : Qi T S st nr row i k) {x y d e m : Nat} (hx : row[i]? = some x) (hn : nb T x k = some y) (hd : st[x]? = some (d : Int)) (hm : nr[x]? = some (m : Int)) (he : st[y]? = some (e : Int)) (hy : y ∈ row) (hle : e ≤ d) : Qi T S st nr row i (k + 1) := by
  refine ⟨h.bq, h.seeds, h.top, fun a z k' y' h1 h2 h3 h4 => ?_⟩
  by_cases h9 : a = i ∧ k' = k
  · obtain ⟨rfl, rfl⟩ := h9
    rw [hx] at h3
    obtain rfl := Option.some.inj h3
    rw [hn] at h4
    obtain rfl := Option.some.inj h4
    obtain ⟨e', n, h5, h6, _⟩ := h.bq.inn y hy
    rw [he] at h5
    exact ⟨hy, d, m, e, n, hd, hm, he, h6, .inl hle⟩
  · exact h.done a z k' y' (by omega) h2 h3 h4
theorem Qi.tie (hs : Surf N T) (h : Qi T S st nr row i k) {x y d n m : Nat} (hk : k < 3) (hx : row[i]? = some x) (hn : nb T x k = some y) (hd : st[x]? = some (d : Int)) (hm : nr[x]? = some (m : Int)) (he : st[y]? = some ((d : Int) + 1)) (hnr : nr[y]? = some (n : Int)) (hy : y ∈ row) : Qi T S st (nr.set y (min (n : Int) (m : Int))) row i (k + 1) := by
  have hln := h.bq.ln
  have hyl := h.bq.lt y hy
  have hrc : rc T S m (d + 1) y = true := by
    obtain ⟨d', m', h1, h2, h3⟩ := h.bq.inn x (List.mem_of_getElem? hx)
    rw [hd] at h1
    rw [hm] at h2
    have e1 : d = d' := by have := Option.some.inj h1; omega
    have e2 : m = m' := by have := Option.some.inj h2; omega
    subst e1; subst e2
    obtain ⟨s, h4, h5⟩ := rc_some.1 h3
    exact rc_some.2 ⟨s, h4, hs.rch_succ.2 (.inr ⟨x, h5, besd_iff.2 ⟨k, hk, hn⟩⟩)⟩
  have hmin : (min (n : Int) (m : Int)) = ((min n m : Nat) : Int) := by omega
  refine ⟨h.bq.tie (d := d + 1) hy he hnr hrc, ?_, h.top, ?_⟩
  · intro j s hj
    obtain ⟨h1, h2, q, h3, h4⟩ := h.seeds j s hj
    by_cases hsy : s = y
    · subst hsy
      rw [he] at h2
      have := Option.some.inj h2
      omega
    · exact ⟨h1, h2, q, by rw [set_other hsy]; exact h3, h4⟩
  · intro a z k' y' h1 h2 h3 h4
    -- those gone over ahead are no farther than x
    have hz : ∀ f : Int, st[z]? = some f → f ≤ d := fun f hf => h.bq.mono a i z x f d (by omega) h3 hx hf hd
    have hzy : z ≠ y := fun e => by
      subst e
      have := hz _ he
      omega
    by_cases h9 : a = i ∧ k' = k
    · obtain ⟨rfl, rfl⟩ := h9
      rw [hx] at h3
      obtain rfl := Option.some.inj h3
      rw [hn] at h4
      obtain rfl := Option.some.inj h4
      exact ⟨hy, d, m, d + 1, min n m, hd, by rw [set_other hzy]; exact hm, he, by rw [set_same (by omega), hmin], .inr ⟨rfl, by omega⟩⟩
    · obtain ⟨h5, d1, m1, e1, n1, v1, v2, v3, v4, v5⟩ := h.done a z k' y' (by omega) h2 h3 h4
      refine ⟨h5, ?_⟩
      by_cases hyy : y' = y
      · subst hyy
        rw [hnr] at v4
        have := Option.some.inj v4
        exact ⟨d1, m1, e1, min n m, v1, by rw [set_other hzy]; exact v2, v3, by rw [set_same (by omega), hmin], by omega⟩
      · exact ⟨d1, m1, e1, n1, v1, by rw [set_other hzy]; exact v2, v3, by rw [set_other hyy]; exact v4, v5⟩
theorem Qi.meet (hs : Surf N T) (h : Qi T S st nr row i k) {x y d m : Nat} (hk : k < 3) (hx : row[i]? = some x) (hn : nb T x k = some y) (hd : st[x]? = some (d : Int)) (hm : nr[x]? = some (m : Int)) (hy : y ∉ row) : Qi T S (st.set y ((d : Int) + 1)) (nr.set y (m : Int)) (row ++ [y]) i (k + 1) := by
  have hls := h.bq.ls
  have hln := h.bq.ln
  have hyl : y < T.length := (hs.nb_rng hk hn).2
  have hil : i < row.length := (List.getElem?_eq_some_iff.1 hx).1
  have hrc : rc T S m (d + 1) y = true := by
    obtain ⟨d', m', h1, h2, h3⟩ := h.bq.inn x (List.mem_of_getElem? hx)
    rw [hd] at h1
    rw [hm] at h2
    have e1 : d = d' := by have := Option.some.inj h1; omega
    have e2 : m = m' := by have := Option.some.inj h2; omega
    subst e1; subst e2
    obtain ⟨s, h4, h5⟩ := rc_some.1 h3
    exact rc_some.2 ⟨s, h4, hs.rch_succ.2 (.inr ⟨x, h5, besd_iff.2 ⟨k, hk, hn⟩⟩)⟩
  have hne : ∀ z ∈ row, z ≠ y := fun z hz e => hy (e ▸ hz)
  have hkeep : ∀ (a z : Nat), a ≤ i → (row ++ [y])[a]? = some z → row[a]? = some z := fun a z ha hz => by
    rcases snoc_at hz with h1 | ⟨h1, _⟩
    · exact h1
    · omega
  have hb := h.bq.meet (d := d + 1) (m := m) hyl hy hrc (fun z hz e he => h.top x z d e hx hz hd he) (by have := h.bq.few i x d hx hd; omega)
  refine ⟨hb, ?_, ?_, ?_⟩
  · intro j s hj
    obtain ⟨h1, h2, q, h3, h4⟩ := h.seeds j s hj
    have := hne s h1
    exact ⟨List.mem_append.2 (.inl h1), by rw [set_other this]; exact h2, q, by rw [set_other this]; exact h3, h4⟩
  · intro x' z d' e hx' hz hd' he
    have h1 := hkeep i x' (by omega) hx'
    rw [hx] at h1
    obtain rfl := Option.some.inj h1
    have hxm := List.mem_of_getElem? hx
    rw [set_other (hne x hxm)] at hd'
    by_cases hzy : z = y
    · subst hzy
      rw [set_same (by omega)] at he
      rw [hd] at hd'
      have := Option.some.inj he
      have := Option.some.inj hd'
      omega
    · rw [set_other hzy] at he
      rcases List.mem_append.1 hz with h2 | h2
      · exact h.top x z d' e hx h2 hd' he
      · exact absurd (List.mem_singleton.1 h2) hzy
  · intro a z k' y' h1 h2 h3 h4
    have h3 := hkeep a z (by omega) h3
    have hzy := hne z (List.mem_of_getElem? h3)
    by_cases h9 : a = i ∧ k' = k
    · obtain ⟨rfl, rfl⟩ := h9
      rw [hx] at h3
      obtain rfl := Option.some.inj h3
      rw [hn] at h4
      obtain rfl := Option.some.inj h4
      exact ⟨by simp, d, m, d + 1, m, by rw [set_other hzy]; exact hd, by rw [set_other hzy]; exact hm, by rw [set_same (by omega)]; rfl, set_same (by omega), .inr ⟨rfl, Nat.le_refl _⟩⟩
    · obtain ⟨h5, d1, m1, e1, n1, v1, v2, v3, v4, v5⟩ := h.done a z k' y' (by omega) h2 h3 h4
      have := hne y' h5
      exact ⟨List.mem_append.2 (.inl h5), d1, m1, e1, n1, by rw [set_other hzy]; exact v1, by rw [set_other hzy]; exact v2, by rw [set_other this]; exact v3, by rw [set_other this]; exact v4, v5⟩
/-- When all are gone over, all is told. -/
theorem Qi.far (hs : Surf N T) (h : Qi T S st nr row row.length 0) : FarIs T S st nr := by
  have key : ∀ (d j x : Nat), rc T S j d x = true → x ∈ row ∧ ∃ e n : Nat, st[x]? = some (e : Int) ∧ nr[x]? = some (n : Int) ∧ (e < d ∨ (e = d ∧ n ≤ j)) := by
    intro d
    induction d with
    | zero =>
      intro j x h1
      obtain ⟨s, h2, h3⟩ := rc_some.1 h1
      rw [rch_zero.1 h3]
      obtain ⟨h4, h5, m, h6, h7⟩ := h.seeds j s h2
      exact ⟨h4, 0, m, h5, h6, .inr ⟨rfl, h7⟩⟩
    | succ d ih =>
      intro j x h1
      obtain ⟨s, h2, h3⟩ := rc_some.1 h1
      rcases hs.rch_succ.1 h3 with h4 | ⟨y, h4, h5⟩
      · obtain ⟨h6, e, n, h7, h8, h9⟩ := ih j x (rc_some.2 ⟨s, h2, h4⟩)
        exact ⟨h6, e, n, h7, h8, by omega⟩
      · obtain ⟨h6, e, n, h7, h8, h9⟩ := ih j y (rc_some.2 ⟨s, h2, h4⟩)
        obtain ⟨k, hk, hk2⟩ := besd_iff.1 h5
        obtain ⟨a, ha⟩ := mem_at h6
        obtain ⟨h10, d1, m1, e1, n1, v1, v2, v3, v4, v5⟩ := h.done a y k x (.inl (List.getElem?_eq_some_iff.1 ha).1) hk ha hk2
        rw [h7] at v1
        rw [h8] at v2
        have := Option.some.inj v1
        have := Option.some.inj v2
        exact ⟨h10, e1, n1, v3, v4, by omega⟩
  refine ⟨h.bq.ls, h.bq.ln, fun x hx => ?_⟩
  by_cases hr : x ∈ row
  · obtain ⟨d, i, h1, h2, h3⟩ := h.bq.inn x hr
    refine .inr ⟨d, i, h1, h2, h3, fun j e he => ?_⟩
    obtain ⟨_, e1, n1, h4, h5, h6⟩ := key e j x he
    rw [h1] at h4
    rw [h2] at h5
    have := Option.some.inj h4
    have := Option.some.inj h5
    omega
  · obtain ⟨h1, h2⟩ := h.bq.out x hx hr
    refine .inl ⟨h1, h2, fun i d => ?_⟩
    rw [Bool.eq_false_iff]
    intro h9
    exact hr (key d i x h9).1
end
end Go.Mesh
