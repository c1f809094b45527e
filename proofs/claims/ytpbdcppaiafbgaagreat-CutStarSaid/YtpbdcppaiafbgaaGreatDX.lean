/- Plain: how far triangles are from one another, over their edges; the nearest of some; a search in breadth; no program in sight. Plain: what the document tells of bays, and seeds; no program in sight. Plain: shells, and the seeds that stand for them. -/
import Derived.Test.YtpbdcppaiafbgaaGreatMP
namespace Go.Mesh
/-- The triangle over an edge. -/
def nb (T : List T3) (x k : Nat) : Option Nat := (opp T (3 * x + k)).map (· / 3)
/-- Are two triangles beside one another? -/
def besd (T : List T3) (y x : Nat) : Bool := (nb T y 0 == some x) || (nb T y 1 == some x) || (nb T y 2 == some x)
theorem besd_iff {T : List T3} {y x : Nat} : besd T y x = true ↔ ∃ k, k < 3 ∧ nb T y k = some x := by
  unfold besd
  simp only [Bool.or_eq_true, beq_iff_eq]
  constructor
  · rintro ((h | h) | h)
    · exact ⟨0, by omega, h⟩
    · exact ⟨1, by omega, h⟩
    · exact ⟨2, by omega, h⟩
  · rintro ⟨k, hk, h⟩
    have : k = 0 ∨ k = 1 ∨ k = 2 := by omega
    rcases this with rfl | rfl | rfl
    · exact .inl (.inl h)
    · exact .inl (.inr h)
    · exact .inr h
theorem Surf.nb_rng {N : Int} {T : List T3} (h : Surf N T) {x k y : Nat} (hk : k < 3) (e : nb T x k = some y) : x < T.length ∧ y < T.length := by
  unfold nb at e
  obtain ⟨d, hd, rfl⟩ := Option.map_eq_some_iff.1 e
  have h1 := h.opp_lt hd
  have h2 := (h.opp_iff.1 hd).1
  omega
theorem Surf.besd_rng {N : Int} {T : List T3} (h : Surf N T) {x y : Nat} (e : besd T x y = true) : x < T.length ∧ y < T.length := by
  obtain ⟨k, hk, e⟩ := besd_iff.1 e
  exact h.nb_rng hk e
theorem Surf.besd_symm {N : Int} {T : List T3} (h : Surf N T) {x y : Nat} (e : besd T x y = true) : besd T y x = true := by
  obtain ⟨k, hk, e⟩ := besd_iff.1 e
  unfold nb at e
  obtain ⟨d, hd, rfl⟩ := Option.map_eq_some_iff.1 e
  have h1 := h.opp_lt hd
  have h2 := h.opp_symm h1 hd
  refine besd_iff.2 ⟨d % 3, by omega, ?_⟩
  unfold nb
  rw [show 3 * (d / 3) + d % 3 = d by omega, h2]
  simp only [Option.map_some]
  congr 1
  omega
/-- Does one come from s to x in at most d steps? -/
def rch (T : List T3) (s : Nat) : Nat → Nat → Bool
  | 0, x => x == s
  | d + 1, x => rch T s d x || (List.range T.length).any fun y => rch T s d y && besd T y x
section
variable {N : Int} {T : List T3}
theorem Surf.rch_succ (h : Surf N T) {s d x : Nat} : rch T s (d + 1) x = true ↔ rch T s d x = true ∨ ∃ y, rch T s d y = true ∧ besd T y x = true := by
  rw [rch, Bool.or_eq_true, List.any_eq_true]
  simp only [Bool.and_eq_true, List.mem_range]
  constructor
  · rintro (h1 | ⟨y, _, h2⟩)
    · exact .inl h1
    · exact .inr ⟨y, h2⟩
  · rintro (h1 | ⟨y, h2, h3⟩)
    · exact .inl h1
    · exact .inr ⟨y, (h.besd_rng h3).1, h2, h3⟩
theorem rch_zero {s x : Nat} : rch T s 0 x = true ↔ x = s := by rw [rch, beq_iff_eq]
theorem rch_mono {s x : Nat} : ∀ {d e : Nat}, d ≤ e → rch T s d x = true → rch T s e x = true
  | d, 0, h, h1 => by
    have : d = 0 := by omega
    rw [← this]; exact h1
  | d, e + 1, h, h1 => by
    by_cases he : d = e + 1
    · rw [← he]; exact h1
    · rw [rch, Bool.or_eq_true]
      exact .inl (rch_mono (e := e) (by omega) h1)
theorem Surf.rch_lt (h : Surf N T) {s : Nat} (hs : s < T.length) : ∀ {d x : Nat}, rch T s d x = true → x < T.length
  | 0, x, h1 => by rw [rch_zero.1 h1]; exact hs
  | d + 1, x, h1 => by
    rcases h.rch_succ.1 h1 with h2 | ⟨y, _, h3⟩
    · exact h.rch_lt hs h2
    · exact (h.besd_rng h3).2
theorem Surf.rch_trans (h : Surf N T) {a b : Nat} {d : Nat} (h1 : rch T a d b = true) : ∀ {e x : Nat}, rch T b e x = true → rch T a (d + e) x = true
  | 0, x, h2 => by rw [rch_zero.1 h2]; exact h1
  | e + 1, x, h2 => by
    rcases h.rch_succ.1 h2 with h3 | ⟨y, h3, h4⟩
    · exact rch_mono (by omega) (h.rch_trans h1 h3)
    · exact h.rch_succ.2 (.inr ⟨y, h.rch_trans h1 h3, h4⟩)
theorem Surf.rch_symm (h : Surf N T) {s : Nat} : ∀ {d x : Nat}, rch T s d x = true → rch T x d s = true
  | 0, x, h1 => by rw [rch_zero.1 h1]; exact rch_zero.2 rfl
  | d + 1, x, h1 => by
    rcases h.rch_succ.1 h1 with h2 | ⟨y, h2, h3⟩
    · exact rch_mono (by omega) (h.rch_symm h2)
    · have h4 : rch T x 1 y = true := h.rch_succ.2 (.inr ⟨x, rch_zero.2 rfl, h.besd_symm h3⟩)
      have := h.rch_trans h4 (h.rch_symm h2)
      rwa [Nat.add_comm] at this
/-- Nobody new within a step: nobody new ever. -/
theorem Surf.rch_stop (h : Surf N T) {s d : Nat} (hd : ∀ x, rch T s (d + 1) x = true → rch T s d x = true) : ∀ {e x : Nat}, rch T s e x = true → rch T s d x = true
  | 0, x, h1 => rch_mono (by omega) h1
  | e + 1, x, h1 => by
    rcases h.rch_succ.1 h1 with h2 | ⟨y, h2, h3⟩
    · exact h.rch_stop hd h2
    · exact hd x (h.rch_succ.2 (.inr ⟨y, h.rch_stop hd h2, h3⟩))
/-- How many are within d steps. -/
def ball (T : List T3) (s d : Nat) : Nat := ((List.range T.length).filter fun x => rch T s d x).length
theorem Surf.ball_grow (h : Surf N T) {s : Nat} (hs : s < T.length) (d : Nat) : (∀ x, rch T s (d + 1) x = true → rch T s d x = true) ∨ ball T s d + 1 ≤ ball T s (d + 1) := by
  by_cases hall : ∀ x, rch T s (d + 1) x = true → rch T s d x = true
  · exact .inl hall
  · refine .inr ?_
    obtain ⟨x, hx⟩ := Classical.not_forall.1 hall
    have h1 : rch T s (d + 1) x = true := Classical.byContradiction fun h9 => hx fun h8 => absurd h8 h9
    have h2 : ¬ rch T s d x = true := fun h9 => hx fun _ => h9
    have hlt := h.rch_lt hs h1
    unfold ball
    have h3 : (x :: (List.range T.length).filter fun x => rch T s d x).Nodup := by
      rw [List.nodup_cons]
      refine ⟨fun h9 => h2 (List.mem_filter.1 h9).2, List.nodup_range.sublist List.filter_sublist⟩
    have h4 := nodup_len (m := (List.range T.length).filter fun x => rch T s (d + 1) x) h3 fun a ha => by
      rcases List.mem_cons.1 ha with rfl | ha
      · exact List.mem_filter.2 ⟨List.mem_range.2 hlt, h1⟩
      · obtain ⟨h5, h6⟩ := List.mem_filter.1 ha
        exact List.mem_filter.2 ⟨h5, rch_mono (by omega) h6⟩
    simpa using h4
/-- Whoever is reached is reached in fewer steps than there are triangles. -/
theorem Surf.rch_few (h : Surf N T) {s : Nat} (hs : s < T.length) {e x : Nat} (hx : rch T s e x = true) : rch T s (T.length - 1) x = true := by
  have key : ∀ d, (∀ x e, rch T s e x = true → rch T s d x = true) ∨ d + 1 ≤ ball T s d := by
    intro d
    induction d with
    | zero =>
      refine .inr ?_
      unfold ball
      have : s ∈ (List.range T.length).filter fun x => rch T s 0 x := List.mem_filter.2 ⟨List.mem_range.2 hs, rch_zero.2 rfl⟩
      have := List.length_pos_of_mem this
      omega
    | succ d ih =>
      rcases ih with ih | ih
      · exact .inl fun x e hx => rch_mono (by omega) (ih x e hx)
      · rcases h.ball_grow hs d with h1 | h1
        · exact .inl fun x e hx => rch_mono (by omega) (h.rch_stop h1 hx)
        · exact .inr (by omega)
  rcases key (T.length - 1) with h1 | h1
  · exact h1 x e hx
  · rcases h.ball_grow hs (T.length - 1) with h2 | h2
    · exact h.rch_stop h2 hx
    · exfalso
      have : ball T s (T.length - 1 + 1) ≤ T.length := by
        unfold ball
        exact Nat.le_trans (List.length_filter_le _ _) (by rw [List.length_range]; exact Nat.le_refl _)
      omega
end

/-! ## The nearest of some -/
/-- Does one come from the i-th to x in at most d steps? -/
def rc (T : List T3) (S : List Nat) (i d x : Nat) : Bool := match S[i]? with
  | some s => rch T s d x
  | none => false
theorem rc_some {T : List T3} {S : List Nat} {i d x : Nat} : rc T S i d x = true ↔ ∃ s, S[i]? = some s ∧ rch T s d x = true := by
  unfold rc
  cases S[i]? with
  | none => simp
  | some s => simp
/-- The least number of steps, and the first of those from which it's no more. -/
def Best (T : List T3) (S : List Nat) (x d i : Nat) : Prop := rc T S i d x = true ∧ ∀ j e, rc T S j e x = true → d < e ∨ (d = e ∧ i ≤ j)
theorem Best.uniq {T : List T3} {S : List Nat} {x d i e j : Nat} (h : Best T S x d i) (h1 : Best T S x e j) : d = e ∧ i = j := by
  have h2 := h.2 _ _ h1.1
  have h3 := h1.2 _ _ h.1
  omega
def optI : Option Nat → Int
  | none => -1
  | some n => n
/-- How far a triangle is from the nearest, and which of them that is. -/
def distO (T : List T3) (S : List Nat) (x : Nat) : Option Nat := leastFrom (fun d => (List.range S.length).any fun i => rc T S i d x) 0 T.length
def nearO (T : List T3) (S : List Nat) (x : Nat) : Option Nat := (distO T S x).bind fun d => leastFrom (fun i => rc T S i d x) 0 S.length
def distL (T : List T3) (S : List Nat) : List Int := (List.range T.length).map fun x => optI (distO T S x)
def nearL (T : List T3) (S : List Nat) : List Int := (List.range T.length).map fun x => optI (nearO T S x)
theorem distL_len (T : List T3) (S : List Nat) : (distL T S).length = T.length := by unfold distL; simp
theorem nearL_len (T : List T3) (S : List Nat) : (nearL T S).length = T.length := by unfold nearL; simp
theorem distL_at {T : List T3} {S : List Nat} {x : Nat} (hx : x < T.length) : (distL T S)[x]? = some (optI (distO T S x)) := by unfold distL; simp [hx]
section
variable {N : Int} {T : List T3} {S : List Nat}
theorem rc_lt {i d x : Nat} (h : rc T S i d x = true) : i < S.length := by
  obtain ⟨s, h1, _⟩ := rc_some.1 h
  exact (List.getElem?_eq_some_iff.1 h1).1
theorem Surf.best_iff (h : Surf N T) (hS : ∀ s ∈ S, s < T.length) {x d i : Nat} : (distO T S x = some d ∧ nearO T S x = some i) ↔ Best T S x d i := by
  have hany : ∀ d, ((List.range S.length).any fun i => rc T S i d x) = true ↔ ∃ i, rc T S i d x = true := fun d => by
    rw [List.any_eq_true]
    constructor
    · rintro ⟨i, _, h2⟩; exact ⟨i, h2⟩
    · rintro ⟨i, h2⟩; exact ⟨i, List.mem_range.2 (rc_lt h2), h2⟩
  constructor
  · rintro ⟨h1, h2⟩
    unfold nearO at h2
    rw [h1] at h2
    obtain ⟨_, _, h3, h4⟩ := (leastFrom_some _ _ _ _).1 h1
    obtain ⟨_, _, h5, h6⟩ := (leastFrom_some _ _ _ _).1 h2
    refine ⟨h5, fun j e hj => ?_⟩
    rcases Nat.lt_trichotomy d e with h7 | h7 | h7
    · exact .inl h7
    · refine .inr ⟨h7, ?_⟩
      subst h7
      rcases Nat.lt_or_ge j i with h8 | h8
      · have := h6 j (by omega) h8
        rw [hj] at this; cases this
      · exact h8
    · have h8 := h4 e (by omega) h7
      have h9 := (hany e).2 ⟨j, hj⟩
      rw [h8] at h9; cases h9
  · rintro ⟨h1, h2⟩
    obtain ⟨s, h3, h4⟩ := rc_some.1 h1
    have hs := hS s (List.mem_of_getElem? h3)
    have hfew : rc T S i (T.length - 1) x = true := rc_some.2 ⟨s, h3, h.rch_few hs h4⟩
    have hd : d < T.length := by
      have := h2 i _ hfew
      omega
    have h5 : distO T S x = some d := by
      refine (leastFrom_some _ _ _ _).2 ⟨by omega, by omega, (hany d).2 ⟨i, h1⟩, fun e _ he => ?_⟩
      rw [Bool.eq_false_iff]
      intro h9
      obtain ⟨j, hj⟩ := (hany e).1 h9
      have := h2 j e hj
      omega
    refine ⟨h5, ?_⟩
    unfold nearO
    rw [h5]
    refine (leastFrom_some _ _ _ _).2 ⟨by omega, by have := rc_lt h1; omega, h1, fun j _ hj => ?_⟩
    show rc T S j d x = false
    rw [Bool.eq_false_iff]
    intro h9
    have := h2 j d h9
    omega
theorem best_some {x i d : Nat} (h1 : rc T S i d x = true) : ∃ e j, Best T S x e j := by
  have key : ∀ n d i, d ≤ n → rc T S i d x = true → ∃ e j, Best T S x e j := by
    intro n
    induction n with
    | zero =>
      intro d i hd h1
      have hm : ∃ i, leastFrom (fun i => rc T S i d x) 0 S.length = some i := leastFrom_isSome (c := i) (by omega) (by have := rc_lt h1; omega) h1
      obtain ⟨j, hj⟩ := hm
      obtain ⟨_, _, h3, h4⟩ := (leastFrom_some _ _ _ _).1 hj
      refine ⟨d, j, h3, fun j' e h5 => ?_⟩
      rcases Nat.lt_or_ge d e with h6 | h6
      · exact .inl h6
      · refine .inr ⟨by omega, ?_⟩
        rcases Nat.lt_or_ge j' j with h7 | h7
        · have := h4 j' (by omega) h7
          rw [show d = e by omega, h5] at this; cases this
        · exact h7
    | succ n ih =>
      intro d i hd h1
      by_cases hex : ∃ j e, e ≤ n ∧ rc T S j e x = true
      · obtain ⟨j, e, h2, h3⟩ := hex
        exact ih e j h2 h3
      · have hm : ∃ i, leastFrom (fun i => rc T S i d x) 0 S.length = some i := leastFrom_isSome (c := i) (by omega) (by have := rc_lt h1; omega) h1
        obtain ⟨j, hj⟩ := hm
        obtain ⟨_, _, h3, h4⟩ := (leastFrom_some _ _ _ _).1 hj
        refine ⟨d, j, h3, fun j' e h5 => ?_⟩
        have h8 : ¬ e ≤ n := fun h9 => hex ⟨j', e, h9, h5⟩
        have h7 : ¬ d ≤ n := fun h9 => hex ⟨i, d, h9, h1⟩
        rcases Nat.lt_or_ge d e with h6 | h6
        · exact .inl h6
        · refine .inr ⟨by omega, ?_⟩
          rcases Nat.lt_or_ge j' j with h7 | h7
          · have := h4 j' (by omega) h7
            rw [show d = e by omega, h5] at this; cases this
          · exact h7
  exact key d d i (Nat.le_refl _) h1
theorem Surf.best_none (h : Surf N T) (hS : ∀ s ∈ S, s < T.length) {x : Nat} : (∀ i d, rc T S i d x = false) ↔ distO T S x = none := by
  constructor
  · intro h1
    unfold distO
    rw [leastFrom_none]
    intro d _ _
    rw [Bool.eq_false_iff]
    intro h9
    obtain ⟨i, _, h2⟩ := List.any_eq_true.1 h9
    rw [h1] at h2; cases h2
  · intro h1 i d
    rw [Bool.eq_false_iff]
    intro h2
    obtain ⟨e, j, h3⟩ := best_some h2
    rw [((h.best_iff hS).2 h3).1] at h1
    cases h1
theorem Surf.nearO_some (h : Surf N T) (hS : ∀ s ∈ S, s < T.length) {x d : Nat} (hd : distO T S x = some d) : ∃ i, nearO T S x = some i ∧ Best T S x d i := by
  obtain ⟨_, _, h3, _⟩ := (leastFrom_some _ _ _ _).1 hd
  obtain ⟨i, _, h4⟩ := List.any_eq_true.1 h3
  obtain ⟨e, j, h5⟩ := best_some h4
  have h6 := (h.best_iff hS).2 h5
  rw [hd] at h6
  obtain rfl := Option.some.inj h6.1
  exact ⟨j, h6.2, h5⟩
/-- What a search tells, is so. -/
def FarIs (T : List T3) (S : List Nat) (st nr : List Int) : Prop := st.length = T.length ∧ nr.length = T.length ∧ ∀ x, x < T.length →
  (st[x]? = some (-1) ∧ nr[x]? = some (-1) ∧ ∀ i d, rc T S i d x = false) ∨ ∃ d i : Nat, st[x]? = some (d : Int) ∧ nr[x]? = some (i : Int) ∧ Best T S x d i
end

/-! ## A search in breadth -/
/-- How far they are, the nearest, and the row of those met. -/
structure Bq (T : List T3) (S : List Nat) (st nr : List Int) (row : List Nat) : Prop where
  ls : st.length = T.length
  ln : nr.length = T.length
  nd : row.Nodup
  lt : ∀ x ∈ row, x < T.length
  inn : ∀ x ∈ row, ∃ d i : Nat, st[x]? = some (d : Int) ∧ nr[x]? = some (i : Int) ∧ rc T S i d x = true
  out : ∀ x, x < T.length → x ∉ row → st[x]? = some (-1) ∧ nr[x]? = some (-1)
  mono : ∀ (a b x y : Nat) (d e : Int), a ≤ b → row[a]? = some x → row[b]? = some y → st[x]? = some d → st[y]? = some e → d ≤ e
  few : ∀ (a x : Nat) (d : Int), row[a]? = some x → st[x]? = some d → d ≤ (a : Int)
section
variable {N : Int} {T : List T3} {S : List Nat} {st nr : List Int} {row : List Nat} {k : Nat}
theorem mem_at {row : List Nat} {x : Nat} (h : x ∈ row) : ∃ a : Nat, row[a]? = some x := by
  obtain ⟨a, ha, e⟩ := List.getElem_of_mem h
  exact ⟨a, by rw [List.getElem?_eq_getElem ha, e]⟩
theorem Bq.len (h : Bq T S st nr row) : row.length ≤ T.length := nodup_lt _ _ h.nd h.lt
theorem Bq.st_lt (h : Bq T S st nr row) {x : Nat} (hx : x ∈ row) {d : Int} (hd : st[x]? = some d) : 0 ≤ d ∧ d < T.length := by
  obtain ⟨a, ha⟩ := mem_at hx
  have h1 := h.few a x d ha hd
  have h2 := (List.getElem?_eq_some_iff.1 ha).1
  have h3 := h.len
  obtain ⟨e, i, h4, _⟩ := h.inn x hx
  rw [hd] at h4
  have := Option.some.inj h4
  omega
theorem Bq.val (h : Bq T S st nr row) {x : Nat} (hx : x < T.length) : ∃ d m : Int, st[x]? = some d ∧ nr[x]? = some m ∧ -1 ≤ d ∧ d < T.length ∧ -1 ≤ m ∧ m < max 1 S.length ∧ (d < 0 ↔ x ∉ row) ∧ (d < 0 → d = -1 ∧ m = -1) := by
  by_cases hr : x ∈ row
  · obtain ⟨d, i, h1, h2, h3⟩ := h.inn x hr
    have := h.st_lt hr h1
    have := rc_lt h3
    exact ⟨d, i, h1, h2, by omega, by omega, by omega, by omega, ⟨fun _ => by omega, fun h9 => absurd hr h9⟩, by omega⟩
  · obtain ⟨h1, h2⟩ := h.out x hx hr
    exact ⟨-1, -1, h1, h2, by omega, by omega, by omega, by omega, ⟨fun _ => hr, fun _ => by omega⟩, fun _ => ⟨rfl, rfl⟩⟩
theorem Bq.start (T : List T3) (S : List Nat) : Bq T S (List.replicate T.length (-1)) (List.replicate T.length (-1)) [] where
  ls := List.length_replicate
  ln := List.length_replicate
  nd := List.nodup_nil
  lt := fun _ h => (by cases h)
  inn := fun _ h => (by cases h)
  out := fun x hx _ => by simp [hx]
  mono := fun a b x y d e _ h => by simp at h
  few := fun a x d h => by simp at h
theorem snoc_at {row : List Nat} {y a x : Nat} (h : (row ++ [y])[a]? = some x) : row[a]? = some x ∨ (a = row.length ∧ x = y) := by
  rw [List.getElem?_append] at h
  split at h
  · exact .inl h
  · rename_i h1
    refine .inr ?_
    rcases Nat.lt_or_ge (a - row.length) 1 with h2 | h2
    · rw [show a - row.length = 0 by omega] at h
      simp at h
      exact ⟨by omega, h.symm⟩
    · rw [List.getElem?_eq_none (by simpa using h2)] at h
      cases h
theorem set_same {l : List Int} {y : Nat} {v : Int} (h : y < l.length) : (l.set y v)[y]? = some v := by rw [List.getElem?_set_self h]
theorem set_other {l : List Int} {x y : Nat} {v : Int} (h : x ≠ y) : (l.set y v)[x]? = l[x]? := List.getElem?_set_ne (Ne.symm h)
/-- One more is met. -/
theorem Bq.meet (h : Bq T S st nr row) {y : Nat} (hy : y < T.length) (hn : y ∉ row) {d m : Nat} (hrc : rc T S m d y = true)
    (hd : ∀ x ∈ row, ∀ e, st[x]? = some e → e ≤ (d : Int)) (hl : d ≤ row.length) : Bq T S (st.set y (d : Int)) (nr.set y (m : Int)) (row ++ [y]) := by
  have hls := h.ls
  have hln := h.ln
  have hne : ∀ x ∈ row, x ≠ y := fun x hx e => hn (e ▸ hx)
  have hat : ∀ (a x : Nat) (e : Int), (row ++ [y])[a]? = some x → (st.set y (d : Int))[x]? = some e → (row[a]? = some x ∧ x ≠ y ∧ st[x]? = some e) ∨ (a = row.length ∧ x = y ∧ e = d) := by
    intro a x e h1 h2
    rcases snoc_at h1 with h3 | ⟨h3, rfl⟩
    · have h4 := hne x (List.mem_of_getElem? h3)
      rw [set_other h4] at h2
      exact .inl ⟨h3, h4, h2⟩
    · rw [set_same (by omega)] at h2
      exact .inr ⟨h3, rfl, (Option.some.inj h2).symm⟩
  refine ⟨by rw [List.length_set]; exact hls, by rw [List.length_set]; exact hln, ?_, ?_, ?_, ?_, ?_, ?_⟩
  · exact List.nodup_append.2 ⟨h.nd, by simp, fun a ha b hb => by rw [List.mem_singleton.1 hb]; exact hne a ha⟩
  · intro x hx
    rcases List.mem_append.1 hx with h1 | h1
    · exact h.lt x h1
    · rw [List.mem_singleton.1 h1]; exact hy
  · intro x hx
    by_cases hxy : x = y
    · subst hxy
      exact ⟨d, m, set_same (by omega), set_same (by omega), hrc⟩
    · rcases List.mem_append.1 hx with h1 | h1
      · rw [set_other hxy, set_other hxy]; exact h.inn x h1
      · exact absurd (List.mem_singleton.1 h1) hxy
  · intro x hx hxr
    have hxy : x ≠ y := fun e => hxr (List.mem_append.2 (.inr (by simpa using e)))
    rw [set_other hxy, set_other hxy]
    exact h.out x hx fun h9 => hxr (List.mem_append.2 (.inl h9))
  · intro a b x z e f hab hx hz he hf
    rcases hat a x e hx he with ⟨h1, h2, h3⟩ | ⟨h1, rfl, rfl⟩
    · rcases hat b z f hz hf with ⟨h4, h5, h6⟩ | ⟨h4, rfl, rfl⟩
      · exact h.mono a b x z e f hab h1 h4 h3 h6
      · exact hd x (List.mem_of_getElem? h1) e h3
    · rcases hat b z f hz hf with ⟨h4, h5, h6⟩ | ⟨h4, rfl, rfl⟩
      · have := (List.getElem?_eq_some_iff.1 h4).1
        omega
      · exact Int.le_refl _
  · intro a x e hx he
    rcases hat a x e hx he with ⟨h1, h2, h3⟩ | ⟨h1, rfl, rfl⟩
    · exact h.few a x e h1 h3
    · omega
/-- Another one that is as near. -/
theorem Bq.tie (h : Bq T S st nr row) {y d n m : Nat} (hy : y ∈ row) (hst : st[y]? = some (d : Int)) (hnr : nr[y]? = some (n : Int)) (hrc : rc T S m d y = true) : Bq T S st (nr.set y (min (n : Int) m)) row := by
  have hln := h.ln
  have hyl := h.lt y hy
  refine ⟨h.ls, by rw [List.length_set]; exact hln, h.nd, h.lt, ?_, ?_, h.mono, h.few⟩
  · intro x hx
    by_cases hxy : x = y
    · subst hxy
      rcases Nat.le_total n m with h1 | h1
      · obtain ⟨e, i, h2, h3, h4⟩ := h.inn x hx
        rw [hst] at h2
        rw [hnr] at h3
        have e1 : d = e := by have := Option.some.inj h2; omega
        have e2 : n = i := by have := Option.some.inj h3; omega
        subst e1; subst e2
        exact ⟨d, n, hst, by rw [set_same (by omega), show min (n : Int) m = n by omega], h4⟩
      · exact ⟨d, m, hst, by rw [set_same (by omega), show min (n : Int) m = m by omega], hrc⟩
    · rw [set_other hxy]; exact h.inn x hx
  · intro x hx hxr
    have hxy : x ≠ y := fun e => hxr (e ▸ hy)
    rw [set_other hxy]
    exact h.out x hx hxr
/-- While the first k are met. -/
structure Sk (T : List T3) (S : List Nat) (st nr : List Int) (row : List Nat) (k : Nat) : Prop where
  bq : Bq T S st nr row
  zero : ∀ x ∈ row, st[x]? = some 0
  seeds : ∀ (j s : Nat), j < k → S[j]? = some s → s ∈ row ∧ ∃ m : Nat, nr[s]? = some (m : Int) ∧ m ≤ j
theorem Sk.start (T : List T3) (S : List Nat) : Sk T S (List.replicate T.length (-1)) (List.replicate T.length (-1)) [] 0 := ⟨Bq.start T S, fun _ h => (by cases h), fun j s h => by omega⟩
theorem Sk.meet (h : Sk T S st nr row k) {s : Nat} (hs : s < T.length) (hk : S[k]? = some s) (hn : s ∉ row) : Sk T S (st.set s 0) (nr.set s (k : Int)) (row ++ [s]) (k + 1) := by
  have hls := h.bq.ls
  have hln := h.bq.ln
  refine ⟨h.bq.meet (d := 0) hs hn (rc_some.2 ⟨s, hk, rch_zero.2 rfl⟩) (fun x hx e he => by rw [h.zero x hx] at he; have := Option.some.inj he; omega) (by omega), ?_, ?_⟩
  · intro x hx
    by_cases hxs : x = s
    · rw [hxs, set_same (by omega)]
    · rw [set_other hxs]
      rcases List.mem_append.1 hx with h1 | h1
      · exact h.zero x h1
      · exact absurd (List.mem_singleton.1 h1) hxs
  · intro j t hj ht
    by_cases hts : t = s
    · subst hts
      refine ⟨by simp, k, set_same (by omega), ?_⟩
      rcases Nat.lt_or_ge j k with h1 | h1
      · exact absurd (h.seeds j t h1 ht).1 hn
      · exact h1
    · have hjk : j < k := by
        rcases Nat.lt_or_ge j k with h1 | h1
        · exact h1
        · have : j = k := by omega
          subst this
          rw [hk] at ht
          exact absurd (Option.some.inj ht).symm hts
      obtain ⟨h1, m, h2, h3⟩ := h.seeds j t hjk ht
      exact ⟨List.mem_append.2 (.inl h1), m, by rw [set_other hts]; exact h2, h3⟩
theorem Sk.tie (h : Sk T S st nr row k) {s n : Nat} (hk : S[k]? = some s) (hn : s ∈ row) (hnr : nr[s]? = some (n : Int)) : Sk T S st (nr.set s (min (n : Int) (k : Int))) row (k + 1) := by
  have hln := h.bq.ln
  have hsl := h.bq.lt s hn
  refine ⟨h.bq.tie (d := 0) hn (h.zero s hn) hnr (rc_some.2 ⟨s, hk, rch_zero.2 rfl⟩), h.zero, ?_⟩
  intro j t hj ht
  by_cases hts : t = s
  · subst hts
    refine ⟨hn, min n k, by rw [set_same (by omega)]; congr 1; omega, ?_⟩
    rcases Nat.lt_or_ge j k with h1 | h1
    · obtain ⟨_, m, h2, h3⟩ := h.seeds j t h1 ht
      rw [hnr] at h2
      have := Option.some.inj h2
      omega
    · omega
  · have hjk : j < k := by
      rcases Nat.lt_or_ge j k with h1 | h1
      · exact h1
      · have : j = k := by omega
        subst this
        rw [hk] at ht
        exact absurd (Option.some.inj ht).symm hts
    obtain ⟨h1, m, h2, h3⟩ := h.seeds j t hjk ht
    exact ⟨h1, m, by rw [set_other hts]; exact h2, h3⟩
/-- y is no worse off than by way of x. -/
def Via (st nr : List Int) (x y : Nat) : Prop := ∃ d m e n : Nat, st[x]? = some (d : Int) ∧ nr[x]? = some (m : Int) ∧ st[y]? = some (e : Int) ∧ nr[y]? = some (n : Int) ∧ (e ≤ d ∨ (e = d + 1 ∧ n ≤ m))
/-- While those behind the i-th are met over its edges from the k-th on. -/
structure Qi (T : List T3) (S : List Nat) (st nr : List Int) (row : List Nat) (i k : Nat) : Prop where
  bq : Bq T S st nr row
  seeds : ∀ (j s : Nat), S[j]? = some s → s ∈ row ∧ st[s]? = some 0 ∧ ∃ m : Nat, nr[s]? = some (m : Int) ∧ m ≤ j
  top : ∀ (x y : Nat) (d e : Int), row[i]? = some x → y ∈ row → st[x]? = some d → st[y]? = some e → e ≤ d + 1
  done : ∀ (a x k' y : Nat), (a < i ∨ (a = i ∧ k' < k)) → k' < 3 → row[a]? = some x → nb T x k' = some y → y ∈ row ∧ Via st nr x y
theorem Sk.queue (h : Sk T S st nr row S.length) : Qi T S st nr row 0 0 := by
  refine ⟨h.bq, fun j s hs => ?_, fun x y d e hx hy hd he => ?_, fun a x k' y h1 => by omega⟩
  · obtain ⟨h1, h2⟩ := h.seeds j s (List.getElem?_eq_some_iff.1 hs).1 hs
    exact ⟨h1, h.zero s h1, h2⟩
  · rw [h.zero x (List.mem_of_getElem? hx)] at hd
    rw [h.zero y hy] at he
    have := Option.some.inj hd
    have := Option.some.inj he
    omega
variable {i : Nat}
theorem Qi.next (h : Qi T S st nr row i 3) : Qi T S st nr row (i + 1) 0 := by
  refine ⟨h.bq, h.seeds, fun x y d e hx hy hd he => ?_, fun a x k' y h1 h2 h3 h4 => h.done a x k' y (by omega) h2 h3 h4⟩
  have hi : i + 1 < row.length := (List.getElem?_eq_some_iff.1 hx).1
  obtain ⟨d0, m0, h1, _, _⟩ := h.bq.inn row[i] (List.getElem_mem _)
  have h2 : row[i]? = some row[i] := List.getElem?_eq_getElem _
  have h3 := h.top _ y d0 e h2 hy h1 he
  have h4 := h.bq.mono i (i + 1) _ x d0 d (by omega) h2 hx h1 hd
  omega
/-- One that is met already, nearer. -/
theorem Qi.skip (h : Qi T S st nr row i k) {x y d e m : Nat} (hx : row[i]? = some x) (hn : nb T x k = some y) (hd : st[x]? = some (d : Int)) (hm : nr[x]? = some (m : Int)) (he : st[y]? = some (e : Int)) (hy : y ∈ row) (hle : e ≤ d) : Qi T S st nr row i (k + 1) := by
  refine ⟨h.bq, h.seeds, h.top, fun a z k' y' h1 h2 h3 h4 => ?_⟩
  by_cases h9 : a = i ∧ k' = k
  · obtain ⟨rfl, rfl⟩ := h9
    rw [hx] at h3
    obtain rfl := Option.some.inj h3
    rw [hn] at h4
    obtain rfl := Option.some.inj h4
    obtain ⟨e', n, h5, h6, _⟩ := h.bq.inn y hy
    rw [he] at h5
    exact ⟨hy, d, m, e, n, hd, hm, he, h6, .inl hle⟩
  · exact h.done a z k' y' (by omega) h2 h3 h4
theorem Qi.tie (hs : Surf N T) (h : Qi T S st nr row i k) {x y d n m : Nat} (hk : k < 3) (hx : row[i]? = some x) (hn : nb T x k = some y) (hd : st[x]? = some (d : Int)) (hm : nr[x]? = some (m : Int)) (he : st[y]? = some ((d : Int) + 1)) (hnr : nr[y]? = some (n : Int)) (hy : y ∈ row) : Qi T S st (nr.set y (min (n : Int) (m : Int))) row i (k + 1) := by
  have hln := h.bq.ln
  have hyl := h.bq.lt y hy
  have hrc : rc T S m (d + 1) y = true := by
    obtain ⟨d', m', h1, h2, h3⟩ := h.bq.inn x (List.mem_of_getElem? hx)
    rw [hd] at h1
    rw [hm] at h2
    have e1 : d = d' := by have := Option.some.inj h1; omega
    have e2 : m = m' := by have := Option.some.inj h2; omega
    subst e1; subst e2
    obtain ⟨s, h4, h5⟩ := rc_some.1 h3
    exact rc_some.2 ⟨s, h4, hs.rch_succ.2 (.inr ⟨x, h5, besd_iff.2 ⟨k, hk, hn⟩⟩)⟩
  have hmin : (min (n : Int) (m : Int)) = ((min n m : Nat) : Int) := by omega
  refine ⟨h.bq.tie (d := d + 1) hy he hnr hrc, ?_, h.top, ?_⟩
  · intro j s hj
    obtain ⟨h1, h2, q, h3, h4⟩ := h.seeds j s hj
    by_cases hsy : s = y
    · subst hsy
      rw [he] at h2
      have := Option.some.inj h2
      omega
    · exact ⟨h1, h2, q, by rw [set_other hsy]; exact h3, h4⟩
  · intro a z k' y' h1 h2 h3 h4
    -- those gone over ahead are no farther than x
    have hz : ∀ f : Int, st[z]? = some f → f ≤ d := fun f hf => h.bq.mono a i z x f d (by omega) h3 hx hf hd
    have hzy : z ≠ y := fun e => by
      subst e
      have := hz _ he
      omega
    by_cases h9 : a = i ∧ k' = k
    · obtain ⟨rfl, rfl⟩ := h9
      rw [hx] at h3
      obtain rfl := Option.some.inj h3
      rw [hn] at h4
      obtain rfl := Option.some.inj h4
      exact ⟨hy, d, m, d + 1, min n m, hd, by rw [set_other hzy]; exact hm, he, by rw [set_same (by omega), hmin], .inr ⟨rfl, by omega⟩⟩
    · obtain ⟨h5, d1, m1, e1, n1, v1, v2, v3, v4, v5⟩ := h.done a z k' y' (by omega) h2 h3 h4
      refine ⟨h5, ?_⟩
      by_cases hyy : y' = y
      · subst hyy
        rw [hnr] at v4
        have := Option.some.inj v4
        exact ⟨d1, m1, e1, min n m, v1, by rw [set_other hzy]; exact v2, v3, by rw [set_same (by omega), hmin], by omega⟩
      · exact ⟨d1, m1, e1, n1, v1, by rw [set_other hzy]; exact v2, v3, by rw [set_other hyy]; exact v4, v5⟩
theorem Qi.meet (hs : Surf N T) (h : Qi T S st nr row i k) {x y d m : Nat} (hk : k < 3) (hx : row[i]? = some x) (hn : nb T x k = some y) (hd : st[x]? = some (d : Int)) (hm : nr[x]? = some (m : Int)) (hy : y ∉ row) : Qi T S (st.set y ((d : Int) + 1)) (nr.set y (m : Int)) (row ++ [y]) i (k + 1) := by
  have hls := h.bq.ls
  have hln := h.bq.ln
  have hyl : y < T.length := (hs.nb_rng hk hn).2
  have hil : i < row.length := (List.getElem?_eq_some_iff.1 hx).1
  have hrc : rc T S m (d + 1) y = true := by
    obtain ⟨d', m', h1, h2, h3⟩ := h.bq.inn x (List.mem_of_getElem? hx)
    rw [hd] at h1
    rw [hm] at h2
    have e1 : d = d' := by have := Option.some.inj h1; omega
    have e2 : m = m' := by have := Option.some.inj h2; omega
    subst e1; subst e2
    obtain ⟨s, h4, h5⟩ := rc_some.1 h3
    exact rc_some.2 ⟨s, h4, hs.rch_succ.2 (.inr ⟨x, h5, besd_iff.2 ⟨k, hk, hn⟩⟩)⟩
  have hne : ∀ z ∈ row, z ≠ y := fun z hz e => hy (e ▸ hz)
  have hkeep : ∀ (a z : Nat), a ≤ i → (row ++ [y])[a]? = some z → row[a]? = some z := fun a z ha hz => by
    rcases snoc_at hz with h1 | ⟨h1, _⟩
    · exact h1
    · omega
  have hb := h.bq.meet (d := d + 1) (m := m) hyl hy hrc (fun z hz e he => h.top x z d e hx hz hd he) (by have := h.bq.few i x d hx hd; omega)
  refine ⟨hb, ?_, ?_, ?_⟩
  · intro j s hj
    obtain ⟨h1, h2, q, h3, h4⟩ := h.seeds j s hj
    have := hne s h1
    exact ⟨List.mem_append.2 (.inl h1), by rw [set_other this]; exact h2, q, by rw [set_other this]; exact h3, h4⟩
  · intro x' z d' e hx' hz hd' he
    have h1 := hkeep i x' (by omega) hx'
    rw [hx] at h1
    obtain rfl := Option.some.inj h1
    have hxm := List.mem_of_getElem? hx
    rw [set_other (hne x hxm)] at hd'
    by_cases hzy : z = y
    · subst hzy
      rw [set_same (by omega)] at he
      rw [hd] at hd'
      have := Option.some.inj he
      have := Option.some.inj hd'
      omega
    · rw [set_other hzy] at he
      rcases List.mem_append.1 hz with h2 | h2
      · exact h.top x z d' e hx h2 hd' he
      · exact absurd (List.mem_singleton.1 h2) hzy
  · intro a z k' y' h1 h2 h3 h4
    have h3 := hkeep a z (by omega) h3
    have hzy := hne z (List.mem_of_getElem? h3)
    by_cases h9 : a = i ∧ k' = k
    · obtain ⟨rfl, rfl⟩ := h9
      rw [hx] at h3
      obtain rfl := Option.some.inj h3
      rw [hn] at h4
      obtain rfl := Option.some.inj h4
      exact ⟨by simp, d, m, d + 1, m, by rw [set_other hzy]; exact hd, by rw [set_other hzy]; exact hm, by rw [set_same (by omega)]; rfl, set_same (by omega), .inr ⟨rfl, Nat.le_refl _⟩⟩
    · obtain ⟨h5, d1, m1, e1, n1, v1, v2, v3, v4, v5⟩ := h.done a z k' y' (by omega) h2 h3 h4
      have := hne y' h5
      exact ⟨List.mem_append.2 (.inl h5), d1, m1, e1, n1, by rw [set_other hzy]; exact v1, by rw [set_other hzy]; exact v2, by rw [set_other this]; exact v3, by rw [set_other this]; exact v4, v5⟩
/-- When all are gone over, all is told. -/
theorem Qi.far (hs : Surf N T) (h : Qi T S st nr row row.length 0) : FarIs T S st nr := by
  have key : ∀ (d j x : Nat), rc T S j d x = true → x ∈ row ∧ ∃ e n : Nat, st[x]? = some (e : Int) ∧ nr[x]? = some (n : Int) ∧ (e < d ∨ (e = d ∧ n ≤ j)) := by
    intro d
    induction d with
    | zero =>
      intro j x h1
      obtain ⟨s, h2, h3⟩ := rc_some.1 h1
      rw [rch_zero.1 h3]
      obtain ⟨h4, h5, m, h6, h7⟩ := h.seeds j s h2
      exact ⟨h4, 0, m, h5, h6, .inr ⟨rfl, h7⟩⟩
    | succ d ih =>
      intro j x h1
      obtain ⟨s, h2, h3⟩ := rc_some.1 h1
      rcases hs.rch_succ.1 h3 with h4 | ⟨y, h4, h5⟩
      · obtain ⟨h6, e, n, h7, h8, h9⟩ := ih j x (rc_some.2 ⟨s, h2, h4⟩)
        exact ⟨h6, e, n, h7, h8, by omega⟩
      · obtain ⟨h6, e, n, h7, h8, h9⟩ := ih j y (rc_some.2 ⟨s, h2, h4⟩)
        obtain ⟨k, hk, hk2⟩ := besd_iff.1 h5
        obtain ⟨a, ha⟩ := mem_at h6
        obtain ⟨h10, d1, m1, e1, n1, v1, v2, v3, v4, v5⟩ := h.done a y k x (.inl (List.getElem?_eq_some_iff.1 ha).1) hk ha hk2
        rw [h7] at v1
        rw [h8] at v2
        have := Option.some.inj v1
        have := Option.some.inj v2
        exact ⟨h10, e1, n1, v3, v4, by omega⟩
  refine ⟨h.bq.ls, h.bq.ln, fun x hx => ?_⟩
  by_cases hr : x ∈ row
  · obtain ⟨d, i, h1, h2, h3⟩ := h.bq.inn x hr
    refine .inr ⟨d, i, h1, h2, h3, fun j e he => ?_⟩
    obtain ⟨_, e1, n1, h4, h5, h6⟩ := key e j x he
    rw [h1] at h4
    rw [h2] at h5
    have := Option.some.inj h4
    have := Option.some.inj h5
    omega
  · obtain ⟨h1, h2⟩ := h.bq.out x hx hr
    refine .inl ⟨h1, h2, fun i d => ?_⟩
    rw [Bool.eq_false_iff]
    intro h9
    exact hr (key d i x h9).1
end
end Go.Mesh

namespace Go.Mesh
/-- The least number of steps from any of some. -/
def Dist (T : List T3) (S : List Nat) (x d : Nat) : Prop := (∃ i, rc T S i d x = true) ∧ ∀ j e, rc T S j e x = true → d ≤ e
section
variable {N : Int} {T : List T3} {S : List Nat}
theorem Dist.uniq {x d e : Nat} (h : Dist T S x d) (h1 : Dist T S x e) : d = e := by
  obtain ⟨i, hi⟩ := h.1
  obtain ⟨j, hj⟩ := h1.1
  have := h.2 _ _ hj
  have := h1.2 _ _ hi
  omega
theorem Best.dist {x d i : Nat} (h : Best T S x d i) : Dist T S x d := ⟨⟨i, h.1⟩, fun j e he => by have := h.2 j e he; omega⟩
theorem Surf.dist_iff (h : Surf N T) (hS : ∀ s ∈ S, s < T.length) {x d : Nat} : distO T S x = some d ↔ Dist T S x d := by
  constructor
  · intro h1
    obtain ⟨i, _, h2⟩ := h.nearO_some hS h1
    exact h2.dist
  · intro h1
    obtain ⟨i, hi⟩ := h1.1
    obtain ⟨e, j, h2⟩ := best_some hi
    rw [((h.best_iff hS).2 h2).1, h2.dist.uniq h1]
theorem dist_some {x i d : Nat} (h1 : rc T S i d x = true) : ∃ e, Dist T S x e ∧ e ≤ d := by
  obtain ⟨e, j, h2⟩ := best_some h1
  exact ⟨e, h2.dist, by have := h2.2 _ _ h1; omega⟩
/-- Who is farther has one beside that is nearer. -/
theorem Surf.dist_pred (h : Surf N T) {x d : Nat} (h1 : Dist T S x (d + 1)) : ∃ y, Dist T S y d ∧ besd T y x = true := by
  obtain ⟨i, hi⟩ := h1.1
  obtain ⟨s, h2, h3⟩ := rc_some.1 hi
  rcases h.rch_succ.1 h3 with h4 | ⟨y, h4, h5⟩
  · have := h1.2 i d (rc_some.2 ⟨s, h2, h4⟩)
    omega
  · obtain ⟨e, h6, h7⟩ := dist_some (rc_some.2 ⟨s, h2, h4⟩)
    obtain ⟨j, hj⟩ := h6.1
    obtain ⟨s', h8, h9⟩ := rc_some.1 hj
    have := h1.2 j (e + 1) (rc_some.2 ⟨s', h8, h.rch_succ.2 (.inr ⟨y, h9, h5⟩)⟩)
    have he : e = d := by omega
    exact ⟨y, he ▸ h6, h5⟩
theorem dist_zero {x : Nat} : Dist T S x 0 ↔ x ∈ S := by
  constructor
  · rintro ⟨⟨i, hi⟩, _⟩
    obtain ⟨s, h1, h2⟩ := rc_some.1 hi
    rw [rch_zero.1 h2]
    exact List.mem_of_getElem? h1
  · intro hx
    obtain ⟨i, hi⟩ := mem_at hx
    exact ⟨⟨i, rc_some.2 ⟨x, hi, rch_zero.2 rfl⟩⟩, fun _ _ _ => Nat.zero_le _⟩
theorem Surf.dist_lt (h : Surf N T) (hS : ∀ s ∈ S, s < T.length) {x d : Nat} (h1 : Dist T S x d) : d < T.length ∧ x < T.length := by
  obtain ⟨i, hi⟩ := h1.1
  obtain ⟨s, h2, h3⟩ := rc_some.1 hi
  have hs := hS s (List.mem_of_getElem? h2)
  have := h1.2 i _ (rc_some.2 ⟨s, h2, h.rch_few hs h3⟩)
  exact ⟨by omega, h.rch_lt hs h3⟩
/-- Within a round: the triangles below t are gone over, of t the edges below k (in the document's order). -/
structure Fr (T : List T3) (S : List Nat) (far : List Int) (r t k : Nat) : Prop where
  len : far.length = T.length
  is : ∀ x, x < T.length → far[x]? = some (-1) ∨ ∃ d : Nat, far[x]? = some (d : Int) ∧ Dist T S x d ∧ d ≤ r + 1
  near : ∀ (x d : Nat), Dist T S x d → d ≤ r → far[x]? = some (d : Int)
  done : ∀ (y k' x : Nat), (y < t ∨ (y = t ∧ k' < k)) → k' < 3 → Dist T S y r → nb T y ((k' + 2) % 3) = some x → far[x]? ≠ some (-1)
theorem Fr.val {far : List Int} {r t k x : Nat} (h : Fr T S far r t k) (hx : x < T.length) : ∃ d : Int, far[x]? = some d ∧ -1 ≤ d ∧ d ≤ r + 1 := by
  rcases h.is x hx with h1 | ⟨d, h1, _, h2⟩
  · exact ⟨-1, h1, by omega, by omega⟩
  · exact ⟨d, h1, by omega, by omega⟩
theorem Fr.at_ {far : List Int} {r t k x : Nat} (h : Fr T S far r t k) (hx : x < T.length) : far[x]? = some (r : Int) ↔ Dist T S x r := by
  constructor
  · intro h1
    rcases h.is x hx with h2 | ⟨d, h2, h3, _⟩
    · rw [h1] at h2; have := Option.some.inj h2; omega
    · rw [h1] at h2
      have e : d = r := by have := Option.some.inj h2; omega
      exact e ▸ h3
  · intro h1; exact h.near x r h1 (Nat.le_refl _)
/-- A triangle that isn't so far is passed over. -/
theorem Fr.pass {far : List Int} {r t : Nat} (h : Fr T S far r t 0) (hn : ¬ Dist T S t r) : Fr T S far r (t + 1) 0 :=
  ⟨h.len, h.is, h.near, fun y k' x h1 h2 h3 h4 => by
    by_cases hy : y = t
    · subst hy; exact absurd h3 hn
    · exact h.done y k' x (by omega) h2 h3 h4⟩
theorem Fr.row {far : List Int} {r t : Nat} (h : Fr T S far r t 3) : Fr T S far r (t + 1) 0 := ⟨h.len, h.is, h.near, fun y k' x h1 h2 h3 h4 => h.done y k' x (by omega) h2 h3 h4⟩
/-- An edge with nobody behind it, or with one that is told already. -/
theorem Fr.skip {far : List Int} {r t k : Nat} (h : Fr T S far r t k) (hn : ∀ x, nb T t ((k + 2) % 3) = some x → far[x]? ≠ some (-1)) : Fr T S far r t (k + 1) :=
  ⟨h.len, h.is, h.near, fun y k' x h1 h2 h3 h4 => by
    by_cases hy : y = t ∧ k' = k
    · obtain ⟨rfl, rfl⟩ := hy; exact hn x h4
    · exact h.done y k' x (by omega) h2 h3 h4⟩
theorem Fr.mark (hs : Surf N T) {far : List Int} {r t k x : Nat} (h : Fr T S far r t k) (hk : k < 3) (ht : Dist T S t r) (hn : nb T t ((k + 2) % 3) = some x) (hx : far[x]? = some (-1)) : Fr T S (far.set x ((r : Int) + 1)) r t (k + 1) := by
  have hlen := h.len
  have hxl := (hs.nb_rng (by omega : (k + 2) % 3 < 3) hn).2
  have hbesd : besd T t x = true := besd_iff.2 ⟨_, by omega, hn⟩
  have hd : Dist T S x (r + 1) := by
    obtain ⟨i, hi⟩ := ht.1
    obtain ⟨s, h1, h2⟩ := rc_some.1 hi
    refine ⟨⟨i, rc_some.2 ⟨s, h1, hs.rch_succ.2 (.inr ⟨t, h2, hbesd⟩)⟩⟩, fun j e he => ?_⟩
    obtain ⟨d, h3, h4⟩ := dist_some he
    rcases Nat.lt_or_ge r d with h5 | h5
    · omega
    · have := h.near x d h3 h5
      rw [hx] at this
      have := Option.some.inj this
      omega
  refine ⟨by rw [List.length_set]; exact hlen, fun z hz => ?_, fun z d h1 h2 => ?_, fun y k' z h1 h2 h3 h4 => ?_⟩
  · by_cases hzx : z = x
    · subst hzx
      exact .inr ⟨r + 1, by rw [set_same (by omega)]; rfl, hd, Nat.le_refl _⟩
    · rw [set_other hzx]; exact h.is z hz
  · have hzx : z ≠ x := fun e => by
      subst e
      have := h1.uniq hd
      omega
    rw [set_other hzx]; exact h.near z d h1 h2
  · by_cases hzx : z = x
    · subst hzx
      rw [set_same (by omega)]
      intro e
      have := Option.some.inj e
      omega
    · rw [set_other hzx]
      by_cases hy : y = t ∧ k' = k
      · obtain ⟨rfl, rfl⟩ := hy
        rw [hn] at h4
        exact absurd (Option.some.inj h4).symm hzx
      · exact h.done y k' z (by omega) h2 h3 h4
theorem Fr.next (hs : Surf N T) {far : List Int} {r : Nat} (h : Fr T S far r T.length 0) : Fr T S far (r + 1) 0 0 := by
  refine ⟨h.len, fun x hx => ?_, fun x d h1 h2 => ?_, fun y k' x h1 => by omega⟩
  · rcases h.is x hx with h1 | ⟨d, h1, h2, h3⟩
    · exact .inl h1
    · exact .inr ⟨d, h1, h2, by omega⟩
  · rcases Nat.lt_or_ge r d with h3 | h3
    · have : d = r + 1 := by omega
      subst this
      obtain ⟨y, h4, h5⟩ := hs.dist_pred h1
      obtain ⟨k, hk, h6⟩ := besd_iff.1 h5
      have hyl := (hs.besd_rng h5).1
      have hxl := (hs.besd_rng h5).2
      have h7 := h.done y ((k + 1) % 3) x (.inl hyl) (by omega) h4 (by rw [show ((k + 1) % 3 + 2) % 3 = k by omega]; exact h6)
      rcases h.is x hxl with h8 | ⟨e, h8, h9, _⟩
      · exact absurd h8 h7
      · rw [h8, h1.uniq h9]
    · exact h.near x d h1 h3
/-- With the seeds told, before the first round. -/
theorem Fr.start (hS : ∀ s ∈ S, s < T.length) {far : List Int} (hl : far.length = T.length) (h1 : ∀ x, x < T.length → (x ∈ S → far[x]? = some 0) ∧ (x ∉ S → far[x]? = some (-1))) : Fr T S far 0 0 0 := by
  refine ⟨hl, fun x hx => ?_, fun x d h2 h3 => ?_, fun y k' x h2 => by omega⟩
  · by_cases hm : x ∈ S
    · exact .inr ⟨0, (h1 x hx).1 hm, dist_zero.2 hm, by omega⟩
    · exact .inl ((h1 x hx).2 hm)
  · have : d = 0 := by omega
    subst this
    have hm := dist_zero.1 h2
    exact (h1 x (hS x hm)).1 hm
theorem Fr.all (hs : Surf N T) (hS : ∀ s ∈ S, s < T.length) {far : List Int} (h : Fr T S far T.length 0 0) : far = distL T S := by
  have hlen := h.len
  refine List.ext_getElem? fun x => ?_
  by_cases hx : x < T.length
  · rw [distL_at hx]
    rcases h.is x hx with h1 | ⟨d, h1, h2, _⟩
    · cases hd : distO T S x with
      | none => exact h1
      | some d =>
        have h2 := (hs.dist_iff hS).1 hd
        have h3 := (hs.dist_lt hS h2).1
        rw [h.near x d h2 (by omega)] at h1
        have := Option.some.inj h1
        omega
    · rw [h1, (hs.dist_iff hS).2 h2]; rfl
  · rw [List.getElem?_eq_none (by omega), List.getElem?_eq_none (by rw [distL_len]; omega)]
/-! ## Seeds -/
/-- The one farthest of the first k. -/
def pick (st : List Int) : Nat → Option Nat
  | 0 => none
  | k + 1 => if st.getD k 0 = 0 then pick st k else match pick st k with
    | none => some k
    | some b => if 0 ≤ st.getD b 0 ∧ (st.getD k 0 < 0 ∨ st.getD b 0 < st.getD k 0) then some k else some b
theorem pick_is {st : List Int} : ∀ {k b : Nat}, pick st k = some b → b < k ∧ st.getD b 0 ≠ 0 ∧ ∀ x, x < k → st.getD x 0 ≠ 0 → st.getD b 0 < 0 ∨ (0 ≤ st.getD x 0 ∧ st.getD x 0 ≤ st.getD b 0)
  | 0, b, h => by cases h
  | k + 1, b, h => by
    unfold pick at h
    split at h
    · rename_i h0
      obtain ⟨h1, h2, h3⟩ := pick_is h
      refine ⟨by omega, h2, fun x hx hx0 => ?_⟩
      by_cases hxk : x = k
      · rw [hxk] at hx0; exact absurd h0 hx0
      · exact h3 x (by omega) hx0
    · rename_i h0
      cases hp : pick st k with
      | none =>
        rw [hp] at h
        obtain rfl := Option.some.inj h
        refine ⟨by omega, h0, fun x hx hx0 => ?_⟩
        by_cases hxk : x = k
        · rw [hxk]; omega
        · exfalso
          have : ∀ j x, x < j → pick st j = none → st.getD x 0 = 0 := by
            intro j
            induction j with
            | zero => intro x hx; omega
            | succ j ih =>
              intro x hx hj
              unfold pick at hj
              split at hj
              · rename_i h9
                by_cases hxj : x = j
                · rw [hxj]; exact h9
                · exact ih x (by omega) hj
              · split at hj
                · cases hj
                · split at hj <;> cases hj
          exact hx0 (this k x (by omega) hp)
      | some c =>
        rw [hp] at h
        obtain ⟨h1, h2, h3⟩ := pick_is hp
        simp only [] at h
        split at h
        · rename_i h4
          obtain rfl := Option.some.inj h
          refine ⟨by omega, h0, fun x hx hx0 => ?_⟩
          by_cases hxk : x = k
          · rw [hxk]; omega
          · have := h3 x (by omega) hx0
            omega
        · rename_i h4
          obtain rfl := Option.some.inj h
          refine ⟨by omega, h2, fun x hx hx0 => ?_⟩
          by_cases hxk : x = k
          · subst hxk; omega
          · exact h3 x (by omega) hx0
theorem pick_none {st : List Int} : ∀ {k : Nat}, pick st k = none → ∀ x, x < k → st.getD x 0 = 0
  | 0, _, x, hx => by omega
  | k + 1, h, x, hx => by
    unfold pick at h
    split at h
    · rename_i h9
      by_cases hxj : x = k
      · rw [hxj]; exact h9
      · exact pick_none h x (by omega)
    · split at h
      · cases h
      · split at h <;> cases h
/-- The first m + 1 seeds. -/
def seedsL (T : List T3) : Nat → List Nat
  | 0 => [0]
  | m + 1 => seedsL T m ++ (pick (distL T (seedsL T m)) T.length).toList
theorem distL_getD {x : Nat} (hx : x < T.length) : (distL T S).getD x 0 = optI (distO T S x) := by rw [List.getD_eq_getElem?_getD, distL_at hx]; rfl
theorem Surf.dist_mem (h : Surf N T) (hS : ∀ s ∈ S, s < T.length) {x : Nat} (hx : x < T.length) : (distL T S).getD x 0 = 0 ↔ x ∈ S := by
  rw [distL_getD hx, ← dist_zero (T := T), ← h.dist_iff hS]
  cases distO T S x with
  | none => simp [optI]
  | some d => simp [optI]
theorem Surf.seeds_ok (h : Surf N T) (hT : 0 < T.length) : ∀ m, m < T.length → (seedsL T m).length = m + 1 ∧ (seedsL T m).Nodup ∧ ∀ s ∈ seedsL T m, s < T.length
  | 0, _ => by simp [seedsL]; exact hT
  | m + 1, hm => by
    obtain ⟨h1, h2, h3⟩ := h.seeds_ok hT m (by omega)
    cases hp : pick (distL T (seedsL T m)) T.length with
    | none =>
      exfalso
      have h4 : ∀ x, x < T.length → x ∈ seedsL T m := fun x hx => (h.dist_mem h3 hx).1 (pick_none hp x hx)
      have h5 : (List.range T.length).length ≤ (seedsL T m).length := nodup_len List.nodup_range fun x hx => h4 x (List.mem_range.1 hx)
      rw [List.length_range] at h5
      omega
    | some b =>
      obtain ⟨h4, h5, _⟩ := pick_is hp
      have h6 : b ∉ seedsL T m := fun h9 => h5 ((h.dist_mem h3 h4).2 h9)
      unfold seedsL
      rw [hp]
      refine ⟨by simp [h1], ?_, ?_⟩
      · exact List.nodup_append.2 ⟨h2, by simp, fun a ha c hc e => by
          simp at hc
          subst hc; subst e
          exact h6 ha⟩
      · intro s hs
        rcases List.mem_append.1 hs with h7 | h7
        · exact h3 s h7
        · simp at h7; rw [h7]; exact h4
theorem Surf.seeds_succ (h : Surf N T) (hT : 0 < T.length) {m : Nat} (hm : m + 1 < T.length) : ∃ b, pick (distL T (seedsL T m)) T.length = some b ∧ seedsL T (m + 1) = seedsL T m ++ [b] ∧ b ∉ seedsL T m := by
  have h1 := h.seeds_ok hT (m + 1) hm
  have h2 := h.seeds_ok hT m (by omega)
  cases hp : pick (distL T (seedsL T m)) T.length with
  | none =>
    exfalso
    have : seedsL T (m + 1) = seedsL T m := by rw [seedsL, hp]; simp
    rw [this] at h1
    omega
  | some b =>
    have h3 : seedsL T (m + 1) = seedsL T m ++ [b] := by rw [seedsL, hp]; rfl
    refine ⟨b, rfl, h3, fun h9 => ?_⟩
    have := h1.2.1
    rw [h3] at this
    exact (List.nodup_append.1 this).2.2 b h9 b (by simp) rfl
theorem seeds_prefix (T : List T3) {a b : Nat} (h : a ≤ b) : seedsL T a <+: seedsL T b := by
  induction b with
  | zero => rw [show a = 0 by omega]; exact List.prefix_rfl
  | succ b ih =>
    by_cases hab : a = b + 1
    · rw [hab]; exact List.prefix_rfl
    · exact (ih (by omega)).trans (by rw [seedsL]; exact List.prefix_append _ _)
end
end Go.Mesh
namespace Go.Mesh
section
variable {N : Int} {T : List T3} {S : List Nat}
end
end Go.Mesh

namespace Go.Mesh
/-- Does one come from x to y? -/
def Con (T : List T3) (x y : Nat) : Prop := ∃ d, rch T x d y = true
/-- The i-th seed. -/
def sd (T : List T3) (i : Nat) : Nat := (seedsL T i).getD i 0
section
variable {N : Int} {T : List T3}
theorem Con.refl (x : Nat) : Con T x x := ⟨0, rch_zero.2 rfl⟩
theorem Con.symm (h : Surf N T) {x y : Nat} (c : Con T x y) : Con T y x := ⟨_, h.rch_symm c.choose_spec⟩
theorem Con.trans (h : Surf N T) {x y z : Nat} (c : Con T x y) (c1 : Con T y z) : Con T x z := by
  obtain ⟨d, hd⟩ := c
  obtain ⟨e, he⟩ := c1
  exact ⟨_, h.rch_trans hd he⟩
theorem Con.step (h : Surf N T) {x y z : Nat} (c : Con T x y) (hb : besd T y z = true) : Con T x z := by
  obtain ⟨d, hd⟩ := c
  exact ⟨d + 1, h.rch_succ.2 (.inr ⟨y, hd, hb⟩)⟩
theorem Surf.sd_at (h : Surf N T) {i m : Nat} (him : i ≤ m) (hm : m < T.length) : (seedsL T m)[i]? = some (sd T i) := by
  obtain ⟨hl, _, _⟩ := h.seeds_ok (by omega) i (by omega)
  obtain ⟨t, ht⟩ := seeds_prefix T him
  rw [← ht, List.getElem?_append_left (by omega)]
  unfold sd
  rw [List.getD_eq_getElem?_getD, List.getElem?_eq_getElem (by omega)]; rfl
/-- Whom nobody reaches, is picked first. -/
theorem pick_neg {st : List Int} {p : Nat} (hp : st.getD p 0 < 0) (hb : ∀ x, x < p → 0 ≤ st.getD x 0) : ∀ k, p < k → pick st k = some p
  | 0, h => by omega
  | k + 1, h => by
    by_cases hk : p = k
    · subst hk
      rw [pick, if_neg (by omega)]
      cases hq : pick st p with
      | none => rfl
      | some b =>
        obtain ⟨h1, h2, _⟩ := pick_is hq
        have := hb b h1
        simp only []
        rw [if_pos ⟨this, .inl hp⟩]
    · rw [pick, pick_neg hp hb k (by omega)]
      split
      · rfl
      · simp only []
        rw [if_neg (by omega)]
/-- The triangles below p are numbered, by n parts. -/
structure Pt (T : List T3) (out : List Int) (n p : Nat) : Prop where
  len : out.length = T.length
  np : n ≤ p ∧ p ≤ T.length
  is : ∀ x, x < T.length → (∃ i, i < n ∧ out[x]? = some (i : Int) ∧ Con T (sd T i) x) ∨ (out[x]? = some (-1) ∧ ∀ i, i < n → ¬ Con T (sd T i) x)
  done : ∀ x, x < p → out[x]? ≠ some (-1)
  apart : ∀ i j, i < j → j < n → ¬ Con T (sd T i) (sd T j)
theorem Pt.start {out : List Int} (hl : out.length = T.length) (h : ∀ x, x < T.length → out[x]? = some (-1)) : Pt T out 0 0 :=
  ⟨hl, by omega, fun x hx => .inr ⟨h x hx, fun i hi => by omega⟩, fun x hx => by omega, fun i j _ hj => by omega⟩
theorem Pt.val {out : List Int} {n p x : Nat} (h : Pt T out n p) (hx : x < T.length) : ∃ d : Int, out[x]? = some d ∧ -1 ≤ d ∧ d < n := by
  rcases h.is x hx with ⟨i, h1, h2, _⟩ | ⟨h1, _⟩
  · exact ⟨i, h2, by omega, by omega⟩
  · exact ⟨-1, h1, by omega, by omega⟩
/-- Of each part the number is told. -/
theorem Pt.at_ (hs : Surf N T) {out : List Int} {n p i x : Nat} (h : Pt T out n p) (hi : i < n) (hx : x < T.length) (c : Con T (sd T i) x) : out[x]? = some (i : Int) := by
  rcases h.is x hx with ⟨j, h1, h2, h3⟩ | ⟨_, h2⟩
  · have hc := c.trans hs (h3.symm hs)
    rcases Nat.lt_trichotomy i j with h4 | h4 | h4
    · exact absurd hc (h.apart i j h4 h1)
    · rw [h4]; exact h2
    · exact absurd (hc.symm hs) (h.apart j i h4 hi)
  · exact absurd c (h2 i hi)
theorem Pt.skip {out : List Int} {n p : Nat} (h : Pt T out n p) (hp : p < T.length) (ho : out[p]? ≠ some (-1)) : Pt T out n (p + 1) :=
  ⟨h.len, by have := h.np; omega, h.is, fun x hx => by
    by_cases hxp : x = p
    · rw [hxp]; exact ho
    · exact h.done x (by omega), h.apart⟩
/-- The next seed is the least triangle without a number. -/
theorem Pt.next (hs : Surf N T) {out : List Int} {n p : Nat} (h : Pt T out n p) (hp : p < T.length) (ho : out[p]? = some (-1)) : sd T n = p := by
  have hno := h.np
  have hpn : ∀ i, i < n → ¬ Con T (sd T i) p := by
    rcases h.is p hp with ⟨i, _, h2, _⟩ | ⟨_, h2⟩
    · rw [ho] at h2
      have := Option.some.inj h2
      omega
    · exact h2
  cases n with
  | zero =>
    have : p = 0 := by
      rcases Nat.eq_zero_or_pos p with h0 | h0
      · exact h0
      · rcases h.is 0 (by omega) with ⟨i, h1, _⟩ | ⟨h1, _⟩
        · omega
        · exact absurd h1 (h.done 0 h0)
    subst this
    rfl
  | succ m =>
    obtain ⟨hl, _, hlt⟩ := hs.seeds_ok (by omega) m (by omega)
    obtain ⟨b, h1, h2, _⟩ := hs.seeds_succ (by omega) (m := m) (by omega)
    have hrc : ∀ x i d, rc T (seedsL T m) i d x = true → i < m + 1 ∧ Con T (sd T i) x := fun x i d hr => by
      have hi := rc_lt hr
      rw [hl] at hi
      obtain ⟨s, h3, h4⟩ := rc_some.1 hr
      rw [hs.sd_at (by omega) (by omega)] at h3
      obtain rfl := Option.some.inj h3
      exact ⟨hi, d, h4⟩
    have hneg : (distL T (seedsL T m)).getD p 0 < 0 := by
      rw [distL_getD hp, (hs.best_none hlt).1 fun i d => by
        rw [Bool.eq_false_iff]
        intro h9
        obtain ⟨h3, h4⟩ := hrc p i d h9
        exact hpn i h3 h4]
      simp [optI]
    have hpos : ∀ x, x < p → 0 ≤ (distL T (seedsL T m)).getD x 0 := fun x hx => by
      rcases h.is x (by omega) with ⟨i, h3, _, d, h4⟩ | ⟨h3, _⟩
      · obtain ⟨e, h5, _⟩ := dist_some (T := T) (S := seedsL T m) (rc_some.2 ⟨_, hs.sd_at (i := i) (m := m) (by omega) (by omega), h4⟩)
        rw [distL_getD (by omega), (hs.dist_iff hlt).2 h5]
        simp [optI]
      · exact absurd h3 (h.done x hx)
    rw [pick_neg hneg hpos _ hp] at h1
    obtain rfl := Option.some.inj h1
    unfold sd
    rw [h2, List.getD_eq_getElem?_getD, List.getElem?_append_right (by omega), hl, Nat.sub_self]; rfl
/-- A part is gone over: those met, i of them looked at and k edges of the next. -/
structure Bf (T : List T3) (out0 out : List Int) (row : List Nat) (n p i k : Nat) : Prop where
  len : out.length = T.length
  nd : row.Nodup
  lt : ∀ x ∈ row, x < T.length
  il : i ≤ row.length
  inn : ∀ x ∈ row, out[x]? = some (n : Int) ∧ Con T p x
  oth : ∀ x, x ∉ row → out[x]? = out0[x]?
  fst : p ∈ row
  cl : ∀ a x k' y, row[a]? = some x → (a < i ∨ (a = i ∧ k' < k)) → k' < 3 → nb T x k' = some y → out[y]? ≠ some (-1)
theorem Bf.start {out : List Int} {n p : Nat} (hl : out.length = T.length) (hp : p < T.length) : Bf T out (out.set p (n : Int)) [p] n p 0 0 :=
  ⟨by rw [List.length_set]; exact hl, by simp, fun x hx => by rw [List.mem_singleton.1 hx]; exact hp, by simp, fun x hx => by
    rw [List.mem_singleton.1 hx]
    exact ⟨set_same (by omega), Con.refl p⟩, fun x hx => set_other fun e => hx (by rw [e]; simp), by simp, fun a x k' y _ h => by omega⟩
theorem Bf.few {out0 out : List Int} {row : List Nat} {n p i k : Nat} (h : Bf T out0 out row n p i k) : row.length ≤ T.length := by
  have := nodup_len (m := List.range T.length) h.nd fun x hx => List.mem_range.2 (h.lt x hx)
  rwa [List.length_range] at this
theorem Bf.val {out0 out : List Int} {row : List Nat} {n p i k m q x : Nat} (h : Bf T out0 out row n p i k) (h0 : Pt T out0 m q) (hx : x < T.length) : ∃ d : Int, out[x]? = some d ∧ -1 ≤ d ∧ d ≤ m + n := by
  by_cases hr : x ∈ row
  · exact ⟨n, (h.inn x hr).1, by omega, by omega⟩
  · obtain ⟨d, h1, h2, h3⟩ := h0.val hx
    exact ⟨d, by rw [h.oth x hr]; exact h1, h2, by omega⟩
theorem Bf.skip {out0 out : List Int} {row : List Nat} {n p i k x : Nat} (h : Bf T out0 out row n p i k) (hx : row[i]? = some x) (hn : ∀ y, nb T x k = some y → out[y]? ≠ some (-1)) : Bf T out0 out row n p i (k + 1) :=
  ⟨h.len, h.nd, h.lt, h.il, h.inn, h.oth, h.fst, fun a x' k' y h1 h2 h3 h4 => by
    by_cases hq : a = i ∧ k' = k
    · obtain ⟨rfl, rfl⟩ := hq
      rw [hx] at h1
      obtain rfl := Option.some.inj h1
      exact hn y h4
    · exact h.cl a x' k' y h1 (by omega) h3 h4⟩
theorem Bf.meet (hs : Surf N T) {out0 out : List Int} {row : List Nat} {n p i k x y : Nat} (h : Bf T out0 out row n p i k) (hk : k < 3) (hx : row[i]? = some x) (hn : nb T x k = some y) (hy : out[y]? = some (-1)) : Bf T out0 (out.set y (n : Int)) (row ++ [y]) n p i (k + 1) := by
  have hyl := (hs.nb_rng hk hn).2
  have hlen := h.len
  have hyr : y ∉ row := fun hr => by
    have := (h.inn y hr).1
    rw [hy] at this
    have := Option.some.inj this
    omega
  have hset : ∀ z, out[z]? ≠ some (-1) → (out.set y (n : Int))[z]? ≠ some (-1) := fun z hz => by
    by_cases hzy : z = y
    · subst hzy
      rw [set_same (by omega)]
      intro e
      have := Option.some.inj e
      omega
    · rw [set_other hzy]; exact hz
  have hil := (List.getElem?_eq_some_iff.1 hx).1
  refine ⟨by rw [List.length_set]; exact hlen, ?_, ?_, by rw [List.length_append]; omega, ?_, ?_, List.mem_append_left _ h.fst, ?_⟩
  · exact List.nodup_append.2 ⟨h.nd, by simp, fun a ha b hb e => by
      rw [List.mem_singleton.1 hb] at e
      exact hyr (e ▸ ha)⟩
  · intro z hz
    rcases List.mem_append.1 hz with h1 | h1
    · exact h.lt z h1
    · rw [List.mem_singleton.1 h1]; exact hyl
  · intro z hz
    rcases List.mem_append.1 hz with h1 | h1
    · have hzy : z ≠ y := fun e => hyr (e ▸ h1)
      rw [set_other hzy]; exact h.inn z h1
    · rw [List.mem_singleton.1 h1]
      exact ⟨set_same (by omega), (h.inn x (List.mem_of_getElem? hx)).2.step hs (besd_iff.2 ⟨k, hk, hn⟩)⟩
  · intro z hz
    have hzy : z ≠ y := fun e => hz (by rw [e]; simp)
    rw [set_other hzy]
    exact h.oth z fun h1 => hz (List.mem_append_left _ h1)
  · intro a x' k' y' h1 h2 h3 h4
    have hal : a < row.length := by omega
    rw [List.getElem?_append_left hal] at h1
    by_cases hq : a = i ∧ k' = k
    · obtain ⟨rfl, rfl⟩ := hq
      rw [hx] at h1
      obtain rfl := Option.some.inj h1
      rw [hn] at h4
      obtain rfl := Option.some.inj h4
      rw [set_same (by omega)]
      intro e
      have := Option.some.inj e
      omega
    · exact hset y' (h.cl a x' k' y' h1 (by omega) h3 h4)
theorem Bf.row {out0 out : List Int} {row : List Nat} {n p i : Nat} (h : Bf T out0 out row n p i 3) (hi : i < row.length) : Bf T out0 out row n p (i + 1) 0 :=
  ⟨h.len, h.nd, h.lt, by omega, h.inn, h.oth, h.fst, fun a x k' y h1 h2 h3 h4 => h.cl a x k' y h1 (by omega) h3 h4⟩
theorem Bf.all (hs : Surf N T) {out0 out : List Int} {row : List Nat} {n p : Nat} (h0 : Pt T out0 n p) (hp : p < T.length) (ho : out0[p]? = some (-1)) (h : Bf T out0 out row n p row.length 0) : Pt T out (n + 1) (p + 1) := by
  have hsd := h0.next hs hp ho
  have hnp := h0.np
  have hpn : ∀ i, i < n → ¬ Con T (sd T i) p := by
    rcases h0.is p hp with ⟨i, _, h2, _⟩ | ⟨_, h2⟩
    · rw [ho] at h2
      have := Option.some.inj h2
      omega
    · exact h2
  have hrow : ∀ d x, rch T p d x = true → x ∈ row := by
    intro d
    induction d with
    | zero => intro x hx; rw [rch_zero.1 hx]; exact h.fst
    | succ d ih =>
      intro x hx
      rcases hs.rch_succ.1 hx with h1 | ⟨y, h1, h2⟩
      · exact ih x h1
      · obtain ⟨a, ha⟩ := List.getElem?_of_mem (ih y h1)
        obtain ⟨k, hk, h3⟩ := besd_iff.1 h2
        have h4 := h.cl a y k x ha (.inl (List.getElem?_eq_some_iff.1 ha).1) hk h3
        have hxl := (hs.nb_rng hk h3).2
        by_cases hxr : x ∈ row
        · exact hxr
        · rw [h.oth x hxr] at h4
          rcases h0.is x hxl with ⟨i, h5, _, h6⟩ | ⟨h5, _⟩
          · exact absurd (h6.trans hs (Con.symm hs ⟨d + 1, hx⟩)) (hpn i h5)
          · exact absurd h5 h4
  refine ⟨h.len, by omega, fun x hx => ?_, fun x hx => ?_, fun i j hij hj => ?_⟩
  · by_cases hxr : x ∈ row
    · exact .inl ⟨n, by omega, (h.inn x hxr).1, by rw [hsd]; exact (h.inn x hxr).2⟩
    · rw [h.oth x hxr]
      rcases h0.is x hx with ⟨i, h1, h2, h3⟩ | ⟨h1, h2⟩
      · exact .inl ⟨i, by omega, h2, h3⟩
      · refine .inr ⟨h1, fun i hi c => ?_⟩
        by_cases hin : i = n
        · rw [hin, hsd] at c
          obtain ⟨d, hd⟩ := c
          exact hxr (hrow d x hd)
        · exact h2 i (by omega) c
  · by_cases hxr : x ∈ row
    · rw [(h.inn x hxr).1]
      intro e
      have := Option.some.inj e
      omega
    · rw [h.oth x hxr]
      by_cases hxp : x = p
      · rw [hxp] at hxr; exact absurd h.fst hxr
      · exact h0.done x (by omega)
  · by_cases hjn : j = n
    · rw [hjn, hsd]; exact hpn i (by omega)
    · exact h0.apart i j hij (by omega)
/-- All is told: so many parts. -/
theorem Pt.full {out : List Int} {C x : Nat} (h : Pt T out C T.length) (hx : x < T.length) : ∃ i, i < C ∧ out[x]? = some (i : Int) ∧ Con T (sd T i) x := by
  rcases h.is x hx with h1 | ⟨h1, _⟩
  · exact h1
  · exact absurd h1 (h.done x hx)
end
end Go.Mesh
