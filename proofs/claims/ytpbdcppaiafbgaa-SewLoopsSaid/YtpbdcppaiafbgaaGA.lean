/- Plain: vertices that become one (sew): least labels, by giving way, and by rounds; no program in sight. -/
import Derived.Test.YtpbdcppaiafbgaaMesh
namespace Go.Mesh
/-- Two become one: the greater label gives way to the lesser one. -/
def mrg (L : Int → Int) (v w : Int) : Int → Int := fun u => if L u = max (L v) (L w) then min (L v) (L w) else L u
abbrev P4 := (Int × Int) × (Int × Int)
/-- Which vertices pairs of edges make one. -/
def edP (l : List P4) : List (Int × Int) := l.flatMap fun p => [(p.1.1, p.2.2), (p.1.2, p.2.1)]
def labE (E : List (Int × Int)) : Int → Int := E.foldl (fun L e => mrg L e.1 e.2) id
theorem labE_snoc (E : List (Int × Int)) (e : Int × Int) : labE (E ++ [e]) = mrg (labE E) e.1 e.2 := by unfold labE; rw [List.foldl_append]; rfl
theorem gind {α : Type} {motive : List α → Prop} (h0 : motive []) (h1 : ∀ l a, motive l → motive (l ++ [a])) : ∀ l, motive l := fun l => by
  have key : ∀ m : List α, motive m.reverse := fun m => by
    induction m with
    | nil => exact h0
    | cons a m ih => rw [List.reverse_cons]; exact h1 _ a ih
  have := key l.reverse
  rwa [List.reverse_reverse] at this
structure Lab (L : Int → Int) : Prop where
  le : ∀ v, L v ≤ v
  idem : ∀ v, L (L v) = L v
theorem Lab.mrg {L : Int → Int} (h : Lab L) (v w : Int) : Lab (mrg L v w) where
  le := fun u => by
    have h1 := h.le u
    unfold Go.Mesh.mrg
    split <;> omega
  idem := fun u => by
    have hv := h.idem v
    have hw := h.idem w
    have hu := h.idem u
    have key : ∀ x, L x = x → x = min (L v) (L w) ∨ x ≠ max (L v) (L w) → Go.Mesh.mrg L v w x = x := fun x hx hc => by
      unfold Go.Mesh.mrg
      split
      · rename_i h2
        rcases hc with h3 | h3
        · exact h3.symm
        · exact (h3 (hx ▸ h2)).elim
      · exact hx
    have hm : L (min (L v) (L w)) = min (L v) (L w) := by
      rcases Int.le_total (L v) (L w) with h1 | h1
      · rw [Int.min_eq_left h1]; exact hv
      · rw [Int.min_eq_right h1]; exact hw
    conv => lhs; rw [show Go.Mesh.mrg L v w u = (if L u = max (L v) (L w) then min (L v) (L w) else L u) from rfl]
    conv => rhs; rw [show Go.Mesh.mrg L v w u = (if L u = max (L v) (L w) then min (L v) (L w) else L u) from rfl]
    split
    · exact key _ hm (.inl rfl)
    · rename_i h2
      exact key _ hu (.inr h2)
theorem lab_id : Lab id := ⟨fun v => Int.le_refl v, fun _ => rfl⟩
theorem labE_lab (E : List (Int × Int)) : Lab (labE E) := by
  refine gind (motive := fun E => Lab (labE E)) lab_id (fun E e ih => ?_) E
  rw [labE_snoc]; exact ih.mrg _ _
theorem labE_nonneg {E : List (Int × Int)} (hE : ∀ e ∈ E, 0 ≤ e.1 ∧ 0 ≤ e.2) : ∀ v, 0 ≤ v → 0 ≤ labE E v := by
  revert hE
  refine gind (motive := fun E => (∀ e ∈ E, 0 ≤ e.1 ∧ 0 ≤ e.2) → ∀ v, 0 ≤ v → 0 ≤ labE E v) (fun _ v hv => hv) (fun E e ih hE v hv => ?_) E
  rw [labE_snoc]
  have ih := ih fun x hx => hE x (List.mem_append_left _ hx)
  have he := hE e (by simp)
  have h1 := ih _ he.1
  have h2 := ih _ he.2
  have h3 := ih _ hv
  unfold mrg
  split <;> omega
/-- What is the same at both ends of all is the same at a vertex and its label. -/
theorem labE_const {α : Type} {E : List (Int × Int)} (M : Int → α) (hM : ∀ e ∈ E, M e.1 = M e.2) : ∀ v, M (labE E v) = M v := by
  revert hM
  refine gind (motive := fun E => (∀ e ∈ E, M e.1 = M e.2) → ∀ v, M (labE E v) = M v) (fun _ v => rfl) (fun E e ih hM v => ?_) E
  rw [labE_snoc]
  have ih := ih fun x hx => hM x (List.mem_append_left _ hx)
  have he := hM e (by simp)
  have h1 := ih e.1
  have h2 := ih e.2
  have h3 := ih v
  unfold mrg
  split
  · rename_i hc
    rw [hc] at h3
    rcases Int.le_total (labE E e.1) (labE E e.2) with h4 | h4
    · rw [Int.min_eq_left h4, h1, he, ← h2]; rw [Int.max_eq_right h4] at h3; exact h3
    · rw [Int.min_eq_right h4, h2, ← he, ← h1]; rw [Int.max_eq_left h4] at h3; exact h3
  · exact h3
theorem mrg_eq {L : Int → Int} (v w : Int) {a b : Int} (h : L a = L b) : mrg L v w a = mrg L v w b := by unfold mrg; rw [h]
theorem mrg_one {L : Int → Int} (v w : Int) : mrg L v w v = mrg L v w w := by
  unfold mrg
  rcases Int.le_total (L v) (L w) with h4 | h4
  · rw [Int.min_eq_left h4, Int.max_eq_right h4, if_pos rfl]
    split <;> omega
  · rw [Int.min_eq_right h4, Int.max_eq_left h4, if_pos rfl]
    split <;> omega
theorem labE_one {E : List (Int × Int)} : ∀ e ∈ E, labE E e.1 = labE E e.2 := by
  refine gind (motive := fun E => ∀ e ∈ E, labE E e.1 = labE E e.2) (fun e he => by cases he) (fun E f ih e he => ?_) E
  rw [labE_snoc]
  rcases List.mem_append.1 he with h1 | h1
  · exact mrg_eq _ _ (ih e h1)
  · rw [List.mem_singleton.1 h1]; exact mrg_one _ _
/-- A list of roots, each not above its vertex, that lead to the labels. -/
def Roots (R : List Int) (L : Int → Int) (n : Nat) : Prop := R.length = n ∧ ∀ v : Nat, v < n → ∃ r : Nat, R[v]? = some (r : Int) ∧ r ≤ v ∧ (r = v ↔ L (v : Int) = v) ∧ L (r : Int) = L (v : Int)
theorem roots_id (n : Nat) : Roots ((List.range n).map fun v : Nat => (v : Int)) id n := by
  refine ⟨by simp, fun v hv => ⟨v, by simp [hv], Nat.le_refl v, by simp, rfl⟩⟩
theorem Roots.join {R : List Int} {L : Int → Int} {n : Nat} (h : Roots R L n) (hL : Lab L) {v w a b : Nat} (ha : L (v : Int) = a) (hb : L (w : Int) = b) : Roots (R.set (max a b) ((min a b : Nat) : Int)) (mrg L v w) n := by
  obtain ⟨h1, h2⟩ := h
  have iv := hL.idem v
  have iw := hL.idem w
  rw [ha] at iv
  rw [hb] at iw
  have hva := hL.le v
  have hwb := hL.le w
  rw [ha] at hva
  rw [hb] at hwb
  have hmm : ((max a b : Nat) : Int) = max (a : Int) b := by omega
  have hmi : ((min a b : Nat) : Int) = min (a : Int) b := by omega
  have hmrg : ∀ u, mrg L v w u = if L u = max (a : Int) b then min (a : Int) b else L u := fun u => by unfold mrg; rw [ha, hb]
  have hLmax : L ((max a b : Nat) : Int) = ((max a b : Nat) : Int) := by
    rcases Nat.le_total a b with h3 | h3
    · rw [Nat.max_eq_right h3]; exact iw
    · rw [Nat.max_eq_left h3]; exact iv
  have hLmin : L ((min a b : Nat) : Int) = ((min a b : Nat) : Int) := by
    rcases Nat.le_total a b with h3 | h3
    · rw [Nat.min_eq_left h3]; exact iv
    · rw [Nat.min_eq_right h3]; exact iw
  refine ⟨by rw [List.length_set]; exact h1, fun u hu => ?_⟩
  obtain ⟨r, e1, e2, e3, e4⟩ := h2 u hu
  by_cases hm : u = max a b
  · subst hm
    refine ⟨min a b, by rw [List.getElem?_set_self (by omega)], by omega, ?_, ?_⟩
    · rw [hmrg, hLmax, if_pos hmm]; omega
    · rw [hmrg, hmrg, hLmax, if_pos hmm, hLmin]
      split <;> omega
  · refine ⟨r, by rw [List.getElem?_set_ne (fun e => hm e.symm)]; exact e1, e2, ?_, ?_⟩
    · rw [hmrg, e3]
      split
      · rename_i hc
        constructor
        · intro h; exfalso; rw [h] at hc; omega
        · intro h
          rw [← hmi] at h
          have : u = min a b := by omega
          rw [this]; exact hLmin
      · exact Iff.rfl
    · rw [hmrg, hmrg, e4]
/-- Rounds: two labels become the lesser one. -/
def stp (O : Int → Int) (x y : Int) : Int → Int := fun u => if u = x ∨ u = y then min (O x) (O y) else O u
def rnd (E : List (Int × Int)) (O : Int → Int) : Int → Int := E.foldl (fun O e => stp O e.1 e.2) O
def rnds (E : List (Int × Int)) : Nat → Int → Int
  | 0 => id
  | k + 1 => rnd E (rnds E k)
structure Fit (L O : Int → Int) : Prop where
  le : ∀ u, O u ≤ u
  lab : ∀ u, L (O u) = L u
theorem Fit.low {L O : Int → Int} (h : Fit L O) (hL : Lab L) (u : Int) : L u ≤ O u := by
  have h1 := h.lab u
  have h2 := hL.le (O u)
  omega
theorem Fit.stp {L O : Int → Int} (h : Fit L O) {x y : Int} (hxy : L x = L y) : Fit L (stp O x y) where
  le := fun u => by
    unfold Go.Mesh.stp
    have h1 := h.le u
    have h2 := h.le x
    have h3 := h.le y
    split
    · rename_i hc
      rcases hc with rfl | rfl <;> omega
    · exact h1
  lab := fun u => by
    unfold Go.Mesh.stp
    have h2 := h.lab x
    have h3 := h.lab y
    split
    · rename_i hc
      have hu : L u = L x := by rcases hc with rfl | rfl <;> omega
      rcases Int.le_total (O x) (O y) with h4 | h4
      · rw [Int.min_eq_left h4, h2, hu]
      · rw [Int.min_eq_right h4, h3, hu, hxy]
    · exact h.lab u
theorem Fit.done_stp {L O : Int → Int} (h : Fit L O) (hL : Lab L) {x y : Int} (hxy : L x = L y) {u : Int} (hu : O u = L u) : Go.Mesh.stp O x y u = L u := by
  unfold Go.Mesh.stp
  have h1 := h.low hL x
  have h2 := h.low hL y
  split
  · rename_i hc
    rcases hc with rfl | rfl <;> omega
  · exact hu
theorem Fit.both_stp {L O : Int → Int} (h : Fit L O) (hL : Lab L) {x y : Int} (hxy : L x = L y) (hu : O x = L x ∨ O y = L y) : Go.Mesh.stp O x y x = L x ∧ Go.Mesh.stp O x y y = L y := by
  unfold Go.Mesh.stp
  have h1 := h.low hL x
  have h2 := h.low hL y
  rw [if_pos (.inl rfl), if_pos (.inr rfl)]
  rcases hu with h3 | h3 <;> omega
theorem Fit.rnd {L : Int → Int} (hL : Lab L) : ∀ {E : List (Int × Int)} {O : Int → Int}, Fit L O → (∀ e ∈ E, L e.1 = L e.2) → Fit L (rnd E O) ∧ (∀ u, O u = L u → Go.Mesh.rnd E O u = L u) ∧ ∀ e ∈ E, O e.1 = L e.1 ∨ O e.2 = L e.2 → Go.Mesh.rnd E O e.1 = L e.1 ∧ Go.Mesh.rnd E O e.2 = L e.2
  | [], O, h, _ => ⟨h, fun _ hu => hu, fun e he => by cases he⟩
  | f :: E, O, h, hE => by
    have hf := hE f (by simp)
    obtain ⟨i1, i2, i3⟩ := Fit.rnd (E := E) hL (h.stp hf) fun e he => hE e (List.mem_cons_of_mem _ he)
    refine ⟨i1, fun u hu => i2 u (h.done_stp hL hf hu), fun e he hu => ?_⟩
    rcases List.mem_cons.1 he with rfl | h1
    · obtain ⟨b1, b2⟩ := h.both_stp hL hf hu
      exact ⟨i2 _ b1, i2 _ b2⟩
    · refine i3 e h1 ?_
      rcases hu with h2 | h2
      · exact .inl (h.done_stp hL hf h2)
      · exact .inr (h.done_stp hL hf h2)
theorem countP_less {α : Type} {p q : α → Bool} : ∀ {l : List α}, (∀ x ∈ l, p x = true → q x = true) → l.countP p ≤ l.countP q ∧ ((∃ x ∈ l, q x = true ∧ p x = false) → l.countP p < l.countP q)
  | [], _ => ⟨Nat.le_refl _, fun ⟨x, hx, _⟩ => by cases hx⟩
  | a :: l, h => by
    obtain ⟨i1, i2⟩ := countP_less (l := l) fun x hx => h x (List.mem_cons_of_mem _ hx)
    have ha := h a (by simp)
    rw [List.countP_cons, List.countP_cons]
    constructor
    · cases hp : p a with
      | false => cases q a <;> simp <;> omega
      | true => rw [ha hp]; simp; omega
    · rintro ⟨x, hx, h1, h2⟩
      rcases List.mem_cons.1 hx with rfl | h3
      · rw [h1, h2]; simp; omega
      · have := i2 ⟨x, h3, h1, h2⟩
        cases hp : p a with
        | false => cases q a <;> simp <;> omega
        | true => rw [ha hp]; simp; omega
/-- After as many rounds as there are vertices each has its label. -/
theorem rnds_all {E : List (Int × Int)} {n : Nat} (hE : ∀ e ∈ E, 0 ≤ e.1 ∧ e.1 < n ∧ 0 ≤ e.2 ∧ e.2 < n) : ∀ v : Nat, v < n → rnds E n v = labE E v := by
  have hL := labE_lab E
  have h1 := labE_one (E := E)
  have hfit : ∀ k, Fit (labE E) (rnds E k) := fun k => by
    induction k with
    | zero => exact ⟨fun u => Int.le_refl u, fun u => rfl⟩
    | succ k ih => exact (Fit.rnd hL ih h1).1
  have key : ∀ k, (∀ v : Nat, v < n → rnds E k v = labE E v) ∨ k ≤ (List.range n).countP fun v : Nat => decide (rnds E k v = labE E v) := fun k => by
    induction k with
    | zero => exact .inr (Nat.zero_le _)
    | succ k ih =>
      obtain ⟨f1, f2, f3⟩ := Fit.rnd hL (hfit k) h1
      rcases ih with h2 | h2
      · exact .inl fun v hv => f2 v (h2 v hv)
      · by_cases hall : ∀ v : Nat, v < n → rnds E k v = labE E v
        · exact .inl fun v hv => f2 v (hall v hv)
        · right
          have hle := countP_less (l := List.range n) (p := fun v : Nat => decide (rnds E k v = labE E v)) (q := fun v : Nat => decide (rnds E (k + 1) v = labE E v)) fun v _ hv => by
            simp only [decide_eq_true_eq] at hv ⊢
            exact f2 v hv
          refine Nat.lt_of_le_of_lt h2 (hle.2 ?_)
          refine Classical.byContradiction fun hno => hall fun v hv => ?_
          have hst : ∀ u : Nat, u < n → rnds E (k + 1) u = labE E u → rnds E k u = labE E u := fun u hu h3 => by
            refine Classical.byContradiction fun h4 => hno ⟨u, List.mem_range.2 hu, ?_⟩
            simp only [decide_eq_true_eq, decide_eq_false_iff_not]
            exact ⟨h3, h4⟩
          have hc := labE_const (E := E) (fun u => rnds E k u = labE E u) (fun e he => by
            obtain ⟨g1, g2, g3, g4⟩ := hE e he
            obtain ⟨a, ha⟩ : ∃ a : Nat, e.1 = a := ⟨e.1.toNat, by omega⟩
            obtain ⟨b, hb⟩ : ∃ b : Nat, e.2 = b := ⟨e.2.toNat, by omega⟩
            have := f3 e he
            rw [ha, hb] at this ⊢
            refine propext ⟨fun h5 => hst b (by omega) (this (.inl h5)).2, fun h5 => hst a (by omega) (this (.inr h5)).1⟩) v
          have hd : rnds E k (labE E v) = labE E (labE E v) := by
            have a1 := (hfit k).le (labE E v)
            have a2 := (hfit k).low hL (labE E v)
            have a3 := hL.idem v
            omega
          exact (congrArg (fun p : Prop => p) hc).mp hd
  rcases key n with h | h
  · exact h
  · intro v hv
    have h2 := List.countP_eq_length.1 (Nat.le_antisymm (List.countP_le_length) (by rw [List.length_range]; exact h)) v (List.mem_range.2 hv)
    simpa using h2
/-- How many of the first so many are their own labels. -/
def rnk (L : Int → Int) (k : Nat) : Nat := (List.range k).countP fun u : Nat => decide (L (u : Int) = u)
theorem rnk_succ (L : Int → Int) (k : Nat) : rnk L (k + 1) = rnk L k + if L (k : Int) = k then 1 else 0 := by
  unfold rnk
  rw [List.range_succ, List.countP_append, List.countP_cons, List.countP_nil]
  simp
theorem rnk_le (L : Int → Int) : ∀ k, rnk L k ≤ k
  | 0 => Nat.le_refl 0
  | k + 1 => by
    have := rnk_le L k
    rw [rnk_succ]
    split <;> omega
theorem rnk_mono (L : Int → Int) {j k : Nat} (h : j ≤ k) : rnk L j ≤ rnk L k := by
  induction k with
  | zero => rw [Nat.le_zero.1 h]; exact Nat.le_refl _
  | succ k ih =>
    rcases Nat.lt_or_ge k j with h1 | h1
    · rw [show j = k + 1 by omega]; exact Nat.le_refl _
    · have := ih h1
      rw [rnk_succ]; omega
theorem rnk_lt (L : Int → Int) {j k : Nat} (h : j < k) (hj : L (j : Int) = j) : rnk L j < rnk L k := by
  have h1 := rnk_succ L j
  rw [if_pos hj] at h1
  have := rnk_mono L (j := j + 1) (k := k) (by omega)
  omega
/-- The new number of a vertex. -/
def numL (L : Int → Int) (v : Int) : Int := (rnk L (L v).toNat : Nat)
def sewOf (L : Int → Int) (n : Nat) : List Int := (List.range n).map fun v : Nat => numL L (v : Int)
def sewT (L : Int → Int) (T : List T3) : List T3 := T.map fun t => (numL L t.1, numL L t.2.1, numL L t.2.2)
theorem numL_eq {L : Int → Int} (hL : Lab L) (h0 : ∀ v, 0 ≤ v → 0 ≤ L v) {v w : Int} (hv : 0 ≤ v) (hw : 0 ≤ w) : numL L v = numL L w ↔ L v = L w := by
  constructor
  · intro h
    unfold numL at h
    have i1 := hL.idem v
    have i2 := hL.idem w
    have n1 := h0 v hv
    have n2 := h0 w hw
    rcases Int.lt_trichotomy (L v) (L w) with h1 | h1 | h1
    · have := rnk_lt L (j := (L v).toNat) (k := (L w).toNat) (by omega) (by rw [Int.toNat_of_nonneg n1]; exact i1)
      omega
    · exact h1
    · have := rnk_lt L (j := (L w).toNat) (k := (L v).toNat) (by omega) (by rw [Int.toNat_of_nonneg n2]; exact i2)
      omega
  · intro h; unfold numL; rw [h]
theorem numL_lt {L : Int → Int} (hL : Lab L) (h0 : ∀ v, 0 ≤ v → 0 ≤ L v) {v : Int} {n : Nat} (hv : 0 ≤ v) (hn : v < n) : 0 ≤ numL L v ∧ numL L v < (rnk L n : Nat) := by
  have i1 := hL.idem v
  have n1 := h0 v hv
  have l1 := hL.le v
  unfold numL
  have := rnk_lt L (j := (L v).toNat) (k := n) (by omega) (by rw [Int.toNat_of_nonneg n1]; exact i1)
  omega
theorem rnk_id : ∀ n, rnk id n = n
  | 0 => rfl
  | n + 1 => by rw [rnk_succ, rnk_id n]; simp
theorem numL_id {v : Int} (hv : 0 ≤ v) : numL id v = v := by
  unfold numL; rw [rnk_id]; show ((v.toNat : Nat) : Int) = v; omega
end Go.Mesh
