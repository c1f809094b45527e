/- Plain: vertices that become one (sew): least labels, by giving way, and by rounds; no program in sight. -/
import Derived.Test.YtpbdcppaiafbgaaGreatMesh
namespace Go.Mesh
def mrg (L : Int → Int) (v w : Int) : Int → Int := fun u => if L u = max (L v) (L w) then min (L v) (L w) else L u
abbrev P4 := (Int × Int) × (Int × Int)
def edP (l : List P4) : List (Int × Int) := l.flatMap fun p => [(p.1.1, p.2.2), (p.1.2, p.2.1)]
def labE (E : List (Int × Int)) : Int → Int := E.foldl (fun L e => mrg L e.1 e.2) id
theorem labE_snoc (E : List (Int × Int)) (e : Int × Int) : labE (E ++ [e]) = mrg (labE E) e.1 e.2 := by unfold labE; rw [List.foldl_append]; rfl
theorem gind {α : Type} {motive : List α → Prop} (h0 : motive []) (h1 : ∀ l a, motive l → motive (l ++ [a])) : ∀ l, motive l := fun l => by
  have key : ∀ m : List α, motive m.reverse := fun m => by
    induction m with
    | nil => exact h0
    | cons a m ih => rw [List.reverse_cons]; exact h1 _ a ih
  have := key l.reverse
  rwa [List.reverse_reverse] at this
structure Lab (L : Int → Int) : Prop where
  le : ∀ v, L v ≤ v
  idem : ∀ v, L (L v) = L v
theorem Lab.mrg {L : Int → Int} (h : Lab L) (v w : Int) : Lab (mrg L v w) where
  le := fun u => by
    have h1 := h.le u
    unfold Go.Mesh.mrg
    split <;> omega
  idem := fun u => by
    have hv := h.idem v
    have hw := h.idem w
    have hu := h.idem u
    have key : ∀ x, L x = x → x = min (L v) (L w) ∨ x ≠ max (L v) (L w) → Go.Mesh.mrg L v w x = x := fun x hx hc => by
      unfold Go.Mesh.mrg
      split
      · rename_i h2
        rcases hc with h3 | h3
        · exact h3.symm
        · exact (h3 (hx ▸ h2)).elim
      · exact hx
    have hm : L (min (L v) (L w)) = min (L v) (L w) := by
      rcases Int.le_total (L v) (L w) with h1 | h1
      · rw [Int.min_eq_left h1]; exact hv
      · rw [Int.min_eq_right h1]; exact hw
    conv => lhs; rw [show Go.Mesh.mrg L v w u = (if L u = max (L v) (L w) then min (L v) (L w) else L u) from rfl]
    conv => rhs; rw [show Go.Mesh.mrg L v w u = (if L u = max (L v) (L w) then min (L v) (L w) else L u) from rfl]
    split
    · exact key _ hm (.inl rfl)
    · rename_i h2
      exact key _ hu (.inr h2)
theorem lab_id : Lab id := ⟨fun v => Int.le_refl v, fun _ => rfl⟩
theorem labE_lab (E : List (Int × Int)) : Lab (labE E) := by
  refine gind (motive := fun E => Lab (labE E)) lab_id (fun E e ih => ?_) E
  rw [labE_snoc]; exact ih.mrg _ _
theorem labE_nonneg {E : List (Int × Int)} (hE : ∀ e ∈ E, 0 ≤ e.1 ∧ 0 ≤ e.2) : ∀ v, 0 ≤ v → 0 ≤ labE E v := by
  revert hE
  refine gind (motive := fun E => (∀ e ∈ E, 0 ≤ e.1 ∧ 0 ≤ e.2) → ∀ v, 0 ≤ v → 0 ≤ labE E v) (fun _ v hv => hv) (fun E e ih hE v hv => ?_) E
  rw [labE_snoc]
  have ih := ih fun x hx => hE x (List.mem_append_left _ hx)
  have he := hE e (by simp)
  have h1 := ih _ he.1
  have h2 := ih _ he.2
  have h3 := ih _ hv
  unfold mrg
  split <;> omega
theorem labE_const {α : Type} {E : List (Int × Int)} (M : Int → α) (hM : ∀ e ∈ E, M e.1 = M e.2) : ∀ v, M (labE E v) = M v := by
  revert hM
  refine gind (motive := fun E => (∀ e ∈ E, M e.1 = M e.2) → ∀ v, M (labE E v) = M v) (fun _ v => rfl) (fun E e ih hM v => ?_) E
  rw [labE_snoc]
  have ih := ih fun x hx => hM x (List.mem_append_left _ hx)
  have he := hM e (by simp)
  have h1 := ih e.1
  have h2 := ih e.2
  have h3 := ih v
  unfold mrg
  split
  · rename_i hc
    rw [hc] at h3
    rcases Int.le_total (labE E e.1) (labE E e.2) with h4 | h4
    · rw [Int.min_eq_left h4, h1, he, ← h2]; rw [Int.max_eq_right h4] at h3; exact h3
    · rw [Int.min_eq_right h4, h2, ← he, ← h1]; rw [Int.max_eq_left h4] at h3; exact h3
  · exact h3
theorem mrg_eq {L : Int → Int} (v w : Int) {a b : Int} (h : L a = L b) : mrg L v w a = mrg L v w b := by unfold mrg; rw [h]
theorem mrg_one {L : Int → Int} (v w : Int) : mrg L v w v = mrg L v w w := by
  unfold mrg
  rcases Int.le_total (L v) (L w) with h4 | h4
  · rw [Int.min_eq_left h4, Int.max_eq_right h4, if_pos rfl]
    split <;> omega
  · rw [Int.min_eq_right h4, Int.max_eq_left h4, if_pos rfl]
    split <;> omega
theorem labE_one {E : List (Int × Int)} : ∀ e ∈ E, labE E e.1 = labE E e.2 := by
  refine gind (motive := fun E => ∀ e ∈ E, labE E e.1 = labE E e.2) (fun e he => by cases he) (fun E f ih e he => ?_) E
  rw [labE_snoc]
  rcases List.mem_append.1 he with h1 | h1
  · exact mrg_eq _ _ (ih e h1)
  · rw [List.mem_singleton.1 h1]; exact mrg_one _ _
def rnk (L : Int → Int) (k : Nat) : Nat := (List.range k).countP fun u : Nat => decide (L (u : Int) = u)
theorem rnk_succ (L : Int → Int) (k : Nat) : rnk L (k + 1) = rnk L k + if L (k : Int) = k then 1 else 0 := by
  unfold rnk
  rw [List.range_succ, List.countP_append, List.countP_cons, List.countP_nil]
  simp
theorem rnk_mono (L : Int → Int) {j k : Nat} (h : j ≤ k) : rnk L j ≤ rnk L k := by
  induction k with
  | zero => rw [Nat.le_zero.1 h]; exact Nat.le_refl _
  | succ k ih =>
    rcases Nat.lt_or_ge k j with h1 | h1
    · rw [show j = k + 1 by omega]; exact Nat.le_refl _
    · have := ih h1
      rw [rnk_succ]; omega
theorem rnk_lt (L : Int → Int) {j k : Nat} (h : j < k) (hj : L (j : Int) = j) : rnk L j < rnk L k := by
  have h1 := rnk_succ L j
  rw [if_pos hj] at h1
  have := rnk_mono L (j := j + 1) (k := k) (by omega)
  omega
def numL (L : Int → Int) (v : Int) : Int := (rnk L (L v).toNat : Nat)
def sewOf (L : Int → Int) (n : Nat) : List Int := (List.range n).map fun v : Nat => numL L (v : Int)
def sewT (L : Int → Int) (T : List T3) : List T3 := T.map fun t => (numL L t.1, numL L t.2.1, numL L t.2.2)
theorem numL_eq {L : Int → Int} (hL : Lab L) (h0 : ∀ v, 0 ≤ v → 0 ≤ L v) {v w : Int} (hv : 0 ≤ v) (hw : 0 ≤ w) : numL L v = numL L w ↔ L v = L w := by
  constructor
  · intro h
    unfold numL at h
    have i1 := hL.idem v
    have i2 := hL.idem w
    have n1 := h0 v hv
    have n2 := h0 w hw
    rcases Int.lt_trichotomy (L v) (L w) with h1 | h1 | h1
    · have := rnk_lt L (j := (L v).toNat) (k := (L w).toNat) (by omega) (by rw [Int.toNat_of_nonneg n1]; exact i1)
      omega
    · exact h1
    · have := rnk_lt L (j := (L w).toNat) (k := (L v).toNat) (by omega) (by rw [Int.toNat_of_nonneg n2]; exact i2)
      omega
  · intro h; unfold numL; rw [h]
end Go.Mesh
