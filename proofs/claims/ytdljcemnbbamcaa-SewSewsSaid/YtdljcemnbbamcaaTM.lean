/- Walks: the document's Around. -/
import Derived.Deep.CutBlock
import Derived.Deep.DeepCutAuto
import Derived.Test.YtdljcemnbbamcaaTL
namespace Go.Mesh
theorem least_snoc (p : Nat → Bool) : ∀ n k, leastFrom p k (n + 1) = match leastFrom p k n with
    | some c => some c
    | none => if p (k + n) then some (k + n) else none
  | 0, k => by simp [leastFrom]
  | n + 1, k => by
    unfold leastFrom
    by_cases h : p k = true
    · rw [if_pos h, if_pos h]
    · rw [if_neg h, if_neg h, least_snoc p n (k + 1), show k + 1 + n = k + (n + 1) by omega]
/-- The least corner at v below k. -/
def lowI (T : List T3) (v : Int) (k : Nat) : Int := oi (leastFrom (fun c => vt T c == v) 0 k)
theorem lowI_step {T : List T3} {v : Int} {k : Nat} : lowI T v (k + 1) = if lowI T v k < 0 then (if vt T k = v then (k : Int) else -1) else lowI T v k := by
  unfold lowI
  rw [least_snoc]
  cases h : leastFrom (fun c => vt T c == v) 0 k with
  | some c =>
    have : ¬ oi (some c) < 0 := by simp [oi]
    simp only [if_neg this]
  | none =>
    have : oi none < 0 := by simp [oi]
    simp only [if_pos this, Nat.zero_add, beq_iff_eq]
    split <;> rfl
theorem lowI_range (T : List T3) (v : Int) (k : Nat) (hk : k ≤ 24576) : -1 ≤ lowI T v k ∧ lowI T v k ≤ 24576 := by
  unfold lowI
  cases h : leastFrom (fun c => vt T c == v) 0 k with
  | none => simp [oi]
  | some c =>
    have := ((leastFrom_some _ _ _ _).1 h).2.1
    show -1 ≤ (c : Int) ∧ (c : Int) ≤ 24576
    omega
def Free (T : List T3) (v : Int) (k : Nat) : Prop := ∀ d, d < k → vt T d = v → bef T d ≠ none
theorem refFirst_end {T : List T3} {v : Int} (h : Free T v (3 * T.length)) : oi (refFirst T v) = lowI T v (3 * T.length) := by
  have : leastFrom (fun c => vt T c == v && (bef T c).isNone) 0 (3 * T.length) = none := (leastFrom_none _ _ _).2 fun c _ hc => by
    cases hv : vt T c == v with
    | false => rfl
    | true =>
      have := h c (by omega) (by simpa using hv)
      cases hb : bef T c with
      | none => exact absurd hb this
      | some d => rfl
  unfold refFirst
  rw [this]
  rfl
theorem refFirst_at {T : List T3} {v : Int} {k : Nat} (hk : k < 3 * T.length) (h : Free T v k) (hv : vt T k = v) (hb : bef T k = none) : oi (refFirst T v) = (k : Int) := by
  have : leastFrom (fun c => vt T c == v && (bef T c).isNone) 0 (3 * T.length) = some k := (leastFrom_some _ _ _ _).2 ⟨by omega, by omega, by simp [hv, hb], fun d _ hd => by
    cases hv : vt T d == v with
    | false => rfl
    | true =>
      have := h d hd (by simpa using hv)
      cases hb : bef T d with
      | none => exact absurd hb this
      | some d => rfl⟩
  unfold refFirst
  rw [this]
  rfl
end Go.Mesh
namespace Go.Proofs.Ytdljcemnbbamcaa
open Go Go.RowKit Go.Words Go.Mesh

theorem nvals_len (l : List Nat) : (nvals l).length = l.length := List.length_map _
theorem sl_nvals {w : World} {base : Nat} {v : Value} {l : List Nat} (h : w.ownsRow base 3 1 v l.length (nvals l)) : Sl 1 RInt w w.heap.size v (l.map fun n : Nat => (n : Int)) := by
  refine Sl.of_own (base := base) (e := 3) (xs := nvals l) (by rw [List.length_map]; exact h) fun i a hi => ?_
  rw [List.getElem?_map] at hi
  unfold RInt
  obtain ⟨x, hx, rfl⟩ := Option.map_eq_some_iff.1 hi
  have hlt := (List.getElem?_eq_some_iff.1 hx).1
  unfold nvals
  rw [Nat.mul_one, List.drop_eq_getElem_cons (by simpa using hlt)]
  simp only [List.take_succ_cons, List.take_zero, List.getElem_map]
  rw [List.getElem?_eq_getElem hlt] at hx
  rw [Option.some.inj hx]
theorem own_nat_at {w : World} {base g n cap : Nat} {l : List Nat} (h : w.ownsRow base 3 1 (.slice (some ⟨g, 0, none⟩) n cap) n (nvals l)) (hl : l.length = n) {i : Nat} (hi : i < l.length) :
    w.cell? ⟨g, i, none⟩ = some (.int .i64 (l[i] : Int)) ∧ g < w.heap.size ∧ base ≤ g := by
  have hb := h.lt g rfl
  subst hl
  have hs := sl_nvals h
  have hlen : (l.map fun n : Nat => (n : Int)).length = l.length := List.length_map _
  obtain ⟨b, o, cs, h1, h2, h3, h4, h5⟩ := Sl.at_ hs (List.getElem?_eq_getElem (l := l.map fun n : Nat => (n : Int)) (i := i) (by omega))
  injection h1 with h1
  injection h1 with h1 h6
  subst h1; subst h6
  unfold RInt at h4
  subst h4
  refine ⟨?_, hb.2, hb.1⟩
  have := h5 0 _ rfl
  simpa using this
theorem own_one {w : World} {base : Nat} {e : TypeId} (x : Value) (hb : base ≤ w.heap.size) : (w.alloc (.cells #[x] e)).ownsRow base e 1 (.slice (some ⟨w.heap.size, 0, none⟩) 1 1) 1 [x] :=
  ⟨rfl, .inr ⟨w.heap.size, 1, #[x], rfl, hb, heap_alloc_new w _, Nat.le_refl _, by unfold maxLen; omega, rfl, rfl⟩⟩
theorem vt_one (T : List T3) (c : Nat) : Mesh.vt T (3 * (c / 3) + (c + 1) % 3) = Mesh.vt T (nx c) := by unfold nx; congr 1; omega
theorem vt_two (T : List T3) (c : Nat) : Mesh.vt T (3 * (c / 3) + (c + 2) % 3) = Mesh.vt T (pv c) := by unfold pv; congr 1; omega

end Go.Proofs.Ytdljcemnbbamcaa
