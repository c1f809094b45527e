/- Whether given triangles are a surface can be reckoned: plain. -/
import Derived.Test.YtdljcemnbbamcaaMP
namespace Go.Mesh
def shareB (T : List T3) (c d : Nat) : Bool := vt T (nx c) == vt T (nx d) || vt T (nx c) == vt T (pv d) || vt T (pv c) == vt T (nx d) || vt T (pv c) == vt T (pv d)
theorem shareB_iff {T : List T3} {c d : Nat} : shareB T c d = true ↔ share T c d := by
  unfold shareB share
  simp only [Bool.or_eq_true, beq_iff_eq]
  constructor
  · rintro (((h | h) | h) | h)
    · exact .inl h
    · exact .inr (.inl h)
    · exact .inr (.inr (.inl h))
    · exact .inr (.inr (.inr h))
  · rintro (h | h | h | h)
    · exact .inl (.inl (.inl h))
    · exact .inl (.inl (.inr h))
    · exact .inl (.inr h)
    · exact .inr h
theorem share_symm {T : List T3} {c d : Nat} (h : share T c d) : share T d c := by
  rcases h with h | h | h | h
  · exact .inl h.symm
  · exact .inr (.inr (.inl h.symm))
  · exact .inr (.inl h.symm)
  · exact .inr (.inr (.inr h.symm))
def stepsB (T : List T3) : List Nat → Bool
  | c :: d :: l => shareB T c d && stepsB T (d :: l)
  | _ => true
theorem steps_all {T : List T3} (P : Nat → Prop) (Q : Nat → Prop) (hs : ∀ c d, Q c → Q d → P c → share T c d → P d) : ∀ (l : List Nat), stepsB T l = true → (∀ c ∈ l, Q c) → (∃ c ∈ l, P c) → ∀ c ∈ l, P c
  | [], _, _, _, c, hc => by cases hc
  | [x], _, _, ⟨c, hc, hP⟩, d, hd => by
    have h1 : c = x := by simpa using hc
    have h2 : d = x := by simpa using hd
    rw [h2, ← h1]; exact hP
  | x :: y :: l, hst, hQ, ⟨c, hc, hP⟩, d, hd => by
    simp only [stepsB, Bool.and_eq_true] at hst
    have hxy := shareB_iff.1 hst.1
    have hQx := hQ x (by simp)
    have hQy := hQ y (by simp)
    have hQl : ∀ c ∈ y :: l, Q c := fun c hc => hQ c (List.mem_cons_of_mem _ hc)
    have hey : ∃ e ∈ y :: l, P e := by
      rcases List.mem_cons.1 hc with rfl | hc
      · exact ⟨y, by simp, hs _ _ hQx hQy hP hxy⟩
      · exact ⟨c, hc, hP⟩
    have hall := steps_all P Q hs (y :: l) hst.2 hQl hey
    rcases List.mem_cons.1 hd with rfl | hd
    · exact hs _ _ hQy hQx (hall y (by simp)) (share_symm hxy)
    · exact hall d hd
/-- The corners at a vertex, in an order in which each shares a vertex with the next. -/
def orderAt (T : List T3) (v : Int) : List Nat := match cornerOf T v with
  | some b => runF (aft T) (begins T b).1 (3 * T.length) (begins T b).1
  | none => []
def fanB (T : List T3) (v : Int) : Bool :=
  let l := orderAt T v
  l.all (fun c => decide (c < 3 * T.length) && vt T c == v) && stepsB T l && (List.range (3 * T.length)).all fun c => vt T c != v || l.contains c
theorem fan_check {T : List T3} {v : Int} (h : fanB T v = true) : Fan T v := by
  unfold fanB at h
  simp only [Bool.and_eq_true, List.all_eq_true, decide_eq_true_eq, beq_iff_eq, Bool.or_eq_true, bne_iff_ne, List.contains_iff_mem, List.mem_range] at h
  obtain ⟨⟨h1, h2⟩, h3⟩ := h
  intro P ⟨c0, hc0, hv0, hP0⟩ hs c hc hv
  have hin : ∀ c, c < 3 * T.length → vt T c = v → c ∈ orderAt T v := fun c hc hv => by
    rcases h3 c hc with h | h
    · exact absurd hv h
    · exact h
  exact steps_all P (fun c => c < 3 * T.length ∧ vt T c = v) (fun c d hc hd => hs c d hc.1 hc.2 hd.1 hd.2) (orderAt T v) h2 h1 ⟨c0, hin c0 hc0 hv0, hP0⟩ c (hin c hc hv)
def surfB (N : Int) (T : List T3) : Bool :=
  decide (0 ≤ N) && decide (N ≤ 4096) && decide (T.length ≤ 8192) &&
  ((List.range (3 * T.length)).all fun c => decide (0 ≤ vt T c) && decide (vt T c < N) && vt T c != vt T (nx c)) &&
  ((List.range (3 * T.length)).all fun c => (List.range (3 * T.length)).all fun d => eg T c != eg T d || c == d) &&
  ((List.range T.length).all fun i => (List.range T.length).all fun j => !decide (i < j) || !((List.range 3).all fun k => (List.range 3).any fun m => vt T (3 * i + k) == vt T (3 * j + m))) &&
  ((List.range N.toNat).all fun v => ((List.range (3 * T.length)).any fun c => vt T c == (v : Int)) && fanB T v)
theorem surf_check {N : Int} {T : List T3} (h : surfB N T = true) : Surf N T := by
  unfold surfB at h
  simp only [Bool.and_eq_true, List.all_eq_true, List.any_eq_true, decide_eq_true_eq, beq_iff_eq, Bool.or_eq_true, bne_iff_ne, List.mem_range, Bool.not_eq_true'] at h
  obtain ⟨⟨⟨⟨⟨⟨h1, h2⟩, h3⟩, h4⟩, h5⟩, h6⟩, h7⟩ := h
  refine ⟨h1, h2, h3, fun c hc => ⟨(h4 c hc).1.1, (h4 c hc).1.2⟩, fun c hc => (h4 c hc).2, fun c d hc hd e => ?_, fun i j hij hj hall => ?_, fun v hv0 hv1 => ?_, fun v hv0 hv1 => ?_⟩
  · rcases h5 c hc d hd with h | h
    · exact absurd e h
    · exact h
  · rcases h6 i (by omega) j hj with h | h
    · rw [decide_eq_false_iff_not] at h; exact h hij
    · have : ((List.range 3).all fun k => (List.range 3).any fun m => vt T (3 * i + k) == vt T (3 * j + m)) = true := by
        simp only [List.all_eq_true, List.any_eq_true, List.mem_range, beq_iff_eq]
        exact hall
      rw [this] at h
      cases h
  · obtain ⟨⟨c, hc, e⟩, _⟩ := h7 v.toNat (by omega)
    exact ⟨c, hc, by rw [e]; omega⟩
  · have := (h7 v.toNat (by omega)).2
    rw [show ((v.toNat : Nat) : Int) = v by omega] at this
    exact fan_check this
end Go.Mesh
