/- Walks: the document's With, Behind, At. Walks: the document's Around. Walks: the document's Ints; the law's table. Whether given triangles are a surface can be reckoned: plain. Walks: the law's table and its example. -/
import Derived.Test.YtpbdcppaiafbgaaTI
import Derived.Test.YtpbdcppaiafbgaaMP
import Derived.Deep.CutBlock
import Derived.Deep.DeepCutAuto
namespace Go.Mesh
theorem vt_at (T : List T3) (c : Nat) : vt T (3 * (c / 3) + c % 3) = vt T c := by rw [Nat.div_add_mod]
theorem dirc_none {T : List T3} {a b : Int} (h : ∀ c, c < 3 * T.length → ¬ (vt T c = a ∧ vt T (nx c) = b)) : dirc T a b = none :=
  (leastFrom_none _ _ _).2 fun c _ hc => by
    have := h c (by omega)
    simpa using this
theorem dirc_at {T : List T3} {a b : Int} {c : Nat} (hc : c < 3 * T.length) (h1 : vt T c = a ∧ vt T (nx c) = b) (h : ∀ d, d < c → ¬ (vt T d = a ∧ vt T (nx d) = b)) : dirc T a b = some c :=
  (leastFrom_some _ _ _ _).2 ⟨by omega, by omega, by simpa using h1, fun d _ hd => by
    have := h d hd
    simpa using this⟩
theorem nx_three (i k : Nat) (hk : k < 3) : nx (3 * i + k) = 3 * i + (k + 1) % 3 := by unfold nx; omega
end Go.Mesh
namespace Go.Proofs.Ytpbdcppaiafbgaa
open Go Go.RowKit Go.Words Go.Mesh

theorem tri_cells {w : World} {B cap : Nat} {A : Option Addr} {T : List T3} (h : Sl 3 RTri w B (.slice A T.length cap) T) {i : Nat} (hi : i < T.length) :
    ∃ b o, A = some ⟨b, o, none⟩ ∧ b < B ∧ ∀ k, k < 3 → w.cell? ⟨b, o + i * 3 + k, none⟩ = some (.int .i64 (Mesh.vt T (3 * i + k))) := by
  obtain ⟨b, o, h1, h2, h3⟩ := tri_cell h (n := 3 * i) (by omega)
  refine ⟨b, o, h1, h2, fun k hk => ?_⟩
  obtain ⟨b', o', g1, _, g3⟩ := tri_cell h (n := 3 * i + k) (by omega)
  rw [h1] at g1
  injection g1 with g1
  injection g1 with g1 g2
  subst g1; subst g2
  rw [show (3 * i + k) / 3 = i by omega, show (3 * i + k) % 3 = k by omega] at g3
  exact g3
end Go.Proofs.Ytpbdcppaiafbgaa

namespace Go.Mesh
theorem least_snoc (p : Nat → Bool) : ∀ n k, leastFrom p k (n + 1) = match leastFrom p k n with
    | some c => some c
    | none => if p (k + n) then some (k + n) else none
  | 0, k => by simp [leastFrom]
  | n + 1, k => by
    unfold leastFrom
    by_cases h : p k = true
    · rw [if_pos h, if_pos h]
    · rw [if_neg h, if_neg h, least_snoc p n (k + 1), show k + 1 + n = k + (n + 1) by omega]
/-- The least corner at v below k. -/
def lowI (T : List T3) (v : Int) (k : Nat) : Int := oi (leastFrom (fun c => vt T c == v) 0 k)
theorem lowI_step {T : List T3} {v : Int} {k : Nat} : lowI T v (k + 1) = if lowI T v k < 0 then (if vt T k = v then (k : Int) else -1) else lowI T v k := by
  unfold lowI
  rw [least_snoc]
  cases h : leastFrom (fun c => vt T c == v) 0 k with
  | some c =>
    have : ¬ oi (some c) < 0 := by simp [oi]
    simp only [if_neg this]
  | none =>
    have : oi none < 0 := by simp [oi]
    simp only [if_pos this, Nat.zero_add, beq_iff_eq]
    split <;> rfl
theorem lowI_range (T : List T3) (v : Int) (k : Nat) (hk : k ≤ 24576) : -1 ≤ lowI T v k ∧ lowI T v k ≤ 24576 := by
  unfold lowI
  cases h : leastFrom (fun c => vt T c == v) 0 k with
  | none => simp [oi]
  | some c =>
    have := ((leastFrom_some _ _ _ _).1 h).2.1
    show -1 ≤ (c : Int) ∧ (c : Int) ≤ 24576
    omega
def Free (T : List T3) (v : Int) (k : Nat) : Prop := ∀ d, d < k → vt T d = v → bef T d ≠ none
theorem refFirst_end {T : List T3} {v : Int} (h : Free T v (3 * T.length)) : oi (refFirst T v) = lowI T v (3 * T.length) := by
  have : leastFrom (fun c => vt T c == v && (bef T c).isNone) 0 (3 * T.length) = none := (leastFrom_none _ _ _).2 fun c _ hc => by
    cases hv : vt T c == v with
    | false => rfl
    | true =>
      have := h c (by omega) (by simpa using hv)
      cases hb : bef T c with
      | none => exact absurd hb this
      | some d => rfl
  unfold refFirst
  rw [this]
  rfl
theorem refFirst_at {T : List T3} {v : Int} {k : Nat} (hk : k < 3 * T.length) (h : Free T v k) (hv : vt T k = v) (hb : bef T k = none) : oi (refFirst T v) = (k : Int) := by
  have : leastFrom (fun c => vt T c == v && (bef T c).isNone) 0 (3 * T.length) = some k := (leastFrom_some _ _ _ _).2 ⟨by omega, by omega, by simp [hv, hb], fun d _ hd => by
    cases hv : vt T d == v with
    | false => rfl
    | true =>
      have := h d hd (by simpa using hv)
      cases hb : bef T d with
      | none => exact absurd hb this
      | some d => rfl⟩
  unfold refFirst
  rw [this]
  rfl
end Go.Mesh
namespace Go.Proofs.Ytpbdcppaiafbgaa
open Go Go.RowKit Go.Words Go.Mesh

theorem nvals_len (l : List Nat) : (nvals l).length = l.length := List.length_map _
theorem sl_nvals {w : World} {base : Nat} {v : Value} {l : List Nat} (h : w.ownsRow base 3 1 v l.length (nvals l)) : Sl 1 RInt w w.heap.size v (l.map fun n : Nat => (n : Int)) := by
  refine Sl.of_own (base := base) (e := 3) (xs := nvals l) (by rw [List.length_map]; exact h) fun i a hi => ?_
  rw [List.getElem?_map] at hi
  unfold RInt
  obtain ⟨x, hx, rfl⟩ := Option.map_eq_some_iff.1 hi
  have hlt := (List.getElem?_eq_some_iff.1 hx).1
  unfold nvals
  rw [Nat.mul_one, List.drop_eq_getElem_cons (by simpa using hlt)]
  simp only [List.take_succ_cons, List.take_zero, List.getElem_map]
  rw [List.getElem?_eq_getElem hlt] at hx
  rw [Option.some.inj hx]
theorem own_nat_at {w : World} {base g n cap : Nat} {l : List Nat} (h : w.ownsRow base 3 1 (.slice (some ⟨g, 0, none⟩) n cap) n (nvals l)) (hl : l.length = n) {i : Nat} (hi : i < l.length) :
    w.cell? ⟨g, i, none⟩ = some (.int .i64 (l[i] : Int)) ∧ g < w.heap.size ∧ base ≤ g := by
  have hb := h.lt g rfl
  subst hl
  have hs := sl_nvals h
  have hlen : (l.map fun n : Nat => (n : Int)).length = l.length := List.length_map _
  obtain ⟨b, o, cs, h1, h2, h3, h4, h5⟩ := Sl.at_ hs (List.getElem?_eq_getElem (l := l.map fun n : Nat => (n : Int)) (i := i) (by omega))
  injection h1 with h1
  injection h1 with h1 h6
  subst h1; subst h6
  unfold RInt at h4
  subst h4
  refine ⟨?_, hb.2, hb.1⟩
  have := h5 0 _ rfl
  simpa using this
theorem own_one {w : World} {base : Nat} {e : TypeId} (x : Value) (hb : base ≤ w.heap.size) : (w.alloc (.cells #[x] e)).ownsRow base e 1 (.slice (some ⟨w.heap.size, 0, none⟩) 1 1) 1 [x] :=
  ⟨rfl, .inr ⟨w.heap.size, 1, #[x], rfl, hb, heap_alloc_new w _, Nat.le_refl _, by unfold maxLen; omega, rfl, rfl⟩⟩
theorem vt_one (T : List T3) (c : Nat) : Mesh.vt T (3 * (c / 3) + (c + 1) % 3) = Mesh.vt T (nx c) := by unfold nx; congr 1; omega
theorem vt_two (T : List T3) (c : Nat) : Mesh.vt T (3 * (c / 3) + (c + 2) % 3) = Mesh.vt T (pv c) := by unfold pv; congr 1; omega

end Go.Proofs.Ytpbdcppaiafbgaa

namespace Go.Proofs.Ytpbdcppaiafbgaa
open Go Go.RowKit Go.Words Go.Mesh

theorem sl_ivals {w : World} {base : Nat} {v : Value} {l : List Int} (h : w.ownsRow base 3 1 v l.length (ivals l)) : Sl 1 RInt w w.heap.size v l := by
  refine Sl.of_own (base := base) (e := 3) (xs := ivals l) h fun i a hi => ?_
  unfold RInt
  have hlt := (List.getElem?_eq_some_iff.1 hi).1
  unfold ivals
  rw [Nat.mul_one, List.drop_eq_getElem_cons (by simpa using hlt)]
  simp only [List.take_succ_cons, List.take_zero, List.getElem_map]
  rw [List.getElem?_eq_getElem hlt] at hi
  rw [Option.some.inj hi]
end Go.Proofs.Ytpbdcppaiafbgaa

namespace Go.Mesh
def shareB (T : List T3) (c d : Nat) : Bool := vt T (nx c) == vt T (nx d) || vt T (nx c) == vt T (pv d) || vt T (pv c) == vt T (nx d) || vt T (pv c) == vt T (pv d)
theorem shareB_iff {T : List T3} {c d : Nat} : shareB T c d = true ↔ share T c d := by
  unfold shareB share
  simp only [Bool.or_eq_true, beq_iff_eq]
  constructor
  · rintro (((h | h) | h) | h)
    · exact .inl h
    · exact .inr (.inl h)
    · exact .inr (.inr (.inl h))
    · exact .inr (.inr (.inr h))
  · rintro (h | h | h | h)
    · exact .inl (.inl (.inl h))
    · exact .inl (.inl (.inr h))
    · exact .inl (.inr h)
    · exact .inr h
theorem share_symm {T : List T3} {c d : Nat} (h : share T c d) : share T d c := by
  rcases h with h | h | h | h
  · exact .inl h.symm
  · exact .inr (.inr (.inl h.symm))
  · exact .inr (.inl h.symm)
  · exact .inr (.inr (.inr h.symm))
def stepsB (T : List T3) : List Nat → Bool
  | c :: d :: l => shareB T c d && stepsB T (d :: l)
  | _ => true
theorem steps_all {T : List T3} (P : Nat → Prop) (Q : Nat → Prop) (hs : ∀ c d, Q c → Q d → P c → share T c d → P d) : ∀ (l : List Nat), stepsB T l = true → (∀ c ∈ l, Q c) → (∃ c ∈ l, P c) → ∀ c ∈ l, P c
  | [], _, _, _, c, hc => by cases hc
  | [x], _, _, ⟨c, hc, hP⟩, d, hd => by
    have h1 : c = x := by simpa using hc
    have h2 : d = x := by simpa using hd
    rw [h2, ← h1]; exact hP
  | x :: y :: l, hst, hQ, ⟨c, hc, hP⟩, d, hd => by
    simp only [stepsB, Bool.and_eq_true] at hst
    have hxy := shareB_iff.1 hst.1
    have hQx := hQ x (by simp)
    have hQy := hQ y (by simp)
    have hQl : ∀ c ∈ y :: l, Q c := fun c hc => hQ c (List.mem_cons_of_mem _ hc)
    have hey : ∃ e ∈ y :: l, P e := by
      rcases List.mem_cons.1 hc with rfl | hc
      · exact ⟨y, by simp, hs _ _ hQx hQy hP hxy⟩
      · exact ⟨c, hc, hP⟩
    have hall := steps_all P Q hs (y :: l) hst.2 hQl hey
    rcases List.mem_cons.1 hd with rfl | hd
    · exact hs _ _ hQy hQx (hall y (by simp)) (share_symm hxy)
    · exact hall d hd
/-- The corners at a vertex, in an order in which each shares a vertex with the next. -/
def orderAt (T : List T3) (v : Int) : List Nat := match cornerOf T v with
  | some b => runF (aft T) (begins T b).1 (3 * T.length) (begins T b).1
  | none => []
def fanB (T : List T3) (v : Int) : Bool :=
  let l := orderAt T v
  l.all (fun c => decide (c < 3 * T.length) && vt T c == v) && stepsB T l && (List.range (3 * T.length)).all fun c => vt T c != v || l.contains c
theorem fan_check {T : List T3} {v : Int} (h : fanB T v = true) : Fan T v := by
  unfold fanB at h
  simp only [Bool.and_eq_true, List.all_eq_true, decide_eq_true_eq, beq_iff_eq, Bool.or_eq_true, bne_iff_ne, List.contains_iff_mem, List.mem_range] at h
  obtain ⟨⟨h1, h2⟩, h3⟩ := h
  intro P ⟨c0, hc0, hv0, hP0⟩ hs c hc hv
  have hin : ∀ c, c < 3 * T.length → vt T c = v → c ∈ orderAt T v := fun c hc hv => by
    rcases h3 c hc with h | h
    · exact absurd hv h
    · exact h
  exact steps_all P (fun c => c < 3 * T.length ∧ vt T c = v) (fun c d hc hd => hs c d hc.1 hc.2 hd.1 hd.2) (orderAt T v) h2 h1 ⟨c0, hin c0 hc0 hv0, hP0⟩ c (hin c hc hv)
def surfB (N : Int) (T : List T3) : Bool :=
  decide (0 ≤ N) && decide (N ≤ 4096) && decide (T.length ≤ 8192) &&
  ((List.range (3 * T.length)).all fun c => decide (0 ≤ vt T c) && decide (vt T c < N) && vt T c != vt T (nx c)) &&
  ((List.range (3 * T.length)).all fun c => (List.range (3 * T.length)).all fun d => eg T c != eg T d || c == d) &&
  ((List.range T.length).all fun i => (List.range T.length).all fun j => !decide (i < j) || !((List.range 3).all fun k => (List.range 3).any fun m => vt T (3 * i + k) == vt T (3 * j + m))) &&
  ((List.range N.toNat).all fun v => ((List.range (3 * T.length)).any fun c => vt T c == (v : Int)) && fanB T v)
theorem surf_check {N : Int} {T : List T3} (h : surfB N T = true) : Surf N T := by
  unfold surfB at h
  simp only [Bool.and_eq_true, List.all_eq_true, List.any_eq_true, decide_eq_true_eq, beq_iff_eq, Bool.or_eq_true, bne_iff_ne, List.mem_range, Bool.not_eq_true'] at h
  obtain ⟨⟨⟨⟨⟨⟨h1, h2⟩, h3⟩, h4⟩, h5⟩, h6⟩, h7⟩ := h
  refine ⟨h1, h2, h3, fun c hc => ⟨(h4 c hc).1.1, (h4 c hc).1.2⟩, fun c hc => (h4 c hc).2, fun c d hc hd e => ?_, fun i j hij hj hall => ?_, fun v hv0 hv1 => ?_, fun v hv0 hv1 => ?_⟩
  · rcases h5 c hc d hd with h | h
    · exact absurd e h
    · exact h
  · rcases h6 i (by omega) j hj with h | h
    · rw [decide_eq_false_iff_not] at h; exact h hij
    · have : ((List.range 3).all fun k => (List.range 3).any fun m => vt T (3 * i + k) == vt T (3 * j + m)) = true := by
        simp only [List.all_eq_true, List.any_eq_true, List.mem_range, beq_iff_eq]
        exact hall
      rw [this] at h
      cases h
  · obtain ⟨⟨c, hc, e⟩, _⟩ := h7 v.toNat (by omega)
    exact ⟨c, hc, by rw [e]; omega⟩
  · have := (h7 v.toNat (by omega)).2
    rw [show ((v.toNat : Nat) : Int) = v by omega] at this
    exact fan_check this
end Go.Mesh

namespace Go.Mesh
def ex0 : List T3 := [(0, 2, 1), (0, 1, 3), (1, 2, 3), (2, 0, 3)]
theorem surf_ex0 : Surf 4 ex0 := surf_check (by decide +kernel)
theorem ring_ex0 : ringAt ex0 4 0 = [0, 3, 10] := by decide +kernel
theorem link_ex0 : linkAt ex0 4 0 = [2, 1, 3] := by decide +kernel
theorem inner_ex0 : innerAt ex0 4 0 = true := by decide +kernel
end Go.Mesh
namespace Go.Proofs.Ytpbdcppaiafbgaa
open Go Go.RowKit Go.Words Go.Mesh

/-- What is looked at. -/
def Small (N : Int) (T : List T3) : Prop := T.length ≤ 40 ∧ 0 ≤ N ∧ N ≤ 60
/-- What table hands back. -/
def Tabled (w : World) (N : Int) (T : List T3) (e : Ending) (w' : World) : Prop :=
  (∃ pv B', e = .returned pv ∧ ((Small N T ∧ Surf N T ∧ Tab w' B' pv N T) ∨ (¬ (Small N T ∧ Surf N T) ∧ pv = .pointer none))) ∧ Below w.heap.size w w'
def triVals : List T3 → List Value
  | [] => []
  | t :: T => .int .i64 t.1 :: .int .i64 t.2.1 :: .int .i64 t.2.2 :: triVals T
theorem triVals_at : ∀ (T : List T3) (i : Nat) (t : T3), T[i]? = some t → i * 3 + 3 ≤ (triVals T).length ∧ ((triVals T).drop (i * 3)).take 3 = [.int .i64 t.1, .int .i64 t.2.1, .int .i64 t.2.2]
  | [], i, t, h => by simp at h
  | x :: T, 0, t, h => by
    have : x = t := by simpa using h
    subst this
    exact ⟨by simp [triVals], by simp [triVals]⟩
  | x :: T, i + 1, t, h => by
    obtain ⟨h1, h2⟩ := triVals_at T i t (by simpa using h)
    refine ⟨by simp only [triVals, List.length_cons]; omega, ?_⟩
    rw [show (i + 1) * 3 = i * 3 + 1 + 1 + 1 by omega]
    simp only [triVals, List.drop_succ_cons]
    exact h2
theorem sl_tris {w : World} {g cap : Nat} {t : TypeId} {T : List T3} (h : Bk w g t (triVals T)) (hc : T.length ≤ cap) : Sl 3 RTri w w.heap.size (.slice (some ⟨g, 0, none⟩) T.length cap) T :=
  Sl.of_block h hc fun i a hi => triVals_at T i a hi
theorem sl_block {w : World} {g cap : Nat} {t : TypeId} {l : List Int} (h : Bk w g t (ivals l)) (hc : l.length ≤ cap) : Sl 1 RInt w w.heap.size (.slice (some ⟨g, 0, none⟩) l.length cap) l :=
  Sl.of_block h hc fun i a hi => by
    have hlt := (List.getElem?_eq_some_iff.1 hi).1
    refine ⟨by unfold ivals; rw [List.length_map]; omega, ?_⟩
    unfold RInt ivals
    rw [Nat.mul_one, List.drop_eq_getElem_cons (by simpa using hlt)]
    simp only [List.take_succ_cons, List.take_zero, List.getElem_map]
    rw [List.getElem?_eq_getElem hlt] at hi
    rw [Option.some.inj hi]
end Go.Proofs.Ytpbdcppaiafbgaa
