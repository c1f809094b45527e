/- Walks: ref09's Edge, Has, twice. Walks: ref09's index, pairs. Plain: the triangles at a vertex are connected; marks that spread; no program in sight. Walks: ref09's Pinched. Plain: what ref09 looks at, one after another, is what a surface is; no program in sight. Walks: ref09's All, Surface. The border of a surface: plain. Walks: border.Edges, border.After. Walks: border.behind, the law's Table. Words for maps inside a fence: look and put at the operation. Walks: border.Walk and its iterator. Walks: border.Walk, the law's walk. Walks: slices.AppendSeq, slices.Collect over a border walk. A function that ranges over a function in a loop: its marks are taken one after another as it leaves. Walks: border.Loops. Walks: ref12's Lists. Walks: the law's awake. -/
import Derived.Test.YtpbdcppaiafbgaaGreatTS
import Derived.Test.YtpbdcppaiafbgaaGreatSurf
import Derived.Test.YtpbdcppaiafbgaaGreatVB
import Derived.Test.YtpbdcppaiafbgaaGreatMP
import Derived.Test.YtpbdcppaiafbgaaGreatMap
import Derived.Maps.OwnIn
import Derived.Test.YtpbdcppaiafbgaaGreatTI
namespace Go.Mesh
def edB (t : T3) (a b : Int) : Bool := (t.1 == a && t.2.1 == b) || (t.2.1 == a && t.2.2 == b) || (t.2.2 == a && t.1 == b)
def haB (t : T3) (v : Int) : Bool := t.1 == v || t.2.1 == v || t.2.2 == v
def twB (t u : T3) : Bool := edB u t.1 t.2.1 || edB u t.2.1 t.2.2 || edB u t.2.2 t.1
end Go.Mesh
namespace Go.Proofs.YtpbdcppaiafbgaaGreat
open Go Go.RowKit Go.Words Go.Mesh

theorem ret_bool {a b : Bool} (h : a = b) : Ending.returned (.bool a) = Ending.returned (.bool b) := by rw [h]
abbrev triV (t : T3) : Value := .agg #[.int .i64 t.1, .int .i64 t.2.1, .int .i64 t.2.2]

end Go.Proofs.YtpbdcppaiafbgaaGreat

namespace Go.Mesh
def Idx (N : Int) (T : List T3) : Prop := 0 ≤ N ∧ N ≤ 4096 ∧ ∀ c, c < 3 * T.length → 0 ≤ vt T c ∧ vt T c < N
def NoPair (p : T3 → T3 → Bool) (T : List T3) (n : Nat) : Prop := ∀ b a, b < n → a < b → p (triAt T a) (triAt T b) = false
def vsB (t u : T3) : Bool := haB u t.1 && haB u t.2.1 && haB u t.2.2
theorem triAt_get {T : List T3} {i : Nat} (h : i < T.length) : T[i] = triAt T i := by
  unfold triAt
  rw [List.getD_eq_getElem?_getD, List.getElem?_eq_getElem h]
  rfl
end Go.Mesh
namespace Go.Proofs.YtpbdcppaiafbgaaGreat
open Go Go.RowKit Go.Words Go.Mesh

end Go.Proofs.YtpbdcppaiafbgaaGreat

namespace Go.Mesh
def adP (v : Int) (x y : T3) : Nat → Bool
  | 0 => false
  | m + 1 => adP v x y m || (vx x m != v && haB y (vx x m))
def adB (v : Int) (x y : T3) : Bool := adP v x y 3
theorem haB_iff {t : T3} {v : Int} : haB t v = true ↔ HasV t v := by
  unfold haB HasV
  simp only [Bool.or_eq_true, beq_iff_eq, or_assoc]
  constructor <;> rintro (h | h | h) <;> simp [h]
theorem adP_iff {v : Int} {x y : T3} : ∀ m, adP v x y m = true ↔ ∃ j, j < m ∧ vx x j ≠ v ∧ HasV y (vx x j)
  | 0 => by simp [adP]
  | m + 1 => by
    unfold adP
    rw [Bool.or_eq_true, adP_iff m, Bool.and_eq_true, haB_iff, bne_iff_ne]
    constructor
    · rintro (⟨j, h1, h2⟩ | ⟨h1, h2⟩)
      · exact ⟨j, by omega, h2⟩
      · exact ⟨m, by omega, h1, h2⟩
    · rintro ⟨j, h1, h2⟩
      by_cases hj : j = m
      · subst hj; exact .inr h2
      · exact .inl ⟨j, by omega, h2⟩
theorem adB_iff {v : Int} {x y : T3} : adB v x y = true ↔ ∃ u, u ≠ v ∧ HasV x u ∧ HasV y u := by
  unfold adB
  rw [adP_iff]
  constructor
  · rintro ⟨j, h1, h2, h3⟩
    exact ⟨_, h2, vx_has.2 ⟨j, h1, rfl⟩, h3⟩
  · rintro ⟨u, h1, h2, h3⟩
    obtain ⟨j, h4, rfl⟩ := vx_has.1 h2
    exact ⟨j, h4, h1, h3⟩

section
variable (L : List T3) (v : Int)
def ShutB (P : Nat → Prop) : Prop := ∀ i k, i < L.length → k < L.length → P i → adB v (triAt L i) (triAt L k) = true → P k
def Cn : Prop := ∀ P : Nat → Prop, P 0 → ShutB L v P → ∀ k, k < L.length → P k
structure Mk (M : List Bool) : Prop where
  len : M.length = L.length
  zero : M[0]? = some true
  sound : ∀ P : Nat → Prop, P 0 → ShutB L v P → ∀ k, M[k]? = some true → P k
def Done (M : List Bool) : Prop := ShutB L v fun k => M[k]? = some true
def Mid (r i k : Nat) (M : List Bool) : Prop := r + 2 ≤ M.count true ∨ Done L v M ∨
  (r + 1 ≤ M.count true ∧ ∀ i' k', (i' < i ∨ i' = i ∧ k' < k) → i' < L.length → k' < L.length → M[i']? = some true → adB v (triAt L i') (triAt L k') = true → M[k']? = some true)
def Top (r : Nat) (M : List Bool) : Prop := r + 1 ≤ M.count true ∨ Done L v M
end
variable {L : List T3} {v : Int} {M : List Bool} {r i k : Nat}
theorem Mk.start (h : 0 < L.length) : Mk L v ((List.replicate L.length false).set 0 true) where
  len := by simp
  zero := by rw [List.getElem?_set_self (by simpa using h)]
  sound := fun P h0 _ k hk => by
    by_cases hk0 : k = 0
    · subst hk0; exact h0
    · rw [List.getElem?_set_ne (by omega), List.getElem?_replicate] at hk
      split at hk <;> cases hk
theorem Top.start (h : 0 < L.length) : Top L v 0 ((List.replicate L.length false).set 0 true) := by
  left
  have : true ∈ (List.replicate L.length false).set 0 true := List.mem_iff_getElem?.2 ⟨0, by rw [List.getElem?_set_self (by simpa using h)]⟩
  have := List.count_pos_iff.2 this
  omega
theorem Top.mid (h : Top L v r M) : Mid L v r 0 0 M := by
  rcases h with h | h
  · exact .inr (.inr ⟨h, fun i' k' h1 => by omega⟩)
  · exact .inr (.inl h)
theorem Mid.row (h : Mid L v r i L.length M) : Mid L v r (i + 1) 0 M := by
  rcases h with h | h | ⟨h1, h2⟩
  · exact .inl h
  · exact .inr (.inl h)
  · exact .inr (.inr ⟨h1, fun i' k' h3 h4 h5 => h2 i' k' (by omega) h4 h5⟩)
theorem Mid.top (h : Mid L v r L.length 0 M) : Top L v (r + 1) M := by
  rcases h with h | h | ⟨h1, h2⟩
  · exact .inl h
  · exact .inr h
  · exact .inr fun i' k' h4 h5 h6 h7 => h2 i' k' (by omega) h4 h5 h6 h7
theorem Mid.pass (h : Mid L v r i k M) (h9 : M[i]? = some true → adB v (triAt L i) (triAt L k) = true → M[k]? = some true) : Mid L v r i (k + 1) M := by
  rcases h with h | h | ⟨h1, h2⟩
  · exact .inl h
  · exact .inr (.inl h)
  · refine .inr (.inr ⟨h1, fun i' k' h3 h4 h5 h6 h7 => ?_⟩)
    by_cases hik : i' = i ∧ k' = k
    · obtain ⟨rfl, rfl⟩ := hik; exact h9 h6 h7
    · exact h2 i' k' (by omega) h4 h5 h6 h7
theorem count_mark (hk : M[k]? = some false) : (M.set k true).count true = M.count true + 1 := by
  obtain ⟨h1, h2⟩ := List.getElem?_eq_some_iff.1 hk
  rw [List.count_set h1, h2]
  simp
theorem Mid.mark (hm : Mk L v M) (h : Mid L v r i k M) (hi : i < L.length) (hkl : k < L.length) (h1 : M[i]? = some true) (hk : M[k]? = some false) (ha : adB v (triAt L i) (triAt L k) = true) :
    Mk L v (M.set k true) ∧ Mid L v r i (k + 1) (M.set k true) := by
  have hlt := (List.getElem?_eq_some_iff.1 hk).1
  refine ⟨⟨by rw [List.length_set]; exact hm.len, ?_, fun P h0 hs j hj => ?_⟩, ?_⟩
  · by_cases hk0 : k = 0
    · subst hk0; rw [List.getElem?_set_self hlt]
    · rw [List.getElem?_set_ne hk0]; exact hm.zero
  · by_cases hjk : k = j
    · subst hjk
      exact hs i k hi hkl (hm.sound P h0 hs i h1) ha
    · rw [List.getElem?_set_ne hjk] at hj
      exact hm.sound P h0 hs j hj
  · rcases h with h | h | ⟨h2, h3⟩
    · left; rw [count_mark hk]; omega
    · have : M[k]? = some true := h i k hi hkl h1 ha
      rw [hk] at this
      cases this
    · left; rw [count_mark hk]; omega
theorem Top.done (hm : Mk L v M) (h : Top L v L.length M) : (∀ k, k < L.length → M[k]? = some true) ↔ Cn L v := by
  have hd : Done L v M := by
    rcases h with h | h
    · have := List.count_le_length (a := true) (l := M)
      have := hm.len
      omega
    · exact h
  exact ⟨fun h9 P h0 hs k hk => hm.sound P h0 hs k (h9 k hk), fun h9 => h9 _ hm.zero hd⟩

theorem at_filter (T : List T3) (v : Int) : T.filter (haB · v) = (trisAt T v).map (triAt T) := by
  conv => lhs; rw [list_range T]
  rw [List.filter_map]
  unfold trisAt
  congr 1
  apply List.filter_congr
  intro i _
  show haB (triAt T i) v = hasB T v i
  unfold hasB
  rw [Bool.eq_iff_iff, haB_iff, decide_eq_true_eq]
theorem cn_pinch {T : List T3} {v : Int} (hne : ∃ t ∈ T, HasV t v) : Cn (T.filter (haB · v)) v ↔ PinchOk T v := by
  obtain ⟨t0, ht0⟩ := trisAt_ne hne
  have hnd : (trisAt T v).Nodup := List.nodup_range.sublist List.filter_sublist
  have hz : (trisAt T v)[0]? = some t0 := by rw [← List.head?_eq_getElem?]; exact ht0
  rw [at_filter]
  have hlen : ((trisAt T v).map (triAt T)).length = (trisAt T v).length := List.length_map _
  have hat : ∀ i t, (trisAt T v)[i]? = some t → triAt ((trisAt T v).map (triAt T)) i = triAt T t := fun i t h => by
    conv => lhs; unfold triAt
    rw [List.getD_eq_getElem?_getD, List.getElem?_map, h]
    rfl
  have hadj : ∀ i k, AdjT T v i k ↔ adB v (triAt T i) (triAt T k) = true := fun i k => by rw [adB_iff]; rfl
  constructor
  · intro h
    refine ⟨t0, ht0, fun P h0 hs k hk => ?_⟩
    obtain ⟨j, hj⟩ := List.mem_iff_getElem?.1 hk
    have hjl := (List.getElem?_eq_some_iff.1 hj).1
    have := h (fun i => ∀ t, (trisAt T v)[i]? = some t → P t) (fun t ht => by rw [hz] at ht; cases ht; exact h0) (fun i k hi hk hp ha t ht => by
      rw [hlen] at hi
      obtain ⟨s, hs9⟩ : ∃ s, (trisAt T v)[i]? = some s := ⟨_, List.getElem?_eq_getElem hi⟩
      rw [hat i s hs9, hat k t ht] at ha
      exact hs s t (List.mem_of_getElem? hs9) (List.mem_of_getElem? ht) (hp s hs9) ((hadj s t).2 ha)) j (by rw [hlen]; exact hjl)
    exact this k hj
  · rintro ⟨t1, ht1, hc⟩ P h0 hs k hk
    rw [ht0] at ht1
    cases ht1
    rw [hlen] at hk
    have key : ∀ t ∈ trisAt T v, ∀ i, (trisAt T v)[i]? = some t → P i := hc (fun t => ∀ i, (trisAt T v)[i]? = some t → P i) (fun i hi => by
      obtain ⟨h1, h2⟩ := List.getElem?_eq_some_iff.1 hi
      obtain ⟨h3, h4⟩ := List.getElem?_eq_some_iff.1 hz
      rw [(List.getElem_inj hnd).1 (h2.trans h4.symm)]
      exact h0) (fun s t hs9 ht hp ha i hi => by
      obtain ⟨j, hj⟩ := List.mem_iff_getElem?.1 hs9
      have hjl := (List.getElem?_eq_some_iff.1 hj).1
      have hil := (List.getElem?_eq_some_iff.1 hi).1
      refine hs j i (by rw [hlen]; exact hjl) (by rw [hlen]; exact hil) (hp j hj) ?_
      rw [hat j s hj, hat i t hi]
      exact (hadj s t).1 ha)
    exact key _ (List.getElem_mem hk) k (List.getElem?_eq_getElem hk)
end Go.Mesh

namespace Go.Mesh
theorem bvals_cell {M : List Bool} {i : Nat} {b : Bool} (h : M[i]? = some b) : (bvals M)[i]? = some (.bool b) := by unfold bvals; rw [List.getElem?_map, h]; rfl
end Go.Mesh
namespace Go.Proofs.YtpbdcppaiafbgaaGreat
open Go Go.RowKit Go.Words Go.Mesh

def SaysYes (e : Ending) (good : Prop) : Prop := ∃ b, e = .returned (.bool b) ∧ (b = true ↔ good)
end Go.Proofs.YtpbdcppaiafbgaaGreat

namespace Go.Mesh
theorem edB_iff {u : T3} {x y : Int} : edB u x y = true ↔ ∃ j, j < 3 ∧ vx u j = x ∧ vx u ((j + 1) % 3) = y := by
  unfold edB
  simp only [Bool.or_eq_true, Bool.and_eq_true, beq_iff_eq]
  constructor
  · rintro ((⟨h1, h2⟩ | ⟨h1, h2⟩) | ⟨h1, h2⟩)
    · exact ⟨0, by omega, h1, h2⟩
    · exact ⟨1, by omega, h1, h2⟩
    · exact ⟨2, by omega, h1, h2⟩
  · rintro ⟨j, hj, h1, h2⟩
    match j, hj with
    | 0, _ => exact .inl (.inl ⟨h1, h2⟩)
    | 1, _ => exact .inl (.inr ⟨h1, h2⟩)
    | 2, _ => exact .inr ⟨h1, h2⟩
theorem twB_iff {t u : T3} : twB t u = true ↔ ∃ k j, k < 3 ∧ j < 3 ∧ vx u j = vx t k ∧ vx u ((j + 1) % 3) = vx t ((k + 1) % 3) := by
  unfold twB
  simp only [Bool.or_eq_true, edB_iff]
  constructor
  · rintro ((⟨j, h1, h2⟩ | ⟨j, h1, h2⟩) | ⟨j, h1, h2⟩)
    · exact ⟨0, j, by omega, h1, h2⟩
    · exact ⟨1, j, by omega, h1, h2⟩
    · exact ⟨2, j, by omega, h1, h2⟩
  · rintro ⟨k, j, hk, hj, h⟩
    match k, hk with
    | 0, _ => exact .inl (.inl ⟨j, hj, h⟩)
    | 1, _ => exact .inl (.inr ⟨j, hj, h⟩)
    | 2, _ => exact .inr ⟨j, hj, h⟩
theorem vsB_iff {t u : T3} : vsB t u = true ↔ ∀ k, k < 3 → ∃ m, m < 3 ∧ vx t k = vx u m := by
  unfold vsB
  simp only [Bool.and_eq_true, haB_iff, vx_has]
  constructor
  · rintro ⟨⟨⟨a, h1, h2⟩, ⟨b, h3, h4⟩⟩, ⟨c, h5, h6⟩⟩ k hk
    match k, hk with
    | 0, _ => exact ⟨a, h1, h2.symm⟩
    | 1, _ => exact ⟨b, h3, h4.symm⟩
    | 2, _ => exact ⟨c, h5, h6.symm⟩
  · intro h
    obtain ⟨a, h1, h2⟩ := h 0 (by omega)
    obtain ⟨b, h3, h4⟩ := h 1 (by omega)
    obtain ⟨c, h5, h6⟩ := h 2 (by omega)
    exact ⟨⟨⟨a, h1, h2.symm⟩, ⟨b, h3, h4.symm⟩⟩, ⟨c, h5, h6.symm⟩⟩
def G2 (T : List T3) : Prop := ∀ i, i < T.length → Three (triAt T i)
def G5 (N : Int) (T : List T3) : Prop := ∀ u : Nat, (u : Int) < N → ∃ i, i < T.length ∧ haB (triAt T i) u = true
def G6 (N : Int) (T : List T3) : Prop := ∀ u : Nat, (u : Int) < N → T.filter (haB · (u : Int)) = [] ∨ Cn (T.filter (haB · (u : Int))) u
theorem g2_all {T : List T3} : G2 T ↔ ∀ t ∈ T, Three t := by
  constructor
  · intro h t ht
    obtain ⟨i, hi, rfl⟩ := mem_triAt ht
    exact h i hi
  · exact fun h i hi => h _ (triAt_mem hi)
theorem edge_start (T : List T3) (c : Nat) : eg T (pv c) = (vt T c, vt T (nx c)) := by unfold eg; rw [nx_pv, pv_pv]
theorem g3_iff {T : List T3} (h2 : G2 T) : NoPair twB T T.length ↔ ∀ c d, c < 3 * T.length → d < 3 * T.length → eg T c = eg T d → c = d := by
  have h3 := g2_all.1 h2
  constructor
  · intro h
    have key : ∀ c d, c < 3 * T.length → d < 3 * T.length → c / 3 < d / 3 → eg T c = eg T d → False := fun c d hc hd hcd he => by
      have := h (d / 3) (c / 3) (by omega) hcd
      have ht : twB (triAt T (c / 3)) (triAt T (d / 3)) = true := twB_iff.2 ⟨(c + 1) % 3, (d + 1) % 3, by omega, by omega, by
        have := congrArg Prod.fst he
        simp only [eg] at this
        rw [vt_nx, vt_nx] at this
        exact this.symm, by
        have := congrArg Prod.snd he
        simp only [eg] at this
        rw [vt_pv, vt_pv] at this
        rw [show ((d + 1) % 3 + 1) % 3 = (d + 2) % 3 by omega, show ((c + 1) % 3 + 1) % 3 = (c + 2) % 3 by omega]
        exact this.symm⟩
      rw [this] at ht
      cases ht
    intro c d hc hd he
    by_cases h1 : c / 3 < d / 3
    · exact (key c d hc hd h1 he).elim
    · by_cases h4 : d / 3 < c / 3
      · exact (key d c hd hc h4 he.symm).elim
      · have hv : vt T (nx c) = vt T (nx d) := congrArg Prod.fst he
        exact nx_inj (corner_one h3 (nx_lt hc) (by rw [nx_div, nx_div]; omega) hv)
  · intro h b a hb hab
    cases hq : twB (triAt T a) (triAt T b) with
    | false => rfl
    | true =>
      obtain ⟨k, j, hk, hj, e1, e2⟩ := twB_iff.1 hq
      have := h (pv (3 * a + k)) (pv (3 * b + j)) (pv_lt (by omega)) (pv_lt (by omega)) (by
        rw [edge_start, edge_start, corner_at T a k hk, corner_at T b j hj, vt_nx, vt_nx, show (3 * a + k) / 3 = a by omega, show (3 * b + j) / 3 = b by omega, show (3 * a + k + 1) % 3 = (k + 1) % 3 by omega, show (3 * b + j + 1) % 3 = (j + 1) % 3 by omega, e1, e2])
      have := pv_inj this
      omega
theorem g4_iff {T : List T3} : NoPair vsB T T.length ↔ ∀ i j, i < j → j < T.length → ¬ ∀ k, k < 3 → ∃ m, m < 3 ∧ vt T (3 * i + k) = vt T (3 * j + m) := by
  have e : ∀ i j, vsB (triAt T i) (triAt T j) = true ↔ ∀ k, k < 3 → ∃ m, m < 3 ∧ vt T (3 * i + k) = vt T (3 * j + m) := fun i j => by
    rw [vsB_iff]
    constructor
    · intro h k hk
      obtain ⟨m, hm, h1⟩ := h k hk
      exact ⟨m, hm, by rw [corner_at T i k hk, corner_at T j m hm]; exact h1⟩
    · intro h k hk
      obtain ⟨m, hm, h1⟩ := h k hk
      rw [corner_at T i k hk, corner_at T j m hm] at h1
      exact ⟨m, hm, h1⟩
  constructor
  · intro h i j hij hj h9
    have := h j i hj hij
    rw [(e i j).2 h9] at this
    cases this
  · intro h b a hb hab
    cases hq : vsB (triAt T a) (triAt T b) with
    | false => rfl
    | true => exact absurd ((e a b).1 hq) (h a b hab hb)
theorem has_mem {T : List T3} {v : Int} : (∃ i, i < T.length ∧ haB (triAt T i) v = true) ↔ ∃ t ∈ T, HasV t v := by
  constructor
  · rintro ⟨i, hi, h⟩
    exact ⟨_, triAt_mem hi, haB_iff.1 h⟩
  · rintro ⟨t, ht, h⟩
    obtain ⟨i, hi, rfl⟩ := mem_triAt ht
    exact ⟨i, hi, haB_iff.2 h⟩
theorem surf_iff {N : Int} {T : List T3} (hlen : T.length ≤ 8192) : Surf N T ↔ Idx N T ∧ G2 T ∧ NoPair twB T T.length ∧ NoPair vsB T T.length ∧ G5 N T ∧ G6 N T := by
  constructor
  · intro h
    have h2 : G2 T := g2_all.2 ((three_all T).2 h.loop)
    have h5 : G5 N T := fun u hu => by
      obtain ⟨c, hc, hv⟩ := h.used u (by omega) hu
      exact ⟨c / 3, by omega, haB_iff.2 ((hasV_at T c u).2 (.inl hv.symm))⟩
    refine ⟨⟨h.n0, h.nmax, h.rng⟩, h2, (g3_iff h2).2 h.once, g4_iff.2 h.mirror, h5, fun u hu => ?_⟩
    have hm := has_mem.1 (h5 u hu)
    exact .inr ((cn_pinch hm).2 (pinch_of (g2_all.1 h2) hm (h.fan u (by omega) hu)))
  · rintro ⟨⟨a1, a2, a3⟩, h2, h3, h4, h5, h6⟩
    exact {
      n0 := a1, nmax := a2, tmax := hlen, rng := a3
      loop := (three_all T).1 (g2_all.1 h2)
      once := (g3_iff h2).1 h3
      mirror := g4_iff.1 h4
      used := fun v h0 hv => by
        obtain ⟨t, ht, hu⟩ := has_mem.1 (h5 v.toNat (by omega))
        rw [Int.toNat_of_nonneg h0] at hu
        obtain ⟨i, hi, rfl⟩ := mem_triAt ht
        obtain ⟨c, hc, _, hvc⟩ := hasV_corner hi hu
        exact ⟨c, hc, hvc⟩
      fan := fun v h0 hv => by
        have hm := has_mem.1 (h5 v.toNat (by omega))
        have h9 := h6 v.toNat (by omega)
        rw [Int.toNat_of_nonneg h0] at hm h9
        rcases h9 with h9 | h9
        · obtain ⟨t, ht, hu⟩ := hm
          have : t ∈ T.filter (haB · v) := List.mem_filter.2 ⟨ht, haB_iff.2 hu⟩
          rw [h9] at this
          cases this
        · exact fan_of (g2_all.1 h2) ((cn_pinch hm).1 h9) }
end Go.Mesh

namespace Go.Proofs.YtpbdcppaiafbgaaGreat
open Go Go.RowKit Go.Words Go.Mesh

end Go.Proofs.YtpbdcppaiafbgaaGreat

namespace Go.Mesh
def bord (T : List T3) : List Nat := (List.range (3 * T.length)).filter fun c => (opp T c).isNone
section
variable {N : Int} {T : List T3}
end
end Go.Mesh

namespace Go.Mesh
end Go.Mesh
namespace Go.Proofs.YtpbdcppaiafbgaaGreat
open Go Go.RowKit Go.Words Go.Mesh

end Go.Proofs.YtpbdcppaiafbgaaGreat

namespace Go.Mesh
end Go.Mesh
namespace Go.Proofs.YtpbdcppaiafbgaaGreat
open Go Go.RowKit Go.Words Go.Mesh

end Go.Proofs.YtpbdcppaiafbgaaGreat

namespace Go.Words
open Go Go.RowKit Go.Maps Go.MapKept Go.ChangeMaps
section
variable {F : Fence} {nF : Nat} {P : Program} (w : World) {ops : Array Oper} {rest : List Oper} {o : Oper} {a : Act} {Q : Exit → Act → World → Prop}
variable {κ α : Type} [DecidableEq κ] {enc : κ → Value} {ok : κ → Prop} {ev : α → Value}

end
end Go.Words

namespace Go.Mesh
section
variable {N : Int} {T : List T3}
end
end Go.Mesh
namespace Go.Proofs.YtpbdcppaiafbgaaGreat
open Go Go.RowKit Go.Words Go.Mesh
attribute [local go_sem] Oper.semAt_some

end Go.Proofs.YtpbdcppaiafbgaaGreat

namespace Go.Proofs.YtpbdcppaiafbgaaGreat
open Go Go.RowKit Go.Words Go.Mesh
attribute [local go_sem] Oper.semAt_some

end Go.Proofs.YtpbdcppaiafbgaaGreat

namespace Go.Proofs.YtpbdcppaiafbgaaGreat
open Go Go.RowKit Go.Words Go.Mesh
attribute [local go_sem] Oper.semAt_some

end Go.Proofs.YtpbdcppaiafbgaaGreat

namespace Go.Words
open Go Go.RowKit
variable {F : Fence} {n : Nat} {P : Program}

def mark (D : Nat) : Deferred := { target := .collected D, args := #[] }
theorem mark_inj : ∀ (A B : List Nat), A.map mark = B.map mark → A = B
  | [], [], _ => rfl
  | [], b :: B, h => by simp at h
  | a :: A, [], h => by simp at h
  | a :: A, b :: B, h => by
    simp only [List.map_cons, List.cons.injEq] at h
    obtain ⟨h8, h9⟩ := h
    have : a = b := by
      unfold mark at h8
      injection h8 with h8
      injection h8
    rw [this, mark_inj A B h9]
def Marks (w : World) (base : Nat) (ds : List Deferred) : Prop := ∃ Ds : List Nat, ds = Ds.map mark ∧ Ds.Nodup ∧ ∀ D ∈ Ds, base ≤ D ∧ w.heap[D]? = some (.deferred (some []))
theorem Marks.nil (w : World) (base : Nat) : Marks w base [] := ⟨[], rfl, List.nodup_nil, fun _ h => by cases h⟩
theorem Marks.keep {w w' : World} {base : Nat} {ds : List Deferred} (h : Marks w base ds) (hk : ∀ k, base ≤ k → w.heap[k]? = some (.deferred (some [])) → w'.heap[k]? = some (.deferred (some []))) : Marks w' base ds := by
  obtain ⟨Ds, h1, h2, h3⟩ := h
  exact ⟨Ds, h1, h2, fun D hD => ⟨(h3 D hD).1, hk D (h3 D hD).1 (h3 D hD).2⟩⟩
theorem Marks.below {w w' : World} {base : Nat} {ds : List Deferred} (h : Marks w base ds) (hb : Below w.heap.size w w') : Marks w' base ds :=
  h.keep fun k _ hk => (hb.block k (Array.getElem?_eq_some_iff.1 hk).1).trans hk
theorem Marks.grown {w w' : World} {base : Nat} {ds : List Deferred} {row : Option Nat} (h : Marks w base ds) (hg : w.grownBy w' row) (hr : ∀ r, row = some r → w.heap[r]? ≠ some (.deferred (some []))) : Marks w' base ds :=
  h.keep fun k _ hk => (hg.block k (Array.getElem?_eq_some_iff.1 hk).1 fun e => hr k e.symm hk).trans hk
theorem Marks.cons {w : World} {base D : Nat} {ds : List Deferred} (h : Marks w base ds) (hD : base ≤ D) (hK : w.heap[D]? = some (.deferred (some []))) (hnew : ∀ Ds : List Nat, ds = Ds.map mark → D ∉ Ds) : Marks w base (mark D :: ds) := by
  obtain ⟨Ds, rfl, h2, h3⟩ := h
  refine ⟨D :: Ds, rfl, List.nodup_cons.2 ⟨hnew Ds rfl, h2⟩, fun E hE => ?_⟩
  rcases List.mem_cons.1 hE with rfl | hE
  · exact ⟨hD, hK⟩
  · exact h3 E hE
theorem Marks.fresh {w : World} {base D : Nat} {ds : List Deferred} (h : Marks w base ds) (hD : w.heap.size ≤ D) : ∀ Ds : List Nat, ds = Ds.map mark → D ∉ Ds := by
  intro Ds e hm
  obtain ⟨Es, h1, _, h3⟩ := h
  obtain rfl : Es = Ds := mark_inj Es Ds (h1.symm.trans e)
  have := (Array.getElem?_eq_some_iff.1 (h3 D hm).2).1
  omega
end Go.Words
namespace Go.Mesh
end Go.Mesh

namespace Go.Proofs.YtpbdcppaiafbgaaGreat
open Go Go.RowKit Go.Words Go.Mesh
attribute [local go_sem] Oper.semAt_some

end Go.Proofs.YtpbdcppaiafbgaaGreat

namespace Go.Proofs.YtpbdcppaiafbgaaGreat
open Go Go.RowKit Go.Words Go.Mesh

end Go.Proofs.YtpbdcppaiafbgaaGreat

namespace Go.Mesh
end Go.Mesh
namespace Go.Proofs.YtpbdcppaiafbgaaGreat
open Go Go.RowKit Go.Words Go.Mesh

end Go.Proofs.YtpbdcppaiafbgaaGreat
