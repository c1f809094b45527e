/- The corners around a vertex of a surface: plain. -/
import Derived.Test.YtckkpmjkajkkmaaTF
namespace Go.Mesh

theorem IsRun.runF_eq {f : Nat → Option Nat} {b n : Nat} {l : List Nat} (h : IsRun f b n l) : ∀ (k j : Nat) (hj : j < l.length), l.length ≤ k + 1 + j → runF f b k l[j] = l.drop j
  | 0, j, hj, hk => by
    rw [List.drop_eq_getElem_cons hj, List.drop_eq_nil_of_le (by omega)]
    rfl
  | k + 1, j, hj, hk => by
    rw [List.drop_eq_getElem_cons hj]
    unfold runF
    congr 1
    rcases Nat.lt_or_ge (j + 1) l.length with h1 | h1
    · rw [h.steps j h1]
      have hne : l[j + 1] ≠ b := by
        intro e
        have := (List.getElem_inj h.nodup (i := j + 1) (j := 0) (h₀ := h1) (h₁ := h.ne)).1 (by rw [e, h.head])
        omega
      simp only [if_neg hne]
      exact h.runF_eq k (j + 1) h1 (by omega)
    · rw [List.drop_eq_nil_of_le h1]
      have e : l[j] = l[l.length - 1]'(by omega) := by congr 1; omega
      rw [e]
      rcases h.last with h2 | h2 <;> rw [h2]
      simp
/-- A run that is followed farther than it goes. -/
theorem IsRun.runF_any {f : Nat → Option Nat} {b n : Nat} {l : List Nat} (h : IsRun f b n l) {k : Nat} (hk : l.length ≤ k + 1) : runF f b k b = l := by
  have := h.runF_eq k 0 h.ne (by omega)
  rw [h.head, List.drop_zero] at this
  exact this

section
variable {N : Int} {T : List T3}
theorem Surf.closed_all (h : Surf N T) {v : Int} (h0 : 0 ≤ v) (h1 : v < N) (P : Nat → Prop) {b : Nat} (hb : b < 3 * T.length) (hbv : vt T b = v) (hP : P b)
    (ha : ∀ c d, c < 3 * T.length → vt T c = v → P c → aft T c = some d → P d) (hbf : ∀ c d, c < 3 * T.length → vt T c = v → P c → bef T c = some d → P d) :
    ∀ c, c < 3 * T.length → vt T c = v → P c :=
  h.fan v h0 h1 P ⟨b, hb, hbv, hP⟩ fun c d hc hcv hd hdv hPc hs => by
    rcases h.share_iff hc hd (hcv.trans hdv.symm) hs with rfl | e | e
    · exact hPc
    · exact ha c d hc hcv hPc e
    · exact hbf c d hc hcv hPc e
/-- What a step keeps all of a run has. -/
theorem IsRun.all {f : Nat → Option Nat} {b n : Nat} {l : List Nat} (h : IsRun f b n l) (P : Nat → Prop) (hb : P b) (hs : ∀ c d, c < n → P c → f c = some d → P d) : ∀ c ∈ l, P c := by
  have : ∀ i (hi : i < l.length), P l[i] := by
    intro i
    induction i with
    | zero => intro hi; rw [h.head]; exact hb
    | succ i ih => intro hi; exact hs _ _ (h.lt _ (List.getElem_mem _)) (ih (by omega)) (h.steps i hi)
  intro c hc
  obtain ⟨i, hi, rfl⟩ := List.getElem_of_mem hc
  exact this i hi
theorem IsRun.next_mem {f : Nat → Option Nat} {b n : Nat} {l : List Nat} (h : IsRun f b n l) {c d : Nat} (hc : c ∈ l) (hf : f c = some d) : d ∈ l := by
  obtain ⟨i, hi, rfl⟩ := List.getElem_of_mem hc
  rcases Nat.lt_or_ge (i + 1) l.length with h1 | h1
  · have := h.steps i h1
    rw [hf] at this
    rw [Option.some.inj this]
    exact List.getElem_mem _
  · have e : l[i] = l[l.length - 1]'(by omega) := by congr 1; omega
    rw [e] at hf
    rcases h.last with h2 | h2
    · rw [h2] at hf; cases hf
    · rw [h2] at hf
      rw [← Option.some.inj hf, ← h.head]
      exact List.getElem_mem _
theorem Surf.aft_vt (h : Surf N T) {c d : Nat} (ha : aft T c = some d) : vt T d = vt T c := (h.aft_iff.1 ha).2.1
theorem Surf.bef_vt (h : Surf N T) {c d : Nat} (ha : bef T c = some d) : vt T d = vt T c := (h.bef_iff.1 ha).2.1

/-- What stands around a vertex: the list, and whether the vertex is inner. -/
structure Ring (T : List T3) (v : Int) (l : List Nat) (inner : Bool) : Prop where
  run : ∃ b, IsRun (aft T) b (3 * T.length) l
  mem : ∀ c, c ∈ l ↔ c < 3 * T.length ∧ vt T c = v
  head : ∀ h : 0 < l.length, (bef T l[0] = none ↔ inner = false)
  last : ∀ h : 0 < l.length, (aft T (l[l.length - 1]'(by omega)) = none ↔ inner = false)
  turn : ∀ h : 0 < l.length, inner = true → aft T (l[l.length - 1]'(by omega)) = some l[0]

theorem Surf.ring (h : Surf N T) {v : Int} (h0 : 0 ≤ v) (h1 : v < N) {b : Nat} (hb : cornerOf T v = some b) :
    IsRun (aft T) (begins T b).1 (3 * T.length) (runF (aft T) (begins T b).1 (3 * T.length) (begins T b).1) ∧ Ring T v (runF (aft T) (begins T b).1 (3 * T.length) (begins T b).1) (!(begins T b).2) ∧
    ((begins T b).2 = false → (begins T b).1 = b) := by
  obtain ⟨_, hb2, hb3, hb4⟩ := (leastFrom_some _ _ _ _).1 hb
  have hblt : b < 3 * T.length := by omega
  have hbv : vt T b = v := by simpa using hb3
  have hrun := h.back hblt
  have hallb := hrun.all (fun c => vt T c = v) hbv fun c d _ hc hd => (h.bef_vt hd).trans hc
  unfold begins
  generalize runF (bef T) b (3 * T.length) b = lb at *
  have hx : lb.getLastD b = lb[lb.length - 1]'(by have := hrun.ne; omega) := by
    rw [List.getLastD_eq_getLast?, List.getLast?_eq_getElem?, List.getElem?_eq_getElem (by have := hrun.ne; omega)]
    rfl
  have hxm : lb.getLastD b ∈ lb := by rw [hx]; exact List.getElem_mem _
  simp only []
  split
  · rename_i hnone
    generalize lb.getLastD b = x at *
    have hxlt := hrun.lt x hxm
    have hxv := hallb x hxm
    have hf := h.forth hxlt
    generalize runF (aft T) x (3 * T.length) x = l at *
    have hallf := hf.all (fun c => vt T c = v) hxv fun c d _ hc hd => (h.aft_vt hd).trans hc
    have hxl : x ∈ l := by rw [← hf.head]; exact List.getElem_mem _
    have hmem := h.closed_all h0 h1 (fun c => c ∈ l) hxlt hxv hxl (fun c d _ _ hc hd => hf.next_mem hc hd) (fun c d hc1 hc2 hc hd => by
      obtain ⟨i, hi, rfl⟩ := List.getElem_of_mem hc
      cases i with
      | zero => rw [hf.head, hnone] at hd; cases hd
      | succ i =>
        have h9 := h.aft_bef (hf.lt _ (List.getElem_mem (by omega))) (hf.steps i hi)
        rw [h9] at hd
        rw [← Option.some.inj hd]
        exact List.getElem_mem _)
    have hlast : aft T (l[l.length - 1]'(by have := hf.ne; omega)) = none := by
      rcases hf.last with h9 | h9
      · exact h9
      · have := h.aft_bef (hf.lt _ (List.getElem_mem (by have := hf.ne; omega))) h9
        rw [hnone] at this; cases this
    refine ⟨hf, ⟨⟨x, hf⟩, fun c => ⟨fun hc => ⟨hf.lt c hc, hallf c hc⟩, fun hc => hmem c hc.1 hc.2⟩, fun h9 => ?_, fun h9 => ?_, fun h9 h8 => by cases h8⟩, fun h9 => by cases h9⟩
    · rw [hf.head]; simp [hnone]
    · simp [hlast]
  · rename_i hsome
    have hlb : bef T (lb[lb.length - 1]'(by have := hrun.ne; omega)) = some b := by
      rcases hrun.last with h9 | h9
      · rw [hx] at hsome; exact absurd h9 hsome
      · exact h9
    have hab : ∀ c ∈ lb, ∃ d, aft T c = some d := by
      intro c hc
      obtain ⟨i, hi, rfl⟩ := List.getElem_of_mem hc
      cases i with
      | zero => exact ⟨_, by rw [hrun.head]; exact h.bef_aft (hrun.lt _ (List.getElem_mem _)) hlb⟩
      | succ i => exact ⟨_, h.bef_aft (hrun.lt _ (List.getElem_mem (by omega))) (hrun.steps i hi)⟩
    have hbm : b ∈ lb := by
      have : lb[0]'hrun.ne ∈ lb := List.getElem_mem _
      rw [hrun.head] at this
      exact this
    have hmemb := h.closed_all h0 h1 (fun c => c ∈ lb) hblt hbv hbm (fun c d hc1 hc2 hc hd => by
      obtain ⟨i, hi, rfl⟩ := List.getElem_of_mem hc
      cases i with
      | zero =>
        have h9 := h.bef_aft (hrun.lt _ (List.getElem_mem (by have := hrun.ne; omega))) hlb
        rw [hrun.head, h9] at hd
        rw [← Option.some.inj hd]
        exact List.getElem_mem _
      | succ i =>
        have h9 := h.bef_aft (hrun.lt _ (List.getElem_mem (by omega))) (hrun.steps i hi)
        rw [h9] at hd
        rw [← Option.some.inj hd]
        exact List.getElem_mem _) (fun c d _ _ hc hd => hrun.next_mem hc hd)
    have hf := h.forth hblt
    generalize runF (aft T) b (3 * T.length) b = l at *
    have hallf := hf.all (fun c => vt T c = v) hbv fun c d _ hc hd => (h.aft_vt hd).trans hc
    have hlm : l[l.length - 1]'(by have := hf.ne; omega) ∈ l := List.getElem_mem _
    have hlast : aft T (l[l.length - 1]'(by have := hf.ne; omega)) = some b := by
      rcases hf.last with h9 | h9
      · obtain ⟨d, hd⟩ := hab _ (hmemb _ (hf.lt _ hlm) (hallf _ hlm))
        rw [hd] at h9; cases h9
      · exact h9
    have hbb : bef T b = some (l[l.length - 1]'(by have := hf.ne; omega)) := h.aft_bef (hf.lt _ hlm) hlast
    have hmem := h.closed_all h0 h1 (fun c => c ∈ l) hblt hbv (by have : l[0]'hf.ne ∈ l := List.getElem_mem _; rw [hf.head] at this; exact this) (fun c d _ _ hc hd => hf.next_mem hc hd) (fun c d hc1 hc2 hc hd => by
      obtain ⟨i, hi, rfl⟩ := List.getElem_of_mem hc
      cases i with
      | zero => rw [hf.head, hbb] at hd; rw [← Option.some.inj hd]; exact hlm
      | succ i =>
        have h9 := h.aft_bef (hf.lt _ (List.getElem_mem (by omega))) (hf.steps i hi)
        rw [h9] at hd
        rw [← Option.some.inj hd]
        exact List.getElem_mem _)
    refine ⟨hf, ⟨⟨b, hf⟩, fun c => ⟨fun hc => ⟨hf.lt c hc, hallf c hc⟩, fun hc => hmem c hc.1 hc.2⟩, fun h9 => ?_, fun h9 => ?_, fun h9 _ => by rw [hlast, hf.head]⟩, fun _ => rfl⟩
    · rw [hf.head]; simp [hbb]
    · simp [hlast]
theorem Surf.corner_some (h : Surf N T) {v : Int} (h0 : 0 ≤ v) (h1 : v < N) : ∃ b, cornerOf T v = some b := by
  obtain ⟨c, hc, hcv⟩ := h.used v h0 h1
  obtain ⟨d, hd⟩ := leastFrom_isSome (p := fun d => vt T d == v) (n := 3 * T.length) (k := 0) (c := c) (by omega) (by omega) (by simp [hcv])
  exact ⟨d, hd⟩

/-- The corners around a vertex. -/
def ringAt (T : List T3) (N : Int) (v : Int) : List Nat := if 0 ≤ v ∧ v < N then (match cornerOf T v with | some b => runF (aft T) (begins T b).1 (3 * T.length) (begins T b).1 | none => []) else []
def innerAt (T : List T3) (N : Int) (v : Int) : Bool := if 0 ≤ v ∧ v < N then (match cornerOf T v with | some b => !(begins T b).2 | none => false) else false
theorem Surf.no_corner (h : Surf N T) {v : Int} (hv : ¬ (0 ≤ v ∧ v < N)) {c : Nat} (hc : c < 3 * T.length) : vt T c ≠ v := fun e => hv (e ▸ h.rng c hc)
theorem Surf.ring_or (h : Surf N T) (v : Int) : (ringAt T N v = [] ∧ ¬ (0 ≤ v ∧ v < N) ∧ innerAt T N v = false) ∨ (0 < (ringAt T N v).length ∧ (0 ≤ v ∧ v < N) ∧ Ring T v (ringAt T N v) (innerAt T N v)) := by
  unfold ringAt innerAt
  split
  · rename_i hv
    obtain ⟨b, hb⟩ := h.corner_some hv.1 hv.2
    rw [hb]
    obtain ⟨h1, h2, _⟩ := h.ring hv.1 hv.2 hb
    exact .inr ⟨h1.ne, hv, h2⟩
  · rename_i hv
    exact .inl ⟨rfl, hv, rfl⟩
theorem Surf.ring_mem (h : Surf N T) (v : Int) (c : Nat) : c ∈ ringAt T N v ↔ c < 3 * T.length ∧ vt T c = v := by
  rcases h.ring_or v with ⟨h1, h2, _⟩ | ⟨_, _, h3⟩
  · rw [h1]
    simp only [List.not_mem_nil, false_iff]
    rintro ⟨hc, e⟩
    exact h.no_corner h2 hc e
  · exact h3.mem c
theorem Surf.ring_nodup (h : Surf N T) (v : Int) : (ringAt T N v).Nodup := by
  rcases h.ring_or v with ⟨h1, h2, _⟩ | ⟨_, _, h3⟩
  · rw [h1]; exact List.nodup_nil
  · obtain ⟨b, hb⟩ := h3.run; exact hb.nodup
end
end Go.Mesh
