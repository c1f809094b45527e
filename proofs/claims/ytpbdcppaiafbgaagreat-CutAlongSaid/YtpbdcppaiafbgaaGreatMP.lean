/- Around a vertex: plain. The corners around a vertex of a surface: plain. The document's answer around a vertex: plain. Links and neighbours: plain laws. -/
import Derived.Test.YtpbdcppaiafbgaaGreatMesh
namespace Go.Mesh
theorem vt_out {T : List T3} {c : Nat} (h : 3 * T.length ≤ c) : vt T c = 0 := by
  unfold vt
  rw [List.getD_eq_getElem?_getD, List.getElem?_eq_none (by omega)]
  show vx (0, 0, 0) (c % 3) = 0
  have : c % 3 = 0 ∨ c % 3 = 1 ∨ c % 3 = 2 := by omega
  rcases this with e | e | e <;> rw [e] <;> rfl
theorem Surf.opp_lt {N : Int} {T : List T3} (h : Surf N T) {c d : Nat} (ho : opp T c = some d) : c < 3 * T.length := by
  rcases Nat.lt_or_ge c (3 * T.length) with hc | hc
  · exact hc
  · exfalso
    obtain ⟨h1, h2, h3⟩ := h.opp_iff.1 ho
    rw [vt_out (c := pv c) (by unfold pv; omega)] at h2
    rw [vt_out (c := nx c) (by unfold nx; omega)] at h3
    exact h.loop3 h1 (h2.trans h3.symm)
theorem Surf.bef_lt {N : Int} {T : List T3} (h : Surf N T) {c d : Nat} (hb : bef T c = some d) : c < 3 * T.length := by
  unfold bef at hb
  obtain ⟨o, ho, _⟩ := Option.map_eq_some_iff.1 hb
  have := h.opp_lt ho
  unfold pv at this
  omega
theorem Surf.aft_lt {N : Int} {T : List T3} (h : Surf N T) {c d : Nat} (hb : aft T c = some d) : c < 3 * T.length := by
  unfold aft at hb
  obtain ⟨o, ho, _⟩ := Option.map_eq_some_iff.1 hb
  have := h.opp_lt ho
  unfold nx at this
  omega
theorem Surf.bef_inj {N : Int} {T : List T3} (h : Surf N T) : ∀ c d x, bef T c = some x → bef T d = some x → c = d := by
  intro c d x h1 h2
  have a1 := h.bef_aft (h.bef_lt h1) h1
  have a2 := h.bef_aft (h.bef_lt h2) h2
  rw [a1] at a2
  exact Option.some.inj a2
theorem Surf.aft_inj {N : Int} {T : List T3} (h : Surf N T) : ∀ c d x, aft T c = some x → aft T d = some x → c = d := by
  intro c d x h1 h2
  have a1 := h.aft_bef (h.aft_lt h1) h1
  have a2 := h.aft_bef (h.aft_lt h2) h2
  rw [a1] at a2
  exact Option.some.inj a2
theorem Surf.back {N : Int} {T : List T3} (h : Surf N T) {b : Nat} (hb : b < 3 * T.length) : IsRun (bef T) b (3 * T.length) (runF (bef T) b (3 * T.length) b) :=
  run_is h.bef_inj (fun _ _ hd => (h.bef_iff.1 hd).1) hb
theorem Surf.forth {N : Int} {T : List T3} (h : Surf N T) {b : Nat} (hb : b < 3 * T.length) : IsRun (aft T) b (3 * T.length) (runF (aft T) b (3 * T.length) b) :=
  run_is h.aft_inj (fun _ _ hd => (h.aft_iff.1 hd).1) hb
def begins (T : List T3) (b : Nat) : Nat × Bool :=
  let l := runF (bef T) b (3 * T.length) b
  let x := l.getLastD b
  if bef T x = none then (x, true) else (b, false)
end Go.Mesh

namespace Go.Mesh

section
variable {N : Int} {T : List T3}
theorem Surf.closed_all (h : Surf N T) {v : Int} (h0 : 0 ≤ v) (h1 : v < N) (P : Nat → Prop) {b : Nat} (hb : b < 3 * T.length) (hbv : vt T b = v) (hP : P b)
    (ha : ∀ c d, c < 3 * T.length → vt T c = v → P c → aft T c = some d → P d) (hbf : ∀ c d, c < 3 * T.length → vt T c = v → P c → bef T c = some d → P d) :
    ∀ c, c < 3 * T.length → vt T c = v → P c :=
  h.fan v h0 h1 P ⟨b, hb, hbv, hP⟩ fun c d hc hcv hd hdv hPc hs => by
    rcases h.share_iff hc hd (hcv.trans hdv.symm) hs with rfl | e | e
    · exact hPc
    · exact ha c d hc hcv hPc e
    · exact hbf c d hc hcv hPc e
theorem IsRun.all {f : Nat → Option Nat} {b n : Nat} {l : List Nat} (h : IsRun f b n l) (P : Nat → Prop) (hb : P b) (hs : ∀ c d, c < n → P c → f c = some d → P d) : ∀ c ∈ l, P c := by
  have : ∀ i (hi : i < l.length), P l[i] := by
    intro i
    induction i with
    | zero => intro hi; rw [h.head]; exact hb
    | succ i ih => intro hi; exact hs _ _ (h.lt _ (List.getElem_mem _)) (ih (by omega)) (h.steps i hi)
  intro c hc
  obtain ⟨i, hi, rfl⟩ := List.getElem_of_mem hc
  exact this i hi
theorem IsRun.next_mem {f : Nat → Option Nat} {b n : Nat} {l : List Nat} (h : IsRun f b n l) {c d : Nat} (hc : c ∈ l) (hf : f c = some d) : d ∈ l := by
  obtain ⟨i, hi, rfl⟩ := List.getElem_of_mem hc
  rcases Nat.lt_or_ge (i + 1) l.length with h1 | h1
  · have := h.steps i h1
    rw [hf] at this
    rw [Option.some.inj this]
    exact List.getElem_mem _
  · have e : l[i] = l[l.length - 1]'(by omega) := by congr 1; omega
    rw [e] at hf
    rcases h.last with h2 | h2
    · rw [h2] at hf; cases hf
    · rw [h2] at hf
      rw [← Option.some.inj hf, ← h.head]
      exact List.getElem_mem _
theorem Surf.aft_vt (h : Surf N T) {c d : Nat} (ha : aft T c = some d) : vt T d = vt T c := (h.aft_iff.1 ha).2.1
theorem Surf.bef_vt (h : Surf N T) {c d : Nat} (ha : bef T c = some d) : vt T d = vt T c := (h.bef_iff.1 ha).2.1

structure Ring (T : List T3) (v : Int) (l : List Nat) (inner : Bool) : Prop where
  run : ∃ b, IsRun (aft T) b (3 * T.length) l
  mem : ∀ c, c ∈ l ↔ c < 3 * T.length ∧ vt T c = v
  head : ∀ h : 0 < l.length, (bef T l[0] = none ↔ inner = false)
  last : ∀ h : 0 < l.length, (aft T (l[l.length - 1]'(by omega)) = none ↔ inner = false)
  turn : ∀ h : 0 < l.length, inner = true → aft T (l[l.length - 1]'(by omega)) = some l[0]

theorem Surf.ring (h : Surf N T) {v : Int} (h0 : 0 ≤ v) (h1 : v < N) {b : Nat} (hb : cornerOf T v = some b) :
    IsRun (aft T) (begins T b).1 (3 * T.length) (runF (aft T) (begins T b).1 (3 * T.length) (begins T b).1) ∧ Ring T v (runF (aft T) (begins T b).1 (3 * T.length) (begins T b).1) (!(begins T b).2) ∧
    ((begins T b).2 = false → (begins T b).1 = b) := by
  obtain ⟨_, hb2, hb3, hb4⟩ := (leastFrom_some _ _ _ _).1 hb
  have hblt : b < 3 * T.length := by omega
  have hbv : vt T b = v := by simpa using hb3
  have hrun := h.back hblt
  have hallb := hrun.all (fun c => vt T c = v) hbv fun c d _ hc hd => (h.bef_vt hd).trans hc
  unfold begins
  generalize runF (bef T) b (3 * T.length) b = lb at *
  have hx : lb.getLastD b = lb[lb.length - 1]'(by have := hrun.ne; omega) := by
    rw [List.getLastD_eq_getLast?, List.getLast?_eq_getElem?, List.getElem?_eq_getElem (by have := hrun.ne; omega)]
    rfl
  have hxm : lb.getLastD b ∈ lb := by rw [hx]; exact List.getElem_mem _
  simp only []
  split
  · rename_i hnone
    generalize lb.getLastD b = x at *
    have hxlt := hrun.lt x hxm
    have hxv := hallb x hxm
    have hf := h.forth hxlt
    generalize runF (aft T) x (3 * T.length) x = l at *
    have hallf := hf.all (fun c => vt T c = v) hxv fun c d _ hc hd => (h.aft_vt hd).trans hc
    have hxl : x ∈ l := by rw [← hf.head]; exact List.getElem_mem _
    have hmem := h.closed_all h0 h1 (fun c => c ∈ l) hxlt hxv hxl (fun c d _ _ hc hd => hf.next_mem hc hd) (fun c d hc1 hc2 hc hd => by
      obtain ⟨i, hi, rfl⟩ := List.getElem_of_mem hc
      cases i with
      | zero => rw [hf.head, hnone] at hd; cases hd
      | succ i =>
        have h9 := h.aft_bef (hf.lt _ (List.getElem_mem (by omega))) (hf.steps i hi)
        rw [h9] at hd
        rw [← Option.some.inj hd]
        exact List.getElem_mem _)
    have hlast : aft T (l[l.length - 1]'(by have := hf.ne; omega)) = none := by
      rcases hf.last with h9 | h9
      · exact h9
      · have := h.aft_bef (hf.lt _ (List.getElem_mem (by have := hf.ne; omega))) h9
        rw [hnone] at this; cases this
    refine ⟨hf, ⟨⟨x, hf⟩, fun c => ⟨fun hc => ⟨hf.lt c hc, hallf c hc⟩, fun hc => hmem c hc.1 hc.2⟩, fun h9 => ?_, fun h9 => ?_, fun h9 h8 => by cases h8⟩, fun h9 => by cases h9⟩
    · rw [hf.head]; simp [hnone]
    · simp [hlast]
  · rename_i hsome
    have hlb : bef T (lb[lb.length - 1]'(by have := hrun.ne; omega)) = some b := by
      rcases hrun.last with h9 | h9
      · rw [hx] at hsome; exact absurd h9 hsome
      · exact h9
    have hab : ∀ c ∈ lb, ∃ d, aft T c = some d := by
      intro c hc
      obtain ⟨i, hi, rfl⟩ := List.getElem_of_mem hc
      cases i with
      | zero => exact ⟨_, by rw [hrun.head]; exact h.bef_aft (hrun.lt _ (List.getElem_mem _)) hlb⟩
      | succ i => exact ⟨_, h.bef_aft (hrun.lt _ (List.getElem_mem (by omega))) (hrun.steps i hi)⟩
    have hbm : b ∈ lb := by
      have : lb[0]'hrun.ne ∈ lb := List.getElem_mem _
      rw [hrun.head] at this
      exact this
    have hmemb := h.closed_all h0 h1 (fun c => c ∈ lb) hblt hbv hbm (fun c d hc1 hc2 hc hd => by
      obtain ⟨i, hi, rfl⟩ := List.getElem_of_mem hc
      cases i with
      | zero =>
        have h9 := h.bef_aft (hrun.lt _ (List.getElem_mem (by have := hrun.ne; omega))) hlb
        rw [hrun.head, h9] at hd
        rw [← Option.some.inj hd]
        exact List.getElem_mem _
      | succ i =>
        have h9 := h.bef_aft (hrun.lt _ (List.getElem_mem (by omega))) (hrun.steps i hi)
        rw [h9] at hd
        rw [← Option.some.inj hd]
        exact List.getElem_mem _) (fun c d _ _ hc hd => hrun.next_mem hc hd)
    have hf := h.forth hblt
    generalize runF (aft T) b (3 * T.length) b = l at *
    have hallf := hf.all (fun c => vt T c = v) hbv fun c d _ hc hd => (h.aft_vt hd).trans hc
    have hlm : l[l.length - 1]'(by have := hf.ne; omega) ∈ l := List.getElem_mem _
    have hlast : aft T (l[l.length - 1]'(by have := hf.ne; omega)) = some b := by
      rcases hf.last with h9 | h9
      · obtain ⟨d, hd⟩ := hab _ (hmemb _ (hf.lt _ hlm) (hallf _ hlm))
        rw [hd] at h9; cases h9
      · exact h9
    have hbb : bef T b = some (l[l.length - 1]'(by have := hf.ne; omega)) := h.aft_bef (hf.lt _ hlm) hlast
    have hmem := h.closed_all h0 h1 (fun c => c ∈ l) hblt hbv (by have : l[0]'hf.ne ∈ l := List.getElem_mem _; rw [hf.head] at this; exact this) (fun c d _ _ hc hd => hf.next_mem hc hd) (fun c d hc1 hc2 hc hd => by
      obtain ⟨i, hi, rfl⟩ := List.getElem_of_mem hc
      cases i with
      | zero => rw [hf.head, hbb] at hd; rw [← Option.some.inj hd]; exact hlm
      | succ i =>
        have h9 := h.aft_bef (hf.lt _ (List.getElem_mem (by omega))) (hf.steps i hi)
        rw [h9] at hd
        rw [← Option.some.inj hd]
        exact List.getElem_mem _)
    refine ⟨hf, ⟨⟨b, hf⟩, fun c => ⟨fun hc => ⟨hf.lt c hc, hallf c hc⟩, fun hc => hmem c hc.1 hc.2⟩, fun h9 => ?_, fun h9 => ?_, fun h9 _ => by rw [hlast, hf.head]⟩, fun _ => rfl⟩
    · rw [hf.head]; simp [hbb]
    · simp [hlast]
theorem Surf.corner_some (h : Surf N T) {v : Int} (h0 : 0 ≤ v) (h1 : v < N) : ∃ b, cornerOf T v = some b := by
  obtain ⟨c, hc, hcv⟩ := h.used v h0 h1
  obtain ⟨d, hd⟩ := leastFrom_isSome (p := fun d => vt T d == v) (n := 3 * T.length) (k := 0) (c := c) (by omega) (by omega) (by simp [hcv])
  exact ⟨d, hd⟩

def ringAt (T : List T3) (N : Int) (v : Int) : List Nat := if 0 ≤ v ∧ v < N then (match cornerOf T v with | some b => runF (aft T) (begins T b).1 (3 * T.length) (begins T b).1 | none => []) else []
def innerAt (T : List T3) (N : Int) (v : Int) : Bool := if 0 ≤ v ∧ v < N then (match cornerOf T v with | some b => !(begins T b).2 | none => false) else false
theorem Surf.no_corner (h : Surf N T) {v : Int} (hv : ¬ (0 ≤ v ∧ v < N)) {c : Nat} (hc : c < 3 * T.length) : vt T c ≠ v := fun e => hv (e ▸ h.rng c hc)
theorem Surf.ring_or (h : Surf N T) (v : Int) : (ringAt T N v = [] ∧ ¬ (0 ≤ v ∧ v < N) ∧ innerAt T N v = false) ∨ (0 < (ringAt T N v).length ∧ (0 ≤ v ∧ v < N) ∧ Ring T v (ringAt T N v) (innerAt T N v)) := by
  unfold ringAt innerAt
  split
  · rename_i hv
    obtain ⟨b, hb⟩ := h.corner_some hv.1 hv.2
    rw [hb]
    obtain ⟨h1, h2, _⟩ := h.ring hv.1 hv.2 hb
    exact .inr ⟨h1.ne, hv, h2⟩
  · rename_i hv
    exact .inl ⟨rfl, hv, rfl⟩
theorem Surf.ring_mem (h : Surf N T) (v : Int) (c : Nat) : c ∈ ringAt T N v ↔ c < 3 * T.length ∧ vt T c = v := by
  rcases h.ring_or v with ⟨h1, h2, _⟩ | ⟨_, _, h3⟩
  · rw [h1]
    simp only [List.not_mem_nil, false_iff]
    rintro ⟨hc, e⟩
    exact h.no_corner h2 hc e
  · exact h3.mem c
theorem Surf.ring_nodup (h : Surf N T) (v : Int) : (ringAt T N v).Nodup := by
  rcases h.ring_or v with ⟨h1, h2, _⟩ | ⟨_, _, h3⟩
  · rw [h1]; exact List.nodup_nil
  · obtain ⟨b, hb⟩ := h3.run; exact hb.nodup
end
end Go.Mesh

namespace Go.Mesh
section
variable {N : Int} {T : List T3}
def dirc (T : List T3) (a b : Int) : Option Nat := leastFrom (fun c => vt T c == a && vt T (nx c) == b) 0 (3 * T.length)
theorem dirc_some {a b : Int} {d : Nat} (h : dirc T a b = some d) : d < 3 * T.length ∧ vt T d = a ∧ vt T (nx d) = b := by
  obtain ⟨_, h2, h3, _⟩ := (leastFrom_some _ _ _ _).1 h
  simp only [Bool.and_eq_true, beq_iff_eq] at h3
  exact ⟨by omega, h3.1, h3.2⟩
theorem Surf.dirc_iff (h : Surf N T) {a b : Int} {d : Nat} : dirc T a b = some d ↔ d < 3 * T.length ∧ vt T d = a ∧ vt T (nx d) = b := by
  constructor
  · exact dirc_some
  · rintro ⟨h1, h2, h3⟩
    obtain ⟨e, he⟩ := leastFrom_isSome (p := fun c => vt T c == a && vt T (nx c) == b) (n := 3 * T.length) (k := 0) (c := d) (by omega) (by omega) (by simp [h2, h3])
    have he : dirc T a b = some e := he
    obtain ⟨g1, g2, g3⟩ := dirc_some he
    have : pv e = pv d := h.once _ _ (pv_lt g1) (pv_lt h1) (by unfold eg; rw [nx_pv, nx_pv, pv_pv, pv_pv, g2, g3, h2, h3])
    rw [he, pv_inj this]
theorem option_ext {α : Type} {a b : Option α} (h : ∀ x, a = some x ↔ b = some x) : a = b := by
  cases a with
  | none => cases b with
    | none => rfl
    | some y => exact absurd ((h y).2 rfl) (by simp)
  | some x => exact ((h x).1 rfl).symm
theorem Surf.dirc_aft (h : Surf N T) (c : Nat) : dirc T (vt T c) (vt T (pv c)) = aft T c := option_ext fun d => by rw [h.dirc_iff, h.aft_iff]
theorem Surf.dirc_bef (h : Surf N T) (c : Nat) : dirc T (vt T (nx c)) (vt T c) = (bef T c).map pv := option_ext fun d => by
  rw [h.dirc_iff, Option.map_eq_some_iff]
  constructor
  · rintro ⟨h1, h2, h3⟩
    exact ⟨nx d, h.bef_iff.2 ⟨nx_lt h1, h3, by rw [pv_nx]; exact h2⟩, pv_nx d⟩
  · rintro ⟨x, hx, rfl⟩
    obtain ⟨h1, h2, h3⟩ := h.bef_iff.1 hx
    exact ⟨pv_lt h1, h3, by rw [nx_pv]; exact h2⟩
theorem Surf.dirc_facing (h : Surf N T) (a b : Int) : dirc T a b = (facing T (a, b)).map nx := option_ext fun d => by
  rw [h.dirc_iff, Option.map_eq_some_iff]
  constructor
  · rintro ⟨h1, h2, h3⟩
    exact ⟨pv d, h.facing_iff.2 ⟨pv_lt h1, by unfold eg; rw [nx_pv, pv_pv, h2, h3]⟩, nx_pv d⟩
  · rintro ⟨x, hx, rfl⟩
    obtain ⟨h1, h2⟩ := h.facing_iff.1 hx
    unfold eg at h2
    injection h2 with h2 h3
    exact ⟨nx_lt h1, h2, by rw [nx_nx]; exact h3⟩
theorem Surf.same_tri (h : Surf N T) {c d : Nat} (hc : c < 3 * T.length) (hd : c / 3 = d / 3) (hv : vt T c = vt T d) : c = d := by
  have h1 := h.loop c hc
  have h2 := h.loop2 hc
  have : d = c ∨ d = nx c ∨ d = pv c := by unfold nx pv; omega
  rcases this with e | e | e
  · exact e.symm
  · subst e; exact absurd hv h1
  · subst e; exact absurd hv h2
theorem nodup_inj {α β : Type} {f : α → β} : ∀ {l : List α}, l.Nodup → (∀ a ∈ l, ∀ b ∈ l, f a = f b → a = b) → (l.map f).Nodup
  | [], _, _ => List.nodup_nil
  | x :: l, h, hf => by
    rw [List.nodup_cons] at h
    rw [List.map_cons, List.nodup_cons]
    refine ⟨fun hm => ?_, nodup_inj h.2 fun a ha b hb => hf a (List.mem_cons_of_mem _ ha) b (List.mem_cons_of_mem _ hb)⟩
    obtain ⟨y, hy, e⟩ := List.mem_map.1 hm
    have := hf y (List.mem_cons_of_mem _ hy) x List.mem_cons_self e
    exact h.1 (this ▸ hy)
theorem Surf.ring_len (h : Surf N T) (v : Int) : (ringAt T N v).length ≤ T.length := by
  have := nodup_lt T.length ((ringAt T N v).map (· / 3)) (nodup_inj (h.ring_nodup v) fun a ha b hb e =>
    h.same_tri ((h.ring_mem v a).1 ha).1 e (((h.ring_mem v a).1 ha).2.trans ((h.ring_mem v b).1 hb).2.symm)) fun x hx => by
      obtain ⟨y, hy, rfl⟩ := List.mem_map.1 hx
      have := ((h.ring_mem v y).1 hy).1
      omega
  simpa using this
def refFirst (T : List T3) (v : Int) : Option Nat :=
  match leastFrom (fun c => vt T c == v && (bef T c).isNone) 0 (3 * T.length) with
  | some c => some c
  | none => cornerOf T v
theorem Surf.ref_first (h : Surf N T) (v : Int) : refFirst T v = (ringAt T N v).head? := by
  rcases h.ring_or v with ⟨h1, h2, _⟩ | ⟨hl, hv, hr⟩
  · rw [h1]
    have e1 : ∀ n, leastFrom (fun c => vt T c == v && (bef T c).isNone) 0 (3 * T.length) ≠ some n := by
      intro n hn
      obtain ⟨_, g2, g3, _⟩ := (leastFrom_some _ _ _ _).1 hn
      simp only [Bool.and_eq_true, beq_iff_eq] at g3
      exact h.no_corner h2 (by omega) g3.1
    have e2 : cornerOf T v = none := by
      cases hc : cornerOf T v with
      | none => rfl
      | some c =>
        obtain ⟨_, g2, g3, _⟩ := (leastFrom_some _ _ _ _).1 hc
        exact absurd (by simpa using g3) (h.no_corner h2 (show c < 3 * T.length by omega))
    unfold refFirst
    rw [e2]
    cases hl : leastFrom (fun c => vt T c == v && (bef T c).isNone) 0 (3 * T.length) with
    | none => rfl
    | some c => exact absurd hl (e1 c)
  · rw [List.head?_eq_getElem?, List.getElem?_eq_getElem hl]
    unfold refFirst
    cases hq : leastFrom (fun c => vt T c == v && (bef T c).isNone) 0 (3 * T.length) with
    | none =>
      have hall := (leastFrom_none _ _ _).1 hq
      obtain ⟨b, hb⟩ := h.corner_some hv.1 hv.2
      simp only []
      rw [hb]
      obtain ⟨g1, g2, g3⟩ := h.ring hv.1 hv.2 hb
      have e : ringAt T N v = runF (aft T) (begins T b).1 (3 * T.length) (begins T b).1 := by unfold ringAt; rw [if_pos hv, hb]
      have e0 : (ringAt T N v)[0] = (begins T b).1 := by
        have := g1.head
        simp only [e]
        exact this
      rw [e0]
      have hm := (hr.mem _).1 (List.getElem_mem hl)
      have := hall _ (Nat.zero_le _) (by omega : (ringAt T N v)[0] < 0 + 3 * T.length)
      have hb0 : bef T (ringAt T N v)[0] ≠ none := by
        intro h9
        rw [h9, hm.2] at this
        simp at this
      have hin : innerAt T N v = true := by
        cases hi : innerAt T N v with
        | true => rfl
        | false => exact absurd ((hr.head hl).2 hi) hb0
      have : (begins T b).2 = false := by
        unfold innerAt at hin
        rw [if_pos hv, hb] at hin
        simpa using hin
      rw [g3 this]
    | some c =>
      obtain ⟨_, g2, g3, _⟩ := (leastFrom_some _ _ _ _).1 hq
      simp only [Bool.and_eq_true, beq_iff_eq, Option.isNone_iff_eq_none] at g3
      have hc := (hr.mem c).2 ⟨by omega, g3.1⟩
      obtain ⟨i, hi, he⟩ := List.getElem_of_mem hc
      cases i with
      | zero => exact congrArg some he.symm
      | succ i =>
        exfalso
        obtain ⟨b, hb⟩ := hr.run
        have := h.aft_bef (hb.lt _ (List.getElem_mem (by omega))) (hb.steps i hi)
        rw [he, g3.2] at this
        cases this
def linkAt (T : List T3) (N v : Int) : List Int :=
  (ringAt T N v).map (fun c => vt T (nx c)) ++ (match (ringAt T N v).getLast? with
    | some c => if aft T c = none then [vt T (pv c)] else []
    | none => [])
theorem Surf.link_inner (h : Surf N T) (v : Int) : linkAt T N v = (ringAt T N v).map (fun c => vt T (nx c)) ++ (match (ringAt T N v).getLast? with
    | some c => if innerAt T N v = false then [vt T (pv c)] else []
    | none => []) := by
  unfold linkAt
  congr 1
  rcases h.ring_or v with ⟨h1, h2, _⟩ | ⟨hl, hv, hr⟩
  · rw [h1]; rfl
  · rw [List.getLast?_eq_getElem?, List.getElem?_eq_getElem (by omega)]
    simp only [hr.last hl]
end
end Go.Mesh

namespace Go.Mesh
section
variable {N : Int} {T : List T3}
def near (T : List T3) (a b : Int) : Bool := (facing T (a, b)).isSome || (facing T (b, a)).isSome
theorem near_comm (T : List T3) (a b : Int) : near T a b = near T b a := by unfold near; rw [Bool.or_comm]
theorem Surf.ring_none (h : Surf N T) {v : Int} (hv : ¬ (0 ≤ v ∧ v < N)) : ringAt T N v = [] ∧ innerAt T N v = false := by
  rcases h.ring_or v with ⟨h1, h2, h3⟩ | ⟨_, h2, _⟩
  · exact ⟨h1, h3⟩
  · exact absurd h2 hv
theorem Surf.ring_in (h : Surf N T) {v : Int} (hv : 0 ≤ v ∧ v < N) : 0 < (ringAt T N v).length ∧ Ring T v (ringAt T N v) (innerAt T N v) := by
  rcases h.ring_or v with ⟨h1, h2, h3⟩ | ⟨h1, h2, h3⟩
  · exact absurd hv h2
  · exact ⟨h1, h3⟩
theorem linkAt_of_inner (h : Surf N T) {v : Int} (hv : 0 ≤ v ∧ v < N) (hi : innerAt T N v = true) : linkAt T N v = (ringAt T N v).map (fun c => vt T (nx c)) := by
  rw [h.link_inner, List.getLast?_eq_getElem?, List.getElem?_eq_getElem (by have := (h.ring_in hv).1; omega)]
  simp [hi]
theorem linkAt_of_border (h : Surf N T) {v : Int} (hv : 0 ≤ v ∧ v < N) (hi : innerAt T N v = false) :
    linkAt T N v = (ringAt T N v).map (fun c => vt T (nx c)) ++ [vt T (pv ((ringAt T N v)[(ringAt T N v).length - 1]'(by have := (h.ring_in hv).1; omega)))] := by
  rw [h.link_inner, List.getLast?_eq_getElem?, List.getElem?_eq_getElem (by have := (h.ring_in hv).1; omega)]
  simp [hi]
theorem link_len (h : Surf N T) {v : Int} (hv : 0 ≤ v ∧ v < N) : (linkAt T N v).length = (ringAt T N v).length + (if innerAt T N v = true then 0 else 1) := by
  cases hi : innerAt T N v with
  | true => rw [linkAt_of_inner h hv hi]; simp
  | false => rw [linkAt_of_border h hv hi]; simp
theorem link_next (h : Surf N T) {v : Int} (hv : 0 ≤ v ∧ v < N) {i : Nat} (hi : i < (ringAt T N v).length) :
    (linkAt T N v)[i]? = some (vt T (nx (ringAt T N v)[i])) ∧ (linkAt T N v)[(i + 1) % (linkAt T N v).length]? = some (vt T (pv (ringAt T N v)[i])) := by
  obtain ⟨hl, hr⟩ := h.ring_in hv
  obtain ⟨b, hrun⟩ := hr.run
  have hlen := link_len h hv
  cases hin : innerAt T N v with
  | true =>
    rw [hin] at hlen
    simp only [if_true, Nat.add_zero] at hlen
    rw [hlen, linkAt_of_inner h hv hin]
    refine ⟨by simp [hi], ?_⟩
    rcases Nat.lt_or_ge (i + 1) (ringAt T N v).length with h1 | h1
    · rw [Nat.mod_eq_of_lt h1, List.getElem?_map, List.getElem?_eq_getElem h1]
      have := (h.aft_iff.1 (hrun.steps i h1)).2.2
      simp [this]
    · rw [show i + 1 = (ringAt T N v).length by omega, Nat.mod_self, List.getElem?_map, List.getElem?_eq_getElem hl]
      have h2 := hr.turn hl hin
      have h3 := (h.aft_iff.1 h2).2.2
      have h4 : (ringAt T N v)[(ringAt T N v).length - 1]'(by omega) = (ringAt T N v)[i] := by congr 1; omega
      rw [h4] at h3
      simp [h3]
  | false =>
    rw [hin] at hlen
    simp only [Bool.false_eq_true, if_false] at hlen
    rw [hlen, Nat.mod_eq_of_lt (by omega), linkAt_of_border h hv hin]
    refine ⟨by rw [List.getElem?_append_left (by simpa using hi), List.getElem?_map, List.getElem?_eq_getElem hi]; rfl, ?_⟩
    rcases Nat.lt_or_ge (i + 1) (ringAt T N v).length with h1 | h1
    · rw [List.getElem?_append_left (by simpa using h1), List.getElem?_map, List.getElem?_eq_getElem h1]
      have := (h.aft_iff.1 (hrun.steps i h1)).2.2
      simp [this]
    · rw [List.getElem?_append_right (by simpa using h1)]
      have h4 : (ringAt T N v)[(ringAt T N v).length - 1]'(by omega) = (ringAt T N v)[i] := by congr 1; omega
      rw [h4]
      simp only [List.length_map]
      rw [show i + 1 - (ringAt T N v).length = 0 by omega]
      rfl
theorem link_mem (h : Surf N T) {v : Int} (hv : 0 ≤ v ∧ v < N) (x : Int) : x ∈ linkAt T N v ↔ ∃ c, c < 3 * T.length ∧ vt T c = v ∧ (x = vt T (nx c) ∨ x = vt T (pv c)) := by
  constructor
  · intro hx
    have hmem : ∀ c ∈ ringAt T N v, c < 3 * T.length ∧ vt T c = v := fun c hc => (h.ring_mem v c).1 hc
    cases hin : innerAt T N v with
    | true =>
      rw [linkAt_of_inner h hv hin] at hx
      obtain ⟨c, hc, rfl⟩ := List.mem_map.1 hx
      exact ⟨c, (hmem c hc).1, (hmem c hc).2, .inl rfl⟩
    | false =>
      rw [linkAt_of_border h hv hin] at hx
      rcases List.mem_append.1 hx with hx | hx
      · obtain ⟨c, hc, rfl⟩ := List.mem_map.1 hx
        exact ⟨c, (hmem c hc).1, (hmem c hc).2, .inl rfl⟩
      · have hc := hmem _ (List.getElem_mem (l := ringAt T N v) (n := (ringAt T N v).length - 1) (by have := (h.ring_in hv).1; omega))
        exact ⟨_, hc.1, hc.2, .inr (by simpa using hx)⟩
  · rintro ⟨c, hc, hcv, hx⟩
    obtain ⟨i, hi, rfl⟩ := List.getElem_of_mem ((h.ring_mem v c).2 ⟨hc, hcv⟩)
    obtain ⟨h1, h2⟩ := link_next h hv hi
    rcases hx with rfl | rfl
    · exact List.mem_of_getElem? h1
    · exact List.mem_of_getElem? h2
theorem near_iff (h : Surf N T) {v : Int} (hv : 0 ≤ v ∧ v < N) (w : Int) : near T v w = true ↔ w ∈ linkAt T N v := by
  rw [link_mem h hv]
  unfold near
  rw [Bool.or_eq_true, Option.isSome_iff_exists, Option.isSome_iff_exists]
  constructor
  · rintro (⟨c, hc⟩ | ⟨c, hc⟩)
    · obtain ⟨h1, h2⟩ := h.facing_iff.1 hc
      unfold eg at h2
      injection h2 with h2 h3
      exact ⟨nx c, nx_lt h1, h2, .inl (by rw [nx_nx]; exact h3.symm)⟩
    · obtain ⟨h1, h2⟩ := h.facing_iff.1 hc
      unfold eg at h2
      injection h2 with h2 h3
      exact ⟨pv c, pv_lt h1, h3, .inr (by rw [pv_pv]; exact h2.symm)⟩
  · rintro ⟨c, hc, rfl, rfl | rfl⟩
    · exact .inl ⟨pv c, h.facing_iff.2 ⟨pv_lt hc, by unfold eg; rw [nx_pv, pv_pv]⟩⟩
    · exact .inr ⟨nx c, h.facing_iff.2 ⟨nx_lt hc, by unfold eg; rw [nx_nx, pv_nx]⟩⟩
theorem near_out (h : Surf N T) {v w : Int} (hn : near T v w = true) : (0 ≤ v ∧ v < N) ∧ 0 ≤ w ∧ w < N := by
  unfold near at hn
  rw [Bool.or_eq_true, Option.isSome_iff_exists, Option.isSome_iff_exists] at hn
  rcases hn with ⟨c, hc⟩ | ⟨c, hc⟩
  · obtain ⟨h1, h2⟩ := h.facing_iff.1 hc
    unfold eg at h2
    injection h2 with h2 h3
    have g1 := h.rng _ (nx_lt h1)
    have g2 := h.rng _ (pv_lt h1)
    rw [h2] at g1; rw [h3] at g2
    exact ⟨g1, g2⟩
  · obtain ⟨h1, h2⟩ := h.facing_iff.1 hc
    unfold eg at h2
    injection h2 with h2 h3
    have g1 := h.rng _ (nx_lt h1)
    have g2 := h.rng _ (pv_lt h1)
    rw [h2] at g1; rw [h3] at g2
    exact ⟨g2, g1⟩
def below (T : List T3) (v : Int) : Nat := (List.range (3 * T.length)).countP fun c => decide (vt T c < v)
end
theorem nodup_len {α : Type} [DecidableEq α] : ∀ {l m : List α}, l.Nodup → l ⊆ m → l.length ≤ m.length
  | [], _, _, _ => Nat.zero_le _
  | a :: l, m, hn, hs => by
    have hm : a ∈ m := hs (List.mem_cons_self ..)
    have h1 := nodup_len (l := l) (m := m.erase a) (List.nodup_cons.1 hn).2 fun x hx => by
      have hne : x ≠ a := fun e => (List.nodup_cons.1 hn).1 (e ▸ hx)
      exact (List.mem_erase_of_ne hne).2 (hs (List.mem_cons_of_mem _ hx))
    rw [List.length_erase_of_mem hm] at h1
    have := List.length_pos_of_mem hm
    rw [List.length_cons]
    omega
end Go.Mesh
