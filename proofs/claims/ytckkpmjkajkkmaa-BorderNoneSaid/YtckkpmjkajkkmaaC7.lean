/- Walks: certify's together. -/
import Derived.Test.YtckkpmjkajkkmaaC6
namespace Go.Words
open Go Go.RowKit
theorem wpList_insert {P : Program} (w : World) {ops : Array Oper} {rest : List Oper} {o : Oper} {a : Act} {Q : Exit → Act → World → Prop} {κ α : Type} [DecidableEq κ] {enc : κ → Value} {ok : κ → Prop} {ev : α → Value}
    (hg : o.guard = none) (m x v : Operand) (t : TypeId) (hop : o.op = Op.insert t m x v) (k e : TypeId) (K : KeyT P k enc ok) (ht : P.underlying t = some (.map k e))
    (b : Nat) (l : List (κ × α)) (hm : a.eval m = .map (some b)) (hown : Mp enc ok ev w b l) (key : κ) (hx : a.eval x = enc key) (hkey : ok key) (val : α) (hv : a.eval v = ev val)
    (hK : ∀ w', Mp enc ok ev w' b (Words.put l key val) → w.grownBy w' (some b) → w'.heap.size = w.heap.size → wpList P ops Q rest (a.put o.dst undef) w') : wpList P ops Q (o :: rest) a w := by
  refine wpList_plain hg fun K' hK' => ?_
  obtain ⟨w', hrun, r1, r2, r3⟩ := hown.put_run K ht hkey val
  unfold Oper.wp
  simp [execOp, hop, hm, hx, hv, hrun, Result.andThen]
  exact hK' _ _ (hK w' r1 r2 r3)
theorem put_ent {κ α : Type} [DecidableEq κ] (l : List (κ × α)) (x : κ) (z v : α) : Words.put (ent l x z) x v = Words.put l x v := by
  unfold Words.ent
  by_cases hx : x ∈ l.map (·.1)
  · rw [if_pos ((look_isSome l x).2 hx)]
  · rw [if_neg (by rw [look_isSome]; exact hx), put_new v hx]
    induction l with
    | nil => simp [Words.put]
    | cons p l ih =>
      simp only [List.map_cons, List.mem_cons, not_or] at hx
      have hp : p.1 ≠ x := fun e => hx.1 e.symm
      simp [Words.put, hp, ih hx.2]
/-- How many entries a map has; how long a slice is. -/
def mapSize (w : World) (b : Nat) : Nat := match w.heap[b]? with
  | some (.map es _) => es.size
  | _ => 0
def sliceLen : Value → Nat
  | .slice _ n _ => n
  | _ => 0
theorem Mp.msize {w : World} {b : Nat} {κ α : Type} {enc : κ → Value} {ok : κ → Prop} {ev : α → Value} {l : List (κ × α)} (h : Mp enc ok ev w b l) : mapSize w b = l.length := by
  obtain ⟨es, clock, hb, _, hl⟩ := h.block
  unfold mapSize
  rw [hb]
  have := congrArg List.length hl
  simpa using this
end Go.Words
namespace Go.Mesh
def triAt (T : List T3) (i : Nat) : T3 := T.getD i (0, 0, 0)
instance (t : T3) (u : Int) : Decidable (HasV t u) := by unfold HasV; exact inferInstance
def hasB (T : List T3) (u : Int) (i : Nat) : Bool := decide (HasV (triAt T i) u)
/-- Two triangles have a vertex but v in common. -/
def AdjT (T : List T3) (v : Int) (i k : Nat) : Prop := ∃ u, u ≠ v ∧ HasV (triAt T i) u ∧ HasV (triAt T k) u
def ClosedT (T : List T3) (v : Int) (tris : List Nat) (P : Nat → Prop) : Prop := ∀ i k, i ∈ tris → k ∈ tris → P i → AdjT T v i k → P k
def Conn (T : List T3) (v : Int) (tris : List Nat) (t0 : Nat) : Prop := ∀ P : Nat → Prop, P t0 → ClosedT T v tris P → ∀ k ∈ tris, P k
theorem nodup_le {α : Type} [DecidableEq α] : ∀ (l m : List α), l.Nodup → (∀ x ∈ l, x ∈ m) → l.length ≤ m.length
  | [], m, _, _ => by simp
  | x :: l, m, hn, h => by
    rw [List.nodup_cons] at hn
    have hx := h x List.mem_cons_self
    have := nodup_le l (m.erase x) hn.2 fun y hy => (List.mem_erase_of_ne (fun e : y = x => hn.1 (e ▸ hy))).2 (h y (List.mem_cons_of_mem _ hy))
    rw [List.length_erase_of_mem hx] at this
    have hpos : 0 < m.length := List.length_pos_of_mem hx
    simp only [List.length_cons]
    omega
theorem nodup_all {α : Type} [DecidableEq α] {l m : List α} (hn : l.Nodup) (h : ∀ x ∈ l, x ∈ m) (hl : m.length ≤ l.length) : ∀ x ∈ m, x ∈ l := by
  intro x hx
  by_cases hxl : x ∈ l
  · exact hxl
  · have := nodup_le (x :: l) m (List.nodup_cons.2 ⟨hxl, hn⟩) fun y hy => (List.mem_cons.1 hy).elim (fun e => e ▸ hx) (h y)
    simp at this
    omega
/-- What a search from t0 holds: R reached, Q waiting, i being looked at (its neighbours so far that do). -/
structure Bfs (T : List T3) (v : Int) (tris : List Nat) (t0 : Nat) (R Q : List Nat) (open_ : Nat → Nat → Prop) : Prop where
  start : t0 ∈ R
  nodup : R.Nodup
  sub : ∀ r ∈ R, r ∈ tris
  reach : ∀ r ∈ R, ∀ P : Nat → Prop, P t0 → ClosedT T v tris P → P r
  wait : ∀ q ∈ Q, q ∈ R
  done : ∀ r ∈ R, r ∉ Q → ∀ k ∈ tris, AdjT T v r k → k ∈ R ∨ open_ r k
theorem Bfs.le {T : List T3} {v : Int} {tris : List Nat} {t0 : Nat} {R Q : List Nat} {o : Nat → Nat → Prop} (h : Bfs T v tris t0 R Q o) : R.length ≤ tris.length := nodup_le R tris h.nodup h.sub
theorem Bfs.end_ {T : List T3} {v : Int} {tris : List Nat} {t0 : Nat} {R : List Nat} (h : Bfs T v tris t0 R [] fun _ _ => False) (hn : tris.Nodup) : R.length = tris.length ↔ Conn T v tris t0 := by
  constructor
  · intro hl P p0 hc k hk
    exact h.reach k (nodup_all h.nodup h.sub (by omega) k hk) P p0 hc
  · intro hc
    have hall := hc (· ∈ R) h.start fun i k _ hk hi ha => (h.done i hi (by simp) k hk ha).elim id False.elim
    have h1 := h.le
    have h2 := nodup_le tris R hn hall
    omega
section
variable {T : List T3} {v : Int} {tris : List Nat} {t0 : Nat} {R Q : List Nat} {o o' : Nat → Nat → Prop}
theorem Bfs.begin_ (h0 : t0 ∈ tris) : Bfs T v tris t0 [t0] [t0] fun _ _ => False :=
  ⟨List.mem_singleton.2 rfl, by simp, fun r hr => by rw [List.mem_singleton.1 hr]; exact h0, fun r hr P hp _ => by rw [List.mem_singleton.1 hr]; exact hp, fun q hq => hq, fun r hr hq => absurd hr hq⟩
theorem Bfs.pop {i : Nat} (h : Bfs T v tris t0 R (i :: Q) fun _ _ => False) : Bfs T v tris t0 R Q fun r k => r = i ∧ AdjT T v i k :=
  ⟨h.start, h.nodup, h.sub, h.reach, fun q hq => h.wait q (List.mem_cons_of_mem _ hq), fun r hr hq k hk ha => by
    by_cases hri : r = i
    · subst hri; exact .inr ⟨rfl, ha⟩
    · exact .inl ((h.done r hr (fun hm => (List.mem_cons.1 hm).elim hri hq) k hk ha).elim id False.elim)⟩
theorem Bfs.mono (h : Bfs T v tris t0 R Q o) (ho : ∀ r k, k ∈ tris → o r k → k ∈ R ∨ o' r k) : Bfs T v tris t0 R Q o' :=
  ⟨h.start, h.nodup, h.sub, h.reach, h.wait, fun r hr hq k hk ha => (h.done r hr hq k hk ha).elim .inl (ho r k hk)⟩
theorem Bfs.push (h : Bfs T v tris t0 R Q o) {i k : Nat} (hk : k ∈ tris) (hkR : k ∉ R) (hi : i ∈ R) (ha : AdjT T v i k) (ho : ∀ r k', k' ∈ tris → o r k' → k' = k ∨ o' r k') : Bfs T v tris t0 (R ++ [k]) (Q ++ [k]) o' where
  start := List.mem_append.2 (.inl h.start)
  nodup := List.nodup_append.2 ⟨h.nodup, by simp, fun a hA c hc e => by simp at hc; subst hc; exact hkR (e ▸ hA)⟩
  sub := fun r hr => (List.mem_append.1 hr).elim (h.sub r) fun e => by rw [List.mem_singleton.1 e]; exact hk
  reach := fun r hr P hp hc => (List.mem_append.1 hr).elim (fun hr => h.reach r hr P hp hc) fun e => by
    rw [List.mem_singleton.1 e]
    exact hc i k (h.sub i hi) hk (h.reach i hi P hp hc) ha
  wait := fun q hq => (List.mem_append.1 hq).elim (fun hq => List.mem_append.2 (.inl (h.wait q hq))) fun e => List.mem_append.2 (.inr e)
  done := fun r hr hq k' hk' ha' => by
    have hrk : r ∉ [k] := fun hm => hq (List.mem_append.2 (.inr hm))
    have hrR := (List.mem_append.1 hr).resolve_right hrk
    rcases h.done r hrR (fun hm => hq (List.mem_append.2 (.inl hm))) k' hk' ha' with h1 | h1
    · exact .inl (List.mem_append.2 (.inl h1))
    · rcases ho r k' hk' h1 with h2 | h2
      · exact .inl (List.mem_append.2 (.inr (by rw [h2]; exact List.mem_singleton.2 rfl)))
      · exact .inr h2
end
end Go.Mesh
