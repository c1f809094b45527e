/- Words for maps: a block that is a map with known entries, over typed keys and elements: look, put, len. Plain lemmas; no condition of their own. Words for maps, more: an entry that is written later, rows that lie apart, maps of rows, queues. Plain lemmas; no condition of their own. Words for queues: a slice of the call's own that is cut from the front and appended to. Plain lemmas; no condition of their own. Keys of maps: numbers, pairs and triples of numbers. Words for maps of rows of numbers: what is read, what an append leaves. Plain lemmas; no condition of their own. -/
import Derived.Test.YtpbdcppaiafbgaaGreatWords
import Derived.Maps.OwnSet
import Derived.Laws.MakeOwn
import Derived.Maps.AppendAt
import Derived.Laws.OwnMore
import Derived.Test.YtpbdcppaiafbgaaGreatProg
import Derived.DeepKeys4
import Derived.MapViews
import Derived.KernelRfl
namespace Go.Words
open Go Go.RowKit Go.Maps Go.MapKept Go.ChangeMaps

structure KeyT (P : Program) (k : TypeId) {κ : Type} (enc : κ → Value) (ok : κ → Prop) : Prop where
  keyed : Keyed P k
  reads : ∀ x, ok x → ∃ kl, keyOf P k (enc x) = some kl
  inj : ∀ x y, ok x → ok y → enc x = enc y → x = y

section plain
variable {κ α : Type} [DecidableEq κ]
def look : List (κ × α) → κ → Option α
  | [], _ => none
  | p :: l, x => if p.1 = x then some p.2 else look l x
def put : List (κ × α) → κ → α → List (κ × α)
  | [], x, v => [(x, v)]
  | p :: l, x, v => if p.1 = x then (x, v) :: l else p :: put l x v
theorem look_put_same (l : List (κ × α)) (x : κ) (v : α) : look (put l x v) x = some v := by
  induction l with
  | nil => simp [put, look]
  | cons p l ih =>
    unfold put
    split
    · simp [look]
    · rename_i h; simp [look, h, ih]
theorem look_put_other (l : List (κ × α)) {x y : κ} (v : α) (h : x ≠ y) : look (put l x v) y = look l y := by
  induction l with
  | nil => simp [put, look, h]
  | cons p l ih =>
    unfold put
    split
    · rename_i h1; subst h1; simp [look, h]
    · simp [look, ih]
theorem look_put (l : List (κ × α)) (x y : κ) (v : α) : look (put l x v) y = if x = y then some v else look l y := by
  split
  · rename_i h; subst h; exact look_put_same l x v
  · rename_i h; exact look_put_other l v h
theorem look_isSome (l : List (κ × α)) (x : κ) : (look l x).isSome = true ↔ x ∈ l.map (·.1) := by
  induction l with
  | nil => simp [look]
  | cons p l ih =>
    unfold look
    split
    · rename_i h; simp [h]
    · rename_i h
      rw [ih]
      simp only [List.map_cons, List.mem_cons]
      exact ⟨.inr, fun h' => h'.resolve_left fun e => h e.symm⟩
theorem look_none (l : List (κ × α)) (x : κ) : look l x = none ↔ x ∉ l.map (·.1) := by
  rw [← look_isSome, Bool.not_eq_true, Option.isSome_eq_false_iff, Option.isNone_iff_eq_none]
theorem put_new {l : List (κ × α)} {x : κ} (v : α) (h : x ∉ l.map (·.1)) : put l x v = l ++ [(x, v)] := by
  induction l with
  | nil => rfl
  | cons p l ih =>
    simp only [List.map_cons, List.mem_cons, not_or] at h
    unfold put
    rw [if_neg fun e => h.1 e.symm, ih h.2]
    rfl
theorem put_at {l : List (κ × α)} {x : κ} (v : α) {j : Nat} (hj : j < l.length) (hx : l[j].1 = x) (hn : ∀ i (h : i < l.length), i ≠ j → l[i].1 ≠ x) : put l x v = l.set j (x, v) := by
  induction l generalizing j with
  | nil => simp at hj
  | cons p l ih =>
    unfold put
    cases j with
    | zero => rw [if_pos (show p.1 = x from hx), List.set_cons_zero]
    | succ j =>
      have h0 : p.1 ≠ x := hn 0 (by simp) (by omega)
      rw [if_neg h0, List.set_cons_succ, ih (by simpa using hj) hx fun i h hne => hn (i + 1) (by simpa using h) (by omega)]
theorem length_put_has {l : List (κ × α)} {x : κ} (v : α) (h : x ∈ l.map (·.1)) : (put l x v).length = l.length := by
  induction l with
  | nil => simp at h
  | cons p l ih =>
    unfold put
    split
    · rfl
    · rename_i h1
      simp only [List.map_cons, List.mem_cons] at h
      rw [List.length_cons, ih (h.resolve_left fun e => h1 e.symm), List.length_cons]
theorem length_put_new {l : List (κ × α)} {x : κ} (v : α) (h : x ∉ l.map (·.1)) : (put l x v).length = l.length + 1 := by
  rw [put_new v h]; simp
theorem length_put_le (l : List (κ × α)) (x : κ) (v : α) : (put l x v).length ≤ l.length + 1 := by
  by_cases h : x ∈ l.map (·.1)
  · rw [length_put_has v h]; omega
  · rw [length_put_new v h]; omega
theorem keys_put {l : List (κ × α)} {x : κ} (v : α) (y : κ) : y ∈ (put l x v).map (·.1) ↔ y = x ∨ y ∈ l.map (·.1) := by
  rw [← look_isSome, look_put, ← look_isSome]
  by_cases h : x = y
  · simp [h]
  · rw [if_neg h]
    exact ⟨.inr, fun h' => h'.resolve_left fun e => h e.symm⟩
theorem put_keys_nodup {l : List (κ × α)} {x : κ} (v : α) (h : (l.map (·.1)).Nodup) : ((put l x v).map (·.1)).Nodup := by
  by_cases hx : x ∈ l.map (·.1)
  · have : (put l x v).map (·.1) = l.map (·.1) := by
      clear h
      induction l with
      | nil => simp at hx
      | cons p l ih =>
        unfold put
        split
        · rename_i h1; simp [h1]
        · rename_i h1
          simp only [List.map_cons, List.mem_cons] at hx
          rw [List.map_cons, ih (hx.resolve_left fun e => h1 e.symm), List.map_cons]
    rw [this]; exact h
  · rw [put_new v hx, List.map_append]
    exact List.nodup_append.2 ⟨h, by simp, fun a ha b hb e => by simp at hb; subst hb; exact hx (e ▸ ha)⟩
end plain

section
variable {P : Program} {k : TypeId} {κ α : Type} {enc : κ → Value} {ok : κ → Prop} {ev : α → Value} {w w' : World} {b : Nat} {l : List (κ × α)}

structure Mp (enc : κ → Value) (ok : κ → Prop) (ev : α → Value) (w : World) (b : Nat) (l : List (κ × α)) : Prop where
  block : ∃ es clock, w.heap[b]? = some (.map es clock) ∧ Stamped es clock ∧ es.toList.map (fun e => (e.key, e.val)) = l.map fun p => (enc p.1, ev p.2)
  keys : ∀ p ∈ l, ok p.1
  nodup : (l.map (·.1)).Nodup

theorem Mp.lt (h : Mp enc ok ev w b l) : b < w.heap.size := by
  obtain ⟨es, clock, hb, _⟩ := h.block
  exact (Array.getElem?_eq_some_iff.1 hb).1
theorem Mp.keep (h : Mp enc ok ev w b l) (hb : w'.heap[b]? = w.heap[b]?) : Mp enc ok ev w' b l := by
  obtain ⟨es, clock, hh, hs, hl⟩ := h.block
  exact ⟨⟨es, clock, hb.trans hh, hs, hl⟩, h.keys, h.nodup⟩
theorem Mp.below {B : Nat} (h : Mp enc ok ev w b l) (hb : Below B w w') (hg : b < B) : Mp enc ok ev w' b l := h.keep (hb.block b hg)
theorem Mp.grown {row : Option Nat} (h : Mp enc ok ev w b l) (hb : w.grownBy w' row) (hg : some b ≠ row) : Mp enc ok ev w' b l := h.keep (hb.block b h.lt hg)
theorem Mp.alloc (h : Mp enc ok ev w b l) (o : Obj) : Mp enc ok ev (w.alloc o) b l := h.keep (Below.heap_alloc w o b h.lt)
theorem Mp.drew (h : Mp enc ok ev w b l) : Mp enc ok ev w.drew b l := ⟨h.block, h.keys, h.nodup⟩
theorem Mp.far (h : Mp enc ok ev w b l) {p : Addr} (hp : b ≠ p.block) (u : Value) : Mp enc ok ev (w.setCell p u) b l := h.keep (Below.heap_setCell w p u b hp)
theorem Mp.new (w : World) : Mp enc ok ev (w.alloc (.map #[] 0)) w.heap.size ([] : List (κ × α)) :=
  ⟨⟨#[], 0, (MapKept.heap_alloc w _).1, stamped_empty 0, rfl⟩, fun _ h => (List.not_mem_nil h).elim, List.nodup_nil⟩
theorem Mp.new' {n : Nat} (hn : n = w.heap.size) : Mp enc ok ev (w.alloc (.map #[] 0)) n ([] : List (κ × α)) := by subst hn; exact Mp.new w
theorem Mp.no_row (h : Mp enc ok ev w b l) {base : Nat} {e : TypeId} {size n : Nat} {v : Value} {xs : List Value} (hv : w.ownsRow base e size v n xs) : some b ≠ v.ownBlock := by
  obtain ⟨es, clock, hb, _⟩ := h.block
  rcases hv.2 with ⟨rfl, _⟩ | ⟨g, cap, cur, rfl, _, hg, _⟩
  · simp [Value.ownBlock]
  · intro he
    have : b = g := by simpa [Value.ownBlock] using he
    subst this
    rw [hb] at hg
    cases hg

theorem entries_at {es : Array MapEntry} (hl : es.toList.map (fun e => (e.key, e.val)) = l.map fun p => (enc p.1, ev p.2)) {j : Nat} {e0 : MapEntry} (h : es.toList[j]? = some e0) : ∃ hj : j < l.length, e0.key = enc l[j].1 ∧ e0.val = ev l[j].2 := by
  have h1 : (es.toList.map (fun e => (e.key, e.val)))[j]? = some (e0.key, e0.val) := by rw [List.getElem?_map, h]; rfl
  rw [hl, List.getElem?_map] at h1
  obtain ⟨p, hp, he⟩ := Option.map_eq_some_iff.1 h1
  obtain ⟨hj, rfl⟩ := List.getElem?_eq_some_iff.1 hp
  simp only [Prod.mk.injEq] at he
  exact ⟨hj, he.1.symm, he.2.symm⟩
theorem entries_read {es : Array MapEntry} (K : KeyT P k enc ok) (hl : es.toList.map (fun e => (e.key, e.val)) = l.map fun p => (enc p.1, ev p.2)) (hk : ∀ p ∈ l, ok p.1) : ∀ e ∈ es.toList, ∃ kl, keyOf P k e.key = some kl := by
  intro e he
  obtain ⟨j, hj⟩ := List.mem_iff_getElem?.1 he
  obtain ⟨hj', h1, _⟩ := entries_at hl hj
  rw [h1]
  exact K.reads _ (hk _ (List.getElem_mem hj'))
theorem look_at [DecidableEq κ] {l : List (κ × α)} (hn : (l.map (·.1)).Nodup) {j : Nat} (hj : j < l.length) : look l l[j].1 = some l[j].2 := by
  induction l generalizing j with
  | nil => simp at hj
  | cons p l ih =>
    rw [List.map_cons, List.nodup_cons] at hn
    cases j with
    | zero => simp [look]
    | succ j =>
      simp only [List.getElem_cons_succ]
      have hne : p.1 ≠ (l[j]'(by simpa using hj)).1 := fun e => hn.1 (e ▸ List.mem_map_of_mem (List.getElem_mem _))
      unfold look
      rw [if_neg hne]
      exact ih hn.2 (by simpa using hj)

theorem Mp.look_run [DecidableEq κ] (h : Mp enc ok ev w b l) (K : KeyT P k enc ok) {t e : TypeId} (ht : P.underlying t = some (.map k e)) {z : Value} (hz : (zeroValue e).run P w = .ok z w) {x : κ} (hx : ok x) (c : Bool) :
    (Instr.lookup t (.map (some b)) (enc x) c).run P w = .ok (if c then .tuple #[((look l x).map ev).getD z, .bool (look l x).isSome] else ((look l x).map ev).getD z) w := by
  obtain ⟨es, clock, hb, hst, hl⟩ := h.block
  obtain ⟨kl, hkl⟩ := K.reads x hx
  rcases K.keyed.find w hkl es.toList (entries_read K hl h.keys) with ⟨f1, f2⟩ | ⟨j, e0, f1, f2, f3⟩
  · have hno : look l x = none := by
      rw [look_none]
      intro hm
      obtain ⟨p, hp, rfl⟩ := List.mem_map.1 hm
      obtain ⟨j, hj, rfl⟩ := List.getElem_of_mem hp
      have hjl : j < es.toList.length := by
        have := congrArg List.length hl
        simp only [List.length_map] at this
        omega
      obtain ⟨_, h1, _⟩ := entries_at hl (List.getElem?_eq_getElem hjl)
      exact f2 _ (List.getElem_mem hjl) h1
    rw [hno]
    simp [Instr.lookup, run_underlying ht, MapKept.run_getObj_map hb, K.keyed.check w _ hkl, f1, hz, Result.andThen]
  · obtain ⟨hj, h1, h2⟩ := entries_at hl f2
    have hx2 : l[j].1 = x := K.inj _ _ (h.keys _ (List.getElem_mem hj)) hx (h1.symm.trans f3)
    have hlk : look l x = some l[j].2 := by rw [← hx2]; exact look_at h.nodup hj
    rw [hlk]
    simp [Instr.lookup, run_underlying ht, MapKept.run_getObj_map hb, K.keyed.check w _ hkl, f1, Result.andThen, h2]

theorem Mp.put_run [DecidableEq κ] (h : Mp enc ok ev w b l) (K : KeyT P k enc ok) {t e : TypeId} (ht : P.underlying t = some (.map k e)) {x : κ} (hx : ok x) (v : α) :
    ∃ w', (Instr.mapUpdate t (.map (some b)) (enc x) (ev v)).run P w = .ok () w' ∧ Mp enc ok ev w' b (put l x v) ∧ w.grownBy w' (some b) ∧ w'.heap.size = w.heap.size := by
  obtain ⟨es, clock, hb, hst, hl⟩ := h.block
  obtain ⟨kl, hkl⟩ := K.reads x hx
  have hkeys : ∀ p ∈ put l x v, ok p.1 := by
    intro p hp
    rcases (keys_put v p.1).1 (List.mem_map_of_mem hp) with he | hm
    · rw [he]; exact hx
    · obtain ⟨q, hq, he⟩ := List.mem_map.1 hm
      rw [← he]; exact h.keys _ hq
  have hgrow : ∀ o, w.grownBy (setBlock w b o) (some b) := fun o => ⟨rfl, rfl, rfl, by simp [setBlock], fun i _ hi => heap_setBlock_other hb _ (fun e => hi (by rw [e]))⟩
  have hsize : ∀ o, (setBlock w b o).heap.size = w.heap.size := fun o => by simp [setBlock]
  rcases K.keyed.find w hkl es.toList (entries_read K hl h.keys) with ⟨f1, f2⟩ | ⟨j, e0, f1, f2, f3⟩
  · have hno : x ∉ l.map (·.1) := by
      intro hm
      obtain ⟨p, hp, rfl⟩ := List.mem_map.1 hm
      obtain ⟨j, hj, rfl⟩ := List.getElem_of_mem hp
      have hjl : j < es.toList.length := by
        have := congrArg List.length hl
        simp only [List.length_map] at this
        omega
      obtain ⟨_, h1, _⟩ := entries_at hl (List.getElem?_eq_getElem hjl)
      exact f2 _ (List.getElem_mem hjl) h1
    refine ⟨setBlock w b (.map (es.push ⟨enc x, ev v, clock⟩) (clock + 1)), ?_, ⟨⟨_, _, heap_setBlock_same hb _, stamped_push hst f2, ?_⟩, hkeys, put_keys_nodup v h.nodup⟩, hgrow _, hsize _⟩
    · simp [Instr.mapUpdate, run_underlying ht, MapKept.run_getObj_map hb, K.keyed.check w false hkl, f1, MapKept.run_setObj_map _ hb, Result.andThen, setBlock]
    · rw [put_new v hno, Array.toList_push, List.map_append, List.map_append, hl]
      rfl
  · obtain ⟨hj, h1, h2⟩ := entries_at hl f2
    have hx2 : l[j].1 = x := K.inj _ _ (h.keys _ (List.getElem_mem hj)) hx (h1.symm.trans f3)
    have hj2 : es[j]? = some e0 := by simpa using f2
    refine ⟨setBlock w b (.map (es.modify j (fun e' => { e' with key := enc x, val := ev v })) clock), ?_, ⟨⟨_, _, heap_setBlock_same hb _, stamped_modify hst _ _ (fun _ _ => rfl) (fun e' _ he' => by rw [hj2] at he'; cases he'; exact f3.symm), ?_⟩, hkeys, put_keys_nodup v h.nodup⟩, hgrow _, hsize _⟩
    · simp [Instr.mapUpdate, run_underlying ht, MapKept.run_getObj_map hb, K.keyed.check w false hkl, f1, hj2, f3, K.keyed.stays w hkl, MapKept.run_setObj_map _ hb, Result.andThen, setBlock]
    · rw [put_at v hj hx2 fun i hi hne he => hne ?_, Array.toList_modify, modify_eq_set _ _ _ _ f2, List.map_set, List.map_set, hl]
      have hnd := h.nodup
      have e1 : (l.map (·.1))[i]'(by simpa using hi) = (l.map (·.1))[j]'(by simpa using hj) := by
        rw [List.getElem_map, List.getElem_map, he, hx2]
      exact (List.getElem_inj hnd).1 e1

theorem Mp.len_run (h : Mp enc ok ev w b l) {t e : TypeId} (ht : P.underlying t = some (.map k e)) (ty : TypeId) : (Builtin.len_ #[t] ty #[.map (some b)]).run P w = .ok (.int .i64 l.length) w := by
  obtain ⟨es, clock, hb, hst, hl⟩ := h.block
  have e1 : es.size = l.length := by
    have := congrArg List.length hl
    simpa using this
  simp [Builtin.len_, run_underlying ht, MapKept.run_getObj_map hb, goInt, Result.andThen, e1]
end

section
variable {P : Program} (w : World) {ops : Array Oper} {rest : List Oper} {o : Oper} {a : Act} {Q : Exit → Act → World → Prop}
variable {κ α : Type} [DecidableEq κ] {enc : κ → Value} {ok : κ → Prop} {ev : α → Value}

theorem wpList_look (hg : o.guard = none) (m x : Operand) (t : TypeId) (hop : o.op = Op.lookup t m x false) (k e : TypeId) (K : KeyT P k enc ok) (ht : P.underlying t = some (.map k e)) {z : Value} (hz : ∀ w, (zeroValue e).run P w = .ok z w)
    (b : Nat) (l : List (κ × α)) (hm : a.eval m = .map (some b)) (hown : Mp enc ok ev w b l) (key : κ) (hx : a.eval x = enc key) (hkey : ok key)
    (hK : wpList P ops Q rest (a.put o.dst (((look l key).map ev).getD z)) w) : wpList P ops Q (o :: rest) a w := by
  refine wpList_plain hg fun K' hK' => ?_
  have hrun := hown.look_run K ht (hz w) hkey false
  unfold Oper.wp
  simp [execOp, hop, hm, hx, hrun, Result.andThen]
  exact hK' _ _ hK
theorem wpList_look_ok (hg : o.guard = none) (m x : Operand) (t : TypeId) (hop : o.op = Op.lookup t m x true) (k e : TypeId) (K : KeyT P k enc ok) (ht : P.underlying t = some (.map k e)) {z : Value} (hz : ∀ w, (zeroValue e).run P w = .ok z w)
    (b : Nat) (l : List (κ × α)) (hm : a.eval m = .map (some b)) (hown : Mp enc ok ev w b l) (key : κ) (hx : a.eval x = enc key) (hkey : ok key)
    (hK : wpList P ops Q rest (a.put o.dst (.tuple #[((look l key).map ev).getD z, .bool (look l key).isSome])) w) : wpList P ops Q (o :: rest) a w := by
  refine wpList_plain hg fun K' hK' => ?_
  have hrun := hown.look_run K ht (hz w) hkey true
  unfold Oper.wp
  simp [execOp, hop, hm, hx, hrun, Result.andThen]
  exact hK' _ _ hK
theorem wpList_put (hg : o.guard = none) (m x v : Operand) (t : TypeId) (hop : o.op = Op.mapUpdate t m x v) (k e : TypeId) (K : KeyT P k enc ok) (ht : P.underlying t = some (.map k e))
    (b : Nat) (l : List (κ × α)) (hm : a.eval m = .map (some b)) (hown : Mp enc ok ev w b l) (key : κ) (hx : a.eval x = enc key) (hkey : ok key) (val : α) (hv : a.eval v = ev val)
    (hK : ∀ w', Mp enc ok ev w' b (put l key val) → w.grownBy w' (some b) → w'.heap.size = w.heap.size → wpList P ops Q rest (a.put o.dst undef) w') : wpList P ops Q (o :: rest) a w := by
  refine wpList_plain hg fun K' hK' => ?_
  obtain ⟨w', hrun, r1, r2, r3⟩ := hown.put_run K ht hkey val
  unfold Oper.wp
  simp [execOp, hop, hm, hx, hv, hrun, Result.andThen]
  exact hK' _ _ (hK w' r1 r2 r3)
end
theorem wpList_len {P : Program} (w : World) {ops : Array Oper} {rest : List Oper} {o : Oper} {a : Act} {Q : Exit → Act → World → Prop} {κ α : Type} {enc : κ → Value} {ok : κ → Prop} {ev : α → Value} (hg : o.guard = none) (m : Operand) (t : TypeId) (hop : o.op = Op.call { callee := Callee.builtin Builtin.len, args := #[m], argTypes := #[t] }) (k e : TypeId) (ht : P.underlying t = some (.map k e))
    (b : Nat) (l : List (κ × α)) (hm : a.eval m = .map (some b)) (hown : Mp enc ok ev w b l)
    (hK : wpList P ops Q rest (a.put o.dst (.int .i64 l.length)) w) : wpList P ops Q (o :: rest) a w := by
  refine wpList_plain hg fun K' hK' => ?_
  unfold Oper.wp
  simp [execOp, hop, resolve, invoke, builtin, hm, hown.len_run ht o.type, Result.andThen]
  exact hK' _ _ hK
end Go.Words

namespace Go.Words
open Go Go.RowKit Go.Maps Go.MapKept Go.ChangeMaps

section
variable {P : Program} {k : TypeId} {κ α : Type} {enc : κ → Value} {ok : κ → Prop} {ev : α → Value} {w w' : World} {b : Nat} {l : List (κ × α)}
def StampAt (enc : κ → Value) (w : World) (b : Nat) (x : κ) (s : Int) : Prop := ∃ es clock e, ∃ j : Nat, w.heap[b]? = some (.map es clock) ∧ es[j]? = some e ∧ e.key = enc x ∧ (e.born : Int) = s
theorem StampAt.keep {x : κ} {s : Int} (h : StampAt enc w b x s) (hb : w'.heap[b]? = w.heap[b]?) : StampAt enc w' b x s := by
  obtain ⟨es, clock, e, j, h1, h2⟩ := h
  exact ⟨es, clock, e, j, hb.trans h1, h2⟩
theorem StampAt.grown {x : κ} {s : Int} {row : Option Nat} (h : StampAt enc w b x s) (hb : w.grownBy w' row) (hg : some b ≠ row) : StampAt enc w' b x s := by
  obtain ⟨es, clock, e, j, h1, h2⟩ := h
  exact ⟨es, clock, e, j, (hb.block b (Array.getElem?_eq_some_iff.1 h1).1 hg).trans h1, h2⟩

def ent [DecidableEq κ] (l : List (κ × α)) (x : κ) (z : α) : List (κ × α) := if (look l x).isSome then l else l ++ [(x, z)]

theorem Mp.entry_run [DecidableEq κ] (h : Mp enc ok ev w b l) (K : KeyT P k enc ok) {t e : TypeId} (ht : P.underlying t = some (.map k e)) (z : α) (hz : (zeroValue e).run P w = .ok (ev z) w) {x : κ} (hx : ok x) :
    ∃ s w', (Instr.mapEntry t (.map (some b)) (enc x)).run P w = .ok (.tuple #[ev ((look l x).getD z), .int .i64 s]) w' ∧ Mp enc ok ev w' b (ent l x z) ∧ StampAt enc w' b x s ∧ w.grownBy w' (some b) ∧ w'.heap.size = w.heap.size := by
  obtain ⟨es, clock, hb, hst, hl⟩ := h.block
  obtain ⟨kl, hkl⟩ := K.reads x hx
  have hgrow : ∀ o, w.grownBy (setBlock w b o) (some b) := fun o => ⟨rfl, rfl, rfl, by simp [setBlock], fun i _ hi => heap_setBlock_other hb _ (fun e => hi (by rw [e]))⟩
  have hsize : ∀ o, (setBlock w b o).heap.size = w.heap.size := fun o => by simp [setBlock]
  rcases K.keyed.find w hkl es.toList (entries_read K hl h.keys) with ⟨f1, f2⟩ | ⟨j, e0, f1, f2, f3⟩
  · have hno : x ∉ l.map (·.1) := by
      intro hm
      obtain ⟨p, hp, rfl⟩ := List.mem_map.1 hm
      obtain ⟨j, hj, rfl⟩ := List.getElem_of_mem hp
      have hjl : j < es.toList.length := by
        have := congrArg List.length hl
        simp only [List.length_map] at this
        omega
      obtain ⟨_, h1, _⟩ := entries_at hl (List.getElem?_eq_getElem hjl)
      exact f2 _ (List.getElem_mem hjl) h1
    have hlk := (look_none l x).2 hno
    refine ⟨clock, setBlock w b (.map (es.push ⟨enc x, ev z, clock⟩) (clock + 1)), ?_, ⟨⟨_, _, heap_setBlock_same hb _, stamped_push hst f2, ?_⟩, ?_, ?_⟩, ⟨_, _, ⟨enc x, ev z, clock⟩, es.size, heap_setBlock_same hb _, by simp, rfl, rfl⟩, hgrow _, hsize _⟩
    · simp [Instr.mapEntry, run_underlying ht, MapKept.run_getObj_map hb, K.keyed.check w false hkl, f1, hz, MapKept.run_setObj_map _ hb, Result.andThen, setBlock, hlk, goInt]
    · unfold ent; rw [hlk, Array.toList_push, List.map_append, hl]; simp
    · intro p hp
      unfold ent at hp; rw [hlk] at hp
      rcases List.mem_append.1 hp with hp | hp
      · exact h.keys _ hp
      · have : p = (x, z) := by simpa using hp
        rw [this]; exact hx
    · unfold ent; rw [hlk]
      simp only [Option.isSome_none, Bool.false_eq_true, if_false, List.map_append]
      exact List.nodup_append.2 ⟨h.nodup, by simp, fun a ha c hc e => by simp at hc; subst hc; exact hno (e ▸ ha)⟩
  · obtain ⟨hj, h1, h2⟩ := entries_at hl f2
    have hx2 : l[j].1 = x := K.inj _ _ (h.keys _ (List.getElem_mem hj)) hx (h1.symm.trans f3)
    have hlk : look l x = some l[j].2 := by rw [← hx2]; exact look_at h.nodup hj
    have hj2 : es[j]? = some e0 := by simpa using f2
    have hsame : (es.modify j (fun e' => { e' with key := enc x })) = es := by
      apply Array.ext_getElem?
      intro i
      rw [Array.getElem?_modify]
      by_cases hij : j = i
      · subst hij
        rw [if_pos rfl, hj2]
        simp only [Option.map_some, Option.some.injEq]
        rw [← f3]
      · rw [if_neg hij]
    refine ⟨e0.born, setBlock w b (.map es clock), ?_, ⟨⟨_, _, heap_setBlock_same hb _, hst, ?_⟩, ?_, ?_⟩, ⟨_, _, e0, j, heap_setBlock_same hb _, hj2, f3, rfl⟩, hgrow _, hsize _⟩
    · have hmod : ∀ v : Value, v = enc x → (es.modify j (fun e' => { e' with key := v })) = es := fun v hv => by rw [hv]; exact hsame
      simp [Instr.mapEntry, run_underlying ht, MapKept.run_getObj_map hb, K.keyed.check w false hkl, f1, hj2, f3, K.keyed.stays w hkl, MapKept.run_setObj_map _ hb, Result.andThen, setBlock, hlk, goInt, hsame, h2]
    · unfold ent; rw [hlk]; simpa using hl
    · unfold ent; rw [hlk]; exact h.keys
    · unfold ent; rw [hlk]; exact h.nodup

theorem Mp.stamp_run [DecidableEq κ] (h : Mp enc ok ev w b l) (K : KeyT P k enc ok) {t : TypeId} {x : κ} (hx : ok x) {s : Int} (hs : StampAt enc w b x s) (v : α) :
    ∃ w', (Instr.entryStore t (.map (some b)) (.int .i64 s) (ev v)).run P w = .ok () w' ∧ Mp enc ok ev w' b (put l x v) ∧ w.grownBy w' (some b) ∧ w'.heap.size = w.heap.size := by
  obtain ⟨es, clock, hb, hst, hl⟩ := h.block
  obtain ⟨es', clock', e0, j, hb', hj2, f3, hborn⟩ := hs
  rw [hb] at hb'
  injection hb' with hb'
  injection hb' with hb1 hb2
  subst hb1
  have f2 : es.toList[j]? = some e0 := by simpa using hj2
  obtain ⟨hj, h1, h2⟩ := entries_at hl f2
  have hx2 : l[j].1 = x := K.inj _ _ (h.keys _ (List.getElem_mem hj)) hx (h1.symm.trans f3)
  have hfind : es.findIdx? (fun e => (e.born : Int) == s) = some j := by
    obtain ⟨hjl, he0⟩ := Array.getElem?_eq_some_iff.1 hj2
    rw [Array.findIdx?_eq_some_iff_getElem]
    refine ⟨hjl, by rw [he0]; simp [hborn], fun i hi => ?_⟩
    intro hc
    have hbi : es[i].born = e0.born := by
      have : (es[i].born : Int) = s := by simpa using hc
      omega
    have hn := hst.2.1
    have e1 : (es.toList.map (·.born))[i]'(by simp; omega) = (es.toList.map (·.born))[j]'(by simpa using hjl) := by
      simp only [List.getElem_map, Array.getElem_toList]
      rw [hbi, he0]
    have := (List.getElem_inj hn).1 e1
    omega
  have hkeys : ∀ p ∈ put l x v, ok p.1 := by
    intro p hp
    rcases (keys_put v p.1).1 (List.mem_map_of_mem hp) with he | hm
    · rw [he]; exact hx
    · obtain ⟨q, hq, he⟩ := List.mem_map.1 hm
      rw [← he]; exact h.keys _ hq
  refine ⟨setBlock w b (.map (es.modify j (fun e' => { e' with val := ev v })) clock), ?_, ⟨⟨_, _, heap_setBlock_same hb _, stamped_modify hst _ _ (fun _ _ => rfl) (fun _ _ _ => rfl), ?_⟩, hkeys, put_keys_nodup v h.nodup⟩,
    ⟨rfl, rfl, rfl, by simp [setBlock], fun i _ hi => heap_setBlock_other hb _ (fun e => hi (by rw [e]))⟩, by simp [setBlock]⟩
  · simp [Instr.entryStore, MapKept.run_getObj_map hb, asInt, asIntOf, hfind, MapKept.run_setObj_map _ hb, Result.andThen, setBlock]
  · rw [put_at v hj hx2 fun i hi hne he => hne ?_, Array.toList_modify, modify_eq_set _ _ _ _ f2, List.map_set, List.map_set, hl]
    · rw [f3]
    · have hnd := h.nodup
      have e1 : (l.map (·.1))[i]'(by simpa using hi) = (l.map (·.1))[j]'(by simpa using hj) := by
        rw [List.getElem_map, List.getElem_map, he, hx2]
      exact (List.getElem_inj hnd).1 e1
end

section
variable {P : Program} (w : World) {ops : Array Oper} {rest : List Oper} {o : Oper} {a : Act} {Q : Exit → Act → World → Prop}
variable {κ α : Type} [DecidableEq κ] {enc : κ → Value} {ok : κ → Prop} {ev : α → Value}
theorem wpList_entry (hg : o.guard = none) (m x : Operand) (t : TypeId) (hop : o.op = Op.mapEntry t m x) (k e : TypeId) (K : KeyT P k enc ok) (ht : P.underlying t = some (.map k e)) (z : α) (hz : ∀ w, (zeroValue e).run P w = .ok (ev z) w)
    (b : Nat) (l : List (κ × α)) (hm : a.eval m = .map (some b)) (hown : Mp enc ok ev w b l) (key : κ) (hx : a.eval x = enc key) (hkey : ok key)
    (hK : ∀ s w', Mp enc ok ev w' b (ent l key z) → StampAt enc w' b key s → w.grownBy w' (some b) → w'.heap.size = w.heap.size → wpList P ops Q rest (a.put o.dst (.tuple #[ev ((look l key).getD z), .int .i64 s])) w') : wpList P ops Q (o :: rest) a w := by
  refine wpList_plain hg fun K' hK' => ?_
  obtain ⟨s, w', hrun, r1, r2, r3, r4⟩ := hown.entry_run K ht z (hz w) hkey
  unfold Oper.wp
  simp [execOp, hop, hm, hx, hrun, Result.andThen]
  exact hK' _ _ (hK s w' r1 r2 r3 r4)
theorem wpList_stamp (hg : o.guard = none) (m x v : Operand) (t : TypeId) (hop : o.op = Op.entryStore t m x v) (k : TypeId) (K : KeyT P k enc ok)
    (b : Nat) (l : List (κ × α)) (hm : a.eval m = .map (some b)) (hown : Mp enc ok ev w b l) (key : κ) (s : Int) (hs : StampAt enc w b key s) (hx : a.eval x = .int .i64 s) (hkey : ok key) (val : α) (hv : a.eval v = ev val)
    (hK : ∀ w', Mp enc ok ev w' b (put l key val) → w.grownBy w' (some b) → w'.heap.size = w.heap.size → wpList P ops Q rest (a.put o.dst undef) w') : wpList P ops Q (o :: rest) a w := by
  refine wpList_plain hg fun K' hK' => ?_
  obtain ⟨w', hrun, r1, r2, r3⟩ := hown.stamp_run K (t := t) hkey hs val
  unfold Oper.wp
  simp [execOp, hop, hm, hx, hv, hrun, Result.andThen]
  exact hK' _ _ (hK w' r1 r2 r3)
end

def encI (n : Nat) : Value := .int .i64 (n : Int)
structure Fam (w : World) (base : Nat) (e : TypeId) (vs : List Value) (Ls : List (List Nat)) : Prop where
  len : vs.length = Ls.length
  own : ∀ i (h : i < vs.length) (h' : i < Ls.length), w.ownsRow base e 1 vs[i] Ls[i].length (Ls[i].map encI)
  apart : ∀ i j (h : i < vs.length) (h' : j < vs.length), i ≠ j → vs[i].ownBlock = none ∨ vs[i].ownBlock ≠ vs[j].ownBlock
section
variable {w w' : World} {base : Nat} {e : TypeId} {vs : List Value} {Ls : List (List Nat)}
theorem Fam.nil (w : World) (base : Nat) (e : TypeId) : Fam w base e [] [] := ⟨rfl, fun i h => by simp at h, fun i j h => by simp at h⟩
theorem Fam.kept (h : Fam w base e vs Ls) {row : Option Nat} (hg : w.grownBy w' row) (hr : ∀ i (hi : i < vs.length), vs[i].ownBlock = none ∨ vs[i].ownBlock ≠ row) : Fam w' base e vs Ls :=
  ⟨h.len, fun i h1 h2 => (h.own i h1 h2).kept hg (hr i h1), h.apart⟩
theorem Fam.below (h : Fam w base e vs Ls) {B : Nat} (hb : Below B w w') (hB : w.heap.size ≤ B) : Fam w' base e vs Ls := ⟨h.len, fun i h1 h2 => own_below (h.own i h1 h2) hb hB, h.apart⟩
theorem Fam.not_map (h : Fam w base e vs Ls) {b : Nat} {es : Array MapEntry} {clock : Nat} (hb : w.heap[b]? = some (.map es clock)) : ∀ i (hi : i < vs.length), vs[i].ownBlock = none ∨ vs[i].ownBlock ≠ some b := by
  intro i hi
  rcases (h.own i hi (by rw [← h.len]; exact hi)).2 with ⟨hv, _⟩ | ⟨g, cap, cur, hv, _, hg, _⟩
  · left; rw [hv]; rfl
  · right; rw [hv]
    intro he
    have : g = b := by simpa [Value.ownBlock] using he
    subst this
    rw [hb] at hg; cases hg
theorem Fam.not_type (h : Fam w base e vs Ls) {b : Nat} {cs : Array Value} {t : TypeId} {fr : Nat × Nat} (hb : w.heap[b]? = some (.cells cs t fr)) (hne : t ≠ e) : ∀ i (hi : i < vs.length), vs[i].ownBlock = none ∨ vs[i].ownBlock ≠ some b := by
  intro i hi
  rcases (h.own i hi (by rw [← h.len]; exact hi)).2 with ⟨hv, _⟩ | ⟨g, cap, cur, hv, _, hg, _⟩
  · left; rw [hv]; rfl
  · right; rw [hv]
    intro he
    have : g = b := by simpa [Value.ownBlock] using he
    subst this
    rw [hb] at hg
    injection hg with hg
    injection hg with _ h2
    exact hne h2
theorem Fam.set (h : Fam w base e vs Ls) {i : Nat} (hi : i < vs.length) {v' : Value} {L' : List Nat} (hown : w'.ownsRow base e 1 v' L'.length (L'.map encI)) (hg : w.grownBy w' vs[i].ownBlock) (hat : v'.ownBlock = vs[i].ownBlock ∨ ∃ k, v'.ownBlock = some k ∧ w.heap.size ≤ k) :
    Fam w' base e (vs.set i v') (Ls.set i L') := by
  have hlt : ∀ j (hj : j < vs.length) k, vs[j].ownBlock = some k → k < w.heap.size := fun j hj k hk => ((h.own j hj (by rw [← h.len]; exact hj)).lt k hk).2
  have hother : ∀ j (hj : j < vs.length), j ≠ i → vs[j].ownBlock = none ∨ vs[j].ownBlock ≠ v'.ownBlock := by
    intro j hj hne
    rcases hat with hat | ⟨k, hat, hk⟩
    · rw [hat]; exact h.apart j i hj hi hne
    · cases hb : vs[j].ownBlock with
      | none => exact .inl rfl
      | some g =>
        right
        rw [hat]
        intro he
        injection he with he
        have := hlt j hj g hb
        omega
  refine ⟨by simp [h.len], fun j h1 h2 => ?_, fun j m h1 h2 hne => ?_⟩
  · simp only [List.length_set] at h1 h2
    rw [List.getElem_set, List.getElem_set]
    by_cases hij : i = j
    · rw [if_pos hij, if_pos hij]; exact hown
    · rw [if_neg hij, if_neg hij]
      exact (h.own j h1 h2).kept hg (h.apart j i h1 hi (fun e => hij e.symm))
  · simp only [List.length_set] at h1 h2
    rw [List.getElem_set, List.getElem_set]
    by_cases hij : i = j
    · rw [if_pos hij]
      by_cases him : i = m
      · omega
      · rw [if_neg him]
        rcases hother m h2 (fun e => him e.symm) with h9 | h9
        · cases hv : v'.ownBlock with
          | none => exact .inl rfl
          | some g => right; rw [h9]; simp
        · exact .inr fun e => h9 e.symm
    · rw [if_neg hij]
      by_cases him : i = m
      · rw [if_pos him]
        exact hother j h1 (fun e => hij e.symm)
      · rw [if_neg him]
        exact h.apart j m h1 h2 hne
theorem Fam.snoc_nil (h : Fam w base e vs Ls) : Fam w base e (vs ++ [.slice none 0 0]) (Ls ++ [[]]) := by
  have hl := h.len
  refine ⟨by simp [hl], fun i h1 h2 => ?_, fun i j h1 h2 hne => ?_⟩
  · by_cases hi : i < vs.length
    · rw [List.getElem_append_left hi, List.getElem_append_left (by omega)]
      exact h.own i hi (by omega)
    · have : i = vs.length := by simp at h1; omega
      subst this
      rw [List.getElem_append_right (by omega), List.getElem_append_right (by omega)]
      simp [World.ownsRow_nil]
  · by_cases hi : i < vs.length
    · rw [List.getElem_append_left hi]
      by_cases hj : j < vs.length
      · rw [List.getElem_append_left hj]; exact h.apart i j hi hj hne
      · rw [List.getElem_append_right (by omega)]
        cases hv : vs[i].ownBlock with
        | none => exact .inl rfl
        | some g => right; simp [Value.ownBlock]
    · rw [List.getElem_append_right (by omega)]
      simp [Value.ownBlock]
theorem Fam.nils (w : World) (base : Nat) (e : TypeId) (n : Nat) : Fam w base e (List.replicate n (.slice none 0 0)) (List.replicate n []) :=
  ⟨by simp, fun i h h' => by simp [World.ownsRow_nil], fun i j h h' _ => by simp [Value.ownBlock]⟩
end
end Go.Words

namespace Go.Words
open Go Go.RowKit

def Que (w : World) (base : Nat) (e : TypeId) (v : Value) (xs : List Nat) : Prop :=
  ∃ g off cap cur, v = .slice (some ⟨g, off, none⟩) xs.length cap ∧ base ≤ g ∧ w.heap[g]? = some (.cells cur e (0, 0)) ∧ xs.length ≤ cap ∧ cap ≤ maxLen ∧ off + cap ≤ cur.size ∧ (cur.toList.drop off).take xs.length = xs.map encI

section
variable {w w' : World} {base : Nat} {e : TypeId} {v : Value} {xs : List Nat}
theorem Que.keep (h : Que w base e v xs) (hb : ∀ g, v.ownBlock = some g → w'.heap[g]? = w.heap[g]?) : Que w' base e v xs := by
  obtain ⟨g, off, cap, cur, rfl, h1, h2, r⟩ := h
  exact ⟨g, off, cap, cur, rfl, h1, (hb g rfl).trans h2, r⟩
theorem Que.lt (h : Que w base e v xs) : ∀ g, v.ownBlock = some g → base ≤ g ∧ g < w.heap.size := by
  obtain ⟨g, off, cap, cur, rfl, h1, h2, r⟩ := h
  intro g' hg
  have : g = g' := by simpa [Value.ownBlock] using hg
  subst this
  exact ⟨h1, (Array.getElem?_eq_some_iff.1 h2).1⟩
theorem Que.below (h : Que w base e v xs) {B : Nat} (hb : Below B w w') (hB : w.heap.size ≤ B) : Que w' base e v xs :=
  h.keep fun g hg => hb.block g (Nat.lt_of_lt_of_le (h.lt g hg).2 hB)
theorem Que.grown (h : Que w base e v xs) {row : Option Nat} (hg : w.grownBy w' row) (hne : v.ownBlock ≠ row) : Que w' base e v xs :=
  h.keep fun g hg' => hg.block g (h.lt g hg').2 (by rw [← hg']; exact hne)
theorem Que.one (w : World) (e : TypeId) (x : Nat) {base : Nat} (hb : base ≤ w.heap.size) : Que (w.alloc (.cells #[encI x] e)) base e (.slice (some ⟨w.heap.size, 0, none⟩) 1 1) [x] :=
  ⟨w.heap.size, 0, 1, #[encI x], rfl, hb, heap_alloc_new w _, Nat.le_refl _, by unfold maxLen; omega, Nat.le_refl _, rfl⟩
theorem Que.form (h : Que w base e v xs) : ∃ g off cap, v = .slice (some ⟨g, off, none⟩) xs.length cap ∧ xs.length ≤ cap := by
  obtain ⟨g, off, cap, cur, h1, _, _, h2, _⟩ := h
  exact ⟨g, off, cap, h1, h2⟩
theorem Que.head {x : Nat} {g off n cap : Nat} (h : Que w base e (.slice (some ⟨g, off, none⟩) n cap) (x :: xs)) : w.cell? ⟨g, off, none⟩ = some (.int .i64 (x : Int)) := by
  obtain ⟨g', off', cap', cur, hv, h1, h2, h3, h4, h5, h6⟩ := h
  injection hv with hv _ _
  injection hv with hv
  injection hv with e1 e2
  subst e1; subst e2
  rw [cell_of_row w g off cur e (0, 0) h2]
  have h7 := congrArg (fun l => l[0]?) h6
  simp only [List.length_cons, List.map_cons, List.getElem?_cons_zero] at h7
  rw [List.getElem?_take, if_pos (by omega), List.getElem?_drop, Nat.add_zero] at h7
  simpa [encI] using h7
theorem Que.tail {x : Nat} {g off n cap : Nat} (h : Que w base e (.slice (some ⟨g, off, none⟩) n cap) (x :: xs)) :
    Que w base e (.slice (some ⟨g, off + 1, none⟩) (n - 1) (cap - 1)) xs ∧ (cap = 1 → Que w base e (.slice (some ⟨g, off, none⟩) xs.length 0) xs) := by
  obtain ⟨g', off', cap', cur, hv, h1, h2, h3, h4, h5, h6⟩ := h
  injection hv with hv hn hc
  injection hv with hv
  injection hv with e1 e2
  subst e1; subst e2; subst hc
  simp only [List.length_cons] at hn h3 h6
  refine ⟨⟨g, off + 1, cap - 1, cur, by rw [hn, Nat.add_sub_cancel], h1, h2, by omega, by omega, by omega, ?_⟩, fun hc1 => ?_⟩
  · have h7 := congrArg (List.drop 1) h6
    rw [List.drop_take, List.drop_drop] at h7
    simpa using h7
  · have hx : xs = [] := List.eq_nil_of_length_eq_zero (by omega)
    subst hx
    exact ⟨g, off, 0, cur, rfl, h1, h2, Nat.le_refl _, by omega, by omega, by simp⟩
end

theorem run_append_off {P : Program} (w : World) (t ty e : TypeId) (i : TypeInfo) (ht : P.underlying t = some (.slice e)) (hi : P.info? e = some i) (hs : i.size = 1) (g off sLen sCap : Nat) (cur : Array Value) (hg : w.heap[g]? = some (.cells cur e (0, 0)))
    (a : Addr) (c : Nat) (x : Value) (hx : w.cell? a = some x) (h1 : x.oneCell' = true) (hroom : sLen + 1 ≤ sCap) (hfit : off + sLen + 1 ≤ cur.size) :
    (Builtin.append_ #[t, t] ty #[.slice (some ⟨g, off, none⟩) sLen sCap, .slice (some a) 1 c]).run P w =
      .ok (.slice (some ⟨g, off, none⟩) (sLen + 1) sCap) (w.setRow g (cur.toList.take (off + sLen) ++ [x] ++ cur.toList.drop (off + sLen + 1)).toArray) := by
  have hnews : ∀ j u, [x][j]? = some u → w.cell? (a.add j) = some u := by
    intro j u hj
    match j, hj with
    | 0, hj => simp at hj; subst hj; simpa [Addr.add] using hx
  have hf := run_firstCells_some (P := P) w i.size 1 a 1 c [x] (by simp [hs]) hnews
  have hst := run_storeCells_at P g (off + sLen * i.size) e [x] 0 cur w hg (by simp [hs]; omega) (by simpa using h1)
  simp only [Nat.add_zero] at hst
  rw [hs] at hf hst
  rw [Nat.mul_one] at hst
  simp [Builtin.append_, run_underlying ht, sizeOf, typeInfo, hi, Builtin.lenOf, hroom, hs, hf, Addr.add_lit, hst]

theorem wpList_append_que {P : Program} (w : World) {ops : Array Oper} {rest : List Oper} {o : Oper} {a : Act} {Q : Exit → Act → World → Prop} (hgd : o.guard = none) (s x : Operand) (t : TypeId)
    (ho : o.op = .call { callee := .builtin .append, args := #[s, x], argTypes := #[t, t] }) (base : Nat) {e : TypeId} (hinfo : (P.info? e).map (fun i => (i.zero, i.size, i.bytes)) = some (some (.int .i64 0), 1, 8)) (ht : P.underlying t = some (.slice e))
    (v : Value) (xs : List Nat) (hs : a.eval s = v) (hown : Que w base e v xs) (y : Nat) (ad : Addr) (c : Nat) (hx : a.eval x = .slice (some ad) 1 c) (hy : w.cell? ad = some (.int .i64 (y : Int))) (hn : xs.length < 1000000000) (hbase : base ≤ w.heap.size)
    (h : ∀ v' w', Que w' base e v' (xs ++ [y]) → w.grownBy w' v.ownBlock → (v'.ownBlock = v.ownBlock ∨ v'.ownBlock = some w.heap.size) → wpList P ops Q rest (a.put o.dst v') w') :
    wpList P ops Q (o :: rest) a w := by
  obtain ⟨i0, hi, hz0, hz1, hz2⟩ := info_parts hinfo
  have key : ∃ v' w', (Builtin.append_ #[t, t] o.type #[v, .slice (some ad) 1 c]).run P w = .ok v' w' ∧ Que w' base e v' (xs ++ [y]) ∧ w.grownBy w' v.ownBlock ∧ (v'.ownBlock = v.ownBlock ∨ v'.ownBlock = some w.heap.size) := by
    obtain ⟨g, off, cap, cur, rfl, h1, h2, h3, h4, h5, h6⟩ := hown
    by_cases hroom : xs.length + 1 ≤ cap
    · have hr := run_append_off (P := P) w t o.type e i0 ht hi hz1 g off xs.length cap cur h2 ad c (.int .i64 (y : Int)) hy (by simp [Value.oneCell']) hroom (by omega)
      refine ⟨_, _, hr, ⟨g, off, cap, _, by simp, h1, setRow_heap w g cur _ e _ h2, by simp; omega, h4, ?_, ?_⟩, ⟨rfl, rfl, rfl, by simp, fun k _ hk => setRow_other w g k _ (fun e => hk (by simp [Value.ownBlock, e]))⟩, .inl rfl⟩
      · simp; omega
      · rw [List.length_append, List.map_append, ← h6]
        simp only [List.length_cons, List.length_nil, List.map_cons, List.map_nil]
        rw [List.append_assoc, List.drop_append_of_le_length (by simp; omega), List.drop_take, show off + xs.length - off = xs.length from by omega]
        rw [List.take_append, List.take_of_length_le (by simp; omega)]
        simp only [List.length_take, List.length_drop, Array.length_toList]
        rw [Nat.min_eq_left (by omega), show xs.length + (0 + 1) - xs.length = 1 from by omega]
        simp [encI]
    · have hcap : cap = xs.length := by omega
      have holds : ∀ j u, (xs.map encI)[j]? = some u → w.cell? ((⟨g, off, none⟩ : Addr).add j) = some u := by
        intro j u hj
        rw [Addr.add_lit, cell_of_row w g _ cur e (0, 0) h2]
        rw [← h6, List.getElem?_take] at hj
        split at hj
        · rw [List.getElem?_drop] at hj; simpa using hj
        · cases hj
      have hnews : ∀ j u, [Value.int .i64 (y : Int)][j]? = some u → w.cell? (ad.add j) = some u := by
        intro j u hj
        match j, hj with
        | 0, hj => simp at hj; subst hj; simpa [Addr.add] using hy
      have hr := run_append_grow (P := P) w t o.type e i0 (.int .i64 0) ht hi hz0 ⟨g, off, none⟩ xs.length cap (xs.map encI) (by simp [hz1]) holds ad 1 c [.int .i64 (y : Int)] (by simp [hz1]) hnews (by omega) (by omega) (by
        rw [hz2]
        exact growslice_fits (by omega) (by omega))
      have hge := grownCap_ge w (xs.length + 1) cap e
      have hcm : grownCap w (xs.length + 1) cap e ≤ maxLen := grownCap_le_maxLen w (xs.length + 1) cap e (by unfold maxLen; omega)
      refine ⟨_, _, hr, ⟨w.heap.size, 0, _, _, by simp, hbase, heap_alloc_new w.drew _, by simpa using hge, hcm, ?_, ?_⟩, ⟨rfl, rfl, rfl, by simp, fun k hk _ => Below.heap_alloc w.drew _ k hk⟩, .inr rfl⟩
      · simp [size_zeroCells, Value.cells]; omega
      · simp only [List.drop_zero, Array.toList_append, List.append_assoc]
        rw [← List.append_assoc, List.take_left' (by simp)]
        simp [encI]
  obtain ⟨v', w', hr, k2, k3, k5⟩ := key
  refine wpList_plain hgd fun K hK => ?_
  unfold Oper.wp execOp
  simp only [ho, resolve, invoke, builtin, Sem.run_bind, Sem.run_pure, Result.andThen_ok, List.map_toArray, List.map_cons, List.map_nil, hs, hx, hr]
  exact hK _ _ (h v' w' k2 k3 k5)
end Go.Words

namespace Go.Words
open Go Go.RowKit Go.Maps
def I64 (x : Int) : Prop := -9223372036854775808 ≤ x ∧ x ≤ 9223372036854775807
theorem I64.wf {x : Int} (h : I64 x) : (Lit.int .i64 x).wf = true := by
  exact WalkArith.wf_i64 h
theorem I64.nat {n : Nat} (h : n ≤ 9223372036854775807) : I64 (n : Int) := by unfold I64; omega
def enc1 (x : Int) : Value := .int .i64 x
def enc2 (x : Int × Int) : Value := .agg #[.int .i64 x.1, .int .i64 x.2]
def enc3 (x : Int × Int × Int) : Value := .agg #[.int .i64 x.1, .int .i64 x.2.1, .int .i64 x.2.2]
def ok2 (x : Int × Int) : Prop := I64 x.1 ∧ I64 x.2
def ok3 (x : Int × Int × Int) : Prop := I64 x.1 ∧ I64 x.2.1 ∧ I64 x.2.2
theorem key_int {P : Program} {k : TypeId} (hk : P.underlying k = some (.int .i64)) : KeyT P k enc1 I64 :=
  ⟨int_keyed hk, fun _ hx => ⟨_, keyOf_int_mk hk hx.wf⟩, fun x y _ _ h => by unfold enc1 at h; injection h⟩
theorem key_lits_int {P : Program} {d : Nat} {k : TypeId} (hk : P.underlying k = some (.int .i64)) {x : Int} (hx : I64 x) : P.keyLits (d + 1) k [.int .i64 x] = some [.int .i64 x] := by
  unfold Program.keyLits
  rw [hk]
  simp [hx.wf]
theorem key_reads {P : Program} {k e : TypeId} {n : Nat} (hk : P.underlying k = some (.array n e)) (he : P.underlying e = some (.int .i64)) (hc : P.cellsOf k = n) (hce : P.cellsOf e = 1) (hkt : P.keyType k = true) (hsz : 1 ≤ P.types.size)
    (xs : List Int) (hn : xs.length = n) (hx : ∀ x ∈ xs, I64 x) (hf : (Value.agg (xs.map (Value.int .i64)).toArray).formed P k = true) : ∃ kl, keyOf P k (.agg (xs.map (Value.int .i64)).toArray) = some kl := by
  unfold keyOf
  rw [hk]
  simp only [hkt, hf, Bool.and_self, if_true]
  obtain ⟨d, hd⟩ : ∃ d, P.types.size = d + 1 := ⟨P.types.size - 1, by omega⟩
  rw [hd]
  have hm : ∃ ls, P.keyLits (d + 1 + 1) k (Value.agg (xs.map (Value.int .i64)).toArray).cells.toList = some ls := by
    unfold Program.keyLits
    rw [hk]
    have hcells : (Value.agg (xs.map (Value.int .i64)).toArray).cells.toList = xs.map (Value.int .i64) := by simp [Value.cells]
    rw [hcells]
    simp only [List.length_map, hn, hc, if_true, hce, Nat.mul_one]
    have hall : ∀ l : List Nat, (∀ i ∈ l, i < n) → ∃ ls, (l.mapM fun i => P.keyLits (d + 1) e (((xs.map (Value.int .i64)).drop i).take 1)) = some ls := by
      intro l
      induction l with
      | nil => intro _; exact ⟨[], rfl⟩
      | cons i l ih =>
        intro h
        obtain ⟨ls, hls⟩ := ih fun j hj => h j (List.mem_cons_of_mem _ hj)
        have hi : i < xs.length := by rw [hn]; exact h i List.mem_cons_self
        have h1 : ((xs.map (Value.int .i64)).drop i).take 1 = [.int .i64 xs[i]] := by
          rw [List.drop_eq_getElem_cons (by simpa using hi)]; simp
        refine ⟨[.int .i64 xs[i]] :: ls, ?_⟩
        rw [List.mapM_cons, h1, key_lits_int he (hx _ (List.getElem_mem hi)), hls]
        rfl
    obtain ⟨ls, hls⟩ := hall (List.range n) fun i hi => List.mem_range.1 hi
    exact ⟨ls.flatten, by rw [hls]; rfl⟩
  obtain ⟨ls, hls⟩ := hm
  rw [hls]
  exact ⟨_, rfl⟩
end Go.Words
namespace Go.Proofs.YtpbdcppaiafbgaaGreat
open Go Go.RowKit Go.Words Go.Maps

theorem laidOut : laidOutB Tryz.prog = true := by kernel_rfl
theorem law3 : Keyed Tryz.prog 56 := Keyed.of_law (deep_law_laid laidOut (m := 2) (by omega) (of_decide_eq_true (by kernel_rfl)) (by kernel_rfl) (by rw [Tryz.underlying56]))
theorem law2 : Keyed Tryz.prog 38 := Keyed.of_law (deep_law_laid laidOut (m := 2) (by omega) (of_decide_eq_true (by kernel_rfl)) (by kernel_rfl) (by rw [Tryz.underlying38]))
theorem lawE : Keyed Tryz.prog 39 := Keyed.of_law (deep_law_laid laidOut (m := 2) (by omega) (of_decide_eq_true (by kernel_rfl)) (by kernel_rfl) (by rw [Tryz.underlying39]))
theorem cells3 : Tryz.prog.cellsOf 56 = 3 := by kernel_rfl
theorem cells2 : Tryz.prog.cellsOf 38 = 2 := by kernel_rfl
theorem cellsE : Tryz.prog.cellsOf 39 = 2 := by kernel_rfl
theorem cellsI : Tryz.prog.cellsOf 3 = 1 := by kernel_rfl
theorem types1 : 1 ≤ Tryz.prog.types.size := of_decide_eq_true (by kernel_rfl)
theorem keyI : KeyT Tryz.prog 3 enc1 I64 := key_int Tryz.underlying3
theorem key3 : KeyT Tryz.prog 56 enc3 ok3 where
  keyed := law3
  reads := fun x ⟨h1, h2, h3⟩ => key_reads (xs := [x.1, x.2.1, x.2.2]) Tryz.underlying56 Tryz.underlying3 cells3 cellsI (by kernel_rfl) types1 rfl (by simp [h1, h2, h3]) (by simp [Value.formed, Tryz.underlying56, cells3])
  inj := fun x y _ _ h => by
    obtain ⟨x1, x2, x3⟩ := x
    obtain ⟨y1, y2, y3⟩ := y
    unfold enc3 at h
    simp only [Value.agg.injEq] at h
    simpa using h
theorem key2 : KeyT Tryz.prog 38 enc2 ok2 where
  keyed := law2
  reads := fun x ⟨h1, h2⟩ => key_reads (xs := [x.1, x.2]) Tryz.underlying38 Tryz.underlying3 cells2 cellsI (by kernel_rfl) types1 rfl (by simp [h1, h2]) (by simp [Value.formed, Tryz.underlying38, cells2])
  inj := fun x y _ _ h => by
    obtain ⟨x1, x2⟩ := x
    obtain ⟨y1, y2⟩ := y
    unfold enc2 at h
    simp only [Value.agg.injEq] at h
    simpa using h
theorem keyE : KeyT Tryz.prog 39 enc2 ok2 where
  keyed := lawE
  reads := fun x ⟨h1, h2⟩ => key_reads (xs := [x.1, x.2]) Tryz.underlying39 Tryz.underlying3 cellsE cellsI (by kernel_rfl) types1 rfl (by simp [h1, h2]) (by simp [Value.formed, Tryz.underlying39, cellsE])
  inj := fun x y _ _ h => by
    obtain ⟨x1, x2⟩ := x
    obtain ⟨y1, y2⟩ := y
    unfold enc2 at h
    simp only [Value.agg.injEq] at h
    simpa using h
theorem zero_row (w : World) : (zeroValue 28).run Tryz.prog w = .ok (.slice none 0 0) w := by kernel_rfl
theorem zero_bool (w : World) : (zeroValue 4).run Tryz.prog w = .ok (.bool false) w := by kernel_rfl
theorem zero_int (w : World) : (zeroValue 3).run Tryz.prog w = .ok (.int .i64 0) w := by kernel_rfl
end Go.Proofs.YtpbdcppaiafbgaaGreat

namespace Go.Words
open Go Go.RowKit
section
variable {κ : Type} {w w' : World} {base : Nat} {e : TypeId} {lm : List (κ × Value)} {G : List (κ × List Nat)}
structure GRows (w : World) (base : Nat) (e : TypeId) (lm : List (κ × Value)) (G : List (κ × List Nat)) : Prop where
  keys : lm.map (·.1) = G.map (·.1)
  nodup : (G.map (·.1)).Nodup
  fam : Fam w base e (lm.map (·.2)) (G.map (·.2))
theorem GRows.kept (h : GRows w base e lm G) {row : Option Nat} (hg : w.grownBy w' row) (hr : ∀ i (hi : i < (lm.map Prod.snd).length), ((lm.map Prod.snd)[i]'hi).ownBlock = none ∨ ((lm.map Prod.snd)[i]'hi).ownBlock ≠ row) : GRows w' base e lm G :=
  ⟨h.keys, h.nodup, h.fam.kept hg hr⟩
theorem GRows.below (h : GRows w base e lm G) {B : Nat} (hb : Below B w w') (hB : w.heap.size ≤ B) : GRows w' base e lm G := ⟨h.keys, h.nodup, h.fam.below hb hB⟩
theorem GRows.nil (w : World) (base : Nat) (e : TypeId) : GRows w base e ([] : List (κ × Value)) [] := ⟨rfl, List.nodup_nil, Fam.nil _ _ _⟩
end
section
variable {κ : Type} [DecidableEq κ] {w w' : World} {base : Nat} {e : TypeId} {lm : List (κ × Value)} {G : List (κ × List Nat)}
def rowOf (G : List (κ × List Nat)) (x : κ) : List Nat := (look G x).getD []
def valOf (lm : List (κ × Value)) (x : κ) : Value := (look lm x).getD (.slice none 0 0)
theorem look_idx {α : Type} {l : List (κ × α)} {x : κ} (h : x ∈ l.map (·.1)) : ∃ j, ∃ hj : j < l.length, l[j].1 = x ∧ look l x = some l[j].2 ∧ ∀ i (_ : i < l.length), i < j → l[i].1 ≠ x := by
  induction l with
  | nil => simp at h
  | cons p l ih =>
    by_cases hp : p.1 = x
    · exact ⟨0, by simp, hp, by simp [look, hp], fun i _ hi => by omega⟩
    · simp only [List.map_cons, List.mem_cons] at h
      obtain ⟨j, hj, h1, h2, h3⟩ := ih (h.resolve_left fun e => hp e.symm)
      refine ⟨j + 1, by simpa using hj, by simpa using h1, by simp [look, hp, h2], fun i hi hij => ?_⟩
      cases i with
      | zero => simpa using hp
      | succ i => simpa using h3 i (by simpa using hi) (by omega)
theorem GRows.at_ (h : GRows w base e lm G) {x : κ} (hx : x ∈ G.map (·.1)) : ∃ j, ∃ h1 : j < lm.length, ∃ h2 : j < G.length, lm[j].1 = x ∧ G[j].1 = x ∧ look lm x = some lm[j].2 ∧ look G x = some G[j].2 ∧ (∀ i (hi : i < lm.length), i ≠ j → lm[i].1 ≠ x) ∧ (∀ i (hi : i < G.length), i ≠ j → G[i].1 ≠ x) := by
  obtain ⟨j, hj, e1, e2, _⟩ := look_idx hx
  have hl : lm.length = G.length := by have := congrArg List.length h.keys; simpa using this
  have hk : ∀ i (hi : i < lm.length), lm[i].1 = (G[i]'(by omega)).1 := fun i hi => by
    have : (lm.map (·.1))[i]'(by simpa using hi) = (G.map (·.1))[i]'(by simp; omega) := by simp only [h.keys]
    simpa using this
  have hG : ∀ i (hi : i < G.length), i ≠ j → G[i].1 ≠ x := fun i hi hne he => hne ((List.getElem_inj (h₀ := by simpa using hi) (h₁ := by simpa using hj) h.nodup).1 (by simp [he, e1]))
  have hL : ∀ i (hi : i < lm.length), i ≠ j → lm[i].1 ≠ x := fun i hi hne => by rw [hk i hi]; exact hG i (by omega) hne
  have hjl : j < lm.length := by omega
  refine ⟨j, hjl, hj, by rw [hk j hjl, e1], e1, ?_, e2, hL, hG⟩
  have hx2 : x ∈ lm.map (·.1) := by rw [h.keys]; exact hx
  obtain ⟨j', hj', f1, f2, _⟩ := look_idx hx2
  have : j' = j := Decidable.byContradiction fun hne => hL j' hj' hne f1
  subst this
  exact f2
theorem GRows.row (h : GRows w base e lm G) (x : κ) : w.ownsRow base e 1 (valOf lm x) (rowOf G x).length ((rowOf G x).map encI) := by
  unfold valOf rowOf
  by_cases hx : x ∈ G.map (·.1)
  · obtain ⟨j, h1, h2, _, _, e1, e2, _⟩ := h.at_ hx
    rw [e1, e2]
    have := h.fam.own j (by simpa using h1) (by simpa using h2)
    simpa using this
  · rw [(look_none G x).2 hx, (look_none lm x).2 (by rw [h.keys]; exact hx)]
    exact World.ownsRow_nil _ _ _ _
theorem GRows.ent (h : GRows w base e lm G) (x : κ) : GRows w base e (ent lm x (.slice none 0 0)) (ent G x []) := by
  unfold Words.ent
  by_cases hx : x ∈ G.map (·.1)
  · rw [if_pos ((look_isSome lm x).2 (by rw [h.keys]; exact hx)), if_pos ((look_isSome G x).2 hx)]
    exact h
  · rw [if_neg (by rw [look_isSome, h.keys]; exact hx), if_neg (by rw [look_isSome]; exact hx)]
    refine ⟨by simp [h.keys], ?_, ?_⟩
    · rw [List.map_append]
      exact List.nodup_append.2 ⟨h.nodup, by simp, fun a ha c hc e => by simp at hc; subst hc; exact hx (e ▸ ha)⟩
    · rw [List.map_append, List.map_append]
      exact h.fam.snoc_nil
theorem ent_keys {α : Type} (l : List (κ × α)) (x : κ) (z : α) (y : κ) : y ∈ (ent l x z).map (·.1) ↔ y = x ∨ y ∈ l.map (·.1) := by
  unfold Words.ent
  by_cases hx : x ∈ l.map (·.1)
  · rw [if_pos ((look_isSome l x).2 hx)]
    exact ⟨.inr, fun h => h.elim (fun e => e ▸ hx) id⟩
  · rw [if_neg (by rw [look_isSome]; exact hx)]
    simp [or_comm]
theorem look_ent {α : Type} (l : List (κ × α)) (x y : κ) (z : α) : (look (ent l x z) y).getD z = (look l y).getD z := by
  unfold Words.ent
  by_cases hx : x ∈ l.map (·.1)
  · rw [if_pos ((look_isSome l x).2 hx)]
  · rw [if_neg (by rw [look_isSome]; exact hx), ← put_new z hx, look_put]
    by_cases h : x = y
    · subst h; rw [if_pos rfl, (look_none l x).2 hx]; rfl
    · rw [if_neg h]
theorem GRows.put (h : GRows w base e lm G) {x : κ} (hx : x ∈ G.map (·.1)) {v' : Value} {L' : List Nat} (hown : w'.ownsRow base e 1 v' L'.length (L'.map encI)) (hg : w.grownBy w' (valOf lm x).ownBlock) (hat : v'.ownBlock = (valOf lm x).ownBlock ∨ ∃ k, v'.ownBlock = some k ∧ w.heap.size ≤ k) :
    GRows w' base e (put lm x v') (put G x L') := by
  obtain ⟨j, h1, h2, k1, k2, e1, e2, n1, n2⟩ := h.at_ hx
  have hv : valOf lm x = lm[j].2 := by unfold valOf; rw [e1]; rfl
  rw [hv] at hg hat
  rw [put_at v' h1 k1 n1, put_at L' h2 k2 n2]
  have ek : (G.set j (x, L')).map (·.1) = G.map (·.1) := by
    rw [List.map_set]
    refine List.ext_getElem (by simp) fun i a b => ?_
    rw [List.getElem_set]
    split
    · rename_i hij; subst hij; simp [k2]
    · rfl
  have el : (lm.set j (x, v')).map (·.1) = lm.map (·.1) := by
    rw [List.map_set]
    refine List.ext_getElem (by simp) fun i a b => ?_
    rw [List.getElem_set]
    split
    · rename_i hij; subst hij; simp [k1]
    · rfl
  refine ⟨by rw [el, ek, h.keys], by rw [ek]; exact h.nodup, ?_⟩
  rw [List.map_set, List.map_set]
  exact h.fam.set (by simpa using h1) hown (by simpa using hg) (by simpa using hat)
theorem rowOf_put (G : List (κ × List Nat)) (x y : κ) (L : List Nat) : rowOf (put G x L) y = if x = y then L else rowOf G y := by
  unfold rowOf
  rw [look_put]
  split <;> rfl
end
theorem ints_own {w : World} {base : Nat} {e : TypeId} {v : Value} {g : List Nat} (h : w.ownsRow base e 1 v g.length (g.map encI)) : Sl 1 RInt w w.heap.size v (g.map fun n : Nat => (n : Int)) := by
  refine Sl.of_own (by simpa using h) fun i a hi => ?_
  unfold RInt
  rw [List.getElem?_map] at hi
  obtain ⟨p, hp, rfl⟩ := Option.map_eq_some_iff.1 hi
  obtain ⟨hlt, rfl⟩ := List.getElem?_eq_some_iff.1 hp
  rw [Nat.mul_one, List.drop_eq_getElem_cons (by simpa using hlt)]
  simp [encI]
end Go.Words
