/- Words for maps: a block that is a map with known entries, over typed keys and elements: look, put, len. Plain lemmas; no condition of their own. -/
import Derived.Test.YtdljcemnbbamcaaWords
import Derived.Maps.OwnSet
import Derived.Laws.MakeOwn
namespace Go.Words
open Go Go.RowKit Go.Maps Go.MapKept Go.ChangeMaps

/-- Keys of type k, told as values of κ. -/
structure KeyT (P : Program) (k : TypeId) {κ : Type} (enc : κ → Value) (ok : κ → Prop) : Prop where
  keyed : Keyed P k
  reads : ∀ x, ok x → ∃ kl, keyOf P k (enc x) = some kl
  inj : ∀ x y, ok x → ok y → enc x = enc y → x = y

section plain
variable {κ α : Type} [DecidableEq κ]
/-- What a list of entries has at a key. -/
def look : List (κ × α) → κ → Option α
  | [], _ => none
  | p :: l, x => if p.1 = x then some p.2 else look l x
/-- A key's entry is made anew where it stands, or comes last. -/
def put : List (κ × α) → κ → α → List (κ × α)
  | [], x, v => [(x, v)]
  | p :: l, x, v => if p.1 = x then (x, v) :: l else p :: put l x v
theorem look_put_same (l : List (κ × α)) (x : κ) (v : α) : look (put l x v) x = some v := by
  induction l with
  | nil => simp [put, look]
  | cons p l ih =>
    unfold put
    split
    · simp [look]
    · rename_i h; simp [look, h, ih]
theorem look_put_other (l : List (κ × α)) {x y : κ} (v : α) (h : x ≠ y) : look (put l x v) y = look l y := by
  induction l with
  | nil => simp [put, look, h]
  | cons p l ih =>
    unfold put
    split
    · rename_i h1; subst h1; simp [look, h]
    · simp [look, ih]
theorem look_put (l : List (κ × α)) (x y : κ) (v : α) : look (put l x v) y = if x = y then some v else look l y := by
  split
  · rename_i h; subst h; exact look_put_same l x v
  · rename_i h; exact look_put_other l v h
theorem look_isSome (l : List (κ × α)) (x : κ) : (look l x).isSome = true ↔ x ∈ l.map (·.1) := by
  induction l with
  | nil => simp [look]
  | cons p l ih =>
    unfold look
    split
    · rename_i h; simp [h]
    · rename_i h
      rw [ih]
      simp only [List.map_cons, List.mem_cons]
      exact ⟨.inr, fun h' => h'.resolve_left fun e => h e.symm⟩
theorem look_none (l : List (κ × α)) (x : κ) : look l x = none ↔ x ∉ l.map (·.1) := by
  rw [← look_isSome, Bool.not_eq_true, Option.isSome_eq_false_iff, Option.isNone_iff_eq_none]
theorem put_new {l : List (κ × α)} {x : κ} (v : α) (h : x ∉ l.map (·.1)) : put l x v = l ++ [(x, v)] := by
  induction l with
  | nil => rfl
  | cons p l ih =>
    simp only [List.map_cons, List.mem_cons, not_or] at h
    unfold put
    rw [if_neg fun e => h.1 e.symm, ih h.2]
    rfl
theorem put_at {l : List (κ × α)} {x : κ} (v : α) {j : Nat} (hj : j < l.length) (hx : l[j].1 = x) (hn : ∀ i (h : i < l.length), i ≠ j → l[i].1 ≠ x) : put l x v = l.set j (x, v) := by
  induction l generalizing j with
  | nil => simp at hj
  | cons p l ih =>
    unfold put
    cases j with
    | zero => rw [if_pos (show p.1 = x from hx), List.set_cons_zero]
    | succ j =>
      have h0 : p.1 ≠ x := hn 0 (by simp) (by omega)
      rw [if_neg h0, List.set_cons_succ, ih (by simpa using hj) hx fun i h hne => hn (i + 1) (by simpa using h) (by omega)]
theorem length_put_has {l : List (κ × α)} {x : κ} (v : α) (h : x ∈ l.map (·.1)) : (put l x v).length = l.length := by
  induction l with
  | nil => simp at h
  | cons p l ih =>
    unfold put
    split
    · rfl
    · rename_i h1
      simp only [List.map_cons, List.mem_cons] at h
      rw [List.length_cons, ih (h.resolve_left fun e => h1 e.symm), List.length_cons]
theorem length_put_new {l : List (κ × α)} {x : κ} (v : α) (h : x ∉ l.map (·.1)) : (put l x v).length = l.length + 1 := by
  rw [put_new v h]; simp
theorem length_put_le (l : List (κ × α)) (x : κ) (v : α) : (put l x v).length ≤ l.length + 1 := by
  by_cases h : x ∈ l.map (·.1)
  · rw [length_put_has v h]; omega
  · rw [length_put_new v h]; omega
theorem keys_put {l : List (κ × α)} {x : κ} (v : α) (y : κ) : y ∈ (put l x v).map (·.1) ↔ y = x ∨ y ∈ l.map (·.1) := by
  rw [← look_isSome, look_put, ← look_isSome]
  by_cases h : x = y
  · simp [h]
  · rw [if_neg h]
    exact ⟨.inr, fun h' => h'.resolve_left fun e => h e.symm⟩
theorem put_keys_nodup {l : List (κ × α)} {x : κ} (v : α) (h : (l.map (·.1)).Nodup) : ((put l x v).map (·.1)).Nodup := by
  by_cases hx : x ∈ l.map (·.1)
  · have : (put l x v).map (·.1) = l.map (·.1) := by
      clear h
      induction l with
      | nil => simp at hx
      | cons p l ih =>
        unfold put
        split
        · rename_i h1; simp [h1]
        · rename_i h1
          simp only [List.map_cons, List.mem_cons] at hx
          rw [List.map_cons, ih (hx.resolve_left fun e => h1 e.symm), List.map_cons]
    rw [this]; exact h
  · rw [put_new v hx, List.map_append]
    exact List.nodup_append.2 ⟨h, by simp, fun a ha b hb e => by simp at hb; subst hb; exact hx (e ▸ ha)⟩
end plain

section
variable {P : Program} {k : TypeId} {κ α : Type} {enc : κ → Value} {ok : κ → Prop} {ev : α → Value} {w w' : World} {b : Nat} {l : List (κ × α)}

/-- Block b is a map whose entries are l, in the order in which they came. -/
structure Mp (enc : κ → Value) (ok : κ → Prop) (ev : α → Value) (w : World) (b : Nat) (l : List (κ × α)) : Prop where
  block : ∃ es clock, w.heap[b]? = some (.map es clock) ∧ Stamped es clock ∧ es.toList.map (fun e => (e.key, e.val)) = l.map fun p => (enc p.1, ev p.2)
  keys : ∀ p ∈ l, ok p.1
  nodup : (l.map (·.1)).Nodup

theorem Mp.lt (h : Mp enc ok ev w b l) : b < w.heap.size := by
  obtain ⟨es, clock, hb, _⟩ := h.block
  exact (Array.getElem?_eq_some_iff.1 hb).1
theorem Mp.keep (h : Mp enc ok ev w b l) (hb : w'.heap[b]? = w.heap[b]?) : Mp enc ok ev w' b l := by
  obtain ⟨es, clock, hh, hs, hl⟩ := h.block
  exact ⟨⟨es, clock, hb.trans hh, hs, hl⟩, h.keys, h.nodup⟩
theorem Mp.below {B : Nat} (h : Mp enc ok ev w b l) (hb : Below B w w') (hg : b < B) : Mp enc ok ev w' b l := h.keep (hb.block b hg)
theorem Mp.grown {row : Option Nat} (h : Mp enc ok ev w b l) (hb : w.grownBy w' row) (hg : some b ≠ row) : Mp enc ok ev w' b l := h.keep (hb.block b h.lt hg)
theorem Mp.alloc (h : Mp enc ok ev w b l) (o : Obj) : Mp enc ok ev (w.alloc o) b l := h.keep (Below.heap_alloc w o b h.lt)
theorem Mp.drew (h : Mp enc ok ev w b l) : Mp enc ok ev w.drew b l := ⟨h.block, h.keys, h.nodup⟩
theorem Mp.far (h : Mp enc ok ev w b l) {p : Addr} (hp : b ≠ p.block) (u : Value) : Mp enc ok ev (w.setCell p u) b l := h.keep (Below.heap_setCell w p u b hp)
theorem Mp.new (w : World) : Mp enc ok ev (w.alloc (.map #[] 0)) w.heap.size ([] : List (κ × α)) :=
  ⟨⟨#[], 0, (MapKept.heap_alloc w _).1, stamped_empty 0, rfl⟩, fun _ h => (List.not_mem_nil h).elim, List.nodup_nil⟩
theorem Mp.new' {n : Nat} (hn : n = w.heap.size) : Mp enc ok ev (w.alloc (.map #[] 0)) n ([] : List (κ × α)) := by subst hn; exact Mp.new w
/-- A map is no row. -/
theorem Mp.no_row (h : Mp enc ok ev w b l) {base : Nat} {e : TypeId} {size n : Nat} {v : Value} {xs : List Value} (hv : w.ownsRow base e size v n xs) : some b ≠ v.ownBlock := by
  obtain ⟨es, clock, hb, _⟩ := h.block
  rcases hv.2 with ⟨rfl, _⟩ | ⟨g, cap, cur, rfl, _, hg, _⟩
  · simp [Value.ownBlock]
  · intro he
    have : b = g := by simpa [Value.ownBlock] using he
    subst this
    rw [hb] at hg
    cases hg

theorem entries_at {es : Array MapEntry} (hl : es.toList.map (fun e => (e.key, e.val)) = l.map fun p => (enc p.1, ev p.2)) {j : Nat} {e0 : MapEntry} (h : es.toList[j]? = some e0) : ∃ hj : j < l.length, e0.key = enc l[j].1 ∧ e0.val = ev l[j].2 := by
  have h1 : (es.toList.map (fun e => (e.key, e.val)))[j]? = some (e0.key, e0.val) := by rw [List.getElem?_map, h]; rfl
  rw [hl, List.getElem?_map] at h1
  obtain ⟨p, hp, he⟩ := Option.map_eq_some_iff.1 h1
  obtain ⟨hj, rfl⟩ := List.getElem?_eq_some_iff.1 hp
  simp only [Prod.mk.injEq] at he
  exact ⟨hj, he.1.symm, he.2.symm⟩
theorem entries_read {es : Array MapEntry} (K : KeyT P k enc ok) (hl : es.toList.map (fun e => (e.key, e.val)) = l.map fun p => (enc p.1, ev p.2)) (hk : ∀ p ∈ l, ok p.1) : ∀ e ∈ es.toList, ∃ kl, keyOf P k e.key = some kl := by
  intro e he
  obtain ⟨j, hj⟩ := List.mem_iff_getElem?.1 he
  obtain ⟨hj', h1, _⟩ := entries_at hl hj
  rw [h1]
  exact K.reads _ (hk _ (List.getElem_mem hj'))
theorem look_at [DecidableEq κ] {l : List (κ × α)} (hn : (l.map (·.1)).Nodup) {j : Nat} (hj : j < l.length) : look l l[j].1 = some l[j].2 := by
  induction l generalizing j with
  | nil => simp at hj
  | cons p l ih =>
    rw [List.map_cons, List.nodup_cons] at hn
    cases j with
    | zero => simp [look]
    | succ j =>
      simp only [List.getElem_cons_succ]
      have hne : p.1 ≠ (l[j]'(by simpa using hj)).1 := fun e => hn.1 (e ▸ List.mem_map_of_mem (List.getElem_mem _))
      unfold look
      rw [if_neg hne]
      exact ih hn.2 (by simpa using hj)

/-- m[x], v, ok := m[x]: the world does not turn. -/
theorem Mp.look_run [DecidableEq κ] (h : Mp enc ok ev w b l) (K : KeyT P k enc ok) {t e : TypeId} (ht : P.underlying t = some (.map k e)) {z : Value} (hz : (zeroValue e).run P w = .ok z w) {x : κ} (hx : ok x) (c : Bool) :
    (Instr.lookup t (.map (some b)) (enc x) c).run P w = .ok (if c then .tuple #[((look l x).map ev).getD z, .bool (look l x).isSome] else ((look l x).map ev).getD z) w := by
  obtain ⟨es, clock, hb, hst, hl⟩ := h.block
  obtain ⟨kl, hkl⟩ := K.reads x hx
  rcases K.keyed.find w hkl es.toList (entries_read K hl h.keys) with ⟨f1, f2⟩ | ⟨j, e0, f1, f2, f3⟩
  · have hno : look l x = none := by
      rw [look_none]
      intro hm
      obtain ⟨p, hp, rfl⟩ := List.mem_map.1 hm
      obtain ⟨j, hj, rfl⟩ := List.getElem_of_mem hp
      have hjl : j < es.toList.length := by
        have := congrArg List.length hl
        simp only [List.length_map] at this
        omega
      obtain ⟨_, h1, _⟩ := entries_at hl (List.getElem?_eq_getElem hjl)
      exact f2 _ (List.getElem_mem hjl) h1
    rw [hno]
    simp [Instr.lookup, run_underlying ht, MapKept.run_getObj_map hb, K.keyed.check w _ hkl, f1, hz, Result.andThen]
  · obtain ⟨hj, h1, h2⟩ := entries_at hl f2
    have hx2 : l[j].1 = x := K.inj _ _ (h.keys _ (List.getElem_mem hj)) hx (h1.symm.trans f3)
    have hlk : look l x = some l[j].2 := by rw [← hx2]; exact look_at h.nodup hj
    rw [hlk]
    simp [Instr.lookup, run_underlying ht, MapKept.run_getObj_map hb, K.keyed.check w _ hkl, f1, Result.andThen, h2]

/-- m[x] = v: nothing but the map's block turns. -/
theorem Mp.put_run [DecidableEq κ] (h : Mp enc ok ev w b l) (K : KeyT P k enc ok) {t e : TypeId} (ht : P.underlying t = some (.map k e)) {x : κ} (hx : ok x) (v : α) :
    ∃ w', (Instr.mapUpdate t (.map (some b)) (enc x) (ev v)).run P w = .ok () w' ∧ Mp enc ok ev w' b (put l x v) ∧ w.grownBy w' (some b) ∧ w'.heap.size = w.heap.size := by
  obtain ⟨es, clock, hb, hst, hl⟩ := h.block
  obtain ⟨kl, hkl⟩ := K.reads x hx
  have hkeys : ∀ p ∈ put l x v, ok p.1 := by
    intro p hp
    rcases (keys_put v p.1).1 (List.mem_map_of_mem hp) with he | hm
    · rw [he]; exact hx
    · obtain ⟨q, hq, he⟩ := List.mem_map.1 hm
      rw [← he]; exact h.keys _ hq
  have hgrow : ∀ o, w.grownBy (setBlock w b o) (some b) := fun o => ⟨rfl, rfl, rfl, by simp [setBlock], fun i _ hi => heap_setBlock_other hb _ (fun e => hi (by rw [e]))⟩
  have hsize : ∀ o, (setBlock w b o).heap.size = w.heap.size := fun o => by simp [setBlock]
  rcases K.keyed.find w hkl es.toList (entries_read K hl h.keys) with ⟨f1, f2⟩ | ⟨j, e0, f1, f2, f3⟩
  · have hno : x ∉ l.map (·.1) := by
      intro hm
      obtain ⟨p, hp, rfl⟩ := List.mem_map.1 hm
      obtain ⟨j, hj, rfl⟩ := List.getElem_of_mem hp
      have hjl : j < es.toList.length := by
        have := congrArg List.length hl
        simp only [List.length_map] at this
        omega
      obtain ⟨_, h1, _⟩ := entries_at hl (List.getElem?_eq_getElem hjl)
      exact f2 _ (List.getElem_mem hjl) h1
    refine ⟨setBlock w b (.map (es.push ⟨enc x, ev v, clock⟩) (clock + 1)), ?_, ⟨⟨_, _, heap_setBlock_same hb _, stamped_push hst f2, ?_⟩, hkeys, put_keys_nodup v h.nodup⟩, hgrow _, hsize _⟩
    · simp [Instr.mapUpdate, run_underlying ht, MapKept.run_getObj_map hb, K.keyed.check w false hkl, f1, MapKept.run_setObj_map _ hb, Result.andThen, setBlock]
    · rw [put_new v hno, Array.toList_push, List.map_append, List.map_append, hl]
      rfl
  · obtain ⟨hj, h1, h2⟩ := entries_at hl f2
    have hx2 : l[j].1 = x := K.inj _ _ (h.keys _ (List.getElem_mem hj)) hx (h1.symm.trans f3)
    have hj2 : es[j]? = some e0 := by simpa using f2
    refine ⟨setBlock w b (.map (es.modify j (fun e' => { e' with key := enc x, val := ev v })) clock), ?_, ⟨⟨_, _, heap_setBlock_same hb _, stamped_modify hst _ _ (fun _ _ => rfl) (fun e' _ he' => by rw [hj2] at he'; cases he'; exact f3.symm), ?_⟩, hkeys, put_keys_nodup v h.nodup⟩, hgrow _, hsize _⟩
    · simp [Instr.mapUpdate, run_underlying ht, MapKept.run_getObj_map hb, K.keyed.check w false hkl, f1, hj2, f3, K.keyed.stays w hkl, MapKept.run_setObj_map _ hb, Result.andThen, setBlock]
    · rw [put_at v hj hx2 fun i hi hne he => hne ?_, Array.toList_modify, modify_eq_set _ _ _ _ f2, List.map_set, List.map_set, hl]
      have hnd := h.nodup
      have e1 : (l.map (·.1))[i]'(by simpa using hi) = (l.map (·.1))[j]'(by simpa using hj) := by
        rw [List.getElem_map, List.getElem_map, he, hx2]
      exact (List.getElem_inj hnd).1 e1

/-- len(m). -/
theorem Mp.len_run (h : Mp enc ok ev w b l) {t e : TypeId} (ht : P.underlying t = some (.map k e)) (ty : TypeId) : (Builtin.len_ #[t] ty #[.map (some b)]).run P w = .ok (.int .i64 l.length) w := by
  obtain ⟨es, clock, hb, hst, hl⟩ := h.block
  have e1 : es.size = l.length := by
    have := congrArg List.length hl
    simpa using this
  simp [Builtin.len_, run_underlying ht, MapKept.run_getObj_map hb, goInt, Result.andThen, e1]
end

/-! ## At the operation, for the walk -/
section
variable {P : Program} (w : World) {ops : Array Oper} {rest : List Oper} {o : Oper} {a : Act} {Q : Exit → Act → World → Prop}
variable {κ α : Type} [DecidableEq κ] {enc : κ → Value} {ok : κ → Prop} {ev : α → Value}

theorem wpList_look (hg : o.guard = none) (m x : Operand) (t : TypeId) (hop : o.op = Op.lookup t m x false) (k e : TypeId) (K : KeyT P k enc ok) (ht : P.underlying t = some (.map k e)) {z : Value} (hz : ∀ w, (zeroValue e).run P w = .ok z w)
    (b : Nat) (l : List (κ × α)) (hm : a.eval m = .map (some b)) (hown : Mp enc ok ev w b l) (key : κ) (hx : a.eval x = enc key) (hkey : ok key)
    (hK : wpList P ops Q rest (a.put o.dst (((look l key).map ev).getD z)) w) : wpList P ops Q (o :: rest) a w := by
  refine wpList_plain hg fun K' hK' => ?_
  have hrun := hown.look_run K ht (hz w) hkey false
  unfold Oper.wp
  simp [execOp, hop, hm, hx, hrun, Result.andThen]
  exact hK' _ _ hK
theorem wpList_look_ok (hg : o.guard = none) (m x : Operand) (t : TypeId) (hop : o.op = Op.lookup t m x true) (k e : TypeId) (K : KeyT P k enc ok) (ht : P.underlying t = some (.map k e)) {z : Value} (hz : ∀ w, (zeroValue e).run P w = .ok z w)
    (b : Nat) (l : List (κ × α)) (hm : a.eval m = .map (some b)) (hown : Mp enc ok ev w b l) (key : κ) (hx : a.eval x = enc key) (hkey : ok key)
    (hK : wpList P ops Q rest (a.put o.dst (.tuple #[((look l key).map ev).getD z, .bool (look l key).isSome])) w) : wpList P ops Q (o :: rest) a w := by
  refine wpList_plain hg fun K' hK' => ?_
  have hrun := hown.look_run K ht (hz w) hkey true
  unfold Oper.wp
  simp [execOp, hop, hm, hx, hrun, Result.andThen]
  exact hK' _ _ hK
theorem wpList_put (hg : o.guard = none) (m x v : Operand) (t : TypeId) (hop : o.op = Op.mapUpdate t m x v) (k e : TypeId) (K : KeyT P k enc ok) (ht : P.underlying t = some (.map k e))
    (b : Nat) (l : List (κ × α)) (hm : a.eval m = .map (some b)) (hown : Mp enc ok ev w b l) (key : κ) (hx : a.eval x = enc key) (hkey : ok key) (val : α) (hv : a.eval v = ev val)
    (hK : ∀ w', Mp enc ok ev w' b (put l key val) → w.grownBy w' (some b) → w'.heap.size = w.heap.size → wpList P ops Q rest (a.put o.dst undef) w') : wpList P ops Q (o :: rest) a w := by
  refine wpList_plain hg fun K' hK' => ?_
  obtain ⟨w', hrun, r1, r2, r3⟩ := hown.put_run K ht hkey val
  unfold Oper.wp
  simp [execOp, hop, hm, hx, hv, hrun, Result.andThen]
  exact hK' _ _ (hK w' r1 r2 r3)
end
theorem wpList_len {P : Program} (w : World) {ops : Array Oper} {rest : List Oper} {o : Oper} {a : Act} {Q : Exit → Act → World → Prop} {κ α : Type} {enc : κ → Value} {ok : κ → Prop} {ev : α → Value} (hg : o.guard = none) (m : Operand) (t : TypeId) (hop : o.op = Op.call { callee := Callee.builtin Builtin.len, args := #[m], argTypes := #[t] }) (k e : TypeId) (ht : P.underlying t = some (.map k e))
    (b : Nat) (l : List (κ × α)) (hm : a.eval m = .map (some b)) (hown : Mp enc ok ev w b l)
    (hK : wpList P ops Q rest (a.put o.dst (.int .i64 l.length)) w) : wpList P ops Q (o :: rest) a w := by
  refine wpList_plain hg fun K' hK' => ?_
  unfold Oper.wp
  simp [execOp, hop, resolve, invoke, builtin, hm, hown.len_run ht o.type, Result.andThen]
  exact hK' _ _ hK
end Go.Words
