/- Words for maps, more: an entry that is written later, rows that lie apart, maps of rows, queues. Plain lemmas; no condition of their own. -/
import Derived.Test.YtdljcemnbbamcaaMap
import Derived.Maps.AppendAt
import Derived.Laws.OwnMore
namespace Go.Words
open Go Go.RowKit Go.Maps Go.MapKept Go.ChangeMaps

section
variable {P : Program} {k : TypeId} {κ α : Type} {enc : κ → Value} {ok : κ → Prop} {ev : α → Value} {w w' : World} {b : Nat} {l : List (κ × α)}
/-- The entry at key x bears the stamp s. -/
def StampAt (enc : κ → Value) (w : World) (b : Nat) (x : κ) (s : Int) : Prop := ∃ es clock e, ∃ j : Nat, w.heap[b]? = some (.map es clock) ∧ es[j]? = some e ∧ e.key = enc x ∧ (e.born : Int) = s
theorem StampAt.keep {x : κ} {s : Int} (h : StampAt enc w b x s) (hb : w'.heap[b]? = w.heap[b]?) : StampAt enc w' b x s := by
  obtain ⟨es, clock, e, j, h1, h2⟩ := h
  exact ⟨es, clock, e, j, hb.trans h1, h2⟩
theorem StampAt.grown {x : κ} {s : Int} {row : Option Nat} (h : StampAt enc w b x s) (hb : w.grownBy w' row) (hg : some b ≠ row) : StampAt enc w' b x s := by
  obtain ⟨es, clock, e, j, h1, h2⟩ := h
  exact ⟨es, clock, e, j, (hb.block b (Array.getElem?_eq_some_iff.1 h1).1 hg).trans h1, h2⟩

/-- Where there is none, an entry is made. -/
def ent [DecidableEq κ] (l : List (κ × α)) (x : κ) (z : α) : List (κ × α) := if (look l x).isSome then l else l ++ [(x, z)]

theorem Mp.entry_run [DecidableEq κ] (h : Mp enc ok ev w b l) (K : KeyT P k enc ok) {t e : TypeId} (ht : P.underlying t = some (.map k e)) (z : α) (hz : (zeroValue e).run P w = .ok (ev z) w) {x : κ} (hx : ok x) :
    ∃ s w', (Instr.mapEntry t (.map (some b)) (enc x)).run P w = .ok (.tuple #[ev ((look l x).getD z), .int .i64 s]) w' ∧ Mp enc ok ev w' b (ent l x z) ∧ StampAt enc w' b x s ∧ w.grownBy w' (some b) ∧ w'.heap.size = w.heap.size := by
  obtain ⟨es, clock, hb, hst, hl⟩ := h.block
  obtain ⟨kl, hkl⟩ := K.reads x hx
  have hgrow : ∀ o, w.grownBy (setBlock w b o) (some b) := fun o => ⟨rfl, rfl, rfl, by simp [setBlock], fun i _ hi => heap_setBlock_other hb _ (fun e => hi (by rw [e]))⟩
  have hsize : ∀ o, (setBlock w b o).heap.size = w.heap.size := fun o => by simp [setBlock]
  rcases K.keyed.find w hkl es.toList (entries_read K hl h.keys) with ⟨f1, f2⟩ | ⟨j, e0, f1, f2, f3⟩
  · have hno : x ∉ l.map (·.1) := by
      intro hm
      obtain ⟨p, hp, rfl⟩ := List.mem_map.1 hm
      obtain ⟨j, hj, rfl⟩ := List.getElem_of_mem hp
      have hjl : j < es.toList.length := by
        have := congrArg List.length hl
        simp only [List.length_map] at this
        omega
      obtain ⟨_, h1, _⟩ := entries_at hl (List.getElem?_eq_getElem hjl)
      exact f2 _ (List.getElem_mem hjl) h1
    have hlk := (look_none l x).2 hno
    refine ⟨clock, setBlock w b (.map (es.push ⟨enc x, ev z, clock⟩) (clock + 1)), ?_, ⟨⟨_, _, heap_setBlock_same hb _, stamped_push hst f2, ?_⟩, ?_, ?_⟩, ⟨_, _, ⟨enc x, ev z, clock⟩, es.size, heap_setBlock_same hb _, by simp, rfl, rfl⟩, hgrow _, hsize _⟩
    · simp [Instr.mapEntry, run_underlying ht, MapKept.run_getObj_map hb, K.keyed.check w false hkl, f1, hz, MapKept.run_setObj_map _ hb, Result.andThen, setBlock, hlk, goInt]
    · unfold ent; rw [hlk, Array.toList_push, List.map_append, hl]; simp
    · intro p hp
      unfold ent at hp; rw [hlk] at hp
      rcases List.mem_append.1 hp with hp | hp
      · exact h.keys _ hp
      · have : p = (x, z) := by simpa using hp
        rw [this]; exact hx
    · unfold ent; rw [hlk]
      simp only [Option.isSome_none, Bool.false_eq_true, if_false, List.map_append]
      exact List.nodup_append.2 ⟨h.nodup, by simp, fun a ha c hc e => by simp at hc; subst hc; exact hno (e ▸ ha)⟩
  · obtain ⟨hj, h1, h2⟩ := entries_at hl f2
    have hx2 : l[j].1 = x := K.inj _ _ (h.keys _ (List.getElem_mem hj)) hx (h1.symm.trans f3)
    have hlk : look l x = some l[j].2 := by rw [← hx2]; exact look_at h.nodup hj
    have hj2 : es[j]? = some e0 := by simpa using f2
    have hsame : (es.modify j (fun e' => { e' with key := enc x })) = es := by
      apply Array.ext_getElem?
      intro i
      rw [Array.getElem?_modify]
      by_cases hij : j = i
      · subst hij
        rw [if_pos rfl, hj2]
        simp only [Option.map_some, Option.some.injEq]
        rw [← f3]
      · rw [if_neg hij]
    refine ⟨e0.born, setBlock w b (.map es clock), ?_, ⟨⟨_, _, heap_setBlock_same hb _, hst, ?_⟩, ?_, ?_⟩, ⟨_, _, e0, j, heap_setBlock_same hb _, hj2, f3, rfl⟩, hgrow _, hsize _⟩
    · have hmod : ∀ v : Value, v = enc x → (es.modify j (fun e' => { e' with key := v })) = es := fun v hv => by rw [hv]; exact hsame
      simp [Instr.mapEntry, run_underlying ht, MapKept.run_getObj_map hb, K.keyed.check w false hkl, f1, hj2, f3, K.keyed.stays w hkl, MapKept.run_setObj_map _ hb, Result.andThen, setBlock, hlk, goInt, hsame, h2]
    · unfold ent; rw [hlk]; simpa using hl
    · unfold ent; rw [hlk]; exact h.keys
    · unfold ent; rw [hlk]; exact h.nodup

theorem Mp.stamp_run [DecidableEq κ] (h : Mp enc ok ev w b l) (K : KeyT P k enc ok) {t : TypeId} {x : κ} (hx : ok x) {s : Int} (hs : StampAt enc w b x s) (v : α) :
    ∃ w', (Instr.entryStore t (.map (some b)) (.int .i64 s) (ev v)).run P w = .ok () w' ∧ Mp enc ok ev w' b (put l x v) ∧ w.grownBy w' (some b) ∧ w'.heap.size = w.heap.size := by
  obtain ⟨es, clock, hb, hst, hl⟩ := h.block
  obtain ⟨es', clock', e0, j, hb', hj2, f3, hborn⟩ := hs
  rw [hb] at hb'
  injection hb' with hb'
  injection hb' with hb1 hb2
  subst hb1
  have f2 : es.toList[j]? = some e0 := by simpa using hj2
  obtain ⟨hj, h1, h2⟩ := entries_at hl f2
  have hx2 : l[j].1 = x := K.inj _ _ (h.keys _ (List.getElem_mem hj)) hx (h1.symm.trans f3)
  have hfind : es.findIdx? (fun e => (e.born : Int) == s) = some j := by
    obtain ⟨hjl, he0⟩ := Array.getElem?_eq_some_iff.1 hj2
    rw [Array.findIdx?_eq_some_iff_getElem]
    refine ⟨hjl, by rw [he0]; simp [hborn], fun i hi => ?_⟩
    intro hc
    have hbi : es[i].born = e0.born := by
      have : (es[i].born : Int) = s := by simpa using hc
      omega
    have hn := hst.2.1
    have e1 : (es.toList.map (·.born))[i]'(by simp; omega) = (es.toList.map (·.born))[j]'(by simpa using hjl) := by
      simp only [List.getElem_map, Array.getElem_toList]
      rw [hbi, he0]
    have := (List.getElem_inj hn).1 e1
    omega
  have hkeys : ∀ p ∈ put l x v, ok p.1 := by
    intro p hp
    rcases (keys_put v p.1).1 (List.mem_map_of_mem hp) with he | hm
    · rw [he]; exact hx
    · obtain ⟨q, hq, he⟩ := List.mem_map.1 hm
      rw [← he]; exact h.keys _ hq
  refine ⟨setBlock w b (.map (es.modify j (fun e' => { e' with val := ev v })) clock), ?_, ⟨⟨_, _, heap_setBlock_same hb _, stamped_modify hst _ _ (fun _ _ => rfl) (fun _ _ _ => rfl), ?_⟩, hkeys, put_keys_nodup v h.nodup⟩,
    ⟨rfl, rfl, rfl, by simp [setBlock], fun i _ hi => heap_setBlock_other hb _ (fun e => hi (by rw [e]))⟩, by simp [setBlock]⟩
  · simp [Instr.entryStore, MapKept.run_getObj_map hb, asInt, asIntOf, hfind, MapKept.run_setObj_map _ hb, Result.andThen, setBlock]
  · rw [put_at v hj hx2 fun i hi hne he => hne ?_, Array.toList_modify, modify_eq_set _ _ _ _ f2, List.map_set, List.map_set, hl]
    · rw [f3]
    · have hnd := h.nodup
      have e1 : (l.map (·.1))[i]'(by simpa using hi) = (l.map (·.1))[j]'(by simpa using hj) := by
        rw [List.getElem_map, List.getElem_map, he, hx2]
      exact (List.getElem_inj hnd).1 e1
end

section
variable {P : Program} (w : World) {ops : Array Oper} {rest : List Oper} {o : Oper} {a : Act} {Q : Exit → Act → World → Prop}
variable {κ α : Type} [DecidableEq κ] {enc : κ → Value} {ok : κ → Prop} {ev : α → Value}
theorem wpList_entry (hg : o.guard = none) (m x : Operand) (t : TypeId) (hop : o.op = Op.mapEntry t m x) (k e : TypeId) (K : KeyT P k enc ok) (ht : P.underlying t = some (.map k e)) (z : α) (hz : ∀ w, (zeroValue e).run P w = .ok (ev z) w)
    (b : Nat) (l : List (κ × α)) (hm : a.eval m = .map (some b)) (hown : Mp enc ok ev w b l) (key : κ) (hx : a.eval x = enc key) (hkey : ok key)
    (hK : ∀ s w', Mp enc ok ev w' b (ent l key z) → StampAt enc w' b key s → w.grownBy w' (some b) → w'.heap.size = w.heap.size → wpList P ops Q rest (a.put o.dst (.tuple #[ev ((look l key).getD z), .int .i64 s])) w') : wpList P ops Q (o :: rest) a w := by
  refine wpList_plain hg fun K' hK' => ?_
  obtain ⟨s, w', hrun, r1, r2, r3, r4⟩ := hown.entry_run K ht z (hz w) hkey
  unfold Oper.wp
  simp [execOp, hop, hm, hx, hrun, Result.andThen]
  exact hK' _ _ (hK s w' r1 r2 r3 r4)
theorem wpList_stamp (hg : o.guard = none) (m x v : Operand) (t : TypeId) (hop : o.op = Op.entryStore t m x v) (k : TypeId) (K : KeyT P k enc ok)
    (b : Nat) (l : List (κ × α)) (hm : a.eval m = .map (some b)) (hown : Mp enc ok ev w b l) (key : κ) (s : Int) (hs : StampAt enc w b key s) (hx : a.eval x = .int .i64 s) (hkey : ok key) (val : α) (hv : a.eval v = ev val)
    (hK : ∀ w', Mp enc ok ev w' b (put l key val) → w.grownBy w' (some b) → w'.heap.size = w.heap.size → wpList P ops Q rest (a.put o.dst undef) w') : wpList P ops Q (o :: rest) a w := by
  refine wpList_plain hg fun K' hK' => ?_
  obtain ⟨w', hrun, r1, r2, r3⟩ := hown.stamp_run K (t := t) hkey hs val
  unfold Oper.wp
  simp [execOp, hop, hm, hx, hv, hrun, Result.andThen]
  exact hK' _ _ (hK w' r1 r2 r3)
end

/-! ## Rows that lie apart -/
def encI (n : Nat) : Value := .int .i64 (n : Int)
/-- Each value owns its row of numbers; no two lie in one block. -/
structure Fam (w : World) (base : Nat) (e : TypeId) (vs : List Value) (Ls : List (List Nat)) : Prop where
  len : vs.length = Ls.length
  own : ∀ i (h : i < vs.length) (h' : i < Ls.length), w.ownsRow base e 1 vs[i] Ls[i].length (Ls[i].map encI)
  apart : ∀ i j (h : i < vs.length) (h' : j < vs.length), i ≠ j → vs[i].ownBlock = none ∨ vs[i].ownBlock ≠ vs[j].ownBlock
section
variable {w w' : World} {base : Nat} {e : TypeId} {vs : List Value} {Ls : List (List Nat)}
theorem Fam.nil (w : World) (base : Nat) (e : TypeId) : Fam w base e [] [] := ⟨rfl, fun i h => by simp at h, fun i j h => by simp at h⟩
theorem Fam.kept (h : Fam w base e vs Ls) {row : Option Nat} (hg : w.grownBy w' row) (hr : ∀ i (hi : i < vs.length), vs[i].ownBlock = none ∨ vs[i].ownBlock ≠ row) : Fam w' base e vs Ls :=
  ⟨h.len, fun i h1 h2 => (h.own i h1 h2).kept hg (hr i h1), h.apart⟩
theorem Fam.below (h : Fam w base e vs Ls) {B : Nat} (hb : Below B w w') (hB : w.heap.size ≤ B) : Fam w' base e vs Ls := ⟨h.len, fun i h1 h2 => own_below (h.own i h1 h2) hb hB, h.apart⟩
/-- A block of another kind is none of the rows. -/
theorem Fam.not_map (h : Fam w base e vs Ls) {b : Nat} {es : Array MapEntry} {clock : Nat} (hb : w.heap[b]? = some (.map es clock)) : ∀ i (hi : i < vs.length), vs[i].ownBlock = none ∨ vs[i].ownBlock ≠ some b := by
  intro i hi
  rcases (h.own i hi (by rw [← h.len]; exact hi)).2 with ⟨hv, _⟩ | ⟨g, cap, cur, hv, _, hg, _⟩
  · left; rw [hv]; rfl
  · right; rw [hv]
    intro he
    have : g = b := by simpa [Value.ownBlock] using he
    subst this
    rw [hb] at hg; cases hg
theorem Fam.not_type (h : Fam w base e vs Ls) {b : Nat} {cs : Array Value} {t : TypeId} {fr : Nat × Nat} (hb : w.heap[b]? = some (.cells cs t fr)) (hne : t ≠ e) : ∀ i (hi : i < vs.length), vs[i].ownBlock = none ∨ vs[i].ownBlock ≠ some b := by
  intro i hi
  rcases (h.own i hi (by rw [← h.len]; exact hi)).2 with ⟨hv, _⟩ | ⟨g, cap, cur, hv, _, hg, _⟩
  · left; rw [hv]; rfl
  · right; rw [hv]
    intro he
    have : g = b := by simpa [Value.ownBlock] using he
    subst this
    rw [hb] at hg
    injection hg with hg
    injection hg with _ h2
    exact hne h2
/-- One row is made anew, in its block or in a new one. -/
theorem Fam.set (h : Fam w base e vs Ls) {i : Nat} (hi : i < vs.length) {v' : Value} {L' : List Nat} (hown : w'.ownsRow base e 1 v' L'.length (L'.map encI)) (hg : w.grownBy w' vs[i].ownBlock) (hat : v'.ownBlock = vs[i].ownBlock ∨ ∃ k, v'.ownBlock = some k ∧ w.heap.size ≤ k) :
    Fam w' base e (vs.set i v') (Ls.set i L') := by
  have hlt : ∀ j (hj : j < vs.length) k, vs[j].ownBlock = some k → k < w.heap.size := fun j hj k hk => ((h.own j hj (by rw [← h.len]; exact hj)).lt k hk).2
  have hother : ∀ j (hj : j < vs.length), j ≠ i → vs[j].ownBlock = none ∨ vs[j].ownBlock ≠ v'.ownBlock := by
    intro j hj hne
    rcases hat with hat | ⟨k, hat, hk⟩
    · rw [hat]; exact h.apart j i hj hi hne
    · cases hb : vs[j].ownBlock with
      | none => exact .inl rfl
      | some g =>
        right
        rw [hat]
        intro he
        injection he with he
        have := hlt j hj g hb
        omega
  refine ⟨by simp [h.len], fun j h1 h2 => ?_, fun j m h1 h2 hne => ?_⟩
  · simp only [List.length_set] at h1 h2
    rw [List.getElem_set, List.getElem_set]
    by_cases hij : i = j
    · rw [if_pos hij, if_pos hij]; exact hown
    · rw [if_neg hij, if_neg hij]
      exact (h.own j h1 h2).kept hg (h.apart j i h1 hi (fun e => hij e.symm))
  · simp only [List.length_set] at h1 h2
    rw [List.getElem_set, List.getElem_set]
    by_cases hij : i = j
    · rw [if_pos hij]
      by_cases him : i = m
      · omega
      · rw [if_neg him]
        rcases hother m h2 (fun e => him e.symm) with h9 | h9
        · cases hv : v'.ownBlock with
          | none => exact .inl rfl
          | some g => right; rw [h9]; simp
        · exact .inr fun e => h9 e.symm
    · rw [if_neg hij]
      by_cases him : i = m
      · rw [if_pos him]
        exact hother j h1 (fun e => hij e.symm)
      · rw [if_neg him]
        exact h.apart j m h1 h2 hne
/-- A nil row more. -/
theorem Fam.snoc_nil (h : Fam w base e vs Ls) : Fam w base e (vs ++ [.slice none 0 0]) (Ls ++ [[]]) := by
  have hl := h.len
  refine ⟨by simp [hl], fun i h1 h2 => ?_, fun i j h1 h2 hne => ?_⟩
  · by_cases hi : i < vs.length
    · rw [List.getElem_append_left hi, List.getElem_append_left (by omega)]
      exact h.own i hi (by omega)
    · have : i = vs.length := by simp at h1; omega
      subst this
      rw [List.getElem_append_right (by omega), List.getElem_append_right (by omega)]
      simp [World.ownsRow_nil]
  · by_cases hi : i < vs.length
    · rw [List.getElem_append_left hi]
      by_cases hj : j < vs.length
      · rw [List.getElem_append_left hj]; exact h.apart i j hi hj hne
      · rw [List.getElem_append_right (by omega)]
        cases hv : vs[i].ownBlock with
        | none => exact .inl rfl
        | some g => right; simp [Value.ownBlock]
    · rw [List.getElem_append_right (by omega)]
      simp [Value.ownBlock]
theorem Fam.nils (w : World) (base : Nat) (e : TypeId) (n : Nat) : Fam w base e (List.replicate n (.slice none 0 0)) (List.replicate n []) :=
  ⟨by simp, fun i h h' => by simp [World.ownsRow_nil], fun i j h h' _ => by simp [Value.ownBlock]⟩
end
end Go.Words
