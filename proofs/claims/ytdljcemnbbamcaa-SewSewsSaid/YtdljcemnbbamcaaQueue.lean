/- Words for queues: a slice of the call's own that is cut from the front and appended to. Plain lemmas; no condition of their own. -/
import Derived.Test.YtdljcemnbbamcaaMap2
namespace Go.Words
open Go Go.RowKit

/-- A slice in a block of the call's own, from whatever place on. -/
def Que (w : World) (base : Nat) (e : TypeId) (v : Value) (xs : List Nat) : Prop :=
  ∃ g off cap cur, v = .slice (some ⟨g, off, none⟩) xs.length cap ∧ base ≤ g ∧ w.heap[g]? = some (.cells cur e (0, 0)) ∧ xs.length ≤ cap ∧ cap ≤ maxLen ∧ off + cap ≤ cur.size ∧ (cur.toList.drop off).take xs.length = xs.map encI

section
variable {w w' : World} {base : Nat} {e : TypeId} {v : Value} {xs : List Nat}
theorem Que.keep (h : Que w base e v xs) (hb : ∀ g, v.ownBlock = some g → w'.heap[g]? = w.heap[g]?) : Que w' base e v xs := by
  obtain ⟨g, off, cap, cur, rfl, h1, h2, r⟩ := h
  exact ⟨g, off, cap, cur, rfl, h1, (hb g rfl).trans h2, r⟩
theorem Que.lt (h : Que w base e v xs) : ∀ g, v.ownBlock = some g → base ≤ g ∧ g < w.heap.size := by
  obtain ⟨g, off, cap, cur, rfl, h1, h2, r⟩ := h
  intro g' hg
  have : g = g' := by simpa [Value.ownBlock] using hg
  subst this
  exact ⟨h1, (Array.getElem?_eq_some_iff.1 h2).1⟩
theorem Que.below (h : Que w base e v xs) {B : Nat} (hb : Below B w w') (hB : w.heap.size ≤ B) : Que w' base e v xs :=
  h.keep fun g hg => hb.block g (Nat.lt_of_lt_of_le (h.lt g hg).2 hB)
theorem Que.grown (h : Que w base e v xs) {row : Option Nat} (hg : w.grownBy w' row) (hne : v.ownBlock ≠ row) : Que w' base e v xs :=
  h.keep fun g hg' => hg.block g (h.lt g hg').2 (by rw [← hg']; exact hne)
theorem Que.one (w : World) (e : TypeId) (x : Nat) {base : Nat} (hb : base ≤ w.heap.size) : Que (w.alloc (.cells #[encI x] e)) base e (.slice (some ⟨w.heap.size, 0, none⟩) 1 1) [x] :=
  ⟨w.heap.size, 0, 1, #[encI x], rfl, hb, heap_alloc_new w _, Nat.le_refl _, by unfold maxLen; omega, Nat.le_refl _, rfl⟩
theorem Que.form (h : Que w base e v xs) : ∃ g off cap, v = .slice (some ⟨g, off, none⟩) xs.length cap ∧ xs.length ≤ cap := by
  obtain ⟨g, off, cap, cur, h1, _, _, h2, _⟩ := h
  exact ⟨g, off, cap, h1, h2⟩
theorem Que.head {x : Nat} {g off n cap : Nat} (h : Que w base e (.slice (some ⟨g, off, none⟩) n cap) (x :: xs)) : w.cell? ⟨g, off, none⟩ = some (.int .i64 (x : Int)) := by
  obtain ⟨g', off', cap', cur, hv, h1, h2, h3, h4, h5, h6⟩ := h
  injection hv with hv _ _
  injection hv with hv
  injection hv with e1 e2
  subst e1; subst e2
  rw [cell_of_row w g off cur e (0, 0) h2]
  have h7 := congrArg (fun l => l[0]?) h6
  simp only [List.length_cons, List.map_cons, List.getElem?_cons_zero] at h7
  rw [List.getElem?_take, if_pos (by omega), List.getElem?_drop, Nat.add_zero] at h7
  simpa [encI] using h7
theorem Que.tail {x : Nat} {g off n cap : Nat} (h : Que w base e (.slice (some ⟨g, off, none⟩) n cap) (x :: xs)) :
    Que w base e (.slice (some ⟨g, off + 1, none⟩) (n - 1) (cap - 1)) xs ∧ (cap = 1 → Que w base e (.slice (some ⟨g, off, none⟩) xs.length 0) xs) := by
  obtain ⟨g', off', cap', cur, hv, h1, h2, h3, h4, h5, h6⟩ := h
  injection hv with hv hn hc
  injection hv with hv
  injection hv with e1 e2
  subst e1; subst e2; subst hc
  simp only [List.length_cons] at hn h3 h6
  refine ⟨⟨g, off + 1, cap - 1, cur, by rw [hn, Nat.add_sub_cancel], h1, h2, by omega, by omega, by omega, ?_⟩, fun hc1 => ?_⟩
  · have h7 := congrArg (List.drop 1) h6
    rw [List.drop_take, List.drop_drop] at h7
    simpa using h7
  · have hx : xs = [] := List.eq_nil_of_length_eq_zero (by omega)
    subst hx
    exact ⟨g, off, 0, cur, rfl, h1, h2, Nat.le_refl _, by omega, by omega, by simp⟩
end

theorem run_append_off {P : Program} (w : World) (t ty e : TypeId) (i : TypeInfo) (ht : P.underlying t = some (.slice e)) (hi : P.info? e = some i) (hs : i.size = 1) (g off sLen sCap : Nat) (cur : Array Value) (hg : w.heap[g]? = some (.cells cur e (0, 0)))
    (a : Addr) (c : Nat) (x : Value) (hx : w.cell? a = some x) (h1 : x.oneCell' = true) (hroom : sLen + 1 ≤ sCap) (hfit : off + sLen + 1 ≤ cur.size) :
    (Builtin.append_ #[t, t] ty #[.slice (some ⟨g, off, none⟩) sLen sCap, .slice (some a) 1 c]).run P w =
      .ok (.slice (some ⟨g, off, none⟩) (sLen + 1) sCap) (w.setRow g (cur.toList.take (off + sLen) ++ [x] ++ cur.toList.drop (off + sLen + 1)).toArray) := by
  have hnews : ∀ j u, [x][j]? = some u → w.cell? (a.add j) = some u := by
    intro j u hj
    match j, hj with
    | 0, hj => simp at hj; subst hj; simpa [Addr.add] using hx
  have hf := run_firstCells_some (P := P) w i.size 1 a 1 c [x] (by simp [hs]) hnews
  have hst := run_storeCells_at P g (off + sLen * i.size) e [x] 0 cur w hg (by simp [hs]; omega) (by simpa using h1)
  simp only [Nat.add_zero] at hst
  rw [hs] at hf hst
  rw [Nat.mul_one] at hst
  simp [Builtin.append_, run_underlying ht, sizeOf, typeInfo, hi, Builtin.lenOf, hroom, hs, hf, Addr.add_lit, hst]

theorem wpList_append_que {P : Program} (w : World) {ops : Array Oper} {rest : List Oper} {o : Oper} {a : Act} {Q : Exit → Act → World → Prop} (hgd : o.guard = none) (s x : Operand) (t : TypeId)
    (ho : o.op = .call { callee := .builtin .append, args := #[s, x], argTypes := #[t, t] }) (base : Nat) {e : TypeId} (hinfo : (P.info? e).map (fun i => (i.zero, i.size, i.bytes)) = some (some (.int .i64 0), 1, 8)) (ht : P.underlying t = some (.slice e))
    (v : Value) (xs : List Nat) (hs : a.eval s = v) (hown : Que w base e v xs) (y : Nat) (ad : Addr) (c : Nat) (hx : a.eval x = .slice (some ad) 1 c) (hy : w.cell? ad = some (.int .i64 (y : Int))) (hn : xs.length < 1000000000) (hbase : base ≤ w.heap.size)
    (h : ∀ v' w', Que w' base e v' (xs ++ [y]) → w.grownBy w' v.ownBlock → (v'.ownBlock = v.ownBlock ∨ v'.ownBlock = some w.heap.size) → wpList P ops Q rest (a.put o.dst v') w') :
    wpList P ops Q (o :: rest) a w := by
  obtain ⟨i0, hi, hz0, hz1, hz2⟩ := info_parts hinfo
  have key : ∃ v' w', (Builtin.append_ #[t, t] o.type #[v, .slice (some ad) 1 c]).run P w = .ok v' w' ∧ Que w' base e v' (xs ++ [y]) ∧ w.grownBy w' v.ownBlock ∧ (v'.ownBlock = v.ownBlock ∨ v'.ownBlock = some w.heap.size) := by
    obtain ⟨g, off, cap, cur, rfl, h1, h2, h3, h4, h5, h6⟩ := hown
    by_cases hroom : xs.length + 1 ≤ cap
    · have hr := run_append_off (P := P) w t o.type e i0 ht hi hz1 g off xs.length cap cur h2 ad c (.int .i64 (y : Int)) hy (by simp [Value.oneCell']) hroom (by omega)
      refine ⟨_, _, hr, ⟨g, off, cap, _, by simp, h1, setRow_heap w g cur _ e _ h2, by simp; omega, h4, ?_, ?_⟩, ⟨rfl, rfl, rfl, by simp, fun k _ hk => setRow_other w g k _ (fun e => hk (by simp [Value.ownBlock, e]))⟩, .inl rfl⟩
      · simp; omega
      · rw [List.length_append, List.map_append, ← h6]
        simp only [List.length_cons, List.length_nil, List.map_cons, List.map_nil]
        rw [List.append_assoc, List.drop_append_of_le_length (by simp; omega), List.drop_take, show off + xs.length - off = xs.length from by omega]
        rw [List.take_append, List.take_of_length_le (by simp; omega)]
        simp only [List.length_take, List.length_drop, Array.length_toList]
        rw [Nat.min_eq_left (by omega), show xs.length + (0 + 1) - xs.length = 1 from by omega]
        simp [encI]
    · have hcap : cap = xs.length := by omega
      have holds : ∀ j u, (xs.map encI)[j]? = some u → w.cell? ((⟨g, off, none⟩ : Addr).add j) = some u := by
        intro j u hj
        rw [Addr.add_lit, cell_of_row w g _ cur e (0, 0) h2]
        rw [← h6, List.getElem?_take] at hj
        split at hj
        · rw [List.getElem?_drop] at hj; simpa using hj
        · cases hj
      have hnews : ∀ j u, [Value.int .i64 (y : Int)][j]? = some u → w.cell? (ad.add j) = some u := by
        intro j u hj
        match j, hj with
        | 0, hj => simp at hj; subst hj; simpa [Addr.add] using hy
      have hr := run_append_grow (P := P) w t o.type e i0 (.int .i64 0) ht hi hz0 ⟨g, off, none⟩ xs.length cap (xs.map encI) (by simp [hz1]) holds ad 1 c [.int .i64 (y : Int)] (by simp [hz1]) hnews (by omega) (by omega) (by
        rw [hz2]
        exact growslice_fits (by omega) (by omega))
      have hge := grownCap_ge w (xs.length + 1) cap e
      have hcm : grownCap w (xs.length + 1) cap e ≤ maxLen := grownCap_le_maxLen w (xs.length + 1) cap e (by unfold maxLen; omega)
      refine ⟨_, _, hr, ⟨w.heap.size, 0, _, _, by simp, hbase, heap_alloc_new w.drew _, by simpa using hge, hcm, ?_, ?_⟩, ⟨rfl, rfl, rfl, by simp, fun k hk _ => Below.heap_alloc w.drew _ k hk⟩, .inr rfl⟩
      · simp [size_zeroCells, Value.cells]; omega
      · simp only [List.drop_zero, Array.toList_append, List.append_assoc]
        rw [← List.append_assoc, List.take_left' (by simp)]
        simp [encI]
  obtain ⟨v', w', hr, k2, k3, k5⟩ := key
  refine wpList_plain hgd fun K hK => ?_
  unfold Oper.wp execOp
  simp only [ho, resolve, invoke, builtin, Sem.run_bind, Sem.run_pure, Result.andThen_ok, List.map_toArray, List.map_cons, List.map_nil, hs, hx, hr]
  exact hK _ _ (h v' w' k2 k3 k5)
end Go.Words
