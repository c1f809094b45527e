/- More plain laws: the next row, what greed takes. -/
import Derived.Test.YtbhdfljdfjadnaaPure
import Derived.Test.YtbhdfljdfjadnaaWords
import Derived.Laws.MakeOwn
import Derived.Laws.OwnMore
namespace Go.StreamP
theorem stepN_nil (acc : Option (Nat × B2 × Nat)) (i : Nat) {rest : List B2} (h : rest = []) : stepN acc i rest = acc := by
  simp only [stepN, if_pos h]
theorem stepN_none (i : Nat) {rest : List B2} (h : rest ≠ []) : stepN none i rest = some (i, tot (rest.take (firstN rest)), firstN rest) := by
  simp only [stepN, if_neg h]
theorem stepN_yes (i j : Nat) (q : B2) (m : Nat) {rest : List B2} (h : rest ≠ []) (hm : more (tot (rest.take (firstN rest))) q = true) : stepN (some (j, q, m)) i rest = some (i, tot (rest.take (firstN rest)), firstN rest) := by
  simp only [stepN, if_neg h, if_pos hm]
theorem stepN_no (i j : Nat) (q : B2) (m : Nat) {rest : List B2} (h : rest ≠ []) (hm : more (tot (rest.take (firstN rest))) q = false) : stepN (some (j, q, m)) i rest = some (j, q, m) := by
  simp only [stepN, if_neg h, hm]
  rfl
end Go.StreamP

namespace Go.Words
open Go Go.RowKit
theorem own_lies {w : World} {base : Nat} {e : TypeId} {size n cap m : Nat} {b o : Nat} {xs : List Value} (h : w.ownsRow base e size (.slice (some ⟨b, o, none⟩) n cap) m xs) : base ≤ b := by
  rcases h.2 with ⟨h1, _⟩ | ⟨g, cap, cur, h1, h2, _⟩
  · cases h1
  · injection h1 with h3
    injection h3 with h3
    injection h3 with h3
    omega
theorem keep_set2 {w : World} {n b : Nat} (v1 v2 : Value) (hb : b ≠ n) : ((w.setCell ⟨n, 0, none⟩ v1).setCell ⟨n, 1, none⟩ v2).heap[b]? = w.heap[b]? :=
  (Below.heap_setCell _ _ _ _ hb).trans (Below.heap_setCell _ _ _ _ hb)
end Go.Words

namespace Go.StreamP
/-! ## What greed takes -/
def cutL (L : List (List B2)) (bud : Int) : List (List B2) := L.map fun l => l.take (frontN l bud)
def greedyF : Nat → List (List B2) → List Nat → Int → List Nat
  | 0, _, T, _ => T
  | f + 1, C, T, left => match nextL C T with
    | none => T
    | some (i, p, n) => if left < p.1 then T else greedyF f C (T.set i (T.getD i 0 + n)) (left - p.1)
def greedyL (L : List (List B2)) (bud : Int) : List Nat := greedyF (bud.toNat + 1) (cutL L bud) (List.replicate L.length 0) bud
theorem greedyF_none {f : Nat} {C : List (List B2)} {T : List Nat} {left : Int} (h : nextL C T = none) : greedyF f C T left = T := by
  cases f with
  | zero => rfl
  | succ f => unfold greedyF; rw [h]
theorem greedyF_stop {f : Nat} {C : List (List B2)} {T : List Nat} {left : Int} {i n : Nat} {p : B2} (h : nextL C T = some (i, p, n)) (hp : left < p.1) : greedyF f C T left = T := by
  cases f with
  | zero => rfl
  | succ f => unfold greedyF; rw [h]; simp only [if_pos hp]
theorem greedyF_go {f : Nat} {C : List (List B2)} {T : List Nat} {left : Int} {i n : Nat} {p : B2} (h : nextL C T = some (i, p, n)) (hp : ¬ left < p.1) : greedyF (f + 1) C T left = greedyF f C (T.set i (T.getD i 0 + n)) (left - p.1) := by
  rw [greedyF, h]; simp only [if_neg hp]
theorem fits_zero (C : List (List B2)) (n : Nat) (h : n = C.length) : Fits C (List.replicate n 0) := by
  subst h
  exact ⟨by simp, fun i h h' => by simp⟩
theorem next_facts {C : List (List B2)} {T : List Nat} {i n : Nat} {p : B2} (hf : Fits C T) (h : nextL C T = some (i, p, n)) :
    ∃ h : i < C.length, ∃ h' : i < T.length, T[i] < C[i].length ∧ 1 ≤ n ∧ T[i] + n ≤ C[i].length ∧ p = tot ((C[i].drop T[i]).take n) ∧ n = firstN (C[i].drop T[i]) := by
  obtain ⟨h1, h2, h3, h4⟩ := nextTo_some C T _ _ _ _ h
  have h' : i < T.length := by rw [hf.len]; exact h1
  rw [getD_at _ _ _ h1, getD_at _ _ _ h'] at h2 h3 h4
  have hb := firstN_bound h2
  rw [← h4] at hb h3
  have hl : 0 < (C[i].drop T[i]).length := List.length_pos_iff.2 h2
  rw [List.length_drop] at hb hl
  exact ⟨h1, h', by omega, hb.1, by omega, h3, h4⟩
theorem fits_set {C : List (List B2)} {T : List Nat} {i n : Nat} {p : B2} (hf : Fits C T) (h : nextL C T = some (i, p, n)) : Fits C (T.set i (T.getD i 0 + n)) := by
  obtain ⟨h1, h2, _, _, h3, _⟩ := next_facts hf h
  rw [getD_at _ _ _ h2]
  refine ⟨by rw [List.length_set]; exact hf.len, fun j hj hj' => ?_⟩
  rw [List.getElem_set]
  split
  · rename_i he; subst he; exact h3
  · exact hf.le j hj (by simpa using hj')
theorem good_cut {L : List (List B2)} (h : ∀ l ∈ L, ∀ b ∈ l, GoodB b) (bud : Int) : ∀ l ∈ cutL L bud, ∀ b ∈ l, GoodB b := by
  intro l hl b hb
  obtain ⟨m, hm, rfl⟩ := List.mem_map.1 hl
  exact h m hm b (List.mem_of_mem_take hb)
theorem small_cut {L : List (List B2)} {N : Nat} (h : ∀ l ∈ L, l.length ≤ N) (bud : Int) : ∀ l ∈ cutL L bud, l.length ≤ N := by
  intro l hl
  obtain ⟨m, hm, rfl⟩ := List.mem_map.1 hl
  have := h m hm
  rw [List.length_take]; omega
theorem length_cut (L : List (List B2)) (bud : Int) : (cutL L bud).length = L.length := List.length_map ..
/-- A piece is in bounds. -/
theorem next_piece {C : List (List B2)} {T : List Nat} {i n : Nat} {p : B2} (hg : ∀ l ∈ C, ∀ b ∈ l, GoodB b) (hs : ∀ l ∈ C, l.length ≤ 1024) (hf : Fits C T) (h : nextL C T = some (i, p, n)) : 1 ≤ p.1 ∧ p.1 ≤ 1073741824 := by
  obtain ⟨h1, h2, h3, h4, h5, h6, _⟩ := next_facts hf h
  have hm := hg _ (List.getElem_mem h1)
  have hb := tot_bound ((C[i].drop T[i]).take n) (good_take (good_drop hm _) _)
  have hl : ((C[i].drop T[i]).take n).length = n := by rw [List.length_take, List.length_drop]; omega
  have hs1 := hs _ (List.getElem_mem h1)
  rw [← h6, hl] at hb
  omega
end Go.StreamP

namespace Go.Words
open Go Go.RowKit
theorem run_make_rep {P : Program} (t : TypeId) {e : TypeId} {z : Value} {bytes : Nat} (ht : P.underlying t = some (.slice e)) (hinfo : (P.info? e).map (fun i => (i.zero, i.size, i.bytes)) = some (some z, 1, bytes)) (hzc : z.cells = #[z])
    (n : Nat) (hn : n ≤ 1000000) (hb : bytes ≤ 1000) (w : World) :
    (Instr.makeSlice t (.int .i64 (n : Int)) (.int .i64 (n : Int))).run P w = .ok (.slice (some ⟨w.heap.size, 0, none⟩) n n) (w.alloc (.cells (List.replicate n z).toArray e)) := by
  obtain ⟨i0, hi, hz0, hz1, hz2⟩ := info_parts hinfo
  have hby : bytes * n ≤ 281474976710656 := by
    have : bytes * n ≤ 1000 * 1000000 := Nat.mul_le_mul hb hn
    omega
  have h : (i0.bytes : Int) * (n : Int) ≤ 281474976710656 := by
    have h : ((i0.bytes * n : Nat) : Int) ≤ 281474976710656 := by rw [hz2]; omega
    rwa [Int.natCast_mul] at h
  have hr := run_make (P := P) w t e i0 z ht hi hz0 .i64 .i64 n n (by omega) (by omega) h (by omega)
  simp only [Int.toNat_natCast] at hr
  rw [hr, hz1, hzc, Nat.mul_one, ← toList_madeCells_one]
/-- Rows that lie where a call has found them, in a block of its own. -/
theorem block_sl {α : Type} {sz : Nat} {R : Rep α} (hR : Keeps R) {w wr : World} {B g cap : Nat} {t : TypeId} {cs : List Value} {L : List (List α)} (hb : Bk wr g t cs) (hc : L.length ≤ cap) (hlen : cs.length = L.length)
    (hs : ∀ (i : Nat) (a : List α), L[i]? = some a → ∃ v, cs[i]? = some v ∧ Sl sz R w B v a) (hbel : Below B w wr) (hB : B ≤ wr.heap.size) : Sl 1 (RSl sz R) wr wr.heap.size (.slice (some ⟨g, 0, none⟩) L.length cap) L := by
  refine Sl.of_block hb hc fun i a hi => ?_
  have hlt : i < L.length := (List.getElem?_eq_some_iff.1 hi).1
  obtain ⟨v, hv, hsl⟩ := hs i a hi
  refine ⟨by omega, v, ?_, hsl.keep hR hbel hB⟩
  obtain ⟨hlt2, rfl⟩ := List.getElem?_eq_some_iff.1 hv
  rw [Nat.mul_one, List.drop_eq_getElem_cons hlt2]
  rfl
/-- Ints in a block of its own. -/
theorem block_ints {wr : World} {g cap : Nat} {t : TypeId} {T : List Nat} (hb : Bk wr g t (T.map fun n : Nat => .int .i64 (n : Int))) (hc : T.length ≤ cap) : Sl 1 RInt wr wr.heap.size (.slice (some ⟨g, 0, none⟩) T.length cap) (T.map fun n : Nat => (n : Int)) := by
  have h := Sl.of_block (R := RInt) (sz := 1) (l := T.map fun n : Nat => (n : Int)) (cap := cap) hb (by simpa using hc) fun i a hi => ?_
  · rw [List.length_map] at h; exact h
  · rw [List.getElem?_map] at hi
    obtain ⟨p, hp, rfl⟩ := Option.map_eq_some_iff.1 hi
    obtain ⟨hlt, rfl⟩ := List.getElem?_eq_some_iff.1 hp
    refine ⟨by simp; omega, ?_⟩
    unfold RInt
    rw [Nat.mul_one, List.drop_eq_getElem_cons (by simpa using hlt)]
    simp
/-- A literal of pairs. -/
theorem pairs_sl {w : World} {g cap : Nat} {t : TypeId} {l : List (Int × Int)} (hb : Bk w g t (l.flatMap fun b => [.int .i64 b.1, .int .i64 b.2])) (hc : l.length ≤ cap) : Sl 2 RPair w w.heap.size (.slice (some ⟨g, 0, none⟩) l.length cap) l := by
  refine ⟨_, cap, rfl, hc, fun i a hi => ⟨g, 0, [.int .i64 a.1, .int .i64 a.2], rfl, hb.lt, rfl, rfl, fun j u hu => ?_⟩⟩
  rw [hb.cell, Nat.zero_add]
  clear hb hc
  induction l generalizing i with
  | nil => simp at hi
  | cons x l ih =>
    cases i with
    | zero =>
      simp only [List.getElem?_cons_zero, Option.some.injEq] at hi
      subst hi
      rw [Nat.zero_mul, Nat.zero_add, List.flatMap_cons, List.getElem?_append_left (List.getElem?_eq_some_iff.1 hu).1]
      exact hu
    | succ i =>
      rw [List.getElem?_cons_succ] at hi
      rw [List.flatMap_cons, List.getElem?_append_right (by simp; omega)]
      have := ih i hi
      rw [← this]
      congr 1
      simp; omega
/-- Rows that lie here and there. -/
theorem rows_sl' {α : Type} {sz : Nat} {R : Rep α} (hR : Keeps R) {w : World} {g cap : Nat} {t : TypeId} {cs : List Value} {L : List (List α)} (hb : Bk w g t cs) (hc : L.length ≤ cap) (hlen : cs.length = L.length)
    (hs : ∀ (i : Nat) (a : List α), L[i]? = some a → ∃ v, cs[i]? = some v ∧ Sl sz R w w.heap.size v a) : Sl 1 (RSl sz R) w w.heap.size (.slice (some ⟨g, 0, none⟩) L.length cap) L :=
  block_sl hR hb hc hlen hs (Below.refl _ _) (Nat.le_refl _)
end Go.Words

namespace Go.Words
open Go Go.RowKit
/-- A row of ints in a block of its own. -/
def RowI (t : TypeId) (w : World) (base : Nat) (v : Value) (T : List Nat) : Prop :=
  ∃ g cap, v = .slice (some ⟨g, 0, none⟩) T.length cap ∧ base ≤ g ∧ T.length ≤ cap ∧ Bk w g t (T.map fun n : Nat => .int .i64 (n : Int))
section
variable {t : TypeId} {w w' : World} {base : Nat} {v : Value} {T : List Nat}
theorem RowI.sl (h : RowI t w base v T) : Sl 1 RInt w w.heap.size v (T.map fun n : Nat => (n : Int)) := by
  obtain ⟨g, cap, rfl, _, hc, hb⟩ := h
  exact block_ints hb hc
theorem RowI.below (h : RowI t w base v T) {B : Nat} (hb : Below B w w') (hB : w.heap.size ≤ B) : RowI t w' base v T := by
  obtain ⟨g, cap, rfl, h1, hc, hk⟩ := h
  exact ⟨g, cap, rfl, h1, hc, hk.below hb (Nat.lt_of_lt_of_le hk.lt hB)⟩
theorem RowI.base_le (h : RowI t w base v T) {base' : Nat} (hb : base' ≤ base) : RowI t w base' v T := by
  obtain ⟨g, cap, rfl, h1, hc, hk⟩ := h
  exact ⟨g, cap, rfl, by omega, hc, hk⟩
theorem RowI.kept (h : RowI t w base v T) {base' : Nat} {e : TypeId} {size n : Nat} {u : Value} {xs : List Value} (hown : w.ownsRow base' e size u n xs) (hne : e ≠ t) (hg : w.grownBy w' u.ownBlock) : RowI t w' base v T := by
  obtain ⟨g, cap, rfl, h1, hc, hk⟩ := h
  refine ⟨g, cap, rfl, h1, hc, hk.grown hg fun he => ?_⟩
  rcases hown.2 with ⟨rfl, _⟩ | ⟨g', cap', cur', rfl, _, hh, _⟩
  · simp [Value.ownBlock] at he
  · have : g = g' := by simpa [Value.ownBlock] using he
    subst this
    unfold Bk at hk
    rw [hk] at hh
    injection hh with h2
    injection h2 with _ h3
    exact hne h3.symm
/-- Rows of ints. -/
def RowsI (t : TypeId) (w : World) (base : Nat) (vs : List Value) (L : List (List Nat)) : Prop :=
  vs.length = L.length ∧ ∀ (i : Nat) (v : Value) (T : List Nat), vs[i]? = some v → L[i]? = some T → RowI t w base v T
variable {vs : List Value} {L : List (List Nat)}
theorem RowsI.below (h : RowsI t w base vs L) {B : Nat} (hb : Below B w w') (hB : w.heap.size ≤ B) : RowsI t w' base vs L := ⟨h.1, fun i v T h1 h2 => (h.2 i v T h1 h2).below hb hB⟩
theorem RowsI.kept (h : RowsI t w base vs L) {base' : Nat} {e : TypeId} {size n : Nat} {u : Value} {xs : List Value} (hown : w.ownsRow base' e size u n xs) (hne : e ≠ t) (hg : w.grownBy w' u.ownBlock) : RowsI t w' base vs L :=
  ⟨h.1, fun i v T h1 h2 => (h.2 i v T h1 h2).kept hown hne hg⟩
theorem RowsI.snoc (h : RowsI t w base vs L) (hv : RowI t w base v T) : RowsI t w base (vs ++ [v]) (L ++ [T]) := by
  refine ⟨by simp [h.1], fun i u m h1 h2 => ?_⟩
  rcases Nat.lt_trichotomy i vs.length with hi | hi | hi
  · rw [List.getElem?_append_left hi] at h1
    rw [List.getElem?_append_left (by rw [← h.1]; exact hi)] at h2
    exact h.2 i u m h1 h2
  · subst hi
    rw [List.getElem?_append_right (Nat.le_refl _)] at h1
    rw [h.1, List.getElem?_append_right (Nat.le_refl _)] at h2
    simp at h1 h2
    subst h1; subst h2
    exact hv
  · rw [List.getElem?_append_right (by omega), List.getElem?_eq_none (by simp; omega)] at h1
    cases h1
theorem RowsI.sl {e : TypeId} {base' : Nat} (h : RowsI t w base vs L) (hown : w.ownsRow base' e 1 v L.length vs) : Sl 1 (RSl 1 RInt) w w.heap.size v (L.map fun T => T.map fun n : Nat => (n : Int)) := by
  have := Sl.of_own (R := RSl 1 RInt) (l := L.map fun T => T.map fun n : Nat => (n : Int)) (v := v) (by simpa using hown) fun i T' hi => ?_
  · exact this
  · rw [List.getElem?_map] at hi
    obtain ⟨T, hT, rfl⟩ := Option.map_eq_some_iff.1 hi
    have hlt : i < vs.length := by rw [h.1]; exact (List.getElem?_eq_some_iff.1 hT).1
    refine ⟨vs[i], ?_, (h.2 i _ _ (List.getElem?_eq_getElem hlt) hT).sl⟩
    rw [Nat.mul_one, List.drop_eq_getElem_cons hlt]
    rfl
end
end Go.Words

namespace Go.StreamP
/-! ## What Better takes -/
theorem greedyF_fits {C : List (List B2)} : ∀ (f : Nat) (T : List Nat) (left : Int), Fits C T → Fits C (greedyF f C T left)
  | 0, T, left, h => h
  | f + 1, T, left, h => by
    unfold greedyF
    cases hn : nextL C T with
    | none => exact h
    | some x =>
      obtain ⟨i, p, n⟩ := x
      simp only []
      split
      · exact h
      · exact greedyF_fits f _ _ (fits_set h hn)
theorem fits_cut {L : List (List B2)} {bud : Int} {T : List Nat} (h : Fits (cutL L bud) T) : Fits L T := by
  have hl := length_cut L bud
  refine ⟨by rw [h.len, hl], fun i h1 h2 => ?_⟩
  have h3 := h.le i (by omega) h2
  have : (cutL L bud)[i]'(by omega) = L[i].take (frontN L[i] bud) := by
    unfold cutL; rw [List.getElem_map]
  rw [this, List.length_take] at h3
  omega
theorem greedy_fits (L : List (List B2)) (bud : Int) : Fits L (greedyL L bud) := fits_cut (bud := bud) (greedyF_fits _ _ _ (fits_zero _ _ (length_cut L bud).symm))
/-- One row's longest front alone. -/
def tryRow (L : List (List B2)) (bud : Int) (i : Nat) : List Nat := (List.replicate L.length 0).set i (frontN (L.getD i []) bud)
def tries (L : List (List B2)) (bud : Int) : List (List Nat) := (List.range L.length).map (tryRow L bud)
theorem try_fits (L : List (List B2)) (bud : Int) (i : Nat) (hi : i < L.length) : Fits L (tryRow L bud i) := by
  unfold tryRow
  refine ⟨by simp, fun j h1 h2 => ?_⟩
  rw [List.getElem_set]
  split
  · rename_i he; subst he
    rw [getD_at _ _ _ hi]
    exact (frontN_is _ bud).le
  · simp
def gainL (L : List (List B2)) (T : List Nat) : Int := (sumAll L T).2
def bestOf (g : List Nat → Int) (l : List (List Nat)) (b : List Nat) : List Nat := l.foldl (fun best x => if g best < g x then x else best) b
def betterL (L : List (List B2)) (bud : Int) : List Nat := bestOf (gainL L) (tries L bud) (greedyL L bud)
theorem bestOf_mem (g : List Nat → Int) : ∀ (l : List (List Nat)) (b : List Nat), bestOf g l b = b ∨ bestOf g l b ∈ l
  | [], b => .inl rfl
  | x :: l, b => by
    have ih := bestOf_mem g l (if g b < g x then x else b)
    simp only [bestOf, List.foldl_cons] at ih ⊢
    rcases ih with h | h
    · rw [h]
      split
      · exact .inr List.mem_cons_self
      · exact .inl rfl
    · exact .inr (List.mem_cons_of_mem _ h)
theorem bestOf_snoc (g : List Nat → Int) (l : List (List Nat)) (b x : List Nat) : bestOf g (l ++ [x]) b = if g (bestOf g l b) < g x then x else bestOf g l b := by
  unfold bestOf
  rw [List.foldl_append]
  rfl
theorem bestOf_ge (g : List Nat → Int) : ∀ (l : List (List Nat)) (b : List Nat), g b ≤ g (bestOf g l b) ∧ ∀ x ∈ l, g x ≤ g (bestOf g l b)
  | [], b => ⟨Int.le_refl _, fun x h => by cases h⟩
  | x :: l, b => by
    have ih := bestOf_ge g l (if g b < g x then x else b)
    simp only [bestOf, List.foldl_cons] at ih ⊢
    obtain ⟨h1, h2⟩ := ih
    refine ⟨?_, fun y hy => ?_⟩
    · refine Int.le_trans ?_ h1
      split <;> omega
    · rcases List.mem_cons.1 hy with h | h
      · subst h
        refine Int.le_trans ?_ h1
        split <;> omega
      · exact h2 y h
theorem better_fits (L : List (List B2)) (bud : Int) : Fits L (betterL L bud) := by
  rcases bestOf_mem (gainL L) (tries L bud) (greedyL L bud) with h | h
  · unfold betterL; rw [h]; exact greedy_fits L bud
  · unfold betterL
    generalize bestOf (gainL L) (tries L bud) (greedyL L bud) = T at *
    obtain ⟨i, hi, rfl⟩ := List.mem_map.1 h
    exact try_fits L bud i (List.mem_range.1 hi)
end Go.StreamP
