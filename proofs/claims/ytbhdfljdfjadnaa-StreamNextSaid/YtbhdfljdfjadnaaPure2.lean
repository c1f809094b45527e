/- More plain laws: the next row, what greed takes. -/
import Derived.Test.YtbhdfljdfjadnaaPure
import Derived.Test.YtbhdfljdfjadnaaWords
import Derived.Laws.MakeOwn
import Derived.Laws.OwnMore
namespace Go.StreamP
theorem stepN_nil (acc : Option (Nat × B2 × Nat)) (i : Nat) {rest : List B2} (h : rest = []) : stepN acc i rest = acc := by
  simp only [stepN, if_pos h]
theorem stepN_none (i : Nat) {rest : List B2} (h : rest ≠ []) : stepN none i rest = some (i, tot (rest.take (firstN rest)), firstN rest) := by
  simp only [stepN, if_neg h]
theorem stepN_yes (i j : Nat) (q : B2) (m : Nat) {rest : List B2} (h : rest ≠ []) (hm : more (tot (rest.take (firstN rest))) q = true) : stepN (some (j, q, m)) i rest = some (i, tot (rest.take (firstN rest)), firstN rest) := by
  simp only [stepN, if_neg h, if_pos hm]
theorem stepN_no (i j : Nat) (q : B2) (m : Nat) {rest : List B2} (h : rest ≠ []) (hm : more (tot (rest.take (firstN rest))) q = false) : stepN (some (j, q, m)) i rest = some (j, q, m) := by
  simp only [stepN, if_neg h, hm]
  rfl
end Go.StreamP

namespace Go.Words
open Go Go.RowKit
theorem own_lies {w : World} {base : Nat} {e : TypeId} {size n cap m : Nat} {b o : Nat} {xs : List Value} (h : w.ownsRow base e size (.slice (some ⟨b, o, none⟩) n cap) m xs) : base ≤ b := by
  rcases h.2 with ⟨h1, _⟩ | ⟨g, cap, cur, h1, h2, _⟩
  · cases h1
  · injection h1 with h3
    injection h3 with h3
    injection h3 with h3
    omega
theorem keep_set2 {w : World} {n b : Nat} (v1 v2 : Value) (hb : b ≠ n) : ((w.setCell ⟨n, 0, none⟩ v1).setCell ⟨n, 1, none⟩ v2).heap[b]? = w.heap[b]? :=
  (Below.heap_setCell _ _ _ _ hb).trans (Below.heap_setCell _ _ _ _ hb)
end Go.Words

namespace Go.StreamP
/-! ## What greed takes -/
def cutL (L : List (List B2)) (bud : Int) : List (List B2) := L.map fun l => l.take (frontN l bud)
def greedyF : Nat → List (List B2) → List Nat → Int → List Nat
  | 0, _, T, _ => T
  | f + 1, C, T, left => match nextL C T with
    | none => T
    | some (i, p, n) => if left < p.1 then T else greedyF f C (T.set i (T.getD i 0 + n)) (left - p.1)
def greedyL (L : List (List B2)) (bud : Int) : List Nat := greedyF (bud.toNat + 1) (cutL L bud) (List.replicate L.length 0) bud
theorem greedyF_none {f : Nat} {C : List (List B2)} {T : List Nat} {left : Int} (h : nextL C T = none) : greedyF f C T left = T := by
  cases f with
  | zero => rfl
  | succ f => unfold greedyF; rw [h]
theorem greedyF_stop {f : Nat} {C : List (List B2)} {T : List Nat} {left : Int} {i n : Nat} {p : B2} (h : nextL C T = some (i, p, n)) (hp : left < p.1) : greedyF f C T left = T := by
  cases f with
  | zero => rfl
  | succ f => unfold greedyF; rw [h]; simp only [if_pos hp]
theorem greedyF_go {f : Nat} {C : List (List B2)} {T : List Nat} {left : Int} {i n : Nat} {p : B2} (h : nextL C T = some (i, p, n)) (hp : ¬ left < p.1) : greedyF (f + 1) C T left = greedyF f C (T.set i (T.getD i 0 + n)) (left - p.1) := by
  rw [greedyF, h]; simp only [if_neg hp]
theorem fits_zero (C : List (List B2)) (n : Nat) (h : n = C.length) : Fits C (List.replicate n 0) := by
  subst h
  exact ⟨by simp, fun i h h' => by simp⟩
theorem next_facts {C : List (List B2)} {T : List Nat} {i n : Nat} {p : B2} (hf : Fits C T) (h : nextL C T = some (i, p, n)) :
    ∃ h : i < C.length, ∃ h' : i < T.length, T[i] < C[i].length ∧ 1 ≤ n ∧ T[i] + n ≤ C[i].length ∧ p = tot ((C[i].drop T[i]).take n) ∧ n = firstN (C[i].drop T[i]) := by
  obtain ⟨h1, h2, h3, h4⟩ := nextTo_some C T _ _ _ _ h
  have h' : i < T.length := by rw [hf.len]; exact h1
  rw [getD_at _ _ _ h1, getD_at _ _ _ h'] at h2 h3 h4
  have hb := firstN_bound h2
  rw [← h4] at hb h3
  have hl : 0 < (C[i].drop T[i]).length := List.length_pos_iff.2 h2
  rw [List.length_drop] at hb hl
  exact ⟨h1, h', by omega, hb.1, by omega, h3, h4⟩
theorem fits_set {C : List (List B2)} {T : List Nat} {i n : Nat} {p : B2} (hf : Fits C T) (h : nextL C T = some (i, p, n)) : Fits C (T.set i (T.getD i 0 + n)) := by
  obtain ⟨h1, h2, _, _, h3, _⟩ := next_facts hf h
  rw [getD_at _ _ _ h2]
  refine ⟨by rw [List.length_set]; exact hf.len, fun j hj hj' => ?_⟩
  rw [List.getElem_set]
  split
  · rename_i he; subst he; exact h3
  · exact hf.le j hj (by simpa using hj')
theorem good_cut {L : List (List B2)} (h : ∀ l ∈ L, ∀ b ∈ l, GoodB b) (bud : Int) : ∀ l ∈ cutL L bud, ∀ b ∈ l, GoodB b := by
  intro l hl b hb
  obtain ⟨m, hm, rfl⟩ := List.mem_map.1 hl
  exact h m hm b (List.mem_of_mem_take hb)
theorem small_cut {L : List (List B2)} {N : Nat} (h : ∀ l ∈ L, l.length ≤ N) (bud : Int) : ∀ l ∈ cutL L bud, l.length ≤ N := by
  intro l hl
  obtain ⟨m, hm, rfl⟩ := List.mem_map.1 hl
  have := h m hm
  rw [List.length_take]; omega
theorem length_cut (L : List (List B2)) (bud : Int) : (cutL L bud).length = L.length := List.length_map ..
/-- A piece is in bounds. -/
theorem next_piece {C : List (List B2)} {T : List Nat} {i n : Nat} {p : B2} (hg : ∀ l ∈ C, ∀ b ∈ l, GoodB b) (hs : ∀ l ∈ C, l.length ≤ 1024) (hf : Fits C T) (h : nextL C T = some (i, p, n)) : 1 ≤ p.1 ∧ p.1 ≤ 1073741824 := by
  obtain ⟨h1, h2, h3, h4, h5, h6, _⟩ := next_facts hf h
  have hm := hg _ (List.getElem_mem h1)
  have hb := tot_bound ((C[i].drop T[i]).take n) (good_take (good_drop hm _) _)
  have hl : ((C[i].drop T[i]).take n).length = n := by rw [List.length_take, List.length_drop]; omega
  have hs1 := hs _ (List.getElem_mem h1)
  rw [← h6, hl] at hb
  omega
end Go.StreamP

namespace Go.Words
open Go Go.RowKit
theorem run_make_rep {P : Program} (t : TypeId) {e : TypeId} {z : Value} {bytes : Nat} (ht : P.underlying t = some (.slice e)) (hinfo : (P.info? e).map (fun i => (i.zero, i.size, i.bytes)) = some (some z, 1, bytes)) (hzc : z.cells = #[z])
    (n : Nat) (hn : n ≤ 1000000) (hb : bytes ≤ 1000) (w : World) :
    (Instr.makeSlice t (.int .i64 (n : Int)) (.int .i64 (n : Int))).run P w = .ok (.slice (some ⟨w.heap.size, 0, none⟩) n n) (w.alloc (.cells (List.replicate n z).toArray e)) := by
  obtain ⟨i0, hi, hz0, hz1, hz2⟩ := info_parts hinfo
  have hby : bytes * n ≤ 281474976710656 := by
    have : bytes * n ≤ 1000 * 1000000 := Nat.mul_le_mul hb hn
    omega
  have h : (i0.bytes : Int) * (n : Int) ≤ 281474976710656 := by
    have h : ((i0.bytes * n : Nat) : Int) ≤ 281474976710656 := by rw [hz2]; omega
    rwa [Int.natCast_mul] at h
  have hr := run_make (P := P) w t e i0 z ht hi hz0 .i64 .i64 n n (by omega) (by omega) h (by omega)
  simp only [Int.toNat_natCast] at hr
  rw [hr, hz1, hzc, Nat.mul_one, ← toList_madeCells_one]
/-- Rows that lie where a call has found them, in a block of its own. -/
theorem block_sl {α : Type} {sz : Nat} {R : Rep α} (hR : Keeps R) {w wr : World} {B g cap : Nat} {t : TypeId} {cs : List Value} {L : List (List α)} (hb : Bk wr g t cs) (hc : L.length ≤ cap) (hlen : cs.length = L.length)
    (hs : ∀ (i : Nat) (a : List α), L[i]? = some a → ∃ v, cs[i]? = some v ∧ Sl sz R w B v a) (hbel : Below B w wr) (hB : B ≤ wr.heap.size) : Sl 1 (RSl sz R) wr wr.heap.size (.slice (some ⟨g, 0, none⟩) L.length cap) L := by
  refine Sl.of_block hb hc fun i a hi => ?_
  have hlt : i < L.length := (List.getElem?_eq_some_iff.1 hi).1
  obtain ⟨v, hv, hsl⟩ := hs i a hi
  refine ⟨by omega, v, ?_, hsl.keep hR hbel hB⟩
  obtain ⟨hlt2, rfl⟩ := List.getElem?_eq_some_iff.1 hv
  rw [Nat.mul_one, List.drop_eq_getElem_cons hlt2]
  rfl
/-- Ints in a block of its own. -/
theorem block_ints {wr : World} {g cap : Nat} {t : TypeId} {T : List Nat} (hb : Bk wr g t (T.map fun n : Nat => .int .i64 (n : Int))) (hc : T.length ≤ cap) : Sl 1 RInt wr wr.heap.size (.slice (some ⟨g, 0, none⟩) T.length cap) (T.map fun n : Nat => (n : Int)) := by
  have h := Sl.of_block (R := RInt) (sz := 1) (l := T.map fun n : Nat => (n : Int)) (cap := cap) hb (by simpa using hc) fun i a hi => ?_
  · rw [List.length_map] at h; exact h
  · rw [List.getElem?_map] at hi
    obtain ⟨p, hp, rfl⟩ := Option.map_eq_some_iff.1 hi
    obtain ⟨hlt, rfl⟩ := List.getElem?_eq_some_iff.1 hp
    refine ⟨by simp; omega, ?_⟩
    unfold RInt
    rw [Nat.mul_one, List.drop_eq_getElem_cons (by simpa using hlt)]
    simp
/-- A literal of pairs. -/
theorem pairs_sl {w : World} {g cap : Nat} {t : TypeId} {l : List (Int × Int)} (hb : Bk w g t (l.flatMap fun b => [.int .i64 b.1, .int .i64 b.2])) (hc : l.length ≤ cap) : Sl 2 RPair w w.heap.size (.slice (some ⟨g, 0, none⟩) l.length cap) l := by
  refine ⟨_, cap, rfl, hc, fun i a hi => ⟨g, 0, [.int .i64 a.1, .int .i64 a.2], rfl, hb.lt, rfl, rfl, fun j u hu => ?_⟩⟩
  rw [hb.cell, Nat.zero_add]
  clear hb hc
  induction l generalizing i with
  | nil => simp at hi
  | cons x l ih =>
    cases i with
    | zero =>
      simp only [List.getElem?_cons_zero, Option.some.injEq] at hi
      subst hi
      rw [Nat.zero_mul, Nat.zero_add, List.flatMap_cons, List.getElem?_append_left (List.getElem?_eq_some_iff.1 hu).1]
      exact hu
    | succ i =>
      rw [List.getElem?_cons_succ] at hi
      rw [List.flatMap_cons, List.getElem?_append_right (by simp; omega)]
      have := ih i hi
      rw [← this]
      congr 1
      simp; omega
/-- Rows that lie here and there. -/
theorem rows_sl' {α : Type} {sz : Nat} {R : Rep α} (hR : Keeps R) {w : World} {g cap : Nat} {t : TypeId} {cs : List Value} {L : List (List α)} (hb : Bk w g t cs) (hc : L.length ≤ cap) (hlen : cs.length = L.length)
    (hs : ∀ (i : Nat) (a : List α), L[i]? = some a → ∃ v, cs[i]? = some v ∧ Sl sz R w w.heap.size v a) : Sl 1 (RSl sz R) w w.heap.size (.slice (some ⟨g, 0, none⟩) L.length cap) L :=
  block_sl hR hb hc hlen hs (Below.refl _ _) (Nat.le_refl _)
end Go.Words
