/- Walks: slices.Index, Contains; bay's farther, Tris. -/
import Derived.Test.YtpmmjjbllmeneaaDT
namespace Go.Mesh
/-- The places of a number. -/
def placesOf (l : List Int) (b : Int) : Nat → List Nat
  | 0 => []
  | k + 1 => placesOf l b k ++ (if l.getD k 0 = b then [k] else [])
theorem placesOf_len (l : List Int) (b : Int) : ∀ k, (placesOf l b k).length ≤ k
  | 0 => by simp [placesOf]
  | k + 1 => by
    have := placesOf_len l b k
    unfold placesOf
    rw [List.length_append]
    split <;> simp <;> omega
end Go.Mesh
namespace Go.Proofs.Ytpmmjjbllmeneaa
open Go Go.RowKit Go.Words Go.Mesh

set_option maxRecDepth 20000 in
theorem idx_calls {w : World} {B : Nat} {v : Value} {l : List Int} (h : Sl 1 RInt w B v l) (hl : l.length ≤ 1000000) (x : Int) :
    Calls Try.prog 36 #[v, .int .i64 x] w fun e w' => (∃ r : Int, e = .returned (.int .i64 r) ∧ (0 ≤ r ↔ x ∈ l)) ∧ w' = w := by
  obtain ⟨A, cap, rfl, hcap⟩ := h.form
  have Hh := Lib.hid h; clear h
  go_enter Try.func36, Try.ntmps36
  go_wp2_with fail
  go_loopw [8] (fun i wr => ∃ k : Nat, k ≤ l.length ∧ i = .int .i64 k ∧ x ∉ l.take k ∧ wr = w) (fun i _ => l.length - (intOf i).toNat)
  case atStart => exact ⟨0, by omega, rfl, by simp, rfl⟩
  case round =>
    obtain ⟨k, hk, rfl, hno, rfl⟩ := hrel
    by_cases hkl : k < l.length
    · obtain ⟨b, o, rfl, hb, c1⟩ := Hh.out.int_at hkl
      have hst : l.take (k + 1) = l.take k ++ [l[k]] := List.take_succ_eq_append_getElem hkl
      have hmem : l[k] ∈ l := List.getElem_mem hkl
      generalize l[k] = y at *
      by_cases hxy : x = y
      · subst hxy
        have Hhno := Lib.hid hno; clear hno; have Hhst := Lib.hid hst; clear hst; have Hhmem := Lib.hid hmem; clear hmem
        go_wp2_with fail
        go_ret
        exact ⟨⟨_, rfl, ⟨fun _ => Hhmem.out, fun _ => by omega⟩⟩, rfl⟩
      · have hno2 : x ∉ l.take (k + 1) := by
          rw [hst]
          intro h9
          rcases List.mem_append.1 h9 with h9 | h9
          · exact hno h9
          · exact hxy (List.mem_singleton.1 h9)
        have Hhno := Lib.hid hno; clear hno; have Hhst := Lib.hid hst; clear hst; have Hhmem := Lib.hid hmem; clear hmem; have Hhno2 := Lib.hid hno2; clear hno2
        go_wp2_with fail
        exact ⟨⟨k + 1, by omega, by simp, Hhno2.out, by trivial⟩, by simp [intOf]; omega⟩
    · obtain rfl : k = l.length := by omega
      rw [List.take_length] at hno
      have Hhno := Lib.hid hno; clear hno
      go_wp2_with fail
      go_ret
      exact ⟨⟨_, rfl, ⟨fun h9 => by omega, fun h9 => absurd h9 Hhno.out⟩⟩, rfl⟩
set_option maxRecDepth 20000 in
theorem contains_calls {w : World} {B : Nat} {v : Value} {l : List Int} (h : Sl 1 RInt w B v l) (hl : l.length ≤ 1000000) (x : Int) :
    Calls Try.prog 26 #[v, .int .i64 x] w fun e w' => e = .returned (.bool (decide (x ∈ l))) ∧ w' = w := by
  have hi := idx_calls h hl x
  have Hhi := Lib.hid hi; clear hi; have Hh := Lib.hid h; clear h
  go_enter Try.func26, Try.ntmps26
  go_wp2_with fail
  refine Hhi.out.mono ?_
  rintro e w' ⟨⟨r, rfl, hr⟩, rfl⟩
  go_wp2_with fail
  go_ret
  exact ⟨rfl, rfl⟩
theorem farther_calls (a b : Int) (w : World) : Calls Try.prog 27 #[.int .i64 a, .int .i64 b] w fun e w' => e = .returned (.bool (decide (0 ≤ b ∧ (a < 0 ∨ b < a)))) ∧ w' = w := by
  by_cases h1 : 0 ≤ b
  · by_cases h2 : a < 0
    · rw [decide_eq_true ⟨h1, .inl h2⟩]
      go_enter Try.func27, Try.ntmps27
      go_wp2_with fail
      go_ret
      exact ⟨rfl, rfl⟩
    · by_cases h3 : b < a
      · rw [decide_eq_true ⟨h1, .inr h3⟩]
        go_enter Try.func27, Try.ntmps27
        go_wp2_with fail
        go_ret
        exact ⟨rfl, rfl⟩
      · rw [decide_eq_false fun h => h.2.elim h2 h3]
        go_enter Try.func27, Try.ntmps27
        go_wp2_with fail
        go_ret
        exact ⟨rfl, rfl⟩
  · rw [decide_eq_false fun h => h1 h.1]
    have h0 : b < 0 := by omega
    go_enter Try.func27, Try.ntmps27
    go_wp2_with fail
    go_ret
    exact ⟨rfl, rfl⟩
set_option maxRecDepth 20000 in
theorem tris_calls {w : World} {B : Nat} {v : Value} {l : List Int} (h : Sl 1 RInt w B v l) (hB0 : B ≤ w.heap.size) (hl : l.length ≤ 1000000) (b : Int) :
    Calls Try.prog 20 #[v, .int .i64 b] w fun e w' => (∃ r, e = .returned r ∧ w'.ownsRow w.heap.size 3 1 r (placesOf l b l.length).length (nvals (placesOf l b l.length))) ∧ Below w.heap.size w w' := by
  obtain ⟨A, cap, rfl, hcap⟩ := h.form
  have Hh := Lib.hid h; clear h
  go_enter Try.func20, Try.ntmps20
  go_wp2_with fail
  go_loopw [5, 10] (fun rv i wr => ∃ k : Nat, k ≤ l.length ∧ i = .int .i64 k ∧ wr.ownsRow w.heap.size 3 1 rv (placesOf l b k).length (nvals (placesOf l b k)) ∧ Below w.heap.size w wr) (fun _ i _ => l.length - (intOf i).toNat)
  case atStart => exact ⟨0, by omega, rfl, World.ownsRow_nil _ _ _ _, Below.refl _ _⟩
  case round =>
    obtain ⟨k, hk, rfl, hown, hbel⟩ := hrel
    have hz := hbel.size
    have hpl := placesOf_len l b k
    have hst : placesOf l b (k + 1) = placesOf l b k ++ (if l.getD k 0 = b then [k] else []) := rfl
    by_cases hkl : k < l.length
    · obtain ⟨b9, o, rfl, hb, c1⟩ := (Hh.out.below keeps_int (hbel.mono hB0)).int_at hkl
      have hg : l.getD k 0 = l[k] := by rw [List.getD_eq_getElem?_getD, List.getElem?_eq_getElem hkl]; rfl
      rw [hg] at hst
      generalize l[k] = y at *
      by_cases hyb : y = b
      · subst hyb
        rw [if_pos rfl] at hst
        have hnv : nvals (placesOf l y k) ++ [.int .i64 (k : Int)] = nvals (placesOf l y (k + 1)) := by rw [hst]; unfold nvals; rw [List.map_append]; rfl
        have hnl : (placesOf l y k).length + 1 = (placesOf l y (k + 1)).length := by rw [hst]; simp
        generalize placesOf l y k = P0 at *
        have Hhown := Lib.hid hown; clear hown; have Hhst := Lib.hid hst; clear hst; have Hhg := Lib.hid hg; clear hg; have Hhnv := Lib.hid hnv; clear hnv; have Hhnl := Lib.hid hnl; clear hnl
        go_wp2_with (at_builtin; refine append_block _ rfl (.tmp 18) (.tmp 20) 28 rfl w.heap.size info_int Try.underlying28 rfl (by decide) _ P0.length (nvals P0) rfl (Hhown.out.alloc _) wr.heap.size [.int .i64 (k : Int)] rfl (Bk.new _ _ _) rfl (by simp [Value.oneCell']) (by omega) (by omega) (by simp; omega) ?_; intro v1 w5 hown5 hb5 _ _; have Hhown5 := Lib.hid hown5; clear hown5)
        refine ⟨⟨k + 1, by omega, by simp, by rw [← Hhnl.out, ← Hhnv.out]; exact Hhown5.out, (hbel.alloc hz _).trans hb5⟩, by simp [intOf]; omega⟩
      · rw [if_neg hyb, List.append_nil] at hst
        rw [← hst] at hown
        have hyb' : (y == b) = false := by simpa using hyb
        clear hst
        have Hhown := Lib.hid hown; clear hown; have Hhg := Lib.hid hg; clear hg
        go_wp2_with fail
        exact ⟨⟨k + 1, by omega, by simp, Hhown.out, hbel⟩, by simp [intOf]; omega⟩
    · obtain rfl : k = l.length := by omega
      have Hhown := Lib.hid hown; clear hown; have Hhst := Lib.hid hst; clear hst
      go_wp2_with fail
      go_ret
      exact ⟨⟨_, rfl, Hhown.out⟩, hbel⟩
end Go.Proofs.Ytpmmjjbllmeneaa
