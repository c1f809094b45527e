/- The law BayTris, walked. -/
import Derived.Test.YtpmmjjbllmeneaaDI
import Derived.Test.YtpmmjjbllmeneaaTU
namespace Go.Mesh
theorem places_prefix (l : List Int) (b : Int) {i n : Nat} (h : i ≤ n) : placesOf l b i <+: placesOf l b n := by
  induction n with
  | zero => rw [show i = 0 by omega]; exact List.prefix_rfl
  | succ n ih =>
    by_cases hi : i = n + 1
    · rw [hi]; exact List.prefix_rfl
    · exact (ih (by omega)).trans (by rw [placesOf]; exact List.prefix_append _ _)
theorem places_at {l : List Int} {b : Int} {i n : Nat} (h : i < n) (hb : l.getD i 0 = b) : (placesOf l b n)[(placesOf l b i).length]? = some i := by
  obtain ⟨t, ht⟩ := places_prefix l b (i := i + 1) (n := n) (by omega)
  rw [← ht, placesOf, if_pos hb, List.append_assoc, List.getElem?_append_right (Nat.le_refl _)]
  simp
end Go.Mesh
namespace Go.Proofs.Ytpmmjjbllmeneaa
open Go Go.RowKit Go.Words Go.Mesh

set_option maxRecDepth 100000 in
set_option maxHeartbeats 1000000 in
theorem tris_law (lv : Value) (l : List Int) (b : Int) (w : World) {B : Nat} (hB0 : B ≤ w.heap.size) (hl : Sl 1 RInt w B lv l) :
    Calls Try.prog 9 #[lv, .int .i64 b] w fun e w' => e = .returned (.bool true) ∧ Below w.heap.size w w' := by
  obtain ⟨A, cap, rfl, hcap⟩ := hl.form
  have haw := awake39_calls w
  have Hhl := Lib.hid hl; have Hhaw := Lib.hid haw; clear hl haw
  go_enter Try.func9, Try.ntmps9
  go_wp2_with fail
  refine Hhaw.out.mono ?_
  rintro e w1 ⟨rfl, hb1⟩
  by_cases h100 : 100 < l.length
  case pos =>
    have h100i : 100 < (l.length : Int) := by omega
    clear h100
    go_wp2_with fail
    go_ret
    exact ⟨rfl, hb1⟩
  case neg =>
    have h100i : (l.length : Int) ≤ 100 := by omega
    have hl1 := Hhl.out.below keeps_int (hb1.mono hB0)
    have htr := tris_calls hl1 (by have := hb1.size; omega) (by omega) b
    have Hhl1 := Lib.hid hl1; have Hhtr := Lib.hid htr; clear hl1 htr
    go_wp2_with fail
    refine Hhtr.out.mono ?_
    rintro e w2 ⟨⟨r, rfl, hown⟩, hb2⟩
    have hz1 := hb1.size
    have hb3 := below_call hb1 hb2 hz1
    obtain ⟨A2, cap2, rfl, hc2⟩ := own_form hown
    have hl2 := Hhl1.out.below keeps_int (hb2.mono (by omega))
    have hpl := placesOf_len l b l.length
    have hpre := fun i (h : i ≤ l.length) => (places_prefix l b (i := i) h).length_le
    have hat := fun i (h : i < l.length) h2 => places_at (l := l) (b := b) (i := i) h h2
    have hst : ∀ i, placesOf l b (i + 1) = placesOf l b i ++ (if l.getD i 0 = b then [i] else []) := fun i => rfl
    generalize hP : placesOf l b l.length = P at *
    have Hhown := Lib.hid hown; clear hown; have Hhl2 := Lib.hid hl2; clear hl2; have Hhpre := Lib.hid hpre; clear hpre; have Hhat := Lib.hid hat; clear hat; have Hhst := Lib.hid hst; clear hst; have HhP := Lib.hid hP; clear hP
    go_wp2_with fail
    go_loopw [6, 7] (fun kv iv wr => ∃ i : Nat, i ≤ l.length ∧ iv = .int .i64 (i : Int) ∧ kv = .int .i64 ((placesOf l b i).length : Int) ∧ wr = w2) (fun _ iv _ => l.length - (intOf iv).toNat)
    case atStart => exact ⟨0, by omega, rfl, rfl, rfl⟩
    case round =>
      obtain ⟨i, hi, rfl, rfl, rfl⟩ := hrel
      by_cases hil : i < l.length
      · obtain ⟨b9, o9, rfl, hb9, c1⟩ := Hhl2.out.int_at hil
        have hgd : l.getD i 0 = l[i] := by rw [List.getD_eq_getElem?_getD, List.getElem?_eq_getElem hil]; rfl
        have hst := Hhst.out i
        rw [hgd] at hst
        have hat := Hhat.out i hil
        rw [hgd] at hat
        have hple := Hhpre.out (i + 1) (by omega)
        generalize l[i] = x at *
        by_cases hx : x = b
        · subst hx
          rw [if_pos rfl] at hst
          have hat := hat rfl
          have hl9 : (placesOf l x (i + 1)).length = (placesOf l x i).length + 1 := by rw [hst]; simp
          rw [hl9] at hple
          obtain ⟨g2, rfl⟩ := own_addrD Hhown.out (by omega)
          obtain ⟨q1, q2⟩ := List.getElem?_eq_some_iff.1 hat
          obtain ⟨cx, -, -⟩ := own_nat_at Hhown.out rfl q1
          rw [q2] at cx
          generalize (placesOf l x i).length = k at *
          have hki : (k : Int) < (P.length : Int) := by omega
          have Hhst := Lib.hid hst; clear hst; have Hhat := Lib.hid hat; clear hat; have Hhgd := Lib.hid hgd; clear hgd; have Hhl9 := Lib.hid hl9; clear hl9; have Hq2 := Lib.hid q2; clear q2
          go_wp2_with fail
          exact ⟨⟨i + 1, by omega, by simp, by rw [Hhl9.out]; simp, by trivial⟩, by simp [intOf]; omega⟩
        · rw [if_neg hx, List.append_nil] at hst
          have hxb : (x != b) = true := bne_iff_ne.2 hx
          have Hhst := Lib.hid hst; clear hst; have Hhat := Lib.hid hat; clear hat; have Hhgd := Lib.hid hgd; clear hgd
          go_wp2_with fail
          exact ⟨⟨i + 1, by omega, by simp, by rw [Hhst.out], by trivial⟩, by simp [intOf]; omega⟩
      · obtain rfl : i = l.length := by omega
        rw [HhP.out]
        go_wp2_with fail
        go_ret
        exact ⟨rfl, hb3⟩
end Go.Proofs.Ytpmmjjbllmeneaa
