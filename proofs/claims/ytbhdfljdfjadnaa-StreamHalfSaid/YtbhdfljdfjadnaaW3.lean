/- Walks: rows that are looked at, made anew; pieces. -/
import Derived.Test.YtbhdfljdfjadnaaW2
namespace Go.Proofs.Ytbhdfljdfjadnaa
open Go Go.RowKit Go.Words Go.StreamP

theorem info_batch : (Try.prog.info? 36).map (fun i => (i.zero, i.size, i.bytes)) = some (some (.agg #[.int .i64 0, .int .i64 0]), 2, 16) := by kernel_rfl
theorem info_sbatch : (Try.prog.info? 32).map (fun i => (i.zero, i.size, i.bytes)) = some (some (.agg #[.int .i64 0, .int .i64 0]), 2, 16) := by kernel_rfl
theorem info_int : (Try.prog.info? 3).map (fun i => (i.zero, i.size, i.bytes)) = some (some (.int .i64 0), 1, 8) := by kernel_rfl
theorem info_row : (Try.prog.info? 25).map (fun i => (i.zero, i.size, i.bytes)) = some (some (.slice none 0 0), 1, 24) := by kernel_rfl

/-- The cells of batches. -/
def flat (l : List B2) : List Value := l.flatMap fun b => [.int .i64 b.1, .int .i64 b.2]
theorem flat_snoc (l : List B2) (k : Nat) (h : k < l.length) : flat (l.take (k + 1)) = flat (l.take k) ++ [.int .i64 l[k].1, .int .i64 l[k].2] := by
  unfold flat
  rw [List.take_succ_eq_append_getElem h, List.flatMap_append]
  simp only [List.flatMap_cons, List.flatMap_nil, List.append_nil]
theorem flat_at (l : List B2) : ∀ (i : Nat) (b : B2), l[i]? = some b → ((flat l).drop (i * 2)).take 2 = [.int .i64 b.1, .int .i64 b.2] := by
  induction l with
  | nil => intro i b h; simp at h
  | cons x l ih =>
    intro i b h
    cases i with
    | zero => simp at h; subst h; simp [flat]
    | succ i =>
      simp only [List.getElem?_cons_succ] at h
      have := ih i b h
      rw [show (i + 1) * 2 = i * 2 + 2 from by omega]
      simpa [flat] using this
theorem flat_sl {w : World} {base : Nat} {e : TypeId} {v : Value} {l : List B2} (h : w.ownsRow base e 2 v l.length (flat l)) : Sl 2 RPair w w.heap.size v l :=
  Sl.of_own h fun i a hi => flat_at l i a hi

set_option maxHeartbeats 400000 in
theorem one_calls (v : Value) (l : List B2) (w : World) {B : Nat} (hB0 : B ≤ w.heap.size) (h : Sl 2 RPair w B v l) (hl : l.length ≤ 1024) :
    Calls Try.prog 13 #[v] w fun e w' => (∃ v', e = .returned v' ∧ w'.ownsRow w.heap.size 36 2 v' l.length (flat l)) ∧ Below w.heap.size w w' := by
  obtain ⟨A, cap, rfl, hcap⟩ := h.form
  go_enter Try.func13, Try.ntmps13
  go_wp2
  go_loopw [3, 4] (fun out i wr => ∃ k : Nat, k ≤ l.length ∧ i = .int .i64 k ∧ wr.ownsRow w.heap.size 36 2 out k (flat (l.take k)) ∧ Below w.heap.size w wr)
     (fun _ i _ => l.length - (intOf i).toNat)
  case atStart => exact ⟨0, by omega, rfl, World.ownsRow_nil _ _ _ _, Below.refl _ _⟩
  case round =>
    obtain ⟨k, hk, rfl, hown, hbel⟩ := hrel
    by_cases hlt : k < l.length
    · obtain ⟨b, o, rfl, hb, c1, c2⟩ := (h.below keeps_pair (hbel.mono hB0)).pair_at hlt
      have hs := flat_snoc l k hlt
      generalize hx : l[k] = x at *
      obtain ⟨x1, x2⟩ := x
      have hsz := hbel.size
      have Hh := Lib.hid h; clear h; have Hhs := Lib.hid hs; clear hs; have Hhx := Lib.hid hx; clear hx; have Hhown := Lib.hid hown; clear hown
      go_wp2_with (first
        | (at_builtin; refine append_block _ rfl (.tmp 11) (.tmp 23) 25 rfl w.heap.size info_batch Try.underlying25 rfl (by omega) _ k _ rfl (Hhown.out.alloc _) wr.heap.size [.int .i64 x1, .int .i64 x2] rfl (Bk.new _ _ _) rfl (by simp [Value.oneCell']) (by omega) (by omega) (by simp; omega) ?_; intro v1 w1 hown1 hb1 _ _; have Hhown1 := Lib.hid hown1; clear hown1)
        | (refine Go.Canon.wp_region_text mixed (by kernel_rfl) ?_) | (refine Go.Canon.chk (by rfl) ?_))
      refine ⟨⟨k + 1, by omega, rfl, ?_, ?_⟩, by simp [intOf]; omega⟩
      · rw [Hhs.out]; exact Hhown1.out
      · exact (hbel.alloc (by omega) _).drew.trans hb1
    · have hk' : l.take k = l := List.take_of_length_le (by omega)
      have hkl : k = l.length := by omega
      rw [hk', hkl] at hown
      have Hhown := Lib.hid hown; clear hown; have Hh := Lib.hid h; clear h; have Hhkl := Lib.hid hkl; clear hkl
      go_wp2
      go_ret
      exact ⟨⟨_, rfl, Hhown.out⟩, hbel⟩

set_option maxHeartbeats 400000 in
theorem ints_calls (v1 v2 : Value) (a b : List Int) (w : World) {B : Nat} (hB0 : B ≤ w.heap.size) (h1 : Sl 1 RInt w B v1 a) (h2 : Sl 1 RInt w B v2 b) (_hl1 : a.length ≤ 1048576) (hl2 : b.length ≤ 1048576) :
    Calls Try.prog 22 #[v1, v2] w fun e w' => e = .returned (.bool (a == b)) ∧ Below w.heap.size w w' := by
  obtain ⟨A1, cap1, rfl, hcap1⟩ := h1.form
  obtain ⟨A2, cap2, rfl, hcap2⟩ := h2.form
  by_cases hlen : a.length = b.length
  · have hne : ((a.length : Int) != (b.length : Int)) = false := by simp [hlen]
    have Hlen := Lib.hid hlen
    have hlen' : a.length ≤ b.length := by omega
    have hlen2 : b.length ≤ a.length := by omega
    clear hlen
    go_enter Try.func22, Try.ntmps22
    go_wp2
    go_loopw [5] (fun i wr => ∃ k : Nat, k ≤ a.length ∧ i = .int .i64 k ∧ a.take k = b.take k ∧ Below w.heap.size w wr)
       (fun i _ => a.length - (intOf i).toNat)
    case atStart => exact ⟨0, by omega, rfl, rfl, Below.refl _ _⟩
    case round =>
      obtain ⟨k, hk, rfl, heq, hbel⟩ := hrel
      by_cases hlt : k < a.length
      · obtain ⟨b1, o1, rfl, hb1, c1⟩ := (h1.below keeps_int (hbel.mono hB0)).int_at hlt
        obtain ⟨b2, o2, rfl, hb2, c2⟩ := (h2.below keeps_int (hbel.mono hB0)).int_at (k := k) (by omega)
        have t1 : a.take (k + 1) = a.take k ++ [a[k]] := List.take_succ_eq_append_getElem hlt
        have t2 : b.take (k + 1) = b.take k ++ [b[k]] := List.take_succ_eq_append_getElem (by omega)
        generalize hx : a[k] = x at *
        generalize hy : b[k] = y at *
        have Hh1 := Lib.hid h1; clear h1; have Hh2 := Lib.hid h2; clear h2; have Ht1 := Lib.hid t1; clear t1; have Ht2 := Lib.hid t2; clear t2; have Hheq := Lib.hid heq; clear heq; have Hhx := Lib.hid hx; clear hx; have Hhy := Lib.hid hy; clear hy; have Hhne := Lib.hid hne; clear hne
        cases hxy : (x != y)
        all_goals
          have Hxy := Lib.hid hxy
          go_wp2_with (first | (refine Go.Canon.wp_region_text mixed (by kernel_rfl) ?_) | (refine Go.Canon.chk (by rfl) ?_))
        · refine ⟨⟨k + 1, by omega, rfl, ?_, hbel.drew⟩, by simp [intOf]; omega⟩
          have : x = y := by simpa using Hxy.out
          rw [Ht1.out, Ht2.out, Hheq.out, this]
        · go_ret
          refine ⟨ret_bool ?_, hbel.drew⟩
          symm
          rw [beq_eq_false_iff_ne]
          intro h
          subst h
          rw [Hhx.out] at Hhy
          simp [Hhy.out] at hxy
      · have hk1 : a.take k = a := List.take_of_length_le (by omega)
        have hk2 : b.take k = b := List.take_of_length_le (by omega)
        rw [hk1, hk2] at heq
        have Hheq := Lib.hid heq; clear heq; have Hh1 := Lib.hid h1; clear h1; have Hh2 := Lib.hid h2; clear h2; have Hhk1 := Lib.hid hk1; clear hk1; have Hhk2 := Lib.hid hk2; clear hk2; have Hhne := Lib.hid hne; clear hne
        go_wp2
        go_ret
        exact ⟨ret_bool (by rw [Hheq.out]; simp), hbel⟩
  · have hne : ((a.length : Int) != (b.length : Int)) = true := by rw [bne_iff_ne]; omega
    have Hlen := Lib.hid hlen
    clear hlen
    go_enter Try.func22, Try.ntmps22
    go_wp2
    go_ret
    refine ⟨ret_bool ?_, Below.refl _ _⟩
    symm
    rw [beq_eq_false_iff_ne]
    intro h
    exact Hlen.out (by rw [h])
end Go.Proofs.Ytbhdfljdfjadnaa
