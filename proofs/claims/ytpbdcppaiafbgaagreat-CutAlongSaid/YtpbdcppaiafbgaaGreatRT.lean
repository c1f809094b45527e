/- Walks: ref19's is, in, at. -/
import Derived.Test.YtpbdcppaiafbgaaGreatHK
import Derived.Test.YtpbdcppaiafbgaaGreatEQ
namespace Go.Proofs.YtpbdcppaiafbgaaGreat
open Go Go.RowKit Go.Words Go.Mesh
theorem nm_same {a b : Int × Int} : nm a = nm b ↔ (a = b ∨ (a.1 = b.2 ∧ a.2 = b.1)) := by
  rw [show nm a = nm b ↔ nm (a.1, a.2) = nm (b.1, b.2) from Iff.rfl, nm_eq]
  constructor
  · rintro (⟨h1, h2⟩ | ⟨h1, h2⟩)
    · exact .inl (Prod.ext h1 h2)
    · exact .inr ⟨h1, h2⟩
  · rintro (rfl | ⟨h1, h2⟩)
    · exact .inl ⟨rfl, rfl⟩
    · exact .inr ⟨h1, h2⟩
set_option maxHeartbeats 2000000 in
theorem is19_calls (a b : Int × Int) (w : World) : Calls Tryz.prog 118 #[enc2 a, enc2 b] w fun e w' => e = .returned (.bool (decide (nm a = nm b))) ∧ Below w.heap.size w w' := by
  obtain ⟨a1, a2⟩ := a
  obtain ⟨b1, b2⟩ := b
  change Calls Tryz.prog 118 #[.agg #[.int .i64 a1, .int .i64 a2], .agg #[.int .i64 b1, .int .i64 b2]] w _
  have hb := ((Below.refl w.heap.size w).alloc (Nat.le_refl _) (.cells #[.int .i64 a1, .int .i64 a2] 39)).alloc (by simp) (.cells #[.int .i64 b1, .int .i64 b2] 39)
  have hq := edge_run20 a1 a2 b1 b2
  have hnm : nm (a1, a2) = nm (b1, b2) ↔ ((a1, a2) = (b1, b2) ∨ (a1 = b2 ∧ a2 = b1)) := nm_same
  by_cases h1 : (a1, a2) = (b1, b2)
  · rw [decide_eq_true h1] at hq
    rw [decide_eq_true (hnm.2 (.inl h1))]
    have Hhb := Lib.hid hb; clear hb; have Hh1 := Lib.hid h1; clear h1; have Hhnm := Lib.hid hnm; clear hnm
    go_enter Tryz.func118, Tryz.ntmps118
    go_wp2_with fail
    go_ret
    exact ⟨rfl, Hhb.out⟩
  · rw [decide_eq_false h1] at hq
    by_cases h2 : a1 = b2
    · have e2 : (a1 == b2) = true := beq_iff_eq.2 h2
      by_cases h3 : a2 = b1
      · have e3 : (a2 == b1) = true := beq_iff_eq.2 h3
        rw [decide_eq_true (hnm.2 (.inr ⟨h2, h3⟩))]
        have Hhb := Lib.hid hb; clear hb; have Hh1 := Lib.hid h1; clear h1; have Hh2 := Lib.hid h2; clear h2; have Hh3 := Lib.hid h3; clear h3; have Hhnm := Lib.hid hnm; clear hnm
        go_enter Tryz.func118, Tryz.ntmps118
        go_wp2_with fail
        go_ret
        exact ⟨rfl, Hhb.out⟩
      · have e3 : (a2 == b1) = false := beq_eq_false_iff_ne.2 h3
        rw [decide_eq_false (fun h => (hnm.1 h).elim h1 fun h => h3 h.2)]
        have Hhb := Lib.hid hb; clear hb; have Hh1 := Lib.hid h1; clear h1; have Hh2 := Lib.hid h2; clear h2; have Hh3 := Lib.hid h3; clear h3; have Hhnm := Lib.hid hnm; clear hnm
        go_enter Tryz.func118, Tryz.ntmps118
        go_wp2_with fail
        go_ret
        exact ⟨rfl, Hhb.out⟩
    · have e2 : (a1 == b2) = false := beq_eq_false_iff_ne.2 h2
      rw [decide_eq_false (fun h => (hnm.1 h).elim h1 fun h => h2 h.1)]
      have Hhb := Lib.hid hb; clear hb; have Hh1 := Lib.hid h1; clear h1; have Hh2 := Lib.hid h2; clear h2; have Hhnm := Lib.hid hnm; clear hnm
      go_enter Tryz.func118, Tryz.ntmps118
      go_wp2_with fail
      go_ret
      exact ⟨rfl, Hhb.out⟩
set_option maxHeartbeats 4000000 in
theorem in19_calls {w : World} {B : Nat} {lv : Value} {l : List (Int × Int)} (hl : Sl 2 RPair w B lv l) (hB0 : B ≤ w.heap.size) (hll : l.length ≤ 100000) (e : Int × Int) :
    Calls Tryz.prog 72 #[lv, enc2 e] w fun r w' => r = .returned (.bool (decide (nm e ∈ l.map nm))) ∧ Below w.heap.size w w' := by
  obtain ⟨A, cap, rfl, hcap⟩ := hl.form
  obtain ⟨e1, e2⟩ := e
  change Calls Tryz.prog 72 #[.slice A l.length cap, .agg #[.int .i64 e1, .int .i64 e2]] w _
  have hb1 := (Below.refl w.heap.size w).alloc (Nat.le_refl _) (.cells #[.int .i64 e1, .int .i64 e2] 39)
  have hk1 := Bk.new w 39 [.int .i64 e1, .int .i64 e2]
  have hz1 : w.heap.size < (w.alloc (.cells #[.int .i64 e1, .int .i64 e2] 39)).heap.size := by simp
  have hl1 := hl.below keeps_pair (hb1.mono hB0)
  generalize hw1 : w.alloc (.cells #[.int .i64 e1, .int .i64 e2] 39) = w1 at *
  have hr1 := Below.refl w1.heap.size w1
  have Hhl := Lib.hid hl; clear hl; have Hhl1 := Lib.hid hl1; clear hl1; have Hhb1 := Lib.hid hb1; clear hb1; have Hhk1 := Lib.hid hk1; clear hk1
  go_enter Tryz.func72, Tryz.ntmps72
  go_wp2_with fail
  clear hw1
  go_loopw [5] (fun iv wr => ∃ k : Nat, k ≤ l.length ∧ iv = .int .i64 (k : Int) ∧ (∀ i (hi : i < l.length), i < k → nm l[i] ≠ nm (e1, e2)) ∧ Below w1.heap.size w1 wr) (fun iv _ => l.length - (intOf iv).toNat)
  case atStart => exact ⟨0, by omega, rfl, fun _ _ h => absurd h (by omega), hr1⟩
  case round =>
    obtain ⟨k, hk, rfl, hpre, hbr⟩ := hrel
    have hzr := hbr.size
    have hkr := Hhk1.out.below hbr hz1
    have g0 : wr.cell? ⟨w.heap.size, 0, none⟩ = some (.int .i64 e1) := hkr.cell 0
    have g1 : wr.cell? ⟨w.heap.size, 1, none⟩ = some (.int .i64 e2) := hkr.cell 1
    have hfin := Hhb1.out.trans (hbr.mono (Nat.le_of_lt hz1))
    by_cases hkl : k < l.length
    · obtain ⟨b, o, rfl, hb, a1, a2⟩ := (Hhl1.out.below keeps_pair (hbr.mono (by omega))).pair_at hkl
      have his := is19_calls l[k] (e1, e2) wr.drew
      have hnext : nm l[k] ≠ nm (e1, e2) → ∀ i (hi : i < l.length), i < k + 1 → nm l[i] ≠ nm (e1, e2) := fun h9 i hi h8 => by
        by_cases h7 : i = k
        · subst h7; exact h9
        · exact hpre i hi (by omega)
      have hyes : nm l[k] = nm (e1, e2) → decide (nm (e1, e2) ∈ l.map nm) = true := fun h9 => decide_eq_true (h9 ▸ List.mem_map_of_mem (List.getElem_mem hkl))
      generalize l[k] = ed at *
      obtain ⟨x1, x2⟩ := ed
      simp only [] at a1 a2
      change Calls _ _ #[.agg #[.int .i64 x1, .int .i64 x2], .agg #[.int .i64 e1, .int .i64 e2]] wr.drew _ at his
      by_cases hm : nm (x1, x2) = nm (e1, e2)
      · rw [decide_eq_true hm] at his
        have hy := hyes hm
        have Hhpre := Lib.hid hpre; clear hpre; have Hhnext := Lib.hid hnext; clear hnext; have Hhyes := Lib.hid hyes; clear hyes; have Hhis := Lib.hid his; clear his; have Hhm := Lib.hid hm; clear hm; have Hhy := Lib.hid hy; clear hy; have Hhkr := Lib.hid hkr; clear hkr
        go_wp2_with fail
        refine Go.Canon.wp_region_text mixed (by kernel_rfl) ?_
        go_wp2_with fail
        refine Hhis.out.mono ?_
        rintro r wz ⟨rfl, hbz⟩
        have hbF := hfin.drew.trans (hbz.mono hfin.size)
        go_wp2_with fail
        refine Go.Canon.chk (by rfl) ?_
        go_wp2_with fail
        go_ret
        exact ⟨ret_bool Hhy.out.symm, hbF⟩
      · rw [decide_eq_false hm] at his
        have hy := hnext hm
        have hbr' := hbr.drew
        have Hhpre := Lib.hid hpre; clear hpre; have Hhnext := Lib.hid hnext; clear hnext; have Hhyes := Lib.hid hyes; clear hyes; have Hhis := Lib.hid his; clear his; have Hhm := Lib.hid hm; clear hm; have Hhy := Lib.hid hy; clear hy; have Hhkr := Lib.hid hkr; clear hkr
        go_wp2_with fail
        refine Go.Canon.wp_region_text mixed (by kernel_rfl) ?_
        go_wp2_with fail
        refine Hhis.out.mono ?_
        rintro r wz ⟨rfl, hbz⟩
        have hbF := hbr'.trans (hbz.mono hzr)
        go_wp2_with fail
        refine Go.Canon.chk (by rfl) ?_
        go_wp2_with fail
        exact ⟨⟨k + 1, by omega, by simp, Hhy.out, hbF⟩, by simp [intOf]; omega⟩
    · obtain rfl : k = l.length := by omega
      have hno : decide (nm (e1, e2) ∈ l.map nm) = false := decide_eq_false fun h9 => by
        obtain ⟨x, hx, he⟩ := List.mem_map.1 h9
        obtain ⟨i, hi, rfl⟩ := List.getElem_of_mem hx
        exact hpre i hi hi he
      have Hhpre := Lib.hid hpre; clear hpre; have Hhno := Lib.hid hno; clear hno; have Hhkr := Lib.hid hkr; clear hkr
      go_wp2_with fail
      go_ret
      exact ⟨ret_bool Hhno.out.symm, hfin⟩
set_option maxHeartbeats 4000000 in
theorem at19_calls {w : World} {B : Nat} {lv : Value} {l : List (Int × Int)} (hl : Sl 2 RPair w B lv l) (hB0 : B ≤ w.heap.size) (hll : l.length ≤ 100000) (v : Int) :
    Calls Tryz.prog 115 #[lv, .int .i64 v] w fun r w' => r = .returned (.int .i64 (endsC l v : Nat)) ∧ Below w.heap.size w w' := by
  obtain ⟨A, cap, rfl, hcap⟩ := hl.form
  have hr1 := Below.refl w.heap.size w
  have Hhl := Lib.hid hl; clear hl
  go_enter Tryz.func115, Tryz.ntmps115
  go_wp2_with fail
  go_loopw [5, 6] (fun nv iv wr => ∃ k : Nat, k ≤ l.length ∧ iv = .int .i64 (k : Int) ∧ nv = .int .i64 (endsC (l.take k) v : Nat) ∧ Below w.heap.size w wr) (fun _ iv _ => l.length - (intOf iv).toNat)
  case atStart => exact ⟨0, by omega, rfl, rfl, hr1⟩
  case round =>
    obtain ⟨k, hk, rfl, rfl, hbr⟩ := hrel
    have hel := endsC_le (l.take k) v
    rw [List.length_take] at hel
    by_cases hkl : k < l.length
    · obtain ⟨b, o, rfl, hb, a1, a2⟩ := (Hhl.out.below keeps_pair (hbr.mono hB0)).pair_at hkl
      have hst : endsC (l.take (k + 1)) v = endsC (l.take k) v + if l[k].1 = v ∨ l[k].2 = v then 1 else 0 := by rw [List.take_succ_eq_append_getElem hkl, endsC_snoc]
      generalize l[k] = ed at *
      obtain ⟨y1, y2⟩ := ed
      simp only [] at a1 a2 hst
      generalize endsC (l.take k) v = k1 at *
      by_cases h1 : y1 = v
      · have hq : (y1 == v) = true := beq_iff_eq.2 h1
        rw [if_pos (.inl h1)] at hst
        have Hhst := Lib.hid hst; clear hst; have Hh1 := Lib.hid h1; clear h1
        go_wp2_with fail
        all_goals first | (exfalso; omega) | skip
        exact ⟨⟨k + 1, by omega, by simp, by rw [Hhst.out]; rfl, hbr⟩, by simp [intOf]; omega⟩
      · have hq : (y1 == v) = false := beq_eq_false_iff_ne.2 h1
        by_cases h2 : y2 = v
        · have hq2 : (y2 == v) = true := beq_iff_eq.2 h2
          rw [if_pos (.inr h2)] at hst
          have Hhst := Lib.hid hst; clear hst; have Hh1 := Lib.hid h1; clear h1; have Hh2 := Lib.hid h2; clear h2
          go_wp2_with fail
          all_goals first | (exfalso; omega) | skip
          exact ⟨⟨k + 1, by omega, by simp, by rw [Hhst.out]; rfl, hbr⟩, by simp [intOf]; omega⟩
        · have hq2 : (y2 == v) = false := beq_eq_false_iff_ne.2 h2
          rw [if_neg (fun h9 => h9.elim h1 h2)] at hst
          have Hhst := Lib.hid hst; clear hst; have Hh1 := Lib.hid h1; clear h1; have Hh2 := Lib.hid h2; clear h2
          go_wp2_with fail
          all_goals first | (exfalso; omega) | skip
          exact ⟨⟨k + 1, by omega, by simp, by rw [Hhst.out]; rfl, hbr⟩, by simp [intOf]; omega⟩
    · obtain rfl : k = l.length := by omega
      rw [List.take_length]
      go_wp2_with fail
      go_ret
      exact ⟨rfl, hbr⟩
end Go.Proofs.YtpbdcppaiafbgaaGreat
