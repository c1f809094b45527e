/- Walks: are rows as told; the document's example. -/
import Derived.Test.YtbhdfljdfjadnaaW8
namespace Go.Proofs.Ytbhdfljdfjadnaa
open Go Go.RowKit Go.Words Go.StreamP

set_option maxHeartbeats 1000000 in
theorem refright_calls (v : Value) (L : List (List B2)) (w : World) {B : Nat} (hB0 : B ≤ w.heap.size) (h : Sl 1 (RSl 2 RPair) w B v L) (hL : L.length ≤ 256) (hsm : ∀ l ∈ L, l.length ≤ 1024) :
    Calls Try.prog 12 #[v] w fun e w' => e = .returned (.bool (L.all rowB)) ∧ Below w.heap.size w w' := by
  obtain ⟨A, cap, rfl, hcap⟩ := h.form
  have hL2 : (L.length : Int) ≤ 256 := by omega
  have Hhsm := Lib.hid hsm; clear hsm; have Hh := Lib.hid h; clear h
  go_enter Try.func12, Try.ntmps12
  go_wp2
  go_loopw [3] (fun i wr => ∃ k : Nat, k ≤ L.length ∧ i = .int .i64 k ∧ (L.take k).all rowB = true ∧ Below w.heap.size w wr)
    (fun i _ => L.length - (intOf i).toNat)
  case atStart => exact ⟨0, by omega, rfl, by simp, (by repeat (first | exact Below.refl _ _ | assumption | refine Below.drew ?_ | refine Below.setCell ?_ (by first | omega | (simp <;> omega)) _ | refine Below.alloc ?_ (by first | omega | (simp <;> omega)) _ | refine below_drewN ?_ _))⟩
  case round =>
    obtain ⟨k, hk, rfl, hall, hbel⟩ := hrel
    have hz := hbel.size
    by_cases hlt : k < L.length
    · obtain ⟨b, o, vr, rfl, hb, c1, hvr⟩ := (Hh.out.below (keeps_sl keeps_pair) (hbel.mono hB0)).sl_at hlt
      obtain ⟨A3, cap3, rfl, hcap3⟩ := hvr.form
      have hrl := Hhsm.out _ (List.getElem_mem hlt)
      have hmem := List.getElem_mem hlt
      have htk : L.take (k + 1) = L.take k ++ [L[k]] := List.take_succ_eq_append_getElem hlt
      generalize hx : L[k] = x at *
      have hrl2 : (x.length : Int) ≤ 1024 := by omega
      have Hhall := Lib.hid hall; clear hall; have Hhx := Lib.hid hx; clear hx; have Hhtk := Lib.hid htk; clear htk; have Hhmem := Lib.hid hmem; clear hmem; have Hhvr := Lib.hid hvr; clear hvr
      obtain ⟨wo, rfl⟩ : ∃ wo : World, wo = wr := ⟨_, rfl⟩
      go_wp2
      go_loopw [4] (fun i wi => ∃ m : Nat, m ≤ x.length ∧ i = .int .i64 m ∧ (x.take m).all (fun b => decide (GoodB b)) = true ∧ Below wo.heap.size wo wi)
        (fun i _ => x.length - (intOf i).toNat)
      case atStart => exact ⟨0, by omega, rfl, by simp, (by repeat (first | exact Below.refl _ _ | assumption | refine Below.drew ?_ | refine Below.setCell ?_ (by first | omega | (simp <;> omega)) _ | refine Below.alloc ?_ (by first | omega | (simp <;> omega)) _ | refine below_drewN ?_ _))⟩
      case round =>
        obtain ⟨m, hm, rfl, hgd, hbi⟩ := hrel
        have hzi := hbi.size
        have hbel2 : Below w.heap.size w wr := below_call hbel hbi (by omega)
        have c2 : wr.cell? ⟨b, o + k, none⟩ = some (.slice A3 x.length cap3) := (hbi.cell (p := ⟨b, o + k, none⟩) (by simp; omega)).trans c1
        by_cases hlt2 : m < x.length
        · obtain ⟨b', o', rfl, hb', c3, c4⟩ := (Hhvr.out.below keeps_pair (hbi.mono (by omega))).pair_at hlt2
          have htm : x.take (m + 1) = x.take m ++ [x[m]] := List.take_succ_eq_append_getElem hlt2
          have hmem2 : x[m] ∈ x := List.getElem_mem hlt2
          generalize hy : x[m] = y at *
          obtain ⟨y1, y2⟩ := y
          have hbad : ¬ GoodB (y1, y2) → L.all rowB = false := fun hn => by
            refine List.all_eq_false.2 ⟨x, Hhmem.out, ?_⟩
            intro hr
            exact hn ((rowB_len hr).2 _ hmem2)
          have hyes : GoodB (y1, y2) → (x.take (m + 1)).all (fun b => decide (GoodB b)) = true := fun hy9 => by
            rw [htm, List.all_append, hgd]
            simp [hy9]
          unfold GoodB at hbad hyes
          simp only [] at hbad hyes
          have Hhgd := Lib.hid hgd; clear hgd; have Hhbad := Lib.hid hbad; clear hbad; have Hhyes := Lib.hid hyes; clear hyes; have Hhtm := Lib.hid htm; clear htm; have Hhy := Lib.hid hy; clear hy; have Hhmem2 := Lib.hid hmem2; clear hmem2
          go_wp2
          all_goals first
            | (go_ret
               refine ⟨ret_bool (Hhbad.out (by omega)).symm, ?_⟩
               exact hbel2.alloc (by omega) _)
            | exact ⟨⟨m + 1, by omega, by simp, Hhyes.out (by omega), hbi.alloc (by omega) _⟩, by simp [intOf]; omega⟩
        · have hmx : x.take m = x := List.take_of_length_le (by omega)
          rw [hmx] at hgd
          have hrx : rowB x = true := by unfold rowB; rw [decide_eq_true hrl, hgd]; rfl
          have Hhgd := Lib.hid hgd; clear hgd; have Hhmx := Lib.hid hmx; clear hmx; have Hhrx := Lib.hid hrx; clear hrx
          go_wp2
          refine ⟨⟨k + 1, by omega, by simp, ?_, hbel2⟩, by simp [intOf]; omega⟩
          rw [Hhtk.out, List.all_append, Hhall.out]
          simp [Hhrx.out]
    · have hk1 : L.take k = L := List.take_of_length_le (by omega)
      rw [hk1] at hall
      have Hhall := Lib.hid hall; clear hall; have Hhk1 := Lib.hid hk1; clear hk1
      go_wp2
      go_ret
      exact ⟨ret_bool Hhall.out.symm, hbel⟩

set_option maxHeartbeats 1000000 in
theorem awake_calls (w : World) :
    Calls Try.prog 11 #[] w fun e w' => e = .returned (.bool true) ∧ Below w.heap.size w w' := by
  go_enter Try.func11, Try.ntmps11
  go_wp2_with fail
  refine (hull_calls _ [(4, 8), (1, 3)] _ (Nat.le_refl _) (pairs_sl (l := [(4, 8), (1, 3)]) (cap := 2) (Bk.new w _ [.int .i64 4, .int .i64 8, .int .i64 1, .int .i64 3]) (by decide)) (by decide) (by decide)).mono ?_
  rintro e w1 ⟨⟨p1, p2, rfl, hp1, hp2, -⟩, hb1⟩
  rw [show hull [(4, 8), (1, 3)] = [((5, 11), 2)] by decide] at hp1 hp2
  obtain ⟨A1, cap1, rfl, hcap1⟩ := hp1.form
  obtain ⟨A2, cap2, rfl, hcap2⟩ := hp2.form
  obtain ⟨b1, o1, rfl, hbb1, k1, k2⟩ := hp1.pair_at (k := 0) (by decide)
  simp only [List.map_cons, List.map_nil, List.length_cons, List.length_nil, Nat.zero_add, List.getElem_cons_zero, Nat.zero_mul, Nat.add_zero] at *
  have hz1 : w.heap.size + 1 ≤ w1.heap.size := by simpa using hb1.size
  have hbel1 : Below w.heap.size w w1 := below_call ((Below.refl _ _).alloc (Nat.le_refl _) _) hb1 (by simp)
  have Hhp1 := Lib.hid hp1; clear hp1; have Hhp2 := Lib.hid hp2; clear hp2
  go_wp2_with fail
  have q1 := ((Bk.new w1 32 [.int .i64 4, .int .i64 8, .int .i64 1, .int .i64 3]).alloc (.cells #[.int .i64 5, .int .i64 10] 32)).alloc (.cells #[.slice (some ⟨w1.heap.size, 0, none⟩) 2 2, .slice (some ⟨w1.heap.size + 1, 0, none⟩) 1 1] 22)
  have q2 := (Bk.new' (w := w1.alloc (.cells #[.int .i64 4, .int .i64 8, .int .i64 1, .int .i64 3] 32)) (n := w1.heap.size + 1) 32 [.int .i64 5, .int .i64 10] (by simp)).alloc (.cells #[.slice (some ⟨w1.heap.size, 0, none⟩) 2 2, .slice (some ⟨w1.heap.size + 1, 0, none⟩) 1 1] 22)
  have q3 := Bk.new' (w := (w1.alloc (.cells #[.int .i64 4, .int .i64 8, .int .i64 1, .int .i64 3] 32)).alloc (.cells #[.int .i64 5, .int .i64 10] 32)) (n := w1.heap.size + 1 + 1) 22 [.slice (some ⟨w1.heap.size, 0, none⟩) 2 2, .slice (some ⟨w1.heap.size + 1, 0, none⟩) 1 1] (by simp)
  have hbelW := ((hbel1.alloc (by omega) (.cells #[.int .i64 4, .int .i64 8, .int .i64 1, .int .i64 3] 32)).alloc (by simp <;> omega) (.cells #[.int .i64 5, .int .i64 10] 32)).alloc (by simp <;> omega) (.cells #[.slice (some ⟨w1.heap.size, 0, none⟩) 2 2, .slice (some ⟨w1.heap.size + 1, 0, none⟩) 1 1] 22)
  have hbelW1 := (((Below.refl w1.heap.size w1).alloc (by omega) (.cells #[.int .i64 4, .int .i64 8, .int .i64 1, .int .i64 3] 32)).alloc (by simp <;> omega) (.cells #[.int .i64 5, .int .i64 10] 32)).alloc (by simp <;> omega) (.cells #[.slice (some ⟨w1.heap.size, 0, none⟩) 2 2, .slice (some ⟨w1.heap.size + 1, 0, none⟩) 1 1] 22)
  generalize hW : ((w1.alloc (.cells #[.int .i64 4, .int .i64 8, .int .i64 1, .int .i64 3] 32)).alloc (.cells #[.int .i64 5, .int .i64 10] 32)).alloc (.cells #[.slice (some ⟨w1.heap.size, 0, none⟩) 2 2, .slice (some ⟨w1.heap.size + 1, 0, none⟩) 1 1] 22) = W at *
  have s1 := pairs_sl (l := [(4, 8), (1, 3)]) (cap := 2) q1 (by decide)
  have s2 := pairs_sl (l := [(5, 10)]) (cap := 1) q2 (by decide)
  have s3 := rows_sl' keeps_pair (L := [[(4, 8), (1, 3)], [(5, 10)]]) (cap := 2) q3 (by decide) rfl fun i a hi => by
    match i, hi with
    | 0, hi => injection hi with hi; subst hi; exact ⟨_, rfl, s1⟩
    | 1, hi => injection hi with hi; subst hi; exact ⟨_, rfl, s2⟩
  refine (greedy_calls _ [[(4, 8), (1, 3)], [(5, 10)]] 5 _ (Nat.le_refl _) s3 (by decide) (by decide) (by decide) (by decide)).mono ?_
  rw [show greedyL [[(4, 8), (1, 3)], [(5, 10)]] 5 = [2, 0] by decide]
  rintro e w2 ⟨⟨p3, rfl, hp3'⟩, hb2⟩
  have hp3 := hp3'.sl
  clear hp3'
  have hzW := hbelW.size
  have hzW1 := hbelW1.size
  have hz2 := hb2.size
  have hbel2 := below_call hbelW hb2 (by omega)
  have hb12 : Below w1.heap.size w1 w2 := below_call hbelW1 hb2 (by omega)
  have k1' : w2.cell? ⟨b1, o1, none⟩ = some (.int .i64 5) := (hb12.cell (p := ⟨b1, o1, none⟩) hbb1).trans k1
  have k2' : w2.cell? ⟨b1, o1 + 1, none⟩ = some (.int .i64 11) := (hb12.cell (p := ⟨b1, o1 + 1, none⟩) hbb1).trans k2
  have r2 := Hhp2.out.after keeps_int hb12 (Nat.le_refl _)
  clear k1 k2
  have Hr2 := Lib.hid r2; clear r2; have Hhp3 := Lib.hid hp3; clear hp3; have Hq1 := Lib.hid q1; clear q1; have Hq2 := Lib.hid q2; clear q2; have Hq3 := Lib.hid q3; clear q3; have Hs1 := Lib.hid s1; clear s1; have Hs2 := Lib.hid s2; clear s2; have Hs3 := Lib.hid s3; clear s3; have HhW := Lib.hid hW; clear hW
  go_wp2_with fail
  refine (ints_calls _ _ [2] [2] _ (Nat.le_refl _) (Hr2.out.keep keeps_int ((Below.refl _ _).alloc (by omega) _) (by simp; omega)) (block_ints (T := [2]) (cap := 1) (Bk.new w2 _ [.int .i64 2]) (by decide)) (by decide) (by decide)).mono ?_
  rintro e w3 ⟨rfl, hb3⟩
  have hz3 : w2.heap.size + 1 ≤ w3.heap.size := by simpa using hb3.size
  have hbel3 : Below w.heap.size w w3 := below_call (hbel2.alloc (by omega) _) hb3 (by simp; omega)
  have hb23 : Below w2.heap.size w2 w3 := below_call ((Below.refl _ _).alloc (Nat.le_refl _) _) hb3 (by simp)
  have r3 := Hhp3.out.after keeps_int hb23 (Nat.le_refl _)
  have Hr3 := Lib.hid r3; clear r3
  go_wp2_with fail
  refine (ints_calls _ _ [2, 0] [2, 0] _ (Nat.le_refl _) (Hr3.out.keep keeps_int ((Below.refl _ _).alloc (by omega) _) (by simp; omega)) (block_ints (T := [2, 0]) (cap := 2) (Bk.new w3 _ [.int .i64 2, .int .i64 0]) (by decide)) (by decide) (by decide)).mono ?_
  rintro e w4 ⟨rfl, hb4⟩
  have hbel4 : Below w.heap.size w w4 := below_call (hbel3.alloc (by omega) _) hb4 (by simp; omega)
  go_wp2_with fail
  go_ret
  exact ⟨rfl, hbel4⟩
end Go.Proofs.Ytbhdfljdfjadnaa
