/- Walks: bay's search. -/
import Derived.Test.YtpmmjjbllmeneaaDE
import Derived.Shelf.Abstract
import Derived.RangeFuncNested
namespace Go.Mesh
section
variable {N : Int} {T : List T3} {S : List Nat} {st nr : List Int} {row : List Nat} {k i : Nat}
theorem getD_of {l : List Int} {x : Nat} {d : Int} (h : l[x]? = some d) : l.getD x 0 = d := by rw [List.getD_eq_getElem?_getD, h]; rfl
theorem Sk.reach (h : Sk T S st nr row k) {s : Nat} (hs : s < T.length) (hk : S[k]? = some s) : Sk T S (rSt st s 0) (rNr st nr s 0 (k : Int)) (rRow st row s) (k + 1) := by
  unfold rSt rNr rRow
  by_cases hm : s ∈ row
  · have h0 := h.zero s hm
    obtain ⟨d, n, h1, h2, _⟩ := h.bq.inn s hm
    have h9 : ¬ (0 : Int) < 0 := by omega
    rw [getD_of h0, if_neg h9, if_neg h9, if_neg h9, if_pos rfl, getD_of h2]
    exact h.tie hk hm h2
  · obtain ⟨h1, _⟩ := h.bq.out s hs hm
    rw [getD_of h1, if_pos (by omega), if_pos (by omega), if_pos (by omega)]
    exact h.meet hs hk hm
theorem Qi.reach (hs : Surf N T) (h : Qi T S st nr row i k) {x y d m : Nat} (hk : k < 3) (hx : row[i]? = some x) (hn : nb T x k = some y) (hd : st[x]? = some (d : Int)) (hm : nr[x]? = some (m : Int)) :
    Qi T S (rSt st y ((d : Int) + 1)) (rNr st nr y ((d : Int) + 1) (m : Int)) (rRow st row y) i (k + 1) := by
  unfold rSt rNr rRow
  have hyl := (hs.nb_rng hk hn).2
  by_cases hy : y ∈ row
  · obtain ⟨e, n, h1, h2, _⟩ := h.bq.inn y hy
    have ht := h.top x y d e hx hy hd h1
    have h0 : ¬ (e : Int) < 0 := by omega
    rw [getD_of h1, if_neg h0, if_neg h0, if_neg h0, getD_of h2]
    by_cases he : (e : Int) = d + 1
    · rw [if_pos he]
      exact h.tie hs hk hx hn hd hm (by rw [h1, he]) h2 hy
    · rw [if_neg he]
      exact h.skip hx hn hd hm h1 hy (by omega)
  · obtain ⟨h1, _⟩ := h.bq.out y hyl hy
    rw [getD_of h1, if_pos (by omega), if_pos (by omega), if_pos (by omega)]
    exact h.meet hs hk hx hn hd hm hy
end
end Go.Mesh
namespace Go.Words
open Go Go.RowKit
/-- Two results that lie in boxes. -/
theorem results_box2 {P : Program} {fn : Func} {p q : Tmp} {ty : TypeId} {d : TypeDesc} (h : fn.results = #[.cell p ty, .cell q ty]) {tmps : Array Value} {w : World} {g g' : Nat} {u v : Value} (hp : tmps.getD p undef = .pointer (some ⟨g, 0, none⟩)) (hq : tmps.getD q undef = .pointer (some ⟨g', 0, none⟩))
    (hd : (match d with | .struct _ | .array _ _ => true | _ => false) = false) (hu : P.underlying ty = some d) (hc : w.cell? ⟨g, 0, none⟩ = some u) (hc' : w.cell? ⟨g', 0, none⟩ = some v) : (results fn tmps).run P w = .ok (.tuple #[u, v]) w := by
  have hp' : tmps[p]?.getD undef = .pointer (some ⟨g, 0, none⟩) := by simpa using hp
  have hq' : tmps[q]?.getD undef = .pointer (some ⟨g', 0, none⟩) := by simpa using hq
  simp [results, h, hp', hq', asAddr, loadVar, Proofs.run_isAgg_plain hu (by cases d <;> first | rfl | cases hd) w, hc, hc']
end Go.Words
namespace Go.Proofs.Ytpmmjjbllmeneaa
open Go Go.RowKit Go.Words Go.Mesh

/-- What far hands back. -/
def FarOut (w w' : World) (T : List T3) (S : List Nat) (e : Ending) : Prop := ∃ gs gn : Nat, e = .returned (.tuple #[.slice (some ⟨gs, 0, none⟩) T.length T.length, .slice (some ⟨gn, 0, none⟩) T.length T.length]) ∧
  Bk w' gs 3 (ivals (distL T S)) ∧ Bk w' gn 3 (ivals (nearL T S)) ∧ w.heap.size ≤ gs ∧ w.heap.size ≤ gn
set_option maxRecDepth 40000 in
set_option maxHeartbeats 2000000 in
theorem far_calls0 (hmul : ∀ (x y : Nat) (w : World), x < 18446744073709551616 → y < 18446744073709551616 → Calls Try.prog 42 #[.int .u64 (x : Int), .int .u64 (y : Int)] w fun e w' => e = .returned (.tuple #[.int .u64 ((x * y / 18446744073709551616 : Nat) : Int), .int .u64 ((x * y % 18446744073709551616 : Nat) : Int)]) ∧ w' = w)
    {w : World} {B : Nat} {tv sv : Value} {N : Int} {T : List T3} {S : List Nat} (hs : Surf N T)
    (htri : ∀ wz, Below w.heap.size w wz → Calls Try.prog 24 #[tv] wz fun e w' => e = .returned (.int .i64 T.length) ∧ w' = wz)
    (hopp : ∀ wz (c : Nat), Below w.heap.size w wz → c < 3 * T.length → Calls Try.prog 18 #[tv, .int .i64 (c : Int)] wz fun e w' => e = .returned (.int .i64 (match opp T c with | some d => (d : Int) | none => -1)) ∧ Below wz.heap.size wz w')
    (hB : B ≤ w.heap.size) (hS : Sl 1 RInt w B sv (S.map fun n : Nat => (n : Int))) (hSl : ∀ s ∈ S, s < T.length) (hSn : S.length ≤ 1000000) :
    Calls Try.prog 25 #[tv, sv] w fun e w' => FarOut w w' T S e ∧ Below w.heap.size w w' := by
  obtain ⟨A, cap, rfl, hcap⟩ := hS.form
  rw [List.length_map] at hcap ⊢
  have hfew := hs.tmax
  have Hhmul := Lib.hid hmul; clear hmul; have Hhtri := Lib.hid htri; clear htri; have Hhopp := Lib.hid hopp; clear hopp; have HhS := Lib.hid hS; clear hS
  go_enter Try.func25, Try.ntmps25
  go_wp2_with fail
  obtain ⟨w1, hw1⟩ : ∃ w1, w1 = (w.alloc (.cells #[.slice none 0 0] 28)).alloc (.cells #[.slice none 0 0] 28) := ⟨_, rfl⟩
  have hd1 : Below w.heap.size w w1 := by rw [hw1]; exact ((Below.refl _ w).alloc (Nat.le_refl _) _).alloc (by simp) _
  have x4 : Boxed w1 w.heap.size 28 (.slice none 0 0) := by rw [hw1]; exact (Boxed.new _ _ _).alloc _
  have x5 : Boxed w1 (w.heap.size + 1) 28 (.slice none 0 0) := by rw [hw1]; exact boxed_new' (by simp) _ _
  have hz1 : w1.heap.size = w.heap.size + 1 + 1 := by rw [hw1]; simp
  rw [← hw1]
  clear hw1
  refine (Hhtri.out w1 hd1).mono ?_
  rintro e w' ⟨rfl, rfl⟩
  have Hx4 := Lib.hid x4; clear x4; have Hx5 := Lib.hid x5; clear x5
  go_wp2_with fail
  obtain ⟨w2, hw2⟩ : ∃ w2, w2 = w'.alloc (.cells #[.int .i64 (-1)] 3) := ⟨_, rfl⟩
  have hd2 : Below w'.heap.size w' w2 := by rw [hw2]; exact (Below.refl _ _).alloc (Nat.le_refl _) _
  have hk2 : Bk w2 w'.heap.size 3 [.int .i64 (-1)] := by rw [hw2]; exact Bk.new _ _ _
  have hz2 : w2.heap.size = w'.heap.size + 1 := by rw [hw2]; simp
  rw [← hw2, show w.heap.size + 1 + 1 = w'.heap.size from hz1.symm]
  refine (repeat_calls Hhmul.out hk2 T.length (by omega)).mono ?_
  clear hw2 hk2
  rintro e w3 ⟨rfl, hk3, hb3⟩
  have hz3 := hb3.size
  have hlt3 := hk3.lt
  have Hhk3 := Lib.hid hk3; clear hk3
  go_wp2_with fail
  obtain ⟨w4, hw4⟩ : ∃ w4, w4 = w3.alloc (.cells #[.int .i64 (-1)] 3) := ⟨_, rfl⟩
  have hd4 : Below w3.heap.size w3 w4 := by rw [hw4]; exact (Below.refl _ _).alloc (Nat.le_refl _) _
  have hk4 : Bk w4 w3.heap.size 3 [.int .i64 (-1)] := by rw [hw4]; exact Bk.new _ _ _
  have hz4 : w4.heap.size = w3.heap.size + 1 := by rw [hw4]; simp
  rw [← hw4]
  refine (repeat_calls Hhmul.out hk4 T.length (by omega)).mono ?_
  clear hw4 hk4
  rintro e w5 ⟨rfl, hk5, hb5⟩
  have hz5 := hb5.size
  have hlt5 := hk5.lt
  have hd5 : Below w'.heap.size w' w5 := ((hd2.trans (hb3.mono (by omega))).trans (hd4.mono (by omega))).trans (hb5.mono (by omega))
  have y4 : Boxed w5 w.heap.size 28 (.slice none 0 0) := (hd5.block _ (by omega)).trans Hx4.out
  have y5 : Boxed w5 (w.heap.size + 1) 28 (.slice none 0 0) := (hd5.block _ (by omega)).trans Hx5.out
  have c4 := y4.cell
  have f4 := y4.frozen
  have c5 := y5.cell
  have f5 := y5.frozen
  obtain ⟨gs, hgs⟩ : ∃ gs, gs = w2.heap.size := ⟨_, rfl⟩
  obtain ⟨gn, hgn⟩ : ∃ gn, gn = w4.heap.size := ⟨_, rfl⟩
  obtain ⟨b7, hb7⟩ : ∃ b7, b7 = w5.heap.size := ⟨_, rfl⟩
  have hfm : ∀ w7, w7 = ((w5.setCell ⟨w.heap.size, 0, none⟩ (.slice (some ⟨gs, 0, none⟩) T.length T.length)).setCell ⟨w.heap.size + 1, 0, none⟩ (.slice (some ⟨gn, 0, none⟩) T.length T.length)).alloc (.cells #[.slice none 0 0] 28) → FM w7 w.heap.size gs gn b7 T.length (List.replicate T.length (-1)) (List.replicate T.length (-1)) [] ∧ Below w.heap.size w w7 := fun w7 e => by
    have k3 : Bk w5 gs 3 (ivals (List.replicate T.length (-1))) := by rw [hgs]; exact Hhk3.out.below (hd4.trans (hb5.mono (by omega))) (by omega)
    have k5 : Bk w5 gn 3 (ivals (List.replicate T.length (-1))) := by rw [hgn]; exact hk5
    rw [e]
    refine ⟨⟨((y4.set _).other (by omega) _).alloc _, ((y5.other (by omega) _).set _).alloc _, ((k3.far (by show gs ≠ w.heap.size; omega) _).far (by show gs ≠ w.heap.size + 1; omega) _).alloc _, ((k5.far (by show gn ≠ w.heap.size; omega) _).far (by show gn ≠ w.heap.size + 1; omega) _).alloc _, ⟨_, boxed_new' (by simp [hb7]) _ _, World.ownsRow_nil _ _ _ _⟩, by omega, by omega, by omega, by simp [hb7]⟩, ?_⟩
    exact (((hd1.trans (hd5.mono (by omega))).setCell (p := ⟨w.heap.size, 0, none⟩) (Nat.le_refl _) _).setCell (p := ⟨w.heap.size + 1, 0, none⟩) (by show w.heap.size ≤ w.heap.size + 1; omega) _).alloc (by simp; omega) _
  have eb : w5.heap.size = b7 := hb7.symm
  have egs : w.heap.size + 1 + 1 + 1 = gs := by omega
  have egn : w3.heap.size + 1 = gn := by omega
  have hsk := Sk.start T S
  have hlt7 : w.heap.size + 1 < gs ∧ gs < gn ∧ gn < b7 := by omega
  have Hhk5 := Lib.hid hk5; clear hk5; have Hy4 := Lib.hid y4; clear y4; have Hy5 := Lib.hid y5; clear y5; have Hhfm := Lib.hid hfm; clear hfm; have Hhsk := Lib.hid hsk; clear hsk; have Hhgs := Lib.hid hgs; clear hgs; have Hhgn := Lib.hid hgn; clear hgn; have Hhb7 := Lib.hid hb7; clear hb7; have Heb := Lib.hid eb; clear eb; have Hegs := Lib.hid egs; clear egs; have Hegn := Lib.hid egn; clear egn
  go_wp2_with fail
  rw [Heb.out, Hegs.out, Hegn.out]
  obtain ⟨w7, hw7⟩ : ∃ w7, w7 = ((w5.setCell ⟨w.heap.size, 0, none⟩ (.slice (some ⟨gs, 0, none⟩) T.length T.length)).setCell ⟨w.heap.size + 1, 0, none⟩ (.slice (some ⟨gn, 0, none⟩) T.length T.length)).alloc (.cells #[.slice none 0 0] 28) := ⟨_, rfl⟩
  obtain ⟨hf7, hd7⟩ := Hhfm.out w7 hw7
  rw [← hw7]
  clear hw7 c4 f4 c5 f5 hd5 hd4 hb5 hb3 hd2 hz5 hlt5 hz4 hz3 hlt3 hz2 Hhk3 Hhk5 Hy4 Hy5 Hx4 Hx5 Hhfm Hhgs Hhgn Hhb7 Heb Hegs Hegn
  have Hhf7 := Lib.hid hf7; clear hf7
  go_loopw [26] (fun iv wr => ∃ (k : Nat) (st nr : List Int) (row : List Nat), k ≤ S.length ∧ iv = .int .i64 (k : Int) ∧ FM wr w.heap.size gs gn b7 T.length st nr row ∧ Sk T S st nr row k ∧ Below w.heap.size w wr) (fun iv _ => S.length - (intOf iv).toNat)
  case atStart => exact ⟨0, _, _, [], by omega, rfl, Hhf7.out, Hhsk.out, hd7⟩
  case round =>
    obtain ⟨k, st, nr, row, hk, rfl, hfm, hsk, hbel⟩ := hrel
    obtain ⟨w8, hw8⟩ : ∃ w8, w8 = wr := ⟨_, rfl⟩
    subst hw8
    by_cases hkl : k < S.length
    · obtain ⟨b, o, rfl, hb, c1⟩ := (HhS.out.below keeps_int (hbel.mono hB)).int_at (k := k) (by rw [List.length_map]; exact hkl)
      rw [List.getElem_map] at c1
      have hsl := hSl S[k] (List.getElem_mem hkl)
      have hsk2 := hsk.reach hsl (List.getElem?_eq_getElem hkl)
      have hre := reach_calls hfm hsk.bq.ls hsk.bq.ln (by have := hsk.bq.len; omega) S[k] hsl 0 (k : Int)
      generalize S[k] = s at *
      have Hhfm := Lib.hid hfm; clear hfm; have Hhsk := Lib.hid hsk; clear hsk; have Hhsk2 := Lib.hid hsk2; clear hsk2; have Hhre := Lib.hid hre; clear hre
      go_wp2_with fail
      refine Hhre.out.mono ?_
      rintro e w9 ⟨rfl, hfm9, hb9⟩
      go_wp2_with fail
      exact ⟨⟨k + 1, _, _, _, by omega, by simp, hfm9, Hhsk2.out, hbel.trans hb9⟩, by simp [intOf]; omega⟩
    · obtain rfl : k = S.length := by omega
      have hqi := hsk.queue
      have Hhsk := Lib.hid hsk; clear hsk; have Hhqi := Lib.hid hqi; clear hqi; have Hhfm := Lib.hid hfm; clear hfm
      go_wp2_with fail
      go_loopw [11] (fun iv wr => ∃ (i : Nat) (st nr : List Int) (row : List Nat), i ≤ row.length ∧ iv = .int .i64 (i : Int) ∧ FM wr w.heap.size gs gn b7 T.length st nr row ∧ Qi T S st nr row i 0 ∧ Below w.heap.size w wr) (fun iv _ => T.length - (intOf iv).toNat)
      case atStart => exact ⟨0, _, _, _, by omega, rfl, Hhfm.out, Hhqi.out, hbel⟩
      case round =>
        clear Hhfm Hhqi Hhsk hbel
        obtain ⟨i, st, nr, row, hi, rfl, hfm, hqi, hbel⟩ := hrel
        obtain ⟨w9, hw9⟩ : ∃ w9, w9 = wr := ⟨_, rfl⟩
        subst hw9
        have hrl := hqi.bq.len
        obtain ⟨rv, r1, r2⟩ := hfm.row
        obtain ⟨A7, cap7, rfl, hc7⟩ := own_form r2
        have c7 := r1.cell
        by_cases hil : i < row.length
        · obtain ⟨g7, rfl⟩ := own_addrD r2 (by omega)
          obtain ⟨cx, -, -⟩ := own_nat_at r2 rfl hil
          have hxr : row[i]? = some row[i] := List.getElem?_eq_getElem hil
          generalize row[i] = x at *
          have Hhfm := Lib.hid hfm; clear hfm; have Hhqi := Lib.hid hqi; clear hqi; have Hr1 := Lib.hid r1; clear r1; have Hr2 := Lib.hid r2; clear r2
          go_wp2_with fail
          go_loopw [46] (fun kv wr => ∃ (k : Nat) (st nr : List Int) (row : List Nat), k ≤ 3 ∧ kv = .int .i64 (k : Int) ∧ row[i]? = some x ∧ FM wr w.heap.size gs gn b7 T.length st nr row ∧ Qi T S st nr row i k ∧ Below w.heap.size w wr) (fun kv _ => 3 - (intOf kv).toNat)
          case atStart => exact ⟨0, _, _, _, by omega, rfl, hxr, Hhfm.out, Hhqi.out, hbel⟩
          case round =>
            clear Hhfm Hhqi hbel hxr Hr1 Hr2 c7 cx hrl hc7 hil hi
            obtain ⟨k, st, nr, row, hk, rfl, hxr, hfm, hqi, hbel⟩ := hrel
            obtain ⟨w10, hw10⟩ : ∃ w10, w10 = wr := ⟨_, rfl⟩
            subst hw10
            have hxm := List.mem_of_getElem? hxr
            have hxl := hqi.bq.lt x hxm
            by_cases hk3 : k < 3
            · have hop := Hhopp.out w10 (3 * x + k) hbel (by omega)
              rw [show ((3 * x + k : Nat) : Int) = 3 * (x : Int) + (k : Int) by omega] at hop
              cases hnb : opp T (3 * x + k) with
              | none =>
                rw [hnb] at hop
                have hq2 := hqi.none_ hxr (show nb T x k = none by unfold nb; rw [hnb]; rfl)
                have Hhfm := Lib.hid hfm; clear hfm; have Hhqi := Lib.hid hqi; clear hqi; have Hhop := Lib.hid hop; clear hop; have Hhnb := Lib.hid hnb; clear hnb; have Hhxr := Lib.hid hxr; clear hxr; have Hhq2 := Lib.hid hq2; clear hq2; have Hhxm := Lib.hid hxm; clear hxm
                go_wp2_with fail
                refine Hhop.out.mono ?_
                rintro e w11 ⟨rfl, hb11⟩
                have hfm2 := Hhfm.out.below hb11
                have hbel2 := hbel.trans (hb11.mono hbel.size)
                have Hhfm2 := Lib.hid hfm2; clear hfm2
                go_wp2_with fail
                exact ⟨⟨k + 1, _, _, _, by omega, by simp, Hhxr.out, Hhfm2.out, Hhq2.out, hbel2⟩, by simp [intOf]; omega⟩
              | some d =>
                rw [hnb] at hop
                have hnb2 : nb T x k = some (d / 3) := by unfold nb; rw [hnb]; rfl
                obtain ⟨dx, mx, h1, h2, _⟩ := hqi.bq.inn x hxm
                have hdx := hqi.bq.st_lt hxm h1
                have hyl := (hs.nb_rng hk3 hnb2).2
                have hq2 := hqi.reach hs hk3 hxr hnb2 h1 h2
                have hxr2 : (rRow st row (d / 3))[i]? = some x := by
                  unfold rRow
                  split
                  · rw [List.getElem?_append_left (List.getElem?_eq_some_iff.1 hxr).1]; exact hxr
                  · exact hxr
                have hre := fun wz (hz : FM wz w.heap.size gs gn b7 T.length st nr row) => reach_calls hz hqi.bq.ls hqi.bq.ln (by have := hqi.bq.len; omega) (d / 3) hyl ((dx : Int) + 1) (mx : Int)
                have Hhfm := Lib.hid hfm; clear hfm; have Hhqi := Lib.hid hqi; clear hqi; have Hhop := Lib.hid hop; clear hop; have Hhnb := Lib.hid hnb; clear hnb; have Hhnb2 := Lib.hid hnb2; clear hnb2; have Hhxr := Lib.hid hxr; clear hxr; have Hhxr2 := Lib.hid hxr2; clear hxr2; have Hhq2 := Lib.hid hq2; clear hq2; have Hhxm := Lib.hid hxm; clear hxm; have Hhre := Lib.hid hre; clear hre; have Hh1 := Lib.hid h1; clear h1; have Hh2 := Lib.hid h2; clear h2
                go_wp2_with fail
                refine Hhop.out.mono ?_
                rintro e w11 ⟨rfl, hb11⟩
                have hfm2 := Hhfm.out.below hb11
                have hbel2 := hbel.trans (hb11.mono hbel.size)
                have c4 := hfm2.b4.cell
                have c5 := hfm2.b5.cell
                have cs := (hfm2.s.cell x).trans (ivals_at Hh1.out)
                have cn := (hfm2.r.cell x).trans (ivals_at Hh2.out)
                have hxi : (x : Int) < (T.length : Int) := by omega
                have Hhfm2 := Lib.hid hfm2; clear hfm2
                go_wp2_with fail
                refine Go.Canon.wp_region_text mixed (by kernel_rfl) ?_
                go_wp2_with fail
                have hr9 := Hhre.out w11.drew Hhfm2.out.drew
                rw [show ((d / 3 : Nat) : Int) = (d : Int) / 3 by omega] at hr9
                refine hr9.mono ?_
                clear hr9
                rintro e w12 ⟨rfl, hfm3, hb12⟩
                have Hhfm3 := Lib.hid hfm3; clear hfm3
                go_wp2_with fail
                refine Go.Canon.chk (by rfl) ?_
                go_wp2_with fail
                exact ⟨⟨k + 1, _, _, _, by omega, by simp, Hhxr2.out, Hhfm3.out, Hhq2.out, hbel2.drew.trans hb12⟩, by simp [intOf]; omega⟩
            · obtain rfl : k = 3 := by omega
              have hq2 := hqi.next
              have hil := (List.getElem?_eq_some_iff.1 hxr).1
              have hrl := hqi.bq.len
              have Hhfm := Lib.hid hfm; clear hfm; have Hhqi := Lib.hid hqi; clear hqi; have Hhq2 := Lib.hid hq2; clear hq2; have Hhxr := Lib.hid hxr; clear hxr; have Hhxm := Lib.hid hxm; clear hxm
              go_wp2_with fail
              exact ⟨⟨i + 1, _, _, _, by omega, by simp, Hhfm.out, Hhq2.out, hbel⟩, by simp [intOf]; omega⟩
        · obtain rfl : i = row.length := by omega
          obtain ⟨e1, e2⟩ := hs.far_eq hSl (hqi.far hs)
          subst e1; subst e2
          have c4 := hfm.b4.cell
          have c5 := hfm.b5.cell
          have f4 := hfm.b4.frozen
          have f5 := hfm.b5.frozen
          have o1 := hfm.o1; have o2 := hfm.o2
          have z4 := (hfm.b4.set (.slice (some ⟨gs, 0, none⟩) T.length T.length)).other (B' := w.heap.size + 1) (by omega) (.slice (some ⟨gn, 0, none⟩) T.length T.length)
          have z5a := hfm.b5.other (B' := w.heap.size) (by omega) (.slice (some ⟨gs, 0, none⟩) T.length T.length)
          have z5 := z5a.set (.slice (some ⟨gn, 0, none⟩) T.length T.length)
          have zs := (hfm.s.far (p := ⟨w.heap.size, 0, none⟩) (by show gs ≠ w.heap.size; omega) (.slice (some ⟨gs, 0, none⟩) T.length T.length)).far (p := ⟨w.heap.size + 1, 0, none⟩) (by show gs ≠ w.heap.size + 1; omega) (.slice (some ⟨gn, 0, none⟩) T.length T.length)
          have zr := (hfm.r.far (p := ⟨w.heap.size, 0, none⟩) (by show gn ≠ w.heap.size; omega) (.slice (some ⟨gs, 0, none⟩) T.length T.length)).far (p := ⟨w.heap.size + 1, 0, none⟩) (by show gn ≠ w.heap.size + 1; omega) (.slice (some ⟨gn, 0, none⟩) T.length T.length)
          have zb := ((hbel.setCell (p := ⟨w.heap.size, 0, none⟩) (Nat.le_refl _) (.slice (some ⟨gs, 0, none⟩) T.length T.length)).setCell (p := ⟨w.heap.size + 1, 0, none⟩) (by show w.heap.size ≤ w.heap.size + 1; omega) (.slice (some ⟨gn, 0, none⟩) T.length T.length)).drew
          have y5 := hfm.b5
          have Hhfm := Lib.hid hfm; clear hfm; have Hhqi := Lib.hid hqi; clear hqi; have Hr1 := Lib.hid r1; clear r1; have Hr2 := Lib.hid r2; clear r2; have Hz4 := Lib.hid z4; clear z4; have Hz5 := Lib.hid z5; clear z5; have Hz5a := Lib.hid z5a; clear z5a; have Hzs := Lib.hid zs; clear zs; have Hzr := Lib.hid zr; clear zr; have Hzb := Lib.hid zb; clear zb; have Hy5 := Lib.hid y5; clear y5
          go_wp2_with fail
          refine Go.Canon.wp_region_tree [1] (fun b => b = w.heap.size + 1) (.seg [0,1] (.alt 2 (.alt 3 .fin .no) .no)) mixed (by kernel_rfl) ?_
          refine Go.Canon.tr_seg ?_
          simp only [List.map_cons, List.map_nil, List.getD_cons_zero, List.getD_cons_succ]
          go_wp2_with fail
          refine Go.Canon.tr_to (Go.Canon.tr_one ?_)
          simp only [List.getD_cons_zero, List.getD_cons_succ]
          go_wp2_with fail
          refine Go.Canon.tr_end (fun b hb => by subst hb; exact Hz5a.out.trans Hy5.out.symm) (Go.Canon.tr_one ?_)
          simp only [List.getD_cons_zero, List.getD_cons_succ]
          go_wp2_with fail
          refine Go.Canon.tr_end (fun b hb => by subst hb; exact Hz5.out.trans Hy5.out.symm) (Go.Canon.tr_fin (by rfl) (List.forall_mem_cons.2 ⟨.inl ⟨_, rfl, rfl, by rw [World.cell?_drew, c5]; rfl⟩, fun _ h => by cases h⟩) ?_)
          go_wp2_with fail
          refine bodyPost_ret (results_box2 rfl rfl rfl rfl Try.underlying28 Hz4.out.cell Hz5.out.cell) rfl ?_
          exact ⟨⟨gs, gn, rfl, Hzs.out, Hzr.out, by omega, by omega⟩, Hzb.out⟩
end Go.Proofs.Ytpmmjjbllmeneaa
