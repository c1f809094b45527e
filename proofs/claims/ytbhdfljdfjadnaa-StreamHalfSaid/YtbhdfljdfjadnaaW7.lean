/- Walks: which row goes next. -/
import Derived.Test.YtbhdfljdfjadnaaW6
import Derived.Test.YtbhdfljdfjadnaaPure2
namespace Go.Proofs.Ytbhdfljdfjadnaa
open Go Go.RowKit Go.Words Go.StreamP

set_option maxHeartbeats 1000000 in
theorem next_calls (v1 v2 : Value) (L : List (List B2)) (T : List Nat) (w : World) {B : Nat} (hB0 : B ≤ w.heap.size) (h : Sl 1 (RSl 2 RPair) w B v1 L) (h2 : Sl 1 RInt w B v2 (T.map fun n : Nat => (n : Int))) (hL : L.length ≤ 256) (hsm : ∀ l ∈ L, l.length ≤ 1024)
    (hg : ∀ l ∈ L, ∀ b ∈ l, GoodB b) (hfit : Fits L T) :
    Calls Try.prog 33 #[v1, v2] w fun e w' => e = .returned (.tuple #[.int .i64 (nextRow (nextL L T)), .agg #[.int .i64 (nextPiece (nextL L T)).1, .int .i64 (nextPiece (nextL L T)).2], .int .i64 (nextSize (nextL L T))]) ∧ Below w.heap.size w w' := by
  obtain ⟨A, cap, rfl, hcap⟩ := h.form
  obtain ⟨A2, cap2, rfl, hcap2⟩ := h2.form
  rw [List.length_map]
  have Hhsm := Lib.hid hsm; clear hsm; have Hhg := Lib.hid hg; clear hg; have Hhfit := Lib.hid hfit; clear hfit; have Hh := Lib.hid h; clear h; have Hh2 := Lib.hid h2; clear h2
  go_enter Try.func33, Try.ntmps33
  go_wp2
  go_loopw [7, 9, 17] (fun r n i wr => ∃ k : Nat, k ≤ L.length ∧ i = .int .i64 k ∧ r = .int .i64 (nextRow (nextTo L T k)) ∧ n = .int .i64 (nextSize (nextTo L T k)) ∧
      Bk wr (w.heap.size + 1) 32 [.int .i64 (nextPiece (nextTo L T k)).1, .int .i64 (nextPiece (nextTo L T k)).2] ∧ Bk wr w.heap.size 32 [.int .i64 0, .int .i64 0] ∧ Below w.heap.size w wr)
    (fun _ _ i _ => L.length - (intOf i).toNat)
  case atStart => exact ⟨0, by omega, rfl, rfl, rfl, Bk.new' (w := w.alloc _) _ [.int .i64 0, .int .i64 0] (by simp), (Bk.new w _ [.int .i64 0, .int .i64 0]).alloc _, (by repeat (first | exact Below.refl _ _ | assumption | refine Below.drew ?_ | refine Below.setCell ?_ (by first | omega | (simp <;> omega)) _ | refine Below.alloc ?_ (by first | omega | (simp <;> omega)) _ | refine below_drewN ?_ _))⟩
  case round =>
    obtain ⟨k, hk, rfl, rfl, rfl, hblk, hblk0, hbel⟩ := hrel
    have hz := hbel.size
    have hltb := hblk.lt
    by_cases hlt : k < L.length
    · have hltT : k < T.length := by have := Hhfit.out.len; omega
      obtain ⟨b, o, vr, rfl, hb, c1, hvr⟩ := (Hh.out.below (keeps_sl keeps_pair) (hbel.mono hB0)).sl_at hlt
      obtain ⟨b', o', rfl, hb', c2⟩ := (Hh2.out.below keeps_int (hbel.mono hB0)).int_at (k := k) (by simpa using hltT)
      rw [List.getElem_map] at c2
      obtain ⟨A3, cap3, rfl, hcap3⟩ := hvr.form
      have hrl := Hhsm.out _ (List.getElem_mem hlt)
      have hrg := Hhg.out _ (List.getElem_mem hlt)
      have hyn := Hhfit.out.le k hlt hltT
      have hst : nextTo L T (k + 1) = stepN (nextTo L T k) k (L[k].drop T[k]) := by
        rw [nextTo, getD_at _ _ _ hlt, getD_at _ _ _ hltT]
      have hmq : Mid (nextPiece (nextTo L T k)) := by
        cases hn : nextTo L T k with
        | none => unfold Mid nextPiece; simp
        | some x =>
          obtain ⟨j, q, m⟩ := x
          obtain ⟨h1, h2, h3, h4⟩ := nextTo_some L T k j q m hn
          have hj : j < L.length := by omega
          rw [getD_at _ _ _ hj] at h3
          simp only [nextPiece]
          rw [h3]
          exact mid_take _ (good_drop (Hhg.out _ (List.getElem_mem hj)) _) (by rw [List.length_drop]; have := Hhsm.out _ (List.getElem_mem hj); omega) _
      generalize hx : L[k] = x at *
      generalize hy : T[k] = y at *
      have hsl := hvr.drop (k := y) hyn
      have hdl : (x.drop y).length ≤ 1024 := by rw [List.length_drop]; omega
      have hdg := good_drop hrg y
      have hlen : (x.drop y).length = x.length - y := List.length_drop
      generalize hrest : x.drop y = rest at *
      generalize hacc : nextTo L T k = acc at *
      have Hhst := Lib.hid hst; clear hst; have Hhx := Lib.hid hx; clear hx; have Hhy := Lib.hid hy; clear hy; have Hhmq := Lib.hid hmq; clear hmq; have Hhrg := Lib.hid hrg; clear hrg; have Hhvr := Lib.hid hvr; clear hvr; have Hhsl := Lib.hid hsl; clear hsl; have Hhdl := Lib.hid hdl; clear hdl; have Hhdg := Lib.hid hdg; clear hdg; have Hhrest := Lib.hid hrest; clear hrest; have Hhacc := Lib.hid hacc; clear hacc; have Hhblk := Lib.hid hblk; clear hblk; have Hhblk0 := Lib.hid hblk0; clear hblk0; have Hhlen := Lib.hid hlen; clear hlen
      by_cases hr0 : rest = []
      · have hhn : hull rest = [] := by rw [hr0, hull_nil]
        have hst2 : nextTo L T (k + 1) = acc := by rw [Hhst.out, stepN_nil _ _ hr0]
        have hnl : x.length - y = 0 := by rw [← Hhlen.out, hr0]; rfl
        have hlenF : ∀ f : Value → Prop, True := fun _ => trivial
        have Hhr0 := Lib.hid hr0; clear hr0; have Hhhn := Lib.hid hhn; clear hhn; have Hhst2 := Lib.hid hst2; clear hst2; have Hhnl := Lib.hid hnl; clear hnl
        go_wp2_with fail
        all_goals
          refine (hull_calls _ rest _ (Nat.zero_le _) (by rw [Hhr0.out, Hhnl.out]; exact Sl.empty _ 0 _ _) Hhdl.out Hhdg.out).mono ?_
          rw [Hhhn.out]
          rintro e w1 ⟨⟨p1, p2, rfl, hp1, hp2, hown⟩, hb1⟩
          obtain ⟨A4, cap4, rfl, hcap4⟩ := hp1.form
          obtain ⟨A5, cap5, rfl, hcap5⟩ := hp2.form
          simp only [List.map_nil, List.length_nil]
          have hz1 := hb1.size
          have hbel1 := below_call hbel hb1 (by omega)
          have g0 := Hhblk0.out.below hb1 (by omega)
          have g1 := Hhblk.out.below hb1 (by omega)
          have Hhp1 := Lib.hid hp1; clear hp1; have Hhp2 := Lib.hid hp2; clear hp2; have Hhown := Lib.hid hown; clear hown; have Hg0 := Lib.hid g0; clear g0; have Hg1 := Lib.hid g1; clear g1
          go_wp2_with fail
          refine ⟨⟨k + 1, by omega, by simp, by rw [Hhst2.out], by rw [Hhst2.out], by rw [Hhst2.out]; exact Hg1.out, Hg0.out, hbel1⟩, by simp [intOf]; omega⟩
      · have hcy : cap3 ≠ y := by
          intro h9
          refine hr0 (List.eq_nil_of_length_eq_zero ?_)
          rw [Hhlen.out]; omega
        have hsl9 := Hhsl.out
        rw [if_neg hcy] at hsl9
        obtain ⟨tl, hhd⟩ := hull_head hr0
        have hhl : (hull rest).length = tl.length + 1 := by rw [hhd]; rfl
        have hhd0 : ∀ h : 0 < (hull rest).length, (hull rest)[0]'h = (tot (rest.take (firstN rest)), firstN rest) := fun h => by simp only [hhd, List.getElem_cons_zero]
        have hmP := mid_take rest Hhdg.out Hhdl.out (firstN rest)
        generalize hP : tot (rest.take (firstN rest)) = P at *
        generalize hm : firstN rest = m at *
        obtain ⟨P1, P2⟩ := P
        have Hhr0 := Lib.hid hr0; clear hr0; have Hhhd := Lib.hid hhd; clear hhd; have Hhhl := Lib.hid hhl; clear hhl; have Hhhd0 := Lib.hid hhd0; clear hhd0; have HhmP := Lib.hid hmP; clear hmP; have Hhsl9 := Lib.hid hsl9; clear hsl9; have HhP := Lib.hid hP; clear hP; have Hhm := Lib.hid hm; clear hm
        go_wp2_with fail
        refine (hull_calls _ rest _ (by omega) Hhsl9.out Hhdl.out Hhdg.out).mono ?_
        rintro e w1 ⟨⟨p1, p2, rfl, hp1, hp2, hown⟩, hb1⟩
        obtain ⟨A4, cap4, rfl, hcap4⟩ := hp1.form
        obtain ⟨A5, cap5, rfl, hcap5⟩ := hp2.form
        obtain ⟨b2, o2, rfl, hb2, k1, k2⟩ := hp1.pair_at (k := 0) (by rw [List.length_map, Hhhl.out]; omega)
        obtain ⟨b3, o3, rfl, hb3, k3⟩ := hp2.int_at (k := 0) (by rw [List.length_map, Hhhl.out]; omega)
        rw [List.getElem_map, Hhhd0.out] at k1 k2 k3
        rw [List.length_map, Hhhl.out] at hcap4 hcap5
        rw [List.length_map, List.length_map, Hhhl.out]
        simp only [Nat.zero_mul, Nat.add_zero] at k1 k2 k3
        have hz1 := hb1.size
        have hfar := own_lies hown
        clear hown
        have hbel1 := below_call hbel hb1 (by omega)
        have g0 := Hhblk0.out.below hb1 (by omega)
        have g1 := Hhblk.out.below hb1 (by omega)
        cases acc with
        | none =>
          have hst2 : nextTo L T (k + 1) = some (k, (P1, P2), m) := by rw [Hhst.out, stepN_none _ Hhr0.out, Hhm.out, HhP.out]
          have Hhp1 := Lib.hid hp1; clear hp1; have Hhp2 := Lib.hid hp2; clear hp2; have Hhst2 := Lib.hid hst2; clear hst2; have Hg0 := Lib.hid g0; clear g0; have Hg1 := Lib.hid g1; clear g1
          simp only [nextRow, nextPiece, nextSize] at Hg0 Hg1 ⊢
          have e1 : w1.cell? ⟨w.heap.size + 1, 0, none⟩ = some (.int .i64 0) := Hg1.out.cell 0
          have e2 : w1.cell? ⟨w.heap.size + 1, 1, none⟩ = some (.int .i64 0) := Hg1.out.cell 1
          have f1 := Hg1.out.frozen
          go_wp2_with fail
          refine Go.Canon.wp_region_text mixed (by kernel_rfl) ?_
          go_wp2_with (first | (refine Go.Canon.chk (by rfl) ?_))
          go_wp2_with (refine Go.Canon.wp_region_plan [6] (· ≠ w.heap.size + 1) [0,1,2,3,4,5,6,7] [[[8],[9]]] mixed (by kernel_rfl) (List.forall_mem_cons.2 ⟨?_, fun _ h => by cases h⟩))
          refine Go.Canon.seg_begin ?_
          simp only [List.map_cons, List.map_nil, List.getD_cons_zero, List.getD_cons_succ]
          go_wp2_with fail
          refine Go.Canon.seg_end ?_ (Go.Canon.seg_begin ?_)
          · intro b9 hb9
            exact keep_set2 _ _ hb9
          simp only [List.map_cons, List.map_nil, List.getD_cons_zero, List.getD_cons_succ]
          go_wp2_with fail
          refine Go.Canon.seg_end ?_ (Go.Canon.seg_done (by rfl) (List.forall_mem_cons.2 ⟨.inl ⟨_, rfl, (by show b3 ≠ _; omega), by simp only [World.cell?_drew, k3]; rfl⟩, fun _ h => by cases h⟩) ?_)
          · intro b9 hb9
            exact keep_set2 _ _ hb9
          go_wp2_with fail
          refine ⟨⟨k + 1, by omega, by simp, by rw [Hhst2.out]; rfl, by rw [Hhst2.out]; rfl, ?_, ?_, ?_⟩, by simp [intOf]; omega⟩
          · rw [Hhst2.out]
            exact (((Hg1.out.set 0 _).set 1 _).drew).drew
          · exact (((Hg0.out.far (by simp) _).far (by simp) _).drew).drew
          · exact (((hbel1.drew.drew).setCell (p := ⟨w.heap.size + 1, 0, none⟩) (by simp) _).setCell (p := ⟨w.heap.size + 1, 1, none⟩) (by simp) _)
        | some x =>
          obtain ⟨j, q, m'⟩ := x
          obtain ⟨q1, q2⟩ := q
          have Hhp1 := Lib.hid hp1; clear hp1; have Hhp2 := Lib.hid hp2; clear hp2; have Hg0 := Lib.hid g0; clear g0; have Hg1 := Lib.hid g1; clear g1
          simp only [nextRow, nextPiece, nextSize] at Hg0 Hg1 Hhmq ⊢
          have e1 : w1.cell? ⟨w.heap.size + 1, 0, none⟩ = some (.int .i64 q1) := Hg1.out.cell 0
          have e2 : w1.cell? ⟨w.heap.size + 1, 1, none⟩ = some (.int .i64 q2) := Hg1.out.cell 1
          have f1 := Hg1.out.frozen
          have hj : ¬ ((j : Int) < 0) := by omega
          go_wp2_with fail
          refine Go.Canon.wp_region_text mixed (by kernel_rfl) ?_
          go_wp2_with fail
          refine (better_false (P1, P2) (q1, q2) _ HhmP.out Hhmq.out).mono ?_
          cases hmo : more (P1, P2) (q1, q2)
          · have hst2 : nextTo L T (k + 1) = some (j, (q1, q2), m') := by rw [Hhst.out]; exact stepN_no _ _ _ _ Hhr0.out (by rw [Hhm.out, HhP.out, hmo])
            rintro e w2 ⟨rfl, hb2⟩
            have hz2 : w1.heap.size ≤ w2.heap.size := by simpa using hb2.size
            have g0 := Hg0.out.drew.below hb2 (by simp; omega)
            have g1 := Hg1.out.drew.below hb2 (by simp; omega)
            have hbel2 := below_call hbel1.drew hb2 (by simp; omega)
            clear hb2 e1 e2 f1 k1 k2 k3
            have Hhst2 := Lib.hid hst2; clear hst2; have Hg0 := Lib.hid g0; clear g0; have Hg1 := Lib.hid g1; clear g1; have Hhmo := Lib.hid hmo; clear hmo
            go_wp2_with (first | (refine Go.Canon.chk (by rfl) ?_))
            exact ⟨⟨k + 1, by omega, by simp, by rw [Hhst2.out]; rfl, by rw [Hhst2.out]; rfl, by rw [Hhst2.out]; exact Hg1.out, Hg0.out, hbel2⟩, by simp [intOf]; omega⟩
          · have hst2 : nextTo L T (k + 1) = some (k, (P1, P2), m) := by rw [Hhst.out, stepN_yes _ _ _ _ Hhr0.out (by rw [Hhm.out, HhP.out, hmo]), Hhm.out, HhP.out]
            rintro e w2 ⟨rfl, hb2⟩
            have hz2 : w1.heap.size ≤ w2.heap.size := by simpa using hb2.size
            have g0 := Hg0.out.drew.below hb2 (by simp; omega)
            have g1 := Hg1.out.drew.below hb2 (by simp; omega)
            have hbel2 := below_call hbel1.drew hb2 (by simp; omega)
            have k1' : w2.cell? ⟨b2, o2, none⟩ = some (.int .i64 P1) := (hb2.cell (p := ⟨b2, o2, none⟩) (by simp; omega)).trans k1
            have k2' : w2.cell? ⟨b2, o2 + 1, none⟩ = some (.int .i64 P2) := (hb2.cell (p := ⟨b2, o2 + 1, none⟩) (by simp; omega)).trans k2
            have k3' : w2.cell? ⟨b3, o3, none⟩ = some (.int .i64 m) := (hb2.cell (p := ⟨b3, o3, none⟩) (by simp; omega)).trans k3
            have e1 : w2.cell? ⟨w.heap.size + 1, 0, none⟩ = some (.int .i64 q1) := g1.cell 0
            have e2 : w2.cell? ⟨w.heap.size + 1, 1, none⟩ = some (.int .i64 q2) := g1.cell 1
            have f1 := g1.frozen
            clear hb2 k1 k2 k3
            have Hhst2 := Lib.hid hst2; clear hst2; have Hg0 := Lib.hid g0; clear g0; have Hg1 := Lib.hid g1; clear g1; have Hhmo := Lib.hid hmo; clear hmo
            go_wp2_with (first | (refine Go.Canon.chk (by rfl) ?_))
            go_wp2_with (refine Go.Canon.wp_region_plan [6] (· ≠ w.heap.size + 1) [0,1,2,3,4,5,6,7] [[[8],[9]]] mixed (by kernel_rfl) (List.forall_mem_cons.2 ⟨?_, fun _ h => by cases h⟩))
            refine Go.Canon.seg_begin ?_
            simp only [List.map_cons, List.map_nil, List.getD_cons_zero, List.getD_cons_succ]
            go_wp2_with fail
            refine Go.Canon.seg_end ?_ (Go.Canon.seg_begin ?_)
            · intro b9 hb9
              exact keep_set2 _ _ hb9
            simp only [List.map_cons, List.map_nil, List.getD_cons_zero, List.getD_cons_succ]
            go_wp2_with fail
            refine Go.Canon.seg_end ?_ (Go.Canon.seg_done (by rfl) (List.forall_mem_cons.2 ⟨.inl ⟨_, rfl, (by show b3 ≠ _; omega), by simp only [World.cell?_drew, k3']; rfl⟩, fun _ h => by cases h⟩) ?_)
            · intro b9 hb9
              exact keep_set2 _ _ hb9
            go_wp2_with fail
            refine ⟨⟨k + 1, by omega, by simp, by rw [Hhst2.out]; rfl, by rw [Hhst2.out]; rfl, ?_, ?_, ?_⟩, by simp [intOf]; omega⟩
            · rw [Hhst2.out]
              exact (((Hg1.out.set 0 _).set 1 _).drew).drew
            · exact (((Hg0.out.far (by simp) _).far (by simp) _).drew).drew
            · exact ((hbel2.drew.setCell (p := ⟨w.heap.size + 1, 0, none⟩) (by simp) _).setCell (p := ⟨w.heap.size + 1, 1, none⟩) (by simp) _)
    · have hkl : k = L.length := by omega
      rw [hkl] at hblk ⊢
      rw [show nextTo L T L.length = nextL L T from rfl] at hblk ⊢
      generalize hx : nextL L T = x at *
      have d1 : wr.cell? ⟨w.heap.size + 1, 0, none⟩ = some (.int .i64 (nextPiece x).1) := hblk.cell 0
      have d2 : wr.cell? ⟨w.heap.size + 1, 1, none⟩ = some (.int .i64 (nextPiece x).2) := hblk.cell 1
      have e1 : wr.cell? ⟨w.heap.size, 0, none⟩ = some (.int .i64 0) := hblk0.cell 0
      have e2 : wr.cell? ⟨w.heap.size, 1, none⟩ = some (.int .i64 0) := hblk0.cell 1
      have f1 := hblk0.frozen
      have hbl := hbel
      have Hhblk := Lib.hid hblk; clear hblk; have Hhblk0 := Lib.hid hblk0; clear hblk0; have Hhx := Lib.hid hx; clear hx; have Hhbl := Lib.hid hbl; clear hbl
      go_wp2_with (first | (refine Go.Canon.wp_region_text mixed (by kernel_rfl) ?_) | (refine Go.Canon.chk (by rfl) ?_))
      exact ret_tct rfl rfl ((Hhblk0.out.set 0 _).set 1 _).drew Try.underlying32 rfl (by kernel_rfl) rfl ⟨by rw [Hhx.out]; rfl, (by repeat (first | exact Below.refl _ _ | assumption | refine Below.drew ?_ | refine Below.setCell ?_ (by first | omega | (simp <;> omega)) _ | refine Below.alloc ?_ (by first | omega | (simp <;> omega)) _ | refine below_drewN ?_ _))⟩
end Go.Proofs.Ytbhdfljdfjadnaa
