/- Walks: the pieces of a row. -/
import Derived.Test.YtbhdfljdfjadnaaW3
namespace Go.Proofs.Ytbhdfljdfjadnaa
open Go Go.RowKit Go.Words Go.StreamP

/-- Places as numbers. -/
def nums (l : List (B2 × Nat)) : List Value := l.map fun p => .int .i64 (p.2 : Int)
theorem nums_sl {w : World} {base : Nat} {e : TypeId} {v : Value} {l : List (B2 × Nat)} (h : w.ownsRow base e 1 v l.length (nums l)) : Sl 1 RInt w w.heap.size v (l.map fun p => (p.2 : Int)) := by
  refine Sl.of_own (by simpa using h) fun i a hi => ?_
  unfold RInt nums
  rw [List.getElem?_map] at hi
  obtain ⟨p, hp, rfl⟩ := Option.map_eq_some_iff.1 hi
  obtain ⟨hlt, rfl⟩ := List.getElem?_eq_some_iff.1 hp
  rw [Nat.mul_one, List.drop_eq_getElem_cons (by simpa using hlt)]
  simp

set_option maxHeartbeats 1000000 in
theorem hull_calls (v : Value) (l : List B2) (w : World) {B : Nat} (hB0 : B ≤ w.heap.size) (h : Sl 2 RPair w B v l) (hl : l.length ≤ 1024) (hg : ∀ b ∈ l, GoodB b) :
    Calls Try.prog 14 #[v] w fun e w' => (∃ v1 v2, e = .returned (.tuple #[v1, v2]) ∧ Sl 2 RPair w' w'.heap.size v1 ((hull l).map (·.1)) ∧ Sl 1 RInt w' w'.heap.size v2 ((hull l).map fun p => (p.2 : Int)) ∧ w'.ownsRow w.heap.size 3 1 v2 (hull l).length (nums (hull l))) ∧ Below w.heap.size w w' := by
  have hrow : rowB l = true := by
    unfold rowB
    simp only [Bool.and_eq_true, decide_eq_true_eq, List.all_eq_true]
    exact ⟨hl, hg⟩
  obtain ⟨A, cap, rfl, hcap⟩ := h.form
  have Hhrow := Lib.hid hrow; clear hrow; have Hhg := Lib.hid hg; clear hg
  go_enter Try.func14, Try.ntmps14
  go_wp2_with (go_at_call 28; refine (row_calls _ l _ hB0 h hl).mono ?_; rw [Hhrow.out]; rintro e w1 ⟨rfl, hb1⟩; have hz1 := hb1.size)
  have h1 := h.below keeps_pair (hb1.mono hB0)
  have Hh := Lib.hid h
  clear h
  go_loopw [4, 5, 6] (fun p q i wr => ∃ (done : List (B2 × Nat)) (k f : Nat), hull l = done ++ hullF f k l ∧ l.length ≤ k + f ∧ k ≤ l.length ∧ done.length ≤ k ∧ i = .int .i64 k ∧
      wr.ownsRow w.heap.size 32 2 p done.length (flat (done.map (·.1))) ∧ wr.ownsRow w.heap.size 3 1 q done.length (nums done) ∧ Below w.heap.size w wr)
     (fun _ _ i _ => l.length - (intOf i).toNat)
  case atStart => exact ⟨[], 0, l.length, rfl, by omega, by omega, by simp, rfl, World.ownsRow_nil _ _ _ _, World.ownsRow_nil _ _ _ _, hb1⟩
  case round =>
    obtain ⟨done, k, f, hhull, hf, hk, hdone, rfl, hown1, hown2, hbel⟩ := hrel
    have hsz := hbel.size
    by_cases hlt : k < l.length
    · obtain ⟨b, o, rfl, hb, c1, c2⟩ := (Hh.out.below keeps_pair (hbel.mono hB0)).pair_at hlt
      generalize hx : l[k] = x at *
      obtain ⟨x1, x2⟩ := x
      have Hhhull := Lib.hid hhull; clear hhull; have Hhx := Lib.hid hx; clear hx; have Hhown1 := Lib.hid hown1; clear hown1; have Hhown2 := Lib.hid hown2; clear hown2
      obtain ⟨wo, rfl⟩ : ∃ wo : World, wo = wr := ⟨_, rfl⟩
      have hk1 : bestTo (l.drop k) 0 = 1 := rfl
      have hd0 : (l.drop k).take 1 = [(x1, x2)] := by
        rw [List.drop_eq_getElem_cons hlt, Hhx.out]; rfl
      have Hhk1 := Lib.hid hk1; clear hk1; have Hhd0 := Lib.hid hd0; clear hd0
      go_wp2_with fail
      go_loopw [8, 10] (fun e i wi => ∃ m : Nat, k + m ≤ l.length ∧ i = .int .i64 (k + m : Nat) ∧ e = .int .i64 (k + bestTo (l.drop k) m : Nat) ∧
          Bk wi wo.heap.size 32 [.int .i64 (tot ((l.drop k).take (bestTo (l.drop k) m))).1, .int .i64 (tot ((l.drop k).take (bestTo (l.drop k) m))).2] ∧
          Bk wi (wo.heap.size + 1) 32 [.int .i64 (tot ((l.drop k).take m)).1, .int .i64 (tot ((l.drop k).take m)).2] ∧ Below wo.heap.size wo wi)
        (fun _ i _ => l.length - (intOf i).toNat)
      case atStart =>
        refine ⟨0, by omega, by simp, by rw [Hhk1.out]; simp, ?_, Bk.new' _ _ (by simp), (by repeat (first | exact Below.refl _ _ | assumption | refine Below.drew ?_ | refine Below.setCell ?_ (by first | omega | (simp <;> omega)) _ | refine Below.alloc ?_ (by first | omega | (simp <;> omega)) _ | refine below_drewN ?_ _))⟩
        rw [Hhk1.out, Hhd0.out, tot_one]
        exact (Bk.new wo _ [.int .i64 x1, .int .i64 x2]).alloc _
      case round =>
        obtain ⟨m, hm, rfl, rfl, hbest, hsum, hbi⟩ := hrel
        have hzi := hbi.size
        have hbel2 : Below w.heap.size w wr := below_call hbel hbi (by omega)
        by_cases hlt2 : k + m < l.length
        · obtain ⟨b', o', hA, hb', c3, c4⟩ := (Hh.out.below keeps_pair (hbel2.mono hB0)).pair_at hlt2
          injection hA with hA
          injection hA with hA1 hA2
          subst hA1; subst hA2
          have hgd := good_drop Hhg.out k
          have hld : (l.drop k).length ≤ 1024 := by rw [List.length_drop]; omega
          have hm1 := mid_take _ hgd hld m
          have hm2 := mid_take _ hgd hld (m + 1)
          have hm3 := mid_take _ hgd hld (bestTo (l.drop k) m)
          have hs : tot ((l.drop k).take (m + 1)) = plus (tot ((l.drop k).take m)) l[k + m] := by
            rw [tot_take_succ _ _ (by rw [List.length_drop]; omega), List.getElem_drop]
          have hn : bestTo (l.drop k) (m + 1) = if more (tot ((l.drop k).take (bestTo (l.drop k) m))) (tot ((l.drop k).take (m + 1))) then bestTo (l.drop k) m else m + 1 := by rw [bestTo]
          have hy1 := mid_good (Hhg.out _ (List.getElem_mem hlt2))
          generalize hy : l[k + m] = y at *
          generalize hbm : bestTo (l.drop k) m = bm at *
          generalize hS : tot ((l.drop k).take m) = S at *
          generalize hS1 : tot ((l.drop k).take (m + 1)) = S1 at *
          generalize hT : tot ((l.drop k).take bm) = T at *
          obtain ⟨y1, y2⟩ := y
          obtain ⟨s1, s2⟩ := S
          obtain ⟨t1, t2⟩ := T
          have d1 : wr.cell? ⟨wo.heap.size + 1, 0, none⟩ = some (.int .i64 s1) := hsum.cell 0
          have d2 : wr.cell? ⟨wo.heap.size + 1, 1, none⟩ = some (.int .i64 s2) := hsum.cell 1
          have hltg := hsum.lt
          have Hhs := Lib.hid hs; clear hs; have Hhn := Lib.hid hn; clear hn; have Hhy := Lib.hid hy; clear hy; have Hhbm := Lib.hid hbm; clear hbm; have HhS := Lib.hid hS; clear hS; have HhS1 := Lib.hid hS1; clear hS1; have HhT := Lib.hid hT; clear hT; have Hhm1 := Lib.hid hm1; clear hm1; have Hhm2 := Lib.hid hm2; clear hm2; have Hhm3 := Lib.hid hm3; clear hm3; have Hhy1 := Lib.hid hy1; clear hy1; have Hhbest := Lib.hid hbest; clear hbest; have Hhsum := Lib.hid hsum; clear hsum; have Hhgd := Lib.hid hgd; clear hgd; have Hhld := Lib.hid hld; clear hld
          go_wp2_with (first | (refine Go.Canon.wp_region_text mixed (by kernel_rfl) ?_) | (refine Go.Canon.chk (by rfl) ?_))
          refine (plus_calls (s1, s2) (y1, y2) _ Hhm1.out Hhy1.out).mono ?_
          rintro e w2 ⟨rfl, hb2⟩
          rw [Hhs.out] at Hhm2 Hhn HhS1
          generalize hp : plus (s1, s2) (y1, y2) = p at *
          obtain ⟨p1, p2⟩ := p
          have e1 := Hhbest.out.drew.below hb2 (by simp; omega)
          have e2 := Hhsum.out.drew.below hb2 (by simp; omega)
          have hz2 : wr.heap.size ≤ w2.heap.size := hb2.size
          have d3 : w2.cell? ⟨wo.heap.size + 1, 0, none⟩ = some (.int .i64 s1) := e2.cell 0
          have d4 : w2.cell? ⟨wo.heap.size + 1, 1, none⟩ = some (.int .i64 s2) := e2.cell 1
          have f2 := e2.frozen
          have d5 : w2.cell? ⟨wo.heap.size, 0, none⟩ = some (.int .i64 t1) := e1.cell 0
          have d6 : w2.cell? ⟨wo.heap.size, 1, none⟩ = some (.int .i64 t2) := e1.cell 1
          have hbi2 : Below wo.heap.size wo w2 := below_call hbi.drew hb2 (by simp; omega)
          clear d1 d2 c1 c2 c3 c4 hb2
          have He1 := Lib.hid e1; clear e1; have He2 := Lib.hid e2; clear e2; have Hhp := Lib.hid hp; clear hp
          go_wp2_with (first | (refine Go.Canon.chk (by rfl) ?_))
          refine (better_true (p1, p2) (t1, t2) _ Hhm2.out Hhm3.out).mono ?_
          rintro e w3 ⟨rfl, hb3⟩
          have g1 := (((He1.out.far (p := ⟨wo.heap.size + 1, 0, none⟩) (by simp) (.int .i64 p1)).far (p := ⟨wo.heap.size + 1, 1, none⟩) (by simp) (.int .i64 p2))).below hb3 (by simp; omega)
          have g2 := ((He2.out.set 0 (.int .i64 p1)).set 1 (.int .i64 p2)).below hb3 (by simp; omega)
          have hz3 : w2.heap.size ≤ w3.heap.size := by simpa using hb3.size
          have d7 : w3.cell? ⟨wo.heap.size + 1, 0, none⟩ = some (.int .i64 p1) := g2.cell 0
          have d8 : w3.cell? ⟨wo.heap.size + 1, 1, none⟩ = some (.int .i64 p2) := g2.cell 1
          have d9 : w3.cell? ⟨wo.heap.size, 0, none⟩ = some (.int .i64 t1) := g1.cell 0
          have d10 : w3.cell? ⟨wo.heap.size, 1, none⟩ = some (.int .i64 t2) := g1.cell 1
          have f3 := g1.frozen
          have hbi3 : Below wo.heap.size wo w3 := below_call ((hbi2.setCell (by simp) _).setCell (by simp) _) hb3 (by simp; omega)
          clear d3 d4 d5 d6 f2 hb3
          have Hg1 := Lib.hid g1; clear g1; have Hg2 := Lib.hid g2; clear g2
          go_wp2_with fail
          · refine ⟨⟨m + 1, by omega, by simp; omega, ?_, ?_, ?_, (hbi3.setCell (by simp) _).setCell (by simp) _⟩, by simp [intOf]; omega⟩
            · rw [Hhn.out, if_neg (by simp_all)]; simp; omega
            · rw [Hhn.out, if_neg (by simp_all), HhS1.out]
              exact (Hg1.out.set 0 _).set 1 _
            · rw [HhS1.out]
              exact (Hg2.out.far (by simp) _).far (by simp) _
          · refine ⟨⟨m + 1, by omega, by simp; omega, ?_, ?_, ?_, hbi3⟩, by simp [intOf]; omega⟩
            · rw [Hhn.out, if_pos (by simp_all)]; simp
            · rw [Hhn.out, if_pos (by simp_all), HhT.out]
              exact Hg1.out
            · rw [HhS1.out]
              exact Hg2.out
        · have hmm : m = (l.drop k).length := by rw [List.length_drop]; omega
          have hfn : bestTo (l.drop k) m = firstN (l.drop k) := by rw [hmm]; rfl
          rw [hfn] at hbest ⊢
          generalize hT : tot ((l.drop k).take (firstN (l.drop k))) = T at *
          have hfb := firstN_bound (l := l.drop k) (by intro h0; rw [h0] at hmm; simp at hmm; omega)
          rw [List.length_drop] at hfb
          generalize hF : firstN (l.drop k) = F at *
          obtain ⟨t1, t2⟩ := T
          have d1 : wr.cell? ⟨wo.heap.size, 0, none⟩ = some (.int .i64 t1) := hbest.cell 0
          have d2 : wr.cell? ⟨wo.heap.size, 1, none⟩ = some (.int .i64 t2) := hbest.cell 1
          have o1 := own_below Hhown1.out hbi (Nat.le_refl _)
          have o2 := own_below Hhown2.out hbi (Nat.le_refl _)
          have hapart := own_apart o1 o2 (by decide)
          have hst : hullF f k l = ((t1, t2), k + F) :: hullF (f - 1) (k + F) l := by
            obtain ⟨f', rfl⟩ : ∃ f', f = f' + 1 := ⟨f - 1, by omega⟩
            rw [hullF, if_pos hlt, hF, hT]; rfl
          have Hhbest := Lib.hid hbest; clear hbest; have Hhsum := Lib.hid hsum; clear hsum; have Hhmm := Lib.hid hmm; clear hmm; have Hhfn := Lib.hid hfn; clear hfn; have HhT := Lib.hid hT; clear hT; have HhF := Lib.hid hF; clear hF; have Ho1 := Lib.hid o1; clear o1; have Ho2 := Lib.hid o2; clear o2; have Hhapart := Lib.hid hapart; clear hapart; have Hhst := Lib.hid hst; clear hst
          go_wp2_with (first
            | (at_builtin; refine append_block _ rfl (.tmp 43) (.tmp 45) 22 rfl w.heap.size info_sbatch Try.underlying22 rfl (by omega) u4 done.length _ rfl (Ho1.out.alloc _) wr.heap.size [.int .i64 t1, .int .i64 t2] rfl (Bk.new _ _ _) rfl (by simp [Value.oneCell']) (by omega) (by omega) (by simp; omega) ?_; intro v1 w2 hown1 hb2 hgr _; have Hhown1 := Lib.hid hown1; clear hown1; have Hhgr := Lib.hid hgr; clear hgr; have hz2 : wr.heap.size + 1 ≤ w2.heap.size := by simpa using hb2.size)
            | (at_builtin; refine append_block _ rfl (.tmp 47) (.tmp 49) 28 rfl w.heap.size info_int Try.underlying28 rfl (by omega) u5 done.length _ rfl (((Ho2.out.alloc _).kept Hhgr.out Hhapart.out).alloc _) w2.heap.size [.int .i64 ((k + F : Nat) : Int)] rfl (Bk.new _ _ _) rfl (by simp [Value.oneCell']) (by omega) (by omega) (by simp; omega) ?_; intro v2 w3 hown2 hb3 hgr2 _; have Hhown2 := Lib.hid hown2; clear hown2; have Hhgr2 := Lib.hid hgr2; clear hgr2))
          have o2' := (Ho2.out.alloc (.cells #[.int .i64 t1, .int .i64 t2] 32)).kept Hhgr.out Hhapart.out
          have o1' := (Hhown1.out.alloc (.cells #[.int .i64 (↑k + ↑F)] 3)).kept Hhgr2.out (own_apart o2' Hhown1.out (by decide))
          refine ⟨⟨done ++ [((t1, t2), k + F)], k + F, f - 1, ?_, by omega, by omega, by simp; omega, by simp, ?_, ?_, ?_⟩, by simp [intOf]; omega⟩
          · rw [Hhhull.out, Hhst.out, List.append_assoc]; rfl
          · rw [List.map_append, List.length_append]
            unfold flat at *
            rw [List.flatMap_append]
            exact o1'
          · rw [List.length_append]
            unfold nums at *
            rw [List.map_append]
            exact Hhown2.out
          · exact ((hbel2.alloc (by omega) _).trans hb2 |>.alloc (by omega) _).trans hb3
    · have hkl : k = l.length := by omega
      have hend : hullF f k l = [] := by
        cases f with
        | zero => rfl
        | succ f => rw [hullF, if_neg hlt]
      rw [hend, List.append_nil] at hhull
      subst hhull
      have r1 := flat_sl (l := (hull l).map (·.1)) (by simpa using hown1)
      have r2 := nums_sl hown2
      have Hr1 := Lib.hid r1; clear r1; have Hr2 := Lib.hid r2; clear r2; have Hhown1 := Lib.hid hown1; clear hown1; have Hhown2 := Lib.hid hown2; clear hown2; have Hhend := Lib.hid hend; clear hend; have Hhkl := Lib.hid hkl; clear hkl
      go_wp2
      go_ret2
      exact ⟨⟨_, _, rfl, Hr1.out, Hr2.out, Hhown2.out⟩, hbel⟩
end Go.Proofs.Ytbhdfljdfjadnaa
