/- Walks: greed by definition. -/
import Derived.Test.YtbhdfljdfjadnaaL5
namespace Go.Proofs.Ytbhdfljdfjadnaa
open Go Go.RowKit Go.Words Go.StreamP

theorem own_far {w : World} {base : Nat} {e : TypeId} {size n : Nat} {v : Value} {xs : List Value} (h : w.ownsRow base e size v n xs) {p : Addr} (hp : p.block < base) {u : Value} : (w.setCell p u).ownsRow base e size v n xs := by
  refine ⟨h.1, ?_⟩
  rcases h.2 with h2 | ⟨g, cap, cur, hv, hg, hh, r⟩
  · exact .inl h2
  · exact .inr ⟨g, cap, cur, hv, hg, (Below.heap_setCell w p u g (by omega)).trans hh, r⟩
/-- What the ints of a block sum up to. -/
def blockSum (w : World) (g : Nat) : Nat := match w.heap[g]? with
  | some (.cells cs _ _) => (cs.toList.map fun v => (intOf v).toNat).sum
  | _ => 0
theorem blockSum_of {w : World} {g : Nat} {t : TypeId} {T : List Nat} (h : Bk w g t (T.map fun n : Nat => .int .i64 (n : Int))) : blockSum w g = T.sum := by
  unfold blockSum
  unfold Bk at h
  rw [h]
  have hf : ((fun v => (intOf v).toNat) ∘ fun n : Nat => Value.int .i64 (n : Int)) = id := by
    funext n
    exact Int.toNat_natCast n
  show (((T.map fun n : Nat => Value.int .i64 (n : Int)).map fun v => (intOf v).toNat)).sum = T.sum
  rw [List.map_map, hf, List.map_id]

set_option maxRecDepth 20000 in
set_option maxHeartbeats 4000000 in
theorem refgreedy_calls (v : Value) (L : List (List B2)) (bud : Int) (w : World) {B : Nat} (hB0 : B ≤ w.heap.size) (h : Sl 1 (RSl 2 RPair) w B v L) (hf : Few L) (hr : L.all rowB = true) (hbud : -9223372036854775808 ≤ bud ∧ bud ≤ 9223372036854775807) :
    Calls Try.prog 24 #[v, .int .i64 bud] w fun e w' => (∃ v', e = .returned v' ∧ RowI 3 w' w.heap.size v' (greedyL L bud)) ∧ Below w.heap.size w w' := by
  obtain ⟨A, cap, rfl, hcap⟩ := h.form
  have hg := all_row hr
  have hsm := few_small hf
  have hfl := hf.1
  have hm1 := run_make_rep (P := Try.prog) 28 Try.underlying28 info_int rfl L.length (by omega) (by omega)
  have Hhsm := Lib.hid hsm; clear hsm; have Hhg := Lib.hid hg; clear hg; have Hhr := Lib.hid hr; clear hr; have Hhf := Lib.hid hf; clear hf; have Hh := Lib.hid h; clear h
  go_enter Try.func24, Try.ntmps24
  go_wp2
  clear hm1
  go_loopw [5, 7] (fun c i wr => ∃ (k : Nat) (vs : List Value), k ≤ L.length ∧ i = .int .i64 k ∧ wr.ownsRow (w.heap.size + 1) 25 1 c k vs ∧
      (∀ (i : Nat) (a : List B2), (cutL L bud)[i]? = some a → i < k → ∃ v, vs[i]? = some v ∧ Sl 2 RPair w B v a) ∧ Bk wr w.heap.size 3 (List.replicate L.length (.int .i64 0)) ∧ Below w.heap.size w wr)
    (fun _ i _ => L.length - (intOf i).toNat)
  case atStart => exact ⟨0, [], by omega, rfl, World.ownsRow_nil _ _ _ _, fun i a _ h9 => by omega, Bk.new w _ _, (by repeat (first | exact Below.refl _ _ | assumption | refine Below.drew ?_ | refine Below.setCell ?_ (by first | omega | (simp <;> omega)) _ | refine Below.alloc ?_ (by first | omega | (simp <;> omega)) _ | refine below_drewN ?_ _))⟩
  case round =>
    obtain ⟨k, vs, hk, rfl, hown, hcut, hT, hbel⟩ := hrel
    have hz := hbel.size
    have hltb := hT.lt
    by_cases hlt : k < L.length
    · obtain ⟨b, o, vr, rfl, hb, c0, hvr⟩ := Hh.out.sl_at hlt
      have c1 : wr.cell? ⟨b, o + k, none⟩ = some vr := (hbel.cell (p := ⟨b, o + k, none⟩) (by simp; omega)).trans c0
      obtain ⟨A3, cap3, rfl, hcap3⟩ := hvr.form
      have hrl := Hhsm.out.2 _ (List.getElem_mem hlt)
      have hrg := Hhg.out _ (List.getElem_mem hlt)
      have hck : (cutL L bud)[k]? = some (L[k].take (frontN L[k] bud)) := by unfold cutL; rw [List.getElem?_map, List.getElem?_eq_getElem hlt]; rfl
      generalize hx : L[k] = x at *
      have hF := (frontN_is x bud).le
      generalize hFe : frontN x bud = F at *
      have hsl := hvr.take (k := F) hF
      have hBr : B ≤ wr.heap.size := by omega
      have hvsl : vs.length = k := by have := hown.1; omega
      clear c0
      have Hhx := Lib.hid hx; clear hx; have HhFe := Lib.hid hFe; clear hFe; have Hhrg := Lib.hid hrg; clear hrg; have Hhvr := Lib.hid hvr; clear hvr; have Hhsl := Lib.hid hsl; clear hsl; have Hhck := Lib.hid hck; clear hck; have HhT := Lib.hid hT; clear hT; have Hhcut := Lib.hid hcut; clear hcut; have Hhown := Lib.hid hown; clear hown; have Hhvsl := Lib.hid hvsl; clear hvsl
      go_wp2_with (refine Go.Canon.wp_region_plan [4] (· < B) [0,1,2,3,4,5,6,7,8,9] [[[10],[11,12],[13],[14]]] mixed (by kernel_rfl) (List.forall_mem_cons.2 ⟨?_, fun _ h => by cases h⟩))
      refine Go.Canon.seg_begin ?_
      simp only [List.map_cons, List.map_nil, List.getD_cons_zero, List.getD_cons_succ]
      go_wp2_with fail
      refine (reffront_calls _ x bud _ (by simpa using hBr) ((Hhvr.out.below keeps_pair (hbel.mono hB0)).drew keeps_pair) hrl Hhrg.out).mono ?_
      rw [HhFe.out]
      rintro e w1 ⟨rfl, hb1⟩
      have hb2 : Below wr.heap.size wr w1 := below_call (Below.refl _ _).drew hb1 (by simp)
      have hz1 := hb2.size
      have kb := keep_below (hb1.mono (by simpa using hBr))
      have hbA := (hb1.mono (B' := B) (by simpa using hBr)).alloc (by omega) (.cells #[.slice A3 F cap3] 25)
      have kb2 := keep_below hbA
      have hT1 := HhT.out.below hb2 hltb
      have hT2 := hT1.alloc (.cells #[.slice A3 F cap3] 25)
      have o1 := (own_below Hhown.out hb2 (Nat.le_refl _)).alloc (.cells #[.slice A3 F cap3] 25)
      have hbelX := (below_call hbel hb2 hz).alloc (by omega) (.cells #[.slice A3 F cap3] 25)
      have Hkb := Lib.hid kb; clear kb; have Hkb2 := Lib.hid kb2; clear kb2; have HhT1 := Lib.hid hT1; clear hT1; have HhT2 := Lib.hid hT2; clear hT2; have Ho1 := Lib.hid o1; clear o1
      go_wp2_with fail
      refine Go.Canon.seg_end Hkb.out (Go.Canon.seg_begin ?_)
      simp only [List.map_cons, List.map_nil, List.getD_cons_zero, List.getD_cons_succ]
      go_wp2_with fail
      refine Go.Canon.seg_end Hkb2.out (Go.Canon.seg_begin ?_)
      simp only [List.map_cons, List.map_nil, List.getD_cons_zero, List.getD_cons_succ]
      go_wp2_with (at_builtin; refine append_block _ rfl (.tmp 20) (.tmp 32) 27 rfl (w.heap.size + 1) info_row Try.underlying27 rfl (by omega) u5 k vs rfl Ho1.out w1.heap.size [.slice A3 F cap3] rfl (Bk.new _ _ _) rfl (by simp [Value.oneCell']) (by omega) (by omega) (by simp; omega) ?_; intro v1 w2 hown1 hb3 hgr _; have Hhown1 := Lib.hid hown1; clear hown1; have Hhgr := Lib.hid hgr; clear hgr)
      have kb3 := keep_below (hbA.trans (hb3.mono (by omega)))
      have hz2 := hb3.size
      refine Go.Canon.seg_end kb3 (Go.Canon.seg_begin ?_)
      simp only [List.map_cons, List.map_nil, List.getD_cons_zero, List.getD_cons_succ]
      have Hkb3 := Lib.hid kb3; clear kb3
      go_wp2_with fail
      refine Go.Canon.seg_end Hkb3.out (Go.Canon.seg_done (by rfl) (List.forall_mem_cons.2 ⟨.inl ⟨_, rfl, hb, by simp only [World.cell?_drew, c1]; rfl⟩, fun _ h => by cases h⟩) ?_)
      go_wp2_with fail
      refine ⟨⟨k + 1, vs ++ [.slice A3 F cap3], by omega, rfl, Hhown1.out, fun i a h8 h9 => ?_, ?_, hbelX.trans (hb3.mono (by omega))⟩, by simp [intOf]; omega⟩
      · by_cases hik : i = k
        · subst hik
          rw [Hhck.out] at h8
          injection h8 with h8
          subst h8
          exact ⟨_, by rw [List.getElem?_append_right (by have := Hhvsl.out; omega), Hhvsl.out, Nat.sub_self]; rfl, Hhsl.out⟩
        · obtain ⟨v9, h91, h92⟩ := Hhcut.out i a h8 (by omega)
          exact ⟨v9, by rw [List.getElem?_append_left (by have := Hhvsl.out; omega)]; exact h91, h92⟩
      · refine HhT2.out.grown Hhgr.out fun h9 => ?_
        have := (Ho1.out.lt _ h9.symm).1
        omega
    · have hkl : k = L.length := by omega
      subst hkl
      have hlc := length_cut L bud
      have hcut' : ∀ (i : Nat) (a : List B2), (cutL L bud)[i]? = some a → ∃ v, vs[i]? = some v ∧ Sl 2 RPair w B v a := fun i a h9 => hcut i a h9 (by have := (List.getElem?_eq_some_iff.1 h9).1; rw [hlc] at this; exact this)
      have hgc := good_cut Hhg.out bud
      have hsc := small_cut Hhsm.out.2 bud
      have hsc8 := small_cut Hhf.out.2 bud
      have hfewC : Few (cutL L bud) := ⟨by rw [hlc]; exact hfl, hsc8⟩
      have hrep : List.replicate L.length (Value.int .i64 0) = (List.replicate L.length 0).map fun n : Nat => .int .i64 (n : Int) := by rw [List.map_replicate]; rfl
      rw [hrep] at hT
      have hst : greedyL L bud = greedyF (bud.toNat + 1) (cutL L bud) (List.replicate L.length 0) (bud - (sumAll (cutL L bud) (List.replicate L.length 0)).1) := by rw [sumAll_zero, Int.sub_zero]; rfl
      have hst2 : (bud - (sumAll (cutL L bud) (List.replicate L.length 0)).1).toNat < bud.toNat + 1 := by rw [sumAll_zero, Int.sub_zero]; omega
      have hf0 := fits_zero (cutL L bud) L.length hlc.symm
      obtain ⟨A5, cap5, rfl, hcap5⟩ := own_form hown
      generalize cutL L bud = C at *
      have Hhcut := Lib.hid hcut; clear hcut; have Hhcut' := Lib.hid hcut'; clear hcut'; have Hhgc := Lib.hid hgc; clear hgc; have Hhsc := Lib.hid hsc; clear hsc; have Hhsc8 := Lib.hid hsc8; clear hsc8; have HhfewC := Lib.hid hfewC; clear hfewC; have Hhrep := Lib.hid hrep; clear hrep; have HhT := Lib.hid hT; clear hT; have Hhst := Lib.hid hst; clear hst; have Hhst2 := Lib.hid hst2; clear hst2; have Hhf0 := Lib.hid hf0; clear hf0; have Hhown := Lib.hid hown; clear hown
      go_wp2
      go_loopw [8] (fun _ wr => ∃ (f : Nat) (T : List Nat), greedyL L bud = greedyF f C T (bud - (sumAll C T).1) ∧ (bud - (sumAll C T).1).toNat < f ∧ Fits C T ∧ Bk wr w.heap.size 3 (T.map fun n : Nat => .int .i64 (n : Int)) ∧
          wr.ownsRow (w.heap.size + 1) 25 1 (.slice A5 L.length cap5) L.length vs ∧ Below w.heap.size w wr)
        (fun _ wr => 41 - blockSum wr w.heap.size)
      case atStart => exact ⟨_, _, Hhst.out, Hhst2.out, Hhf0.out, HhT.out, Hhown.out, hbel⟩
      case round =>
        obtain ⟨f, T, hgr, hfu, hfit, hTb, hown, hbr⟩ := hrel
        have hz2 := hbr.size
        have hltb2 := hTb.lt
        have hlenT : T.length = L.length := by rw [hfit.len, hlc]
        have hbs := blockSum_of hTb
        have hs40 := fits_sum C T hfit Hhsc8.out
        have hts := block_ints (cap := L.length) hTb (by omega)
        rw [hlenT] at hts
        have hcs : Sl 1 (RSl 2 RPair) wr wr.heap.size (.slice A5 L.length cap5) C := by
          refine Sl.of_own (by rw [hlc]; exact hown) fun i a hi => ?_
          obtain ⟨v, hv, hs⟩ := Hhcut'.out i a hi
          obtain ⟨hlt9, rfl⟩ := List.getElem?_eq_some_iff.1 hv
          refine ⟨_, ?_, hs.keep keeps_pair (hbr.mono hB0) (by omega)⟩
          rw [Nat.mul_one, List.drop_eq_getElem_cons hlt9]
          rfl
        have Hhgr := Lib.hid hgr; clear hgr; have Hhfit := Lib.hid hfit; clear hfit; have HhTb := Lib.hid hTb; clear hTb; have Hhown := Lib.hid hown; clear hown; have Hhts := Lib.hid hts; clear hts; have Hhcs := Lib.hid hcs; clear hcs; have Hhbs := Lib.hid hbs; clear hbs
        go_wp2_with fail
        refine (refnext_calls _ _ C T _ (Nat.le_refl _) Hhcs.out Hhts.out (by rw [hlc]; omega) Hhsc.out Hhgc.out Hhfit.out).mono ?_
        cases hnx : nextL C T with
        | none =>
          rw [show nextRow none = -1 from rfl]
          rintro e w1 ⟨rfl, hb1⟩
          have hbel1 := below_call hbr hb1 hz2
          have hres : greedyL L bud = T := by rw [Hhgr.out, greedyF_none hnx]
          have hT1 := HhTb.out.below hb1 hltb2
          have Hhnx := Lib.hid hnx; clear hnx; have Hhres := Lib.hid hres; clear hres; have HhT1 := Lib.hid hT1; clear hT1
          go_wp2
          go_ret
          refine ⟨⟨_, rfl, ?_⟩, hbel1⟩
          rw [Hhres.out]
          exact ⟨_, L.length, by rw [hlenT]; rfl, Nat.le_refl _, by omega, HhT1.out⟩
        | some x =>
          obtain ⟨i, P, m⟩ := x
          rw [show nextRow (some (i, P, m)) = (i : Int) from rfl]
          rintro e w1 ⟨rfl, hb1⟩
          have hbel1 := below_call hbr hb1 hz2
          have hz3 := hb1.size
          obtain ⟨hi1, hi2, hi3, hi4, hi5, hi6, hi7⟩ := next_facts Hhfit.out hnx
          have hfs := fits_set Hhfit.out hnx
          have hgd := getD_at T i 0 hi2
          have hsum := sum_set T i m hi2
          have hsa := sumAll_set C T i m hi1 hi2
          rw [← hi6] at hsa
          have hpc := next_piece Hhgc.out Hhsc.out Hhfit.out hnx
          have hrl := Hhsc.out _ (List.getElem_mem hi1)
          have hrl8 := Hhsc8.out _ (List.getElem_mem hi1)
          have hrg := Hhgc.out _ (List.getElem_mem hi1)
          have hms := sumAll_mid HhfewC.out Hhgc.out T C.length
          rw [List.take_length] at hms
          have hT1 := HhTb.out.below hb1 hltb2
          have o1 := own_below Hhown.out hb1 (Nat.le_refl _)
          have hcs1 := Hhcs.out.after (keeps_sl keeps_pair) hb1 (Nat.le_refl _)
          have hts1 := Hhts.out.after keeps_int hb1 (Nat.le_refl _)
          obtain ⟨b, o, vr, rfl, hb, c1, hvr⟩ := hcs1.sl_at hi1
          obtain ⟨A3, cap3, rfl, hcap3⟩ := hvr.form
          have d1 : w1.cell? ⟨w.heap.size, i, none⟩ = some (.int .i64 T[i]) := by
            rw [hT1.cell, List.getElem?_map, List.getElem?_eq_getElem hi2]; rfl
          have f1 := hT1.frozen
          rw [hgd] at hfs
          have hstop := fun (h9 : bud - (sumAll C T).1 < P.1) => (Hhgr.out.trans (greedyF_stop hnx h9))
          have hgo := fun (h9 : ¬ bud - (sumAll C T).1 < P.1) => (Hhgr.out.trans (show greedyF f C T (bud - (sumAll C T).1) = greedyF (f - 1) C (T.set i (T[i] + m)) (bud - (sumAll C T).1 - P.1) from by
            obtain ⟨f', rfl⟩ : ∃ f', f = f' + 1 := ⟨f - 1, by omega⟩
            rw [greedyF_go hnx h9, hgd]; rfl))
          have hiL : i < L.length := by omega
          generalize hX : C[i] = x at *
          generalize hY : T[i] = y at *
          have hcy : cap3 ≠ y := by omega
          have hsl := hvr.drop (k := y) (by omega)
          rw [if_neg hcy] at hsl
          have hdl : (x.drop y).length ≤ 1024 := by rw [List.length_drop]; omega
          have hdg := good_drop hrg y
          have hrlen : (x.drop y).length = x.length - y := List.length_drop
          have hr1 : 1 ≤ (x.drop y).length := by omega
          generalize hrest : x.drop y = rest at *
          have hml : m ≤ x.length - y := by omega
          have htk := hsl.take (k := m) hml
          have hgt := good_take hdg m
          have hlt9 : (rest.take m).length ≤ 1024 := by rw [List.length_take]; omega
          generalize hS : sumAll C T = S at *
          obtain ⟨S1, S2⟩ := S
          obtain ⟨P1, P2⟩ := P
          unfold Mid at hms
          simp only [plus] at hpc hstop hgo hsa hms
          have hf0 := field0
          have Hhnx := Lib.hid hnx; clear hnx; have Hhfs := Lib.hid hfs; clear hfs; have Hhgd := Lib.hid hgd; clear hgd; have Hhsum := Lib.hid hsum; clear hsum; have Hhsa := Lib.hid hsa; clear hsa; have Hhrg := Lib.hid hrg; clear hrg; have Hhvr := Lib.hid hvr; clear hvr; have HhT1 := Lib.hid hT1; clear hT1; have Ho1 := Lib.hid o1; clear o1; have Hhcs1 := Lib.hid hcs1; clear hcs1; have Hhts1 := Lib.hid hts1; clear hts1; have Hhstop := Lib.hid hstop; clear hstop; have Hhgo := Lib.hid hgo; clear hgo; have HhX := Lib.hid hX; clear hX; have HhY := Lib.hid hY; clear hY; have Hhsl := Lib.hid hsl; clear hsl; have Hhdl := Lib.hid hdl; clear hdl; have Hhdg := Lib.hid hdg; clear hdg; have Hhrlen := Lib.hid hrlen; clear hrlen; have Hhr1 := Lib.hid hr1; clear hr1; have Hhrest := Lib.hid hrest; clear hrest; have Hhtk := Lib.hid htk; clear htk; have Hhgt := Lib.hid hgt; clear hgt; have Hhlt9 := Lib.hid hlt9; clear hlt9; have HhS := Lib.hid hS; clear hS; have Hhi6 := Lib.hid hi6; clear hi6; have Hhi7 := Lib.hid hi7; clear hi7
          go_wp2_with (first | (refine Go.Canon.wp_region_text mixed (by kernel_rfl) ?_) | (refine Go.Canon.chk (by rfl) ?_))
          refine (first_calls _ rest _ (by simp; omega) (Hhsl.out.drew keeps_pair) Hhdl.out Hhdg.out Hhr1.out).mono ?_
          rw [← Hhi7.out]
          rintro e w2 ⟨rfl, hb2⟩
          have hb12 : Below w1.heap.size w1 w2 := below_call (Below.refl _ _).drew hb2 (by simp)
          have hz4 := hb12.size
          have hcs2 := Hhcs1.out.after (keeps_sl keeps_pair) hb12 hz3
          have hts2 := Hhts1.out.after keeps_int hb12 hz3
          have Hhcs2 := Lib.hid hcs2; clear hcs2; have Hhts2 := Lib.hid hts2; clear hts2
          go_wp2_with (refine Go.Canon.wp_region_canon [0,1,4,5,6,10,2,3,7,8,9,11] mixed (by kernel_rfl) ?_; simp only [List.map_cons, List.map_nil, List.getD_cons_zero, List.getD_cons_succ])
          go_wp2_with fail
          refine (refsum_calls _ _ C T _ (by simp; omega) (Hhcs2.out.drew (keeps_sl keeps_pair)) (Hhts2.out.drew keeps_int) HhfewC.out Hhgc.out Hhfit.out.len Hhfit.out.le).mono ?_
          rw [HhS.out]
          rintro e w3 ⟨rfl, hb3⟩
          have hb13 : Below w1.heap.size w1 w3 := below_call hb12.drew hb3 (by simp; omega)
          have hz5 := hb13.size
          have htk3 := Hhtk.out.after keeps_pair hb13 (by omega)
          have Hhtk3 := Lib.hid htk3; clear htk3
          go_wp2_with fail
          refine (all_calls _ (rest.take m) _ (by omega) Hhtk3.out Hhlt9.out Hhgt.out).mono ?_
          rw [← Hhi6.out]
          rintro e w4 ⟨rfl, hb4⟩
          have hb14 : Below w1.heap.size w1 w4 := below_call hb13 hb4 hz5
          have hz6 := hb14.size
          have hbel4 := below_call hbel1 hb14 hbel1.size
          have hT4 := HhT1.out.below hb14 (by omega)
          have o4 := own_below Ho1.out hb14 (Nat.le_refl _)
          have d4 : w4.cell? ⟨w.heap.size, i, none⟩ = some (.int .i64 y) := (hb14.cell (p := ⟨w.heap.size, i, none⟩) (by simp; omega)).trans d1
          have f4 := hT4.frozen
          clear d1 f1 c1
          by_cases hgt9 : bud - S1 < P1
          · have hres := Hhstop.out hgt9
            have hgt8 : bud < S1 + P1 := by omega
            clear hgt9
            have HhT4 := Lib.hid hT4; clear hT4; have Ho4 := Lib.hid o4; clear o4; have Hhres := Lib.hid hres; clear hres
            go_wp2_with (refine Go.Canon.chk (by rfl) ?_)
            go_wp2
            go_ret
            refine ⟨⟨_, rfl, ?_⟩, hbel4⟩
            rw [Hhres.out]
            exact ⟨_, L.length, by rw [hlenT]; rfl, Nat.le_refl _, by omega, HhT4.out⟩
          · have hres := Hhgo.out (Int.not_lt.1 hgt9)
            have hgt8 : ¬ bud < S1 + P1 := by omega
            have hT5 := (hT4.set i (.int .i64 ((y + m : Nat) : Int)))
            rw [show (T.map fun n : Nat => Value.int .i64 (n : Int)).set i (.int .i64 ((y + m : Nat) : Int)) = (T.set i (y + m)).map fun n : Nat => .int .i64 (n : Int) from by rw [List.map_set]] at hT5
            have hbs5 := blockSum_of hT5
            rw [Hhsum.out] at hbs5
            rw [show ((y + m : Nat) : Int) = (y : Int) + m from by omega] at hT5 hbs5
            have G1 := Lib.hid (show (bud - (S1 + P1)).toNat < f - 1 from by omega)
            have hsum40 := fits_sum C _ Hhfs.out Hhsc8.out
            rw [Hhsum.out] at hsum40
            have G2 := Lib.hid (show T.sum + m ≤ 40 from by rw [hlc] at hsum40; omega)
            have o5 := o4
            clear hgt9 hsum40
            have HhT4 := Lib.hid hT4; clear hT4; have Ho4 := Lib.hid o4; clear o4; have Hhres := Lib.hid hres; clear hres; have HhT5 := Lib.hid hT5; clear hT5; have Hhbs5 := Lib.hid hbs5; clear hbs5; have Ho5 := Lib.hid o5; clear o5
            go_wp2_with (refine Go.Canon.chk (by rfl) ?_)
            refine ⟨⟨f - 1, T.set i (y + m), ?_, ?_, Hhfs.out, HhT5.out, own_far Ho5.out (Nat.lt_succ_self _), hbel4.setCell (Nat.le_refl _) _⟩, ?_⟩
            · rw [Hhsa.out, Hhres.out]
              congr 1
              show bud - S1 - P1 = bud - (S1 + P1)
              omega
            · rw [Hhsa.out]
              exact G1.out
            · rw [Hhbs5.out, Hhbs.out]
              have := G2.out
              omega
end Go.Proofs.Ytbhdfljdfjadnaa
