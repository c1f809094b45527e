/- The law StreamSteps: greed goes on by Next. -/
import Derived.Test.YtbhdfljdfjadnaaWC
namespace Go.StreamP
theorem front_all {l : List B2} (h : ∀ b ∈ l, GoodB b) {bud : Int} (hb : (tot l).1 ≤ bud) : frontN l bud = l.length := by
  refine frontN_of ⟨Nat.le_refl _, fun j _ h2 => ?_, fun h3 => by omega⟩
  have := tot_take_mono h h2
  rw [List.take_length] at this
  omega
theorem cut_all {L : List (List B2)} (h : ∀ l ∈ L, ∀ b ∈ l, GoodB b) {bud : Int} (hb : ∀ l ∈ L, (tot l).1 ≤ bud) : cutL L bud = L := by
  unfold cutL
  refine List.ext_getElem (by simp) fun i h1 h2 => ?_
  rw [List.getElem_map, front_all (h _ (List.getElem_mem h2)) (hb _ (List.getElem_mem h2)), List.take_length]
theorem sum_set : ∀ (T : List Nat) (i n : Nat) (h : i < T.length), (T.set i (T[i] + n)).sum = T.sum + n
  | [], _, _, h => by simp at h
  | t :: T, 0, n, _ => by simp; omega
  | t :: T, i + 1, n, h => by
    have := sum_set T i n (by simpa using h)
    simp only [List.set_cons_succ, List.getElem_cons_succ, List.sum_cons]
    omega
theorem fits_sum : ∀ (L : List (List B2)) (T : List Nat), Fits L T → (∀ l ∈ L, l.length ≤ 8) → T.sum ≤ 8 * L.length
  | [], T, h, _ => by
    have : T = [] := List.eq_nil_of_length_eq_zero (by rw [h.len]; rfl)
    subst this
    simp
  | l :: L, T, h, h8 => by
    have hl := h.len
    match T, hl with
    | t :: T, hl =>
      have ih := fits_sum L T ⟨by simpa using hl, fun i h1 h2 => by have := h.le (i + 1) (by simp; omega) (by simp; omega); simpa using this⟩ fun m hm => h8 m (List.mem_cons_of_mem _ hm)
      have h0 := h.le 0 (by simp) (by simp)
      have h1 := h8 l List.mem_cons_self
      simp only [List.sum_cons, List.length_cons, List.getElem_cons_zero] at *
      omega
end Go.StreamP
namespace Go.Proofs.Ytbhdfljdfjadnaa
open Go Go.RowKit Go.Words Go.StreamP

theorem nat_int_eq {a b : List Nat} (h : a = b) : ((a.map fun n : Nat => (n : Int)) == b.map fun n : Nat => (n : Int)) = true := by
  subst h
  simp

set_option maxRecDepth 20000 in
set_option maxHeartbeats 4000000 in
theorem steps_law (v : Value) (L : List (List B2)) (bud : Int) (w : World) {B : Nat} (hB0 : B ≤ w.heap.size) (h : Sl 1 (RSl 2 RPair) w B v L) (hbud : -9223372036854775808 ≤ bud ∧ bud ≤ 9223372036854775807) :
    Calls Try.prog 7 #[v, .int .i64 bud] w fun e w' => e = .returned (.bool true) ∧ Below w.heap.size w w' := by
  obtain ⟨A, cap, rfl, hcap⟩ := h.form
  have qT := nil_eq
  have Hh := Lib.hid h; clear h
  go_enter Try.func7, Try.ntmps7
  go_wp2_with (go_at_call 11; refine (awake_calls _).mono ?_; rintro e w1 ⟨rfl, hb1⟩; have hz1 := hb1.size)
  refine (plain_calls _ L _ (by omega) (Hh.out.below (keeps_sl keeps_pair) (hb1.mono hB0))).mono ?_
  rintro e w2 ⟨⟨p, rfl, hp⟩, hb2⟩
  have hz2 := hb2.size
  have hbel2 := below_call hb1 hb2 hz1
  cases hok : plainOk L
  case false =>
    obtain rfl := hp.2 hok
    have Hhp := Lib.hid hp; clear hp; have Hhok := Lib.hid hok; clear hok
    go_wp2
    go_ret
    exact ⟨rfl, hbel2⟩
  obtain ⟨a, n, c, rfl, hps⟩ := hp.1 hok
  have hfew := plainOk_few hok
  have hsm := few_small hfew
  have hfl := hfew.1
  obtain rfl := hps.len.1
  have Hhp := Lib.hid hp; clear hp; have Hhok := Lib.hid hok; clear hok; have Hhps := Lib.hid hps; clear hps; have Hhfew := Lib.hid hfew; clear hfew; have Hhsm := Lib.hid hsm; clear hsm
  go_wp2_with fail
  refine (refright_calls _ L _ (Nat.le_refl _) Hhps.out Hhsm.out.1 Hhsm.out.2).mono ?_
  cases hr : L.all rowB
  case false =>
    rintro e w3 ⟨rfl, hb3⟩
    have hbel3 := below_call hbel2 hb3 hbel2.size
    have Hhr := Lib.hid hr; clear hr
    go_wp2
    go_ret
    exact ⟨rfl, hbel3⟩
  rintro e w3 ⟨rfl, hb3⟩
  have hbel3 := below_call hbel2 hb3 hbel2.size
  have hz3 := hb3.size
  have hps3 := Hhps.out.after (keeps_sl keeps_pair) hb3 (Nat.le_refl _)
  have hg := all_row hr
  have hm1 := run_make_rep (P := Try.prog) 28 Try.underlying28 info_int rfl L.length (by omega) (by omega)
  have Hhps3 := Lib.hid hps3; clear hps3; have Hhr := Lib.hid hr; clear hr; have Hhg := Lib.hid hg; clear hg; have Hhm1 := Lib.hid hm1; clear hm1
  go_wp2
  go_loopw [6] (fun i wr => ∃ k : Nat, k ≤ L.length ∧ i = .int .i64 k ∧ (∀ l ∈ L.take k, (tot l).1 ≤ bud) ∧ Below w3.heap.size w3 wr)
    (fun i _ => L.length - (intOf i).toNat)
  case atStart => exact ⟨0, by omega, rfl, by simp, Below.refl _ _⟩
  case round =>
    obtain ⟨k, hk, rfl, hall, hbr⟩ := hrel
    have hzr := hbr.size
    have hbel := below_call hbel3 hbr hbel3.size
    by_cases hlt : k < L.length
    · obtain ⟨b, o, vr, hA9, hb, c1, hvr⟩ := (Hhps3.out.below (keeps_sl keeps_pair) (hbr.mono hz3)).sl_at hlt
      injection hA9 with hA9
      subst hA9
      obtain ⟨A3, cap3, rfl, hcap3⟩ := hvr.form
      have hrl := Hhsm.out.2 _ (List.getElem_mem hlt)
      have hrg := Hhg.out _ (List.getElem_mem hlt)
      have htk : L.take (k + 1) = L.take k ++ [L[k]] := List.take_succ_eq_append_getElem hlt
      generalize hx : L[k] = x at *
      have hf0 := field0
      have Hhall := Lib.hid hall; clear hall; have Hhx := Lib.hid hx; clear hx; have Hhrg := Lib.hid hrg; clear hrg; have Hhvr := Lib.hid hvr; clear hvr; have Hhtk := Lib.hid htk; clear htk
      go_wp2_with fail
      refine (all_calls _ x _ (by omega) Hhvr.out hrl Hhrg.out).mono ?_
      generalize hX : tot x = X
      obtain ⟨X1, X2⟩ := X
      rintro e w4 ⟨rfl, hb4⟩
      have hbel4 := below_call hbel hb4 hbel.size
      have hbr4 := below_call hbr hb4 hzr
      have HhX := Lib.hid hX; clear hX
      by_cases hgt : bud < X1
      · go_wp2
        go_ret
        exact ⟨rfl, hbel4⟩
      · go_wp2
        refine ⟨⟨k + 1, by omega, by simp, ?_, hbr4⟩, by simp [intOf]; omega⟩
        rw [Hhtk.out]
        intro l hl
        rcases List.mem_append.1 hl with h9 | h9
        · exact Hhall.out l h9
        · have : l = x := by simpa using h9
          rw [this, HhX.out]; simp; omega
    · have hk1 : L.take k = L := List.take_of_length_le (by omega)
      rw [hk1] at hall
      have hcut := cut_all Hhg.out hall
      have hm1 := Hhm1.out
      have hnew := Bk.new wr 3 (List.replicate L.length (.int .i64 0))
      have hbA := (Below.refl wr.heap.size wr).alloc (Nat.le_refl _) (.cells (List.replicate L.length (.int .i64 0)).toArray 3)
      have hst : greedyL L bud = greedyF (bud.toNat + 1) L (List.replicate L.length 0) bud := by unfold greedyL; rw [hcut]
      have hrep : List.replicate L.length (Value.int .i64 0) = (List.replicate L.length 0).map fun n : Nat => .int .i64 (n : Int) := by rw [List.map_replicate]; rfl
      have hf0 := fits_zero L L.length rfl
      have hs0 : (List.replicate L.length 0).sum = 0 := by simp
      have hz0 : w.heap.size ≤ wr.heap.size := hbel.size
      have Hhall := Lib.hid hall; clear hall; have Hhk1 := Lib.hid hk1; clear hk1; have Hhcut := Lib.hid hcut; clear hcut; have Hhnew := Lib.hid hnew; clear hnew; have Hhst := Lib.hid hst; clear hst; have Hhrep := Lib.hid hrep; clear hrep; have Hhf0 := Lib.hid hf0; clear hf0; have Hhs0 := Lib.hid hs0; clear hs0
      go_wp2
      clear hm1
      have HX : True := trivial
      obtain ⟨wo, rfl⟩ : ∃ wo : World, wo = wr := ⟨_, rfl⟩
      go_loopw [8, 9] (fun s r wi => ∃ (spent : Int) (rd f : Nat) (T : List Nat), s = .int .i64 spent ∧ r = .int .i64 rd ∧ greedyL L bud = greedyF f L T (bud - spent) ∧ (bud - spent).toNat < f ∧ 0 ≤ spent ∧ spent ≤ 1048576 * T.sum ∧ rd ≤ T.sum ∧ Fits L T ∧
          Bk wi wo.heap.size 3 (T.map fun n : Nat => .int .i64 (n : Int)) ∧ Below wo.heap.size wo wi)
        (fun _ r _ => 41 - (intOf r).toNat)
      case atStart =>
        refine ⟨0, 0, _, _, rfl, rfl, by rw [Int.sub_zero]; exact Hhst.out, by rw [Int.sub_zero]; omega, by omega, by omega, by omega, Hhf0.out, ?_, hbA⟩
        rw [← Hhrep.out]
        exact Hhnew.out
      case round =>
        obtain ⟨spent, rd, f, T, rfl, rfl, hgr, hfu, hsp0, hsp1, hrd, hfit, hTb, hbi⟩ := hrel
        have hzi := hbi.size
        have hbelI := below_call hbel hbi hz0
        have hs40 := fits_sum L T hfit Hhfew.out.2
        have hlenT := hfit.len
        have hltb := hTb.lt
        have hts := block_ints (cap := L.length) hTb (by omega)
        rw [hlenT] at hts
        have hdn := fun (x : Nat × B2 × Nat) => x
        clear hdn
        have Hhgr := Lib.hid hgr; clear hgr; have Hhfit := Lib.hid hfit; clear hfit; have HhTb := Lib.hid hTb; clear hTb; have Hhts := Lib.hid hts; clear hts
        go_wp2_with fail
        refine (snext_good _ _ L T _ (Nat.le_refl _) ((Hh.out.below (keeps_sl keeps_pair) (hbelI.mono hB0)).keep (keeps_sl keeps_pair) (Below.refl _ _) (by omega)) Hhts.out Hhfew.out Hhr.out Hhfit.out).mono ?_
        cases hnx : nextL L T with
        | none =>
          rw [show nextRow none = -1 from rfl, show max (-1 : Int) 0 = 0 from rfl, show decide ((0 : Int) ≤ -1) = false from rfl]
          rintro e w4 ⟨rfl, hb4⟩
          have hz4 := hb4.size
          have hbelE := below_call hbelI hb4 hbelI.size
          have hTE := Lib.hid (HhTb.out.below hb4 hltb)
          have hres := Lib.hid (Hhgr.out.trans (greedyF_none hnx))
          have Hhnx := Lib.hid hnx; clear hnx
          go_wp2_with fail
          refine (greedy_calls _ L bud _ (by omega) (Hh.out.below (keeps_sl keeps_pair) (hbelE.mono hB0)) Hhsm.out.1 Hhsm.out.2 Hhr.out hbud).mono ?_
          rintro e wG ⟨⟨gv, rfl, gg, gcap, rfl, gq1, gq2, gq3⟩, hbG⟩
          have hbelG := below_call hbelE hbG hbelE.size
          have hgs := block_ints (cap := gcap) gq3 gq2
          have htE := block_ints (cap := L.length) (hTE.out.below hbG hTE.out.lt) (by omega)
          rw [hlenT] at htE
          have Hhgs := Lib.hid hgs; clear hgs; have HhtE := Lib.hid htE; clear htE; have Hgq3 := Lib.hid gq3; clear gq3
          go_wp2_with fail
          refine (ints_calls _ _ _ _ _ (Nat.le_refl _) Hhgs.out HhtE.out (by rw [List.length_map, (greedy_fits L bud).len]; omega) (by rw [List.length_map, hlenT]; omega)).mono ?_
          rw [nat_int_eq hres.out]
          rintro e wF ⟨rfl, hbF⟩
          go_wp2
          go_ret
          exact ⟨rfl, below_call hbelG hbF hbelG.size⟩
        | some x =>
          obtain ⟨i, P, m⟩ := x
          obtain ⟨hi1, hi2, hi3, hi4, hi5, hi6, hi7⟩ := next_facts Hhfit.out hnx
          rw [show nextRow (some (i, P, m)) = (i : Int) from rfl, show max (i : Int) 0 = i from by omega, show decide ((0 : Int) ≤ i) = true from by simp]
          have hfs := fits_set Hhfit.out hnx
          have hgd := getD_at T i 0 hi2
          have hsum := sum_set T i m hi2
          have hpc := next_piece Hhg.out Hhsm.out.2 Hhfit.out hnx
          have hrl := Hhsm.out.2 _ (List.getElem_mem hi1)
          have hrl8 := Hhfew.out.2 _ (List.getElem_mem hi1)
          have hrg := Hhg.out _ (List.getElem_mem hi1)
          rintro e w4 ⟨rfl, hb4⟩
          have hz4 := hb4.size
          have hbel4 := below_call hbelI hb4 hbelI.size
          have hbi4 := below_call hbi hb4 hzi
          have hT4 := HhTb.out.below hb4 hltb
          have hpcost : P.1 ≤ 1048576 * m := by
            have := tot_bound ((L[i].drop T[i]).take m) (good_take (good_drop hrg _) _)
            have hl9 : ((L[i].drop T[i]).take m).length = m := by rw [List.length_take, List.length_drop]; omega
            rw [← hi6, hl9] at this
            exact this.2.1
          obtain ⟨b, o, vr, rfl, hb, c1, hvr⟩ := (Hh.out.below (keeps_sl keeps_pair) (hbel4.mono hB0)).sl_at hi1
          obtain ⟨A3, cap3, rfl, hcap3⟩ := hvr.form
          have d1 : w4.cell? ⟨wo.heap.size, i, none⟩ = some (.int .i64 T[i]) := by
            rw [hT4.cell, List.getElem?_map, List.getElem?_eq_getElem hi2]; rfl
          have f1 := hT4.frozen
          rw [hgd] at hfs
          have hstop := fun (h9 : bud - spent < P.1) => (Hhgr.out.trans (greedyF_stop hnx h9))
          have hgo := fun (h9 : ¬ bud - spent < P.1) => (Hhgr.out.trans (show greedyF f L T (bud - spent) = greedyF (f - 1) L (T.set i (T[i] + m)) (bud - spent - P.1) from by
            obtain ⟨f', rfl⟩ : ∃ f', f = f' + 1 := ⟨f - 1, by omega⟩
            rw [greedyF_go hnx h9, hgd]; rfl))
          generalize hX : L[i] = x at *
          generalize hY : T[i] = y at *
          have hcy : cap3 ≠ y := by omega
          have hsl := hvr.drop (k := y) (by omega)
          rw [if_neg hcy] at hsl
          have hdl : (x.drop y).length ≤ 1024 := by rw [List.length_drop]; omega
          have hdg := good_drop hrg y
          have hne : x.drop y ≠ [] := by
            intro h9
            have := congrArg List.length h9
            rw [List.length_drop] at this
            simp at this
            omega
          obtain ⟨tl, hhd⟩ := hull_head hne
          rw [← hi7, ← hi6] at hhd
          generalize hrest : x.drop y = rest at *
          have hhl : (hull rest).length = tl.length + 1 := by rw [hhd]; rfl
          have hhd0 : ∀ h : 0 < (hull rest).length, (hull rest)[0]'h = (P, m) := fun h => by simp only [hhd, List.getElem_cons_zero]
          obtain ⟨P1, P2⟩ := P
          simp only [] at hpc hpcost hstop hgo
          clear hi6 hi7
          have hs9 : (T.set i (y + m)).sum = T.sum + m := hsum
          have Hhnx := Lib.hid hnx; clear hnx; have Hhfs := Lib.hid hfs; clear hfs; have Hhgd := Lib.hid hgd; clear hgd; have Hhsum := Lib.hid hsum; clear hsum; have Hhrg := Lib.hid hrg; clear hrg; have Hhvr := Lib.hid hvr; clear hvr; have HhT4 := Lib.hid hT4; clear hT4; have Hhstop := Lib.hid hstop; clear hstop; have Hhgo := Lib.hid hgo; clear hgo; have HhX := Lib.hid hX; clear hX; have HhY := Lib.hid hY; clear hY; have Hhsl := Lib.hid hsl; clear hsl; have Hhdl := Lib.hid hdl; clear hdl; have Hhdg := Lib.hid hdg; clear hdg; have Hhne := Lib.hid hne; clear hne; have Hhhd := Lib.hid hhd; clear hhd; have Hhrest := Lib.hid hrest; clear hrest; have Hhhl := Lib.hid hhl; clear hhl; have Hhhd0 := Lib.hid hhd0; clear hhd0; have Hhs9 := Lib.hid hs9; clear hs9
          go_wp2_with (first | (refine Go.Canon.wp_region_text mixed (by kernel_rfl) ?_) | (refine Go.Canon.chk (by rfl) ?_))
          refine (hull_calls _ rest _ (by simp; omega) (((Hhsl.out.drew keeps_pair).drew keeps_pair)) Hhdl.out Hhdg.out).mono ?_
          rintro e w5 ⟨⟨p1, p2, rfl, hp1, hp2, hown⟩, hb5⟩
          obtain ⟨A4, cap4, rfl, hcap4⟩ := hp1.form
          obtain ⟨A5, cap5, rfl, hcap5⟩ := hp2.form
          obtain ⟨b2, o2, rfl, hb2', k1, k2⟩ := hp1.pair_at (k := 0) (by rw [List.length_map, Hhhl.out]; omega)
          obtain ⟨b3, o3, rfl, hb3', k3⟩ := hp2.int_at (k := 0) (by rw [List.length_map, Hhhl.out]; omega)
          rw [List.getElem_map, Hhhd0.out] at k1 k2 k3
          rw [List.length_map, Hhhl.out] at hcap4 hcap5
          rw [List.length_map, List.length_map, Hhhl.out]
          simp only [Nat.zero_mul, Nat.add_zero] at k1 k2 k3
          clear hown
          have hb45 : Below w4.heap.size w4 w5 := below_call ((Below.refl _ _).drew.drew) hb5 (by simp)
          have hz5 := hb45.size
          have hbelE := below_call hbel4 hb45 hbel4.size
          have hbi5 := below_call hbi4 hb45 hbi4.size
          have hT5 := HhT4.out.below hb45 (by omega)
          have d5 : w5.cell? ⟨wo.heap.size, i, none⟩ = some (.int .i64 y) := (hb45.cell (p := ⟨wo.heap.size, i, none⟩) (by simp; omega)).trans d1
          have f5 := hT5.frozen
          clear c1 d1 f1
          by_cases hgt : bud - spent < P1
          · have hTE := Lib.hid hT5
            have hres := Lib.hid (Hhstop.out hgt)
            have hgt2 : bud < spent + P1 := by omega
            have Hhp1 := Lib.hid hp1; clear hp1; have Hhp2 := Lib.hid hp2; clear hp2; have HhT5 := Lib.hid hT5; clear hT5
            go_wp2_with (refine Go.Canon.chk (by rfl) ?_)
            refine (greedy_calls _ L bud _ (by omega) (Hh.out.below (keeps_sl keeps_pair) (hbelE.mono hB0)) Hhsm.out.1 Hhsm.out.2 Hhr.out hbud).mono ?_
            rintro e wG ⟨⟨gv, rfl, gg, gcap, rfl, gq1, gq2, gq3⟩, hbG⟩
            have hbelG := below_call hbelE hbG hbelE.size
            have hgs := block_ints (cap := gcap) gq3 gq2
            have htE := block_ints (cap := L.length) (hTE.out.below hbG hTE.out.lt) (by omega)
            rw [hlenT] at htE
            have Hhgs := Lib.hid hgs; clear hgs; have HhtE := Lib.hid htE; clear htE; have Hgq3 := Lib.hid gq3; clear gq3
            go_wp2_with fail
            refine (ints_calls _ _ _ _ _ (Nat.le_refl _) Hhgs.out HhtE.out (by rw [List.length_map, (greedy_fits L bud).len]; omega) (by rw [List.length_map, hlenT]; omega)).mono ?_
            rw [nat_int_eq hres.out]
            rintro e wF ⟨rfl, hbF⟩
            go_wp2
            go_ret
            exact ⟨rfl, below_call hbelG hbF hbelG.size⟩
          · have hres := Hhgo.out (Int.not_lt.1 hgt)
            have hgt2 : spent + P1 ≤ bud := by omega
            have G1 := Lib.hid (show (bud - (spent + P1)).toNat < f - 1 from by omega)
            have G2 := Lib.hid (show spent + P1 ≤ 1048576 * ((T.sum + m : Nat) : Int) from by omega)
            have G3 := Lib.hid (show 0 ≤ spent + P1 from by omega)
            have G4 := Lib.hid (show rd + 1 ≤ T.sum + m from by omega)
            have hpc2 : 1 ≤ P1 ∧ P1 ≤ 1048576000 := by omega
            have hsp3 : spent ≤ 1048576000 := by omega
            have hy8 : y ≤ 8 := by omega
            have hm8 : m ≤ 8 := by omega
            have hgt3 : ¬ bud < spent + P1 := by omega
            have hlt5 := Lib.hid (show wo.heap.size < w5.heap.size from by omega)
            clear hgt hgt2 hb5 hb45 hpcost hsp1 hs40 hrl8 hi5 hcy hz5 hpc
            have Hhp1 := Lib.hid hp1; clear hp1; have Hhp2 := Lib.hid hp2; clear hp2; have HhT5 := Lib.hid hT5; clear hT5; have Hhres := Lib.hid hres; clear hres
            go_wp2_with (refine Go.Canon.chk (by rfl) ?_)
            go_wp2_with (first | (refine Go.Canon.wp_region_text mixed (by kernel_rfl) ?_) | (refine Go.Canon.chk (by rfl) ?_))
            refine ⟨⟨spent + P1, rd + 1, f - 1, T.set i (y + m), rfl, rfl, ?_, G1.out, G3.out, by rw [Hhs9.out]; exact G2.out, by rw [Hhs9.out]; exact G4.out, Hhfs.out, ?_, ?_⟩, by simp [intOf]; omega⟩
            · rw [Hhres.out]; congr 1; omega
            · rw [List.map_set]
              have h9 := (HhT5.out.drew.set i (.int .i64 ((y + m : Nat) : Int)))
              rw [show ((y + m : Nat) : Int) = (y : Int) + m from by omega] at h9 ⊢
              exact h9
            · exact (hbi5.drew).setCell (by simp) _
end Go.Proofs.Ytbhdfljdfjadnaa
