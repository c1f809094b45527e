/- Walk: sew.Runs. Walk: sew.Pairs. -/
import Derived.Test.YtpbdcppaiafbgaaFH
import Derived.Test.YtpbdcppaiafbgaaGB
import Derived.Test.YtpbdcppaiafbgaaBY
namespace Go.Words
open Go Go.RowKit Go.Mesh
theorem flat3_last (D : List T3) (a b x y : Int) : flat3 (D ++ [(a, b, y)]) = (flat3 (D ++ [(a, b, x)])).set (D.length * 3 + 2) (.int .i64 y) := by
  induction D with
  | nil => rfl
  | cons d D ih =>
    have e : ∀ z, flat3 ((d :: D) ++ [(a, b, z)]) = .int .i64 d.1 :: .int .i64 d.2.1 :: .int .i64 d.2.2 :: flat3 (D ++ [(a, b, z)]) := fun z => rfl
    rw [e, e, ih, List.length_cons, show (D.length + 1) * 3 + 2 = (D.length * 3 + 2) + 1 + 1 + 1 by omega]
    rfl
theorem flat3_end (D : List T3) (a b x : Int) : (flat3 (D ++ [(a, b, x)]))[D.length * 3 + 2]? = some (.int .i64 x) := by
  induction D with
  | nil => rfl
  | cons d D ih =>
    have e : flat3 ((d :: D) ++ [(a, b, x)]) = .int .i64 d.1 :: .int .i64 d.2.1 :: .int .i64 d.2.2 :: flat3 (D ++ [(a, b, x)]) := rfl
    rw [e, List.length_cons, show (D.length + 1) * 3 + 2 = (D.length * 3 + 2) + 1 + 1 + 1 by omega]
    exact ih
/-- A pair more in the map from the lesser place to the greater. -/
theorem toP_next {lo : List Int} {l : List P4} {j : Nat} {p : P4} (hp : l[j]? = some p) (hP : (l.map (plP lo)).Pairwise Apart) (mt : List (Int × Int)) (h : ∀ a, look mt a = (toP ((l.take j).map (plP lo)) a).map fun p => max p.1 p.2) :
    ∀ a, look (put mt (min (plP lo p).1 (plP lo p).2) (max (plP lo p).1 (plP lo p).2)) a = (toP ((l.take (j + 1)).map (plP lo)) a).map fun p => max p.1 p.2 := fun a => by
  obtain ⟨hj, rfl⟩ := List.getElem?_eq_some_iff.1 hp
  have e : (l.take (j + 1)).map (plP lo) = (l.take j).map (plP lo) ++ [plP lo l[j]] := by rw [List.take_succ_eq_append_getElem hj, List.map_append]; rfl
  have hsub : ((l.take (j + 1)).map (plP lo)).Pairwise Apart := hP.sublist ((List.take_sublist _ _).map _)
  rw [e] at hsub
  obtain ⟨_, _, h3⟩ := List.pairwise_append.1 hsub
  rw [look_put, e]
  unfold toP
  rw [List.find?_append]
  by_cases h9 : min (plP lo l[j]).1 (plP lo l[j]).2 = a
  · rw [if_pos h9]
    have hno : ((l.take j).map (plP lo)).find? (fun p => decide (min p.1 p.2 = a)) = none := List.find?_eq_none.2 fun q hq h8 => by
      obtain ⟨g1, g2, g3, g4⟩ := h3 q hq (plP lo l[j]) (by simp)
      simp only [decide_eq_true_eq] at h8
      omega
    rw [hno, List.find?_cons]
    simp [h9]
  · rw [if_neg h9, h a]
    unfold toP
    rw [List.find?_cons]
    have h8 : decide (min (plP lo l[j]).1 (plP lo l[j]).2 = a) = false := decide_eq_false h9
    rw [h8]
    simp
end Go.Words
namespace Go.Proofs.Ytpbdcppaiafbgaa
open Go Go.RowKit Go.Words Go.Mesh

theorem infoRun : (Try.prog.info? 37).map (fun i => (i.zero, i.size, i.bytes)) = some (some (.agg #[.int .i64 0, .int .i64 0, .int .i64 0]), 3, 24) := by kernel_rfl
/-- What sew.Runs hands back. -/
def RunsEnd (w w' : World) (lo : List Int) (l : List P4) (v : Value) (c : Int) : Prop :=
  (rightB lo = false ∧ c = 1 ∧ v = .slice none 0 0) ∨
  (rightB lo = true ∧ c = placedN (hasL lo) l ∧ c ≠ 0 ∧ v = .slice none 0 0) ∨
  (rightB lo = true ∧ placedN (hasL lo) l = 0 ∧ c = 0 ∧ w'.ownsRow w.heap.size 37 3 v (runsL (sortP (l.map (plP lo)) lo.length)).length (flat3 (runsL (sortP (l.map (plP lo)) lo.length))))
set_option maxRecDepth 40000 in
set_option maxHeartbeats 8000000 in
theorem runs_calls {w : World} {B : Nat} {sv lv : Value} {lo : List Int} {l : List P4} (hL : Sl 1 RInt w B sv lo) (hl : Sl 4 R4 w B lv l) (hB0 : B ≤ w.heap.size) (hlo : lo.length ≤ 1000) (hll : l.length ≤ 1000) (hok : ∀ e ∈ edgs l, ok2 e) (hokL : ∀ x ∈ lo, I64 x) :
    Calls Try.prog 10 #[sv, lv] w fun e w' => (∃ (v : Value) (c : Int), e = .returned (.tuple #[v, .int .i64 c]) ∧ RunsEnd w w' lo l v c) ∧ Below w.heap.size w w' := by
  have hri := right_calls hL hB0 (by omega)
  obtain ⟨A, cap, rfl, hcap⟩ := hL.form
  obtain ⟨A2, cap2, rfl, hcap2⟩ := hl.form
  have hmm := @run_makeMap Try.prog
  have HhL := Lib.hid hL; clear hL; have Hhl := Lib.hid hl; clear hl; have Hhri := Lib.hid hri; clear hri; have Hhok := Lib.hid hok; clear hok; have HhokL := Lib.hid hokL; clear hokL
  go_enter Try.func10, Try.ntmps10
  go_wp2_with fail
  refine Hhri.out.mono ?_
  rintro e w1 ⟨rfl, hb1⟩
  have hz1 := hb1.size
  cases hrb : rightB lo with
  | false =>
    have Hhrb := Lib.hid hrb; clear hrb
    go_wp2_with fail
    go_ret2
    exact ⟨⟨_, _, rfl, .inl ⟨Hhrb.out, rfl, rfl⟩⟩, hb1⟩
  | true =>
    have hnd : lo.Nodup := (of_decide_eq_true hrb).2
    have hn3 : 3 ≤ lo.length := (of_decide_eq_true hrb).1
    have hL1 := HhL.out.below keeps_int (hb1.mono hB0)
    have hl1 := Hhl.out.below keeps_4 (hb1.mono hB0)
    have hmp0 := Mp.new (enc := enc2) (ok := ok2) (ev := enc1) w1
    have hb2 := (Below.refl w1.heap.size w1).alloc (Nat.le_refl _) (.map #[] 0)
    have hokE : ∀ k, k < lo.length → ok2 (edgeL lo k) := fun k hk => by
      have h9 : ∀ i, i < lo.length → I64 (lo.getD i 0) := fun i hi => by
        rw [List.getD_eq_getElem?_getD, List.getElem?_eq_getElem hi]
        exact HhokL.out _ (List.getElem_mem hi)
      exact ⟨h9 _ (Nat.mod_lt _ (by omega)), h9 _ hk⟩
    have Hhrb := Lib.hid hrb; clear hrb; have Hhnd := Lib.hid hnd; clear hnd; have HhL1 := Lib.hid hL1; clear hL1; have Hhl1 := Lib.hid hl1; clear hl1; have Hhmp0 := Lib.hid hmp0; clear hmp0; have Hhb2 := Lib.hid hb2; clear hb2; have HhokE := Lib.hid hokE; clear hokE
    go_wp2_with fail
    go_loopw [27] (fun i wr => ∃ (k : Nat) (m : List ((Int × Int) × Int)), k ≤ lo.length ∧ i = .int .i64 k ∧ Mp enc2 ok2 enc1 wr w1.heap.size m ∧ (∀ i, i < k → Words.look m (edgeL lo i) = some (i : Int)) ∧ (∀ e, (Words.look m e).isSome = true ↔ ∃ i, i < k ∧ edgeL lo i = e) ∧ Below w1.heap.size w1 wr) (fun i _ => lo.length - (intOf i).toNat)
    case atStart => exact ⟨0, [], by omega, rfl, Hhmp0.out, fun i hi => by omega, fun e => by simp [Words.look], Hhb2.out⟩
    case round =>
      obtain ⟨k, m, hk, rfl, hmr, hma, hmk, hbel⟩ := hrel
      have hz := hbel.size
      have hml := hmr.lt
      by_cases hkl : k < lo.length
      · have hed := sedge_calls (HhL1.out.below keeps_int (hbel.mono (by omega))) (by omega) (by omega) k hkl
        change Calls _ _ _ _ (fun e w' => e = .returned (enc2 (edgeL lo k)) ∧ _) at hed
        have hr := HhokE.out k hkl
        have hinj := fun i hi => edgeL_inj (i := k) (j := i) Hhnd.out hkl hi
        have hst1 : ∀ i, i < k + 1 → Words.look (Words.put m (edgeL lo k) (k : Int)) (edgeL lo i) = some (i : Int) := fun i hi => by
          rw [look_put]
          by_cases h9 : edgeL lo k = edgeL lo i
          · rw [if_pos h9, hinj i (by omega) h9]
          · rw [if_neg h9]
            refine hma i ?_
            by_cases h8 : i = k
            · subst h8; exact absurd rfl h9
            · omega
        have hst2 : ∀ e, (Words.look (Words.put m (edgeL lo k) (k : Int)) e).isSome = true ↔ ∃ i, i < k + 1 ∧ edgeL lo i = e := fun e => by
          rw [look_put]
          by_cases h9 : edgeL lo k = e
          · rw [if_pos h9]
            exact ⟨fun _ => ⟨k, by omega, h9⟩, fun _ => rfl⟩
          · rw [if_neg h9, hmk e]
            constructor
            · rintro ⟨i, h1, h2⟩; exact ⟨i, by omega, h2⟩
            · rintro ⟨i, h1, h2⟩
              refine ⟨i, ?_, h2⟩
              by_cases h8 : i = k
              · subst h8; exact absurd h2 h9
              · omega
        generalize hee : edgeL lo k = ed at *
        obtain ⟨x1, x2⟩ := ed
        simp only [enc2] at hed
        have Hhmr := Lib.hid hmr; clear hmr; have Hhma := Lib.hid hma; clear hma; have Hhmk := Lib.hid hmk; clear hmk; have Hhed := Lib.hid hed; clear hed; have Hhr := Lib.hid hr; clear hr; have Hhinj := Lib.hid hinj; clear hinj; have Hhst1 := Lib.hid hst1; clear hst1; have Hhst2 := Lib.hid hst2; clear hst2; have Hhee := Lib.hid hee; clear hee
        go_wp2_with fail
        refine Hhed.out.mono ?_
        rintro e w2 ⟨rfl, hb3⟩
        have hm2 := Hhmr.out.below hb3 hml
        have hbel2 := hbel.trans (hb3.mono hz)
        have Hhm2 := Lib.hid hm2; clear hm2
        go_wp2_with (at_mapUpdate; refine wpList_put _ rfl _ _ _ 67 rfl 47 3 keyE Try.underlying67 w1.heap.size m rfl Hhm2.out (x1, x2) rfl Hhr.out (k : Int) rfl ?_; intro w5 hmp2 hgr2 hsz2; have Hhmp2 := Lib.hid hmp2; clear hmp2; have Hhgr2 := Lib.hid hgr2; clear hgr2; clear hsz2)
        exact ⟨⟨k + 1, _, by omega, by simp, Hhmp2.out, Hhst1.out, Hhst2.out, hbel2.grown Hhgr2.out hbel2.size (fun q hq => by cases hq; exact Nat.le_refl _)⟩, by simp [intOf]; omega⟩
      · obtain rfl : k = lo.length := by omega
        obtain ⟨w2, hw2⟩ : ∃ w2, w2 = wr := ⟨_, rfl⟩
        subst hw2
        have hpl := placed_calls m hmr (Hhl1.out.below keeps_4 (hbel.mono (by omega))) (by omega) (by omega) Hhok.out
        have hfe : (fun e => (Words.look m e).isSome) = hasL lo := funext fun e => by
          rw [Bool.eq_iff_iff, hmk e, hasL_iff]
        rw [hfe] at hpl
        have hbel2 := hb1.trans (hbel.mono hz1)
        obtain ⟨c, hc⟩ : ∃ c, placedN (hasL lo) l = c := ⟨_, rfl⟩
        rw [hc] at hpl
        have Hhmr := Lib.hid hmr; clear hmr; have Hhma := Lib.hid hma; clear hma; have Hhmk := Lib.hid hmk; clear hmk; have Hhpl := Lib.hid hpl; clear hpl; have Hhfe := Lib.hid hfe; clear hfe; have Hhc := Lib.hid hc; clear hc
        go_wp2_with fail
        refine Hhpl.out.mono ?_
        rintro e w3 ⟨rfl, hb4⟩
        have hz3 := hb4.size
        have hbel3 := hbel2.trans (hb4.mono hbel2.size)
        by_cases hc0 : c = 0
        · subst hc0
          have hpz := Hhc.out
          have hpa := placed_all hpz
          obtain ⟨hap, hrg⟩ := places_of hpz
          have hm3 := Hhmr.out.below hb4 hml
          have hl3 := (Hhl1.out.below keeps_4 (hbel.mono (by omega))).below keeps_4 (hb4.mono (by omega))
          have hml3 := hm3.lt
          have hnewt := Mp.new (enc := enc1) (ok := I64) (ev := enc1) w3
          have hb5 := (Below.refl w3.heap.size w3).alloc (Nat.le_refl _) (.map #[] 0)
          obtain ⟨gm, hgm⟩ : ∃ gm, gm = w1.heap.size := ⟨_, rfl⟩
          rw [← hgm] at hm3 hml3
          have hmm := @run_makeMap Try.prog
          have Hhpz := Lib.hid hpz; clear hpz; have Hhpa := Lib.hid hpa; clear hpa; have Hhap := Lib.hid hap; clear hap; have Hhrg := Lib.hid hrg; clear hrg; have Hhm3 := Lib.hid hm3; clear hm3; have Hhl3 := Lib.hid hl3; clear hl3; have Hhnewt := Lib.hid hnewt; clear hnewt; have Hhb5 := Lib.hid hb5; clear hb5
          go_wp2_with fail
          rw [← hgm]
          clear hmm hgm
          go_loopw [45] (fun i wr => ∃ (j : Nat) (mt : List (Int × Int)), j ≤ l.length ∧ i = .int .i64 (j : Int) ∧ Mp enc1 I64 enc1 wr w3.heap.size mt ∧ (∀ a, Words.look mt a = (toP ((l.take j).map (plP lo)) a).map fun p => max p.1 p.2) ∧ Below w3.heap.size w3 wr) (fun i _ => l.length - (intOf i).toNat)
          case atStart => exact ⟨0, [], by omega, rfl, Hhnewt.out, fun a => rfl, Hhb5.out⟩
          case round =>
            obtain ⟨j, mt, hj, rfl, hmt, hmv, hbr⟩ := hrel
            have hzr := hbr.size
            have hmtl := hmt.lt
            by_cases hjl : j < l.length
            · obtain ⟨p, hp⟩ : ∃ p, l[j]? = some p := ⟨_, List.getElem?_eq_getElem hjl⟩
              obtain ⟨b, o, rfl, hb, a1, a2, a3, a4⟩ := (Hhl3.out.below keeps_4 (hbr.mono (by omega))).p4_at hp
              have hmem := List.mem_of_getElem? hp
              obtain ⟨g1, g2⟩ := Hhpa.out p hmem
              obtain ⟨i1, i1l, i1e, i1p⟩ := plI_has g1
              obtain ⟨i2, i2l, i2e, i2p⟩ := plI_has g2
              have hlk1 : Words.look m p.1 = some (i1 : Int) := by rw [← i1e]; exact Hhma.out i1 i1l
              have hlk2 : Words.look m p.2 = some (i2 : Int) := by rw [← i2e]; exact Hhma.out i2 i2l
              have hok1 : ok2 p.1 := Hhok.out _ (List.mem_flatMap.2 ⟨p, hmem, by simp⟩)
              have hok2 : ok2 p.2 := Hhok.out _ (List.mem_flatMap.2 ⟨p, hmem, by simp⟩)
              have hne : i1 ≠ i2 := fun h9 => (Hhrg.out (plP lo p) (List.mem_map_of_mem hmem)).1 (by show plI lo p.1 = plI lo p.2; rw [i1p, i2p, h9])
              have hnext := toP_next hp Hhap.out mt hmv
              rw [show (plP lo p).1 = (i1 : Int) from i1p, show (plP lo p).2 = (i2 : Int) from i2p] at hnext
              have hbw : b < wr.heap.size := by omega
              obtain ⟨⟨x1, x2⟩, x3, x4⟩ := p
              simp only [] at a1 a2 a3 a4 hlk1 hlk2 hok1 hok2
              have hkp := Bk.new wr 49 [.int .i64 x1, .int .i64 x2, .int .i64 x3, .int .i64 x4]
              have z0 : (wr.alloc (.cells #[.int .i64 x1, .int .i64 x2, .int .i64 x3, .int .i64 x4] 49)).cell? ⟨wr.heap.size, 0, none⟩ = some (.int .i64 x1) := hkp.cell 0
              have z1 : (wr.alloc (.cells #[.int .i64 x1, .int .i64 x2, .int .i64 x3, .int .i64 x4] 49)).cell? ⟨wr.heap.size, 1, none⟩ = some (.int .i64 x2) := hkp.cell 1
              have z2 : (wr.alloc (.cells #[.int .i64 x1, .int .i64 x2, .int .i64 x3, .int .i64 x4] 49)).cell? ⟨wr.heap.size, 2, none⟩ = some (.int .i64 x3) := hkp.cell 2
              have z3 : (wr.alloc (.cells #[.int .i64 x1, .int .i64 x2, .int .i64 x3, .int .i64 x4] 49)).cell? ⟨wr.heap.size, 3, none⟩ = some (.int .i64 x4) := hkp.cell 3
              have hmz := ((Hhm3.out.below hbr hml3).alloc (.cells #[.int .i64 x1, .int .i64 x2, .int .i64 x3, .int .i64 x4] 49)).drew
              have htz := (hmt.alloc (.cells #[.int .i64 x1, .int .i64 x2, .int .i64 x3, .int .i64 x4] 49)).drew
              have hbz := (hbr.alloc hzr (.cells #[.int .i64 x1, .int .i64 x2, .int .i64 x3, .int .i64 x4] 49)).drew
              have Hhmt := Lib.hid hmt; clear hmt; have Hhmv := Lib.hid hmv; clear hmv; have Hhkp := Lib.hid hkp; clear hkp; have Hhmz := Lib.hid hmz; clear hmz; have Hhtz := Lib.hid htz; clear htz; have Hhbz := Lib.hid hbz; clear hbz; have Hhlk1 := Lib.hid hlk1; clear hlk1; have Hhlk2 := Lib.hid hlk2; clear hlk2; have Hhok1 := Lib.hid hok1; clear hok1; have Hhok2 := Lib.hid hok2; clear hok2; have Hhne := Lib.hid hne; clear hne; have Hhnext := Lib.hid hnext; clear hnext; have Hi1e := Lib.hid i1e; clear i1e; have Hi2e := Lib.hid i2e; clear i2e; have Hi1p := Lib.hid i1p; clear i1p; have Hi2p := Lib.hid i2p; clear i2p; have Hg1 := Lib.hid g1; clear g1; have Hg2 := Lib.hid g2; clear g2; have Hhmem := Lib.hid hmem; clear hmem; have Hhp := Lib.hid hp; clear hp
              go_wp2_with fail
              refine Go.Canon.wp_region_tree [2, 6] (fun b => b = wr.heap.size) (.seg [0,1,2,4,5,6] (.alt 3 (.seg [8] (.alt 7 (.seg [9] .fin) .no)) (.alt 7 (.alt 3 (.seg [8,9] .fin) .no) .no))) mixed (by kernel_rfl) ?_
              refine Go.Canon.tr_seg ?_
              simp only [List.map_cons, List.map_nil, List.getD_cons_zero, List.getD_cons_succ]
              go_wp2_with fail
              refine Go.Canon.tr_to (Go.Canon.tr_alt ?_ (Go.Canon.tr_alt ?_ Go.Canon.tr_no))
              · simp only [List.getD_cons_zero, List.getD_cons_succ]
                go_wp2_with (at_lookup; refine wpList_look _ rfl _ _ 67 rfl 47 3 keyE Try.underlying67 zero_int gm m rfl Hhmz.out (x1, x2) rfl Hhok1.out ?_; rw [Hhlk1.out, show (((some (i1 : Int) : Option Int).map enc1).getD (.int .i64 0)) = .int .i64 (i1 : Int) from rfl])
                refine Go.Canon.tr_end (fun b hb => rfl) (Go.Canon.tr_seg ?_)
                simp only [List.map_cons, List.map_nil, List.getD_cons_zero, List.getD_cons_succ]
                go_wp2_with fail
                refine Go.Canon.tr_to (Go.Canon.tr_one ?_)
                simp only [List.getD_cons_zero, List.getD_cons_succ]
                go_wp2_with (at_lookup; refine wpList_look _ rfl _ _ 67 rfl 47 3 keyE Try.underlying67 zero_int gm m rfl Hhmz.out (x3, x4) rfl Hhok2.out ?_; rw [Hhlk2.out, show (((some (i2 : Int) : Option Int).map enc1).getD (.int .i64 0)) = .int .i64 (i2 : Int) from rfl])
                refine Go.Canon.tr_end (fun b hb => rfl) (Go.Canon.tr_seg ?_)
                simp only [List.map_cons, List.map_nil, List.getD_cons_zero, List.getD_cons_succ]
                go_wp2_with fail
                refine Go.Canon.tr_to (Go.Canon.tr_fin (by rfl) (List.forall_mem_cons.2 ⟨.inl ⟨_, rfl, rfl, by rw [World.cell?_drew, z0]; rfl⟩, List.forall_mem_cons.2 ⟨.inl ⟨_, rfl, rfl, by rw [World.cell?_drew, z2]; rfl⟩, fun _ h => by cases h⟩⟩) ?_)
                go_wp2_with (at_mapUpdate; refine wpList_put _ rfl _ _ _ 73 rfl 3 3 keyI Try.underlying73 w3.heap.size mt rfl Hhtz.out (min (i1 : Int) (i2 : Int)) rfl (by unfold I64; omega) (max (i1 : Int) (i2 : Int)) rfl ?_; intro w5 hmp2 hgr2 hsz2; have Hhmp2 := Lib.hid hmp2; clear hmp2; have Hhgr2 := Lib.hid hgr2; clear hgr2; clear hsz2)
                exact ⟨⟨j + 1, _, by omega, by simp, Hhmp2.out, Hhnext.out, Hhbz.out.grown Hhgr2.out (by have := Hhbz.out.size; omega) (fun q hq => by cases hq; exact Nat.le_refl _)⟩, by simp [intOf]; omega⟩
              · simp only [List.getD_cons_zero, List.getD_cons_succ]
                go_wp2_with (at_lookup; refine wpList_look _ rfl _ _ 67 rfl 47 3 keyE Try.underlying67 zero_int gm m rfl Hhmz.out (x3, x4) rfl Hhok2.out ?_; rw [Hhlk2.out, show (((some (i2 : Int) : Option Int).map enc1).getD (.int .i64 0)) = .int .i64 (i2 : Int) from rfl])
                refine Go.Canon.tr_end (fun b hb => rfl) (Go.Canon.tr_one ?_)
                simp only [List.getD_cons_zero, List.getD_cons_succ]
                go_wp2_with (at_lookup; refine wpList_look _ rfl _ _ 67 rfl 47 3 keyE Try.underlying67 zero_int gm m rfl Hhmz.out (x1, x2) rfl Hhok1.out ?_; rw [Hhlk1.out, show (((some (i1 : Int) : Option Int).map enc1).getD (.int .i64 0)) = .int .i64 (i1 : Int) from rfl])
                refine Go.Canon.tr_end (fun b hb => rfl) (Go.Canon.tr_seg ?_)
                simp only [List.map_cons, List.map_nil, List.getD_cons_zero, List.getD_cons_succ]
                go_wp2_with fail
                refine Go.Canon.tr_to (Go.Canon.tr_fin (by rfl) (List.forall_mem_cons.2 ⟨.inl ⟨_, rfl, rfl, by rw [World.cell?_drew, z0]; rfl⟩, List.forall_mem_cons.2 ⟨.inl ⟨_, rfl, rfl, by rw [World.cell?_drew, z2]; rfl⟩, fun _ h => by cases h⟩⟩) ?_)
                go_wp2_with (at_mapUpdate; refine wpList_put _ rfl _ _ _ 73 rfl 3 3 keyI Try.underlying73 w3.heap.size mt rfl Hhtz.out (min (i1 : Int) (i2 : Int)) rfl (by unfold I64; omega) (max (i1 : Int) (i2 : Int)) rfl ?_; intro w5 hmp2 hgr2 hsz2; have Hhmp2 := Lib.hid hmp2; clear hmp2; have Hhgr2 := Lib.hid hgr2; clear hgr2; clear hsz2)
                exact ⟨⟨j + 1, _, by omega, by simp, Hhmp2.out, Hhnext.out, Hhbz.out.grown Hhgr2.out (by have := Hhbz.out.size; omega) (fun q hq => by cases hq; exact Nat.le_refl _)⟩, by simp [intOf]; omega⟩
            · obtain rfl : j = l.length := by omega
              rw [List.take_length] at hmv
              obtain ⟨w4, hw4⟩ : ∃ w4, w4 = wr := ⟨_, rfl⟩
              subst hw4
              have hbel4 := hbel3.trans (hbr.mono hbel3.size)
              have hrg := Hhrg.out
              obtain ⟨P, hP⟩ : ∃ P, l.map (plP lo) = P := ⟨_, rfl⟩
              rw [hP] at hmv hrg
              have Hhmt := Lib.hid hmt; clear hmt; have Hhmv := Lib.hid hmv; clear hmv; have Hhrg := Lib.hid hrg; clear hrg; have HhP := Lib.hid hP; clear hP
              go_wp2_with fail
              go_loopw [14, 15, 16, 67] (fun ov lv fv iv wr => ∃ (a : Nat) (last far : Int), a ≤ lo.length ∧ iv = .int .i64 (a : Int) ∧ lv = .int .i64 last ∧ fv = .int .i64 far ∧ wr.ownsRow w4.heap.size 37 3 ov (runsL (sortP P a)).length (flat3 (runsL (sortP P a))) ∧ (∀ r, (runsL (sortP P a)).getLast? = some r → r.1 + r.2.2 = last + 1 ∧ r.2.1 - r.2.2 = far - 1 ∧ 0 ≤ r.1 ∧ 1 ≤ r.2.2) ∧ (-2 ≤ last ∧ last ≤ 1000 ∧ 0 ≤ far ∧ far ≤ 1000) ∧ (runsL (sortP P a)).length ≤ a ∧ Below w4.heap.size w4 wr) (fun _ _ _ iv _ => lo.length - (intOf iv).toNat)
              case atStart => exact ⟨0, -2, 0, by omega, rfl, rfl, rfl, World.ownsRow_nil _ _ _ _, fun r hr => by simp [sortP, runsL] at hr, by omega, Nat.zero_le _, Below.refl _ _⟩
              case round =>
                obtain ⟨a, last, far, ha, rfl, rfl, rfl, hown, hlast, hbd, hlen, hbel5⟩ := hrel
                have hz5 := hbel5.size
                by_cases hal : a < lo.length
                · have hmz := Hhmt.out.below hbel5 Hhmt.out.lt
                  have hsu := sortP_succ P a
                  cases htp : toP P (a : Int) with
                  | none =>
                    have hlk : Words.look mt (a : Int) = none := by rw [Hhmv.out, htp]; rfl
                    have hsame : sortP P (a + 1) = sortP P a := by rw [hsu, htp]; simp
                    have hln : (runsL (sortP P (a + 1))).length ≤ a + 1 := by rw [hsame]; omega
                    obtain ⟨A5, cap5, rfl, hc5⟩ := own_form hown
                    have Hhown := Lib.hid hown; clear hown; have Hhlast := Lib.hid hlast; clear hlast; have Hhmz := Lib.hid hmz; clear hmz; have Hhlk := Lib.hid hlk; clear hlk; have Hhsame := Lib.hid hsame; clear hsame; have Hhsu := Lib.hid hsu; clear hsu; have Hhtp := Lib.hid htp; clear htp; have Hhlen := Lib.hid hlen; clear hlen; have Hhln := Lib.hid hln; clear hln
                    go_wp2_with (at_lookup; refine wpList_look_ok _ rfl _ _ 73 rfl 3 3 keyI Try.underlying73 zero_int w3.heap.size mt rfl Hhmz.out (a : Int) rfl (I64.nat (by omega)) ?_; rw [Hhlk.out, show (((none : Option Int).map enc1).getD (.int .i64 0)) = .int .i64 0 from rfl, show (none : Option Int).isSome = false from rfl])
                    exact ⟨⟨a + 1, last, far, by omega, by simp, rfl, rfl, by rw [Hhsame.out]; exact Hhown.out, by rw [Hhsame.out]; exact Hhlast.out, hbd, Hhln.out, hbel5⟩, by simp [intOf]; omega⟩
                  | some p =>
                    obtain ⟨hpm, hmin⟩ := toP_some htp
                    have hr := Hhrg.out p hpm
                    obtain ⟨b, hb⟩ : ∃ b : Nat, max p.1 p.2 = b := ⟨(max p.1 p.2).toNat, by omega⟩
                    have hlk : Words.look mt (a : Int) = some (b : Int) := by
                      rw [Hhmv.out, htp]
                      show some (max p.1 p.2) = _
                      rw [hb]
                    have hadd : runsL (sortP P (a + 1)) = addR (runsL (sortP P a)) a b := by
                      rw [hsu, htp]
                      show runsL (sortP P a ++ [(min p.1 p.2, max p.1 p.2)]) = _
                      rw [runsL_snoc, hmin, hb]
                    have hbn : b ≤ 1000 := by omega
                    have hln2 : ∀ R : List T3, R.length ≤ a → (addR R a b).length ≤ a + 1 := fun R hR => by
                      unfold addR
                      split
                      · simp
                      · split
                        · rw [List.length_append, List.length_dropLast, List.length_singleton]; omega
                        · rw [List.length_append, List.length_singleton]; omega
                    have hlen2 : (runsL (sortP P (a + 1))).length ≤ a + 1 := by rw [hadd]; exact hln2 _ hlen
                    clear hln2 hsu htp hpm hr hb hmin
                    generalize runsL (sortP P a) = R at *
                    cases hR : R.getLast? with
                    | none =>
                      have hR0 : R = [] := List.getLast?_eq_none_iff.1 hR
                      subst hR0
                      obtain ⟨A5, cap5, rfl, hc5⟩ := own_form hown
                      have hgo : ∀ (w5 : World) (v5 : Value), w5.ownsRow w4.heap.size 37 3 v5 (0 + 1) ([] ++ [.int .i64 (a : Int), .int .i64 (b : Int), .int .i64 1]) → w5.ownsRow w4.heap.size 37 3 v5 (runsL (sortP P (a + 1))).length (flat3 (runsL (sortP P (a + 1)))) := fun w5 v5 h5 => by rw [hadd]; exact h5
                      have hlast2 : ∀ r, (runsL (sortP P (a + 1))).getLast? = some r → r.1 + r.2.2 = (a : Int) + 1 ∧ r.2.1 - r.2.2 = (b : Int) - 1 ∧ 0 ≤ r.1 ∧ 1 ≤ r.2.2 := fun r hr => by
                        rw [hadd] at hr
                        have hr : some ((a : Int), (b : Int), (1 : Int)) = some r := hr
                        rw [← Option.some.inj hr]
                        show (a : Int) + 1 = a + 1 ∧ (b : Int) - 1 = b - 1 ∧ 0 ≤ (a : Int) ∧ (1 : Int) ≤ 1
                        omega
                      simp only [List.length_nil] at hown hc5 ⊢
                      have hown : wr.ownsRow w4.heap.size 37 3 (.slice A5 0 cap5) 0 [] := hown
                      have Hhown := Lib.hid hown; clear hown; have Hhlast := Lib.hid hlast; clear hlast; have Hhmz := Lib.hid hmz; clear hmz; have Hhlk := Lib.hid hlk; clear hlk; have Hhadd := Lib.hid hadd; clear hadd; have Hhlen := Lib.hid hlen; clear hlen; have Hhlen2 := Lib.hid hlen2; clear hlen2; have Hhgo := Lib.hid hgo; clear hgo; have Hhlast2 := Lib.hid hlast2; clear hlast2; have HhR := Lib.hid hR; clear hR
                      go_wp2_with (first
                        | (at_lookup; refine wpList_look_ok _ rfl _ _ 73 rfl 3 3 keyI Try.underlying73 zero_int w3.heap.size mt rfl Hhmz.out (a : Int) rfl (I64.nat (by omega)) ?_; rw [Hhlk.out, show (((some (b : Int) : Option Int).map enc1).getD (.int .i64 0)) = .int .i64 (b : Int) from rfl, show (some (b : Int) : Option Int).isSome = true from rfl])
                        | (at_builtin; refine append_block _ rfl (.tmp 103) (.tmp 107) 38 rfl w4.heap.size infoRun Try.underlying38 rfl (by decide) _ (0) ([]) rfl (Hhown.out.alloc _) wr.heap.size [.int .i64 (a : Int), .int .i64 (b : Int), .int .i64 1] rfl (Bk.new _ _ _) rfl (by simp [Value.oneCell']) (by omega) (by decide) (by simp; omega) ?_; intro v1 w5 hown5 hb5 _ _; have Hhown5 := Lib.hid hown5; clear hown5))
                      exact ⟨⟨a + 1, a, b, by omega, by simp, rfl, rfl, Hhgo.out _ _ Hhown5.out, Hhlast2.out, by omega, Hhlen2.out, (hbel5.alloc hz5 _).trans hb5⟩, by simp [intOf]; omega⟩
                    | some r =>
                      have hs := last_split hR
                      obtain ⟨l1, l2, l3, l4⟩ := hlast r hR
                      obtain ⟨D, hD⟩ : ∃ D, R.dropLast = D := ⟨_, rfl⟩
                      obtain ⟨m9, hm9⟩ : ∃ m9, D.length = m9 := ⟨_, rfl⟩
                      have haddR : addR R a b = if (a : Int) = r.1 + r.2.2 ∧ (b : Int) = r.2.1 - r.2.2 then D ++ [(r.1, r.2.1, r.2.2 + 1)] else R ++ [((a : Int), (b : Int), 1)] := by
                        unfold addR; rw [hR]; rw [← hD]
                      rw [hD] at hs
                      have hRl : R.length = m9 + 1 := by rw [hs, List.length_append, List.length_singleton, hm9]
                      obtain ⟨r1, r2, r3⟩ := r
                      simp only [] at l1 l2 l3 l4 haddR
                      rw [hRl] at hown
                      obtain ⟨g5, cap5, rfl⟩ := ownsRow_succ hown
                      by_cases hgo : (a : Int) = last + 1 ∧ (b : Int) = far - 1
                      · rw [if_pos ⟨by omega, by omega⟩] at haddR
                        have q1 : ((a : Int) == last + 1) = true := by rw [hgo.1]; exact beq_self_eq_true _
                        have q2 : ((b : Int) == far - 1) = true := by rw [hgo.2]; exact beq_self_eq_true _
                        have hfe := flat3_end D r1 r2 r3
                        rw [← hs, hm9] at hfe
                        obtain ⟨ce, fe, hge, hgl⟩ := own_cellN hown hfe
                        have hset := own_set1 hown (m9 * 3 + 2) (.int .i64 (r3 + 1))
                        have hfl := flat3_last D r1 r2 r3 (r3 + 1)
                        rw [← hs, hm9] at hfl
                        rw [← hfl] at hset
                        have hown2 : (wr.setCell ⟨g5, m9 * 3 + 2, none⟩ (.int .i64 (r3 + 1))).ownsRow w4.heap.size 37 3 (.slice (some ⟨g5, 0, none⟩) (m9 + 1) cap5) (runsL (sortP P (a + 1))).length (flat3 (runsL (sortP P (a + 1)))) := by
                          rw [hadd, haddR, List.length_append, List.length_singleton, hm9]; exact hset
                        have hlast2 : ∀ r, (runsL (sortP P (a + 1))).getLast? = some r → r.1 + r.2.2 = (a : Int) + 1 ∧ r.2.1 - r.2.2 = (b : Int) - 1 ∧ 0 ≤ r.1 ∧ 1 ≤ r.2.2 := fun r hr => by
                          rw [hadd, haddR, List.getLast?_concat] at hr
                          rw [← Option.some.inj hr]
                          simp only
                          omega
                        have hb9 := hbel5.setCell (p := ⟨g5, m9 * 3 + 2, none⟩) hge (.int .i64 (r3 + 1))
                        obtain ⟨hg1, hg2⟩ := hgo
                        have hml9 : m9 + 1 ≤ 1000 := by omega
                        have hr3 : r3 ≤ 2000 := by omega
                        have Hhown := Lib.hid hown; clear hown; have Hhlast := Lib.hid hlast; clear hlast; have Hhmz := Lib.hid hmz; clear hmz; have Hhlk := Lib.hid hlk; clear hlk; have Hhadd := Lib.hid hadd; clear hadd; have HhaddR := Lib.hid haddR; clear haddR; have Hhlen := Lib.hid hlen; clear hlen; have Hhlen2 := Lib.hid hlen2; clear hlen2; have Hhlast2 := Lib.hid hlast2; clear hlast2; have HhR := Lib.hid hR; clear hR; have Hhs := Lib.hid hs; clear hs; have Hhfe := Lib.hid hfe; clear hfe; have Hhset := Lib.hid hset; clear hset; have Hhfl := Lib.hid hfl; clear hfl; have Hhown2 := Lib.hid hown2; clear hown2; have Hhb9 := Lib.hid hb9; clear hb9; have HhRl := Lib.hid hRl; clear hRl; have HhD := Lib.hid hD; clear hD; have Hhm9 := Lib.hid hm9; clear hm9; have Hhg1 := Lib.hid hg1; clear hg1; have Hhg2 := Lib.hid hg2; clear hg2
                        go_wp2_with (at_lookup; refine wpList_look_ok _ rfl _ _ 73 rfl 3 3 keyI Try.underlying73 zero_int w3.heap.size mt rfl Hhmz.out (a : Int) rfl (I64.nat (by omega)) ?_; rw [Hhlk.out, show (((some (b : Int) : Option Int).map enc1).getD (.int .i64 0)) = .int .i64 (b : Int) from rfl, show (some (b : Int) : Option Int).isSome = true from rfl])
                        exact ⟨⟨a + 1, a, b, by omega, by simp, rfl, rfl, Hhown2.out, Hhlast2.out, by omega, Hhlen2.out, Hhb9.out⟩, by simp [intOf]; omega⟩
                      · rw [if_neg fun h9 => hgo ⟨by omega, by omega⟩] at haddR
                        have hgo2 : ∀ (w5 : World) (v5 : Value), w5.ownsRow w4.heap.size 37 3 v5 (m9 + 1 + 1) (flat3 R ++ [.int .i64 (a : Int), .int .i64 (b : Int), .int .i64 1]) → w5.ownsRow w4.heap.size 37 3 v5 (runsL (sortP P (a + 1))).length (flat3 (runsL (sortP P (a + 1)))) := fun w5 v5 h5 => by
                          rw [hadd, haddR, flat3_snoc, List.length_append, List.length_singleton, hRl]; exact h5
                        have hlast2 : ∀ r, (runsL (sortP P (a + 1))).getLast? = some r → r.1 + r.2.2 = (a : Int) + 1 ∧ r.2.1 - r.2.2 = (b : Int) - 1 ∧ 0 ≤ r.1 ∧ 1 ≤ r.2.2 := fun r hr => by
                          rw [hadd, haddR, List.getLast?_concat] at hr
                          rw [← Option.some.inj hr]
                          show (a : Int) + 1 = a + 1 ∧ (b : Int) - 1 = b - 1 ∧ 0 ≤ (a : Int) ∧ (1 : Int) ≤ 1
                          omega
                        have Hhgo := Lib.hid hgo2
                        clear hgo2
                        have hml9 : m9 + 1 ≤ 1000 := by omega
                        by_cases hg1 : (a : Int) = last + 1
                        · have hg2 : ¬ (b : Int) = far - 1 := fun h9 => hgo ⟨hg1, h9⟩
                          have q1 : ((a : Int) == last + 1) = true := by rw [hg1]; exact beq_self_eq_true _
                          have q2 : ((b : Int) == far - 1) = false := by rw [beq_eq_false_iff_ne]; exact hg2
                          clear hgo
                          have Hhg1 := Lib.hid hg1; clear hg1; have Hhown := Lib.hid hown; clear hown; have Hhlast := Lib.hid hlast; clear hlast; have Hhmz := Lib.hid hmz; clear hmz; have Hhlk := Lib.hid hlk; clear hlk; have Hhadd := Lib.hid hadd; clear hadd; have HhaddR := Lib.hid haddR; clear haddR; have Hhlen := Lib.hid hlen; clear hlen; have Hhlen2 := Lib.hid hlen2; clear hlen2; have Hhlast2 := Lib.hid hlast2; clear hlast2; have HhR := Lib.hid hR; clear hR; have Hhs := Lib.hid hs; clear hs; have HhRl := Lib.hid hRl; clear hRl; have HhD := Lib.hid hD; clear hD; have Hhm9 := Lib.hid hm9; clear hm9
                          go_wp2_with (first
                            | (at_lookup; refine wpList_look_ok _ rfl _ _ 73 rfl 3 3 keyI Try.underlying73 zero_int w3.heap.size mt rfl Hhmz.out (a : Int) rfl (I64.nat (by omega)) ?_; rw [Hhlk.out, show (((some (b : Int) : Option Int).map enc1).getD (.int .i64 0)) = .int .i64 (b : Int) from rfl, show (some (b : Int) : Option Int).isSome = true from rfl])
                            | (at_builtin; refine append_block _ rfl (.tmp 103) (.tmp 107) 38 rfl w4.heap.size infoRun Try.underlying38 rfl (by decide) _ (m9 + 1) (flat3 R) rfl (Hhown.out.alloc _) wr.heap.size [.int .i64 (a : Int), .int .i64 (b : Int), .int .i64 1] rfl (Bk.new _ _ _) rfl (by simp [Value.oneCell']) (by omega) (by decide) (by simp; omega) ?_; intro v1 w5 hown5 hb5 _ _; have Hhown5 := Lib.hid hown5; clear hown5))
                          exact ⟨⟨a + 1, a, b, by omega, by simp, rfl, rfl, Hhgo.out _ _ Hhown5.out, Hhlast2.out, by omega, Hhlen2.out, (hbel5.alloc hz5 _).trans hb5⟩, by simp [intOf]; omega⟩
                        · have q1 : ((a : Int) == last + 1) = false := by rw [beq_eq_false_iff_ne]; exact hg1
                          clear hgo
                          have Hhown := Lib.hid hown; clear hown; have Hhlast := Lib.hid hlast; clear hlast; have Hhmz := Lib.hid hmz; clear hmz; have Hhlk := Lib.hid hlk; clear hlk; have Hhadd := Lib.hid hadd; clear hadd; have HhaddR := Lib.hid haddR; clear haddR; have Hhlen := Lib.hid hlen; clear hlen; have Hhlen2 := Lib.hid hlen2; clear hlen2; have Hhlast2 := Lib.hid hlast2; clear hlast2; have HhR := Lib.hid hR; clear hR; have Hhs := Lib.hid hs; clear hs; have HhRl := Lib.hid hRl; clear hRl; have HhD := Lib.hid hD; clear hD; have Hhm9 := Lib.hid hm9; clear hm9
                          go_wp2_with (first
                            | (at_lookup; refine wpList_look_ok _ rfl _ _ 73 rfl 3 3 keyI Try.underlying73 zero_int w3.heap.size mt rfl Hhmz.out (a : Int) rfl (I64.nat (by omega)) ?_; rw [Hhlk.out, show (((some (b : Int) : Option Int).map enc1).getD (.int .i64 0)) = .int .i64 (b : Int) from rfl, show (some (b : Int) : Option Int).isSome = true from rfl])
                            | (at_builtin; refine append_block _ rfl (.tmp 103) (.tmp 107) 38 rfl w4.heap.size infoRun Try.underlying38 rfl (by decide) _ (m9 + 1) (flat3 R) rfl (Hhown.out.alloc _) wr.heap.size [.int .i64 (a : Int), .int .i64 (b : Int), .int .i64 1] rfl (Bk.new _ _ _) rfl (by simp [Value.oneCell']) (by omega) (by decide) (by simp; omega) ?_; intro v1 w5 hown5 hb5 _ _; have Hhown5 := Lib.hid hown5; clear hown5))
                          exact ⟨⟨a + 1, a, b, by omega, by simp, rfl, rfl, Hhgo.out _ _ Hhown5.out, Hhlast2.out, by omega, Hhlen2.out, (hbel5.alloc hz5 _).trans hb5⟩, by simp [intOf]; omega⟩
                · obtain rfl : a = lo.length := by omega
                  have hbf := hbel4.trans (hbel5.mono hbel4.size)
                  have hown2 := own_base hown (base' := w.heap.size) hbel4.size
                  have Hhown := Lib.hid hown; clear hown; have Hhlast := Lib.hid hlast; clear hlast; have Hhown2 := Lib.hid hown2; clear hown2
                  go_wp2_with fail
                  go_ret2
                  exact ⟨⟨_, _, rfl, .inr (.inr ⟨Hhrb.out, Hhpz.out, rfl, by rw [HhP.out]; exact Hhown2.out⟩)⟩, hbf⟩
        · have hcb : (c != 0) = true := bne_iff_ne.2 hc0
          go_wp2_with fail
          go_ret2
          exact ⟨⟨_, _, rfl, .inr (.inl ⟨Hhrb.out, Hhc.out.symm, hc0, rfl⟩)⟩, hbel3⟩
end Go.Proofs.Ytpbdcppaiafbgaa

namespace Go.Mesh
theorem exR_len (r : T3) : (exR r).length = r.2.2.toNat := by unfold exR; rw [List.length_map, List.length_range]
theorem exR_take {r : T3} {i : Nat} (hi : (i : Int) < r.2.2) : (exR r).take (i + 1) = (exR r).take i ++ [(r.1 + (i : Int), r.2.1 - (i : Int))] := by
  rw [List.take_succ_eq_append_getElem (by rw [exR_len]; omega)]
  unfold exR
  rw [List.getElem_map, List.getElem_range]
theorem exR_split {R : List T3} {k i : Nat} {r : T3} (hk : R[k]? = some r) (hi : (i : Int) < r.2.2) : ∃ rest, R.flatMap exR = ((R.take k).flatMap exR ++ (exR r).take i) ++ (r.1 + (i : Int), r.2.1 - (i : Int)) :: rest := by
  obtain ⟨hkl, rfl⟩ := List.getElem?_eq_some_iff.1 hk
  refine ⟨(exR R[k]).drop (i + 1) ++ (R.drop (k + 1)).flatMap exR, ?_⟩
  have e1 : R = R.take k ++ R[k] :: R.drop (k + 1) := by rw [← List.drop_eq_getElem_cons hkl, List.take_append_drop]
  have e2 : exR R[k] = (exR R[k]).take i ++ (R[k].1 + (i : Int), R[k].2.1 - (i : Int)) :: (exR R[k]).drop (i + 1) := by
    conv => lhs; rw [← List.take_append_drop (i + 1) (exR R[k])]
    rw [exR_take hi, List.append_assoc]; rfl
  conv => lhs; rw [e1, List.flatMap_append, List.flatMap_cons, e2]
  simp only [List.append_assoc, List.cons_append]
theorem flP_snoc (P : List (Int × Int)) (p : Int × Int) : flP (P ++ [p]) = flP P ++ [p.1, p.2] := by unfold flP; rw [List.flatMap_append]; rfl
theorem flP_twice {Q rest : List (Int × Int)} {p : Int × Int} (h : p.1 ∈ flP Q ∨ p.2 ∈ flP Q) : ¬ (flP (Q ++ p :: rest)).Nodup := fun hn => by
  have e : flP (Q ++ p :: rest) = flP Q ++ p.1 :: p.2 :: flP rest := by unfold flP; rw [List.flatMap_append]; rfl
  rw [e] at hn
  have := (List.nodup_append.1 hn).2.2
  rcases h with h | h
  · exact this _ h _ (by simp) rfl
  · exact this _ h _ (by simp) rfl
theorem exP_snoc (lo : List Int) (P : List (Int × Int)) (p : Int × Int) : exP lo (P ++ [p]) = exP lo P ++ [(edgeL lo p.1.toNat, edgeL lo p.2.toNat)] := by unfold exP; rw [List.map_append]; rfl
end Go.Mesh
namespace Go.Words
open Go Go.RowKit Go.Mesh
def flat4 (l : List P4) : List Value := l.flatMap fun p => [.int .i64 p.1.1, .int .i64 p.1.2, .int .i64 p.2.1, .int .i64 p.2.2]
theorem flat4_snoc (l : List P4) (p : P4) : flat4 (l ++ [p]) = flat4 l ++ [.int .i64 p.1.1, .int .i64 p.1.2, .int .i64 p.2.1, .int .i64 p.2.2] := by unfold flat4; rw [List.flatMap_append]; rfl
theorem flat4_at (l : List P4) : ∀ (i : Nat) (p : P4), l[i]? = some p → ((flat4 l).drop (i * 4)).take 4 = [.int .i64 p.1.1, .int .i64 p.1.2, .int .i64 p.2.1, .int .i64 p.2.2] := by
  induction l with
  | nil => intro i b h; simp at h
  | cons x l ih =>
    intro i b h
    cases i with
    | zero =>
      have : x = b := by simpa using h
      subst this
      simp [flat4]
    | succ i =>
      have h2 := ih i b (by simpa using h)
      rw [show (i + 1) * 4 = i * 4 + 1 + 1 + 1 + 1 by omega]
      simp only [flat4, List.flatMap_cons, List.cons_append, List.nil_append, List.drop_succ_cons]
      exact h2
theorem flat4_len (l : List P4) : (flat4 l).length = l.length * 4 := by
  induction l with
  | nil => rfl
  | cons x l ih => unfold flat4 at *; rw [List.flatMap_cons, List.length_append, ih]; simp; omega
/-- A row of another type lies in another block. -/
theorem own_ne {w : World} {base n size g : Nat} {e t : TypeId} {v : Value} {xs cs : List Value} (h : w.ownsRow base e size v n xs) (hb : Bk w g t cs) (hne : e ≠ t) : some g ≠ v.ownBlock := by
  rcases h.2 with ⟨rfl, _⟩ | ⟨g', cap, cur, rfl, _, hg, _⟩
  · simp [Value.ownBlock]
  · intro he
    have : g = g' := by simpa [Value.ownBlock] using he
    subst this
    unfold Bk at hb
    rw [hb] at hg
    injection hg with hg
    injection hg with _ h2
    exact hne h2.symm
end Go.Words
namespace Go.Proofs.Ytpbdcppaiafbgaa
open Go Go.RowKit Go.Words Go.Mesh

theorem infoPair : (Try.prog.info? 49).map (fun i => (i.zero, i.size, i.bytes)) = some (some (.agg #[.int .i64 0, .int .i64 0, .int .i64 0, .int .i64 0]), 4, 32) := by kernel_rfl
theorem sl_own_4 {w : World} {base : Nat} {v : Value} {l : List P4} (h : w.ownsRow base 49 4 v l.length (flat4 l)) : Sl 4 R4 w w.heap.size v l :=
  Sl.of_own h fun i a hi => flat4_at l i a hi
/-- What sew.Pairs hands back. -/
def PairsEnd (w w' : World) (lo : List Int) (R : List T3) (v : Value) (c : Int) : Prop :=
  (rightB lo = false ∧ c = 1 ∧ v = .slice none 0 0) ∨
  (rightB lo = true ∧ (∃ r ∈ R, ¬ okR lo.length r) ∧ c = 2 ∧ v = .slice none 0 0) ∨
  (rightB lo = true ∧ (∀ r ∈ R, okR lo.length r) ∧ ¬ (flP (R.flatMap exR)).Nodup ∧ c = 9 ∧ v = .slice none 0 0) ∨
  (rightB lo = true ∧ (∀ r ∈ R, okR lo.length r) ∧ (flP (R.flatMap exR)).Nodup ∧ c = 0 ∧ w'.ownsRow w.heap.size 49 4 v (exP lo (R.flatMap exR)).length (flat4 (exP lo (R.flatMap exR))))
set_option maxRecDepth 40000 in
set_option maxHeartbeats 8000000 in
theorem spairs_calls {w : World} {B : Nat} {sv rv : Value} {lo : List Int} {R : List T3} (hL : Sl 1 RInt w B sv lo) (hl : Sl 3 RTri w B rv R) (hB0 : B ≤ w.heap.size) (hlo : lo.length ≤ 1000) (hll : R.length ≤ 1000) (hokR : ∀ r ∈ R, I64 r.1 ∧ I64 r.2.1 ∧ I64 r.2.2) :
    Calls Try.prog 8 #[sv, rv] w fun e w' => (∃ (v : Value) (c : Int), e = .returned (.tuple #[v, .int .i64 c]) ∧ PairsEnd w w' lo R v c) ∧ Below w.heap.size w w' := by
  have hri := right_calls hL hB0 (by omega)
  obtain ⟨A, cap, rfl, hcap⟩ := hL.form
  obtain ⟨A2, cap2, rfl, hcap2⟩ := hl.form
  have HhL := Lib.hid hL; clear hL; have Hhl := Lib.hid hl; clear hl; have Hhri := Lib.hid hri; clear hri; have HhokR := Lib.hid hokR; clear hokR
  go_enter Try.func8, Try.ntmps8
  go_wp2_with fail
  refine Hhri.out.mono ?_
  rintro e w1 ⟨rfl, hb1⟩
  have hz1 := hb1.size
  cases hrb : rightB lo with
  | false =>
    have Hhrb := Lib.hid hrb; clear hrb
    go_wp2_with fail
    go_ret2
    exact ⟨⟨_, _, rfl, .inl ⟨Hhrb.out, rfl, rfl⟩⟩, hb1⟩
  | true =>
    have hnd : lo.Nodup := (of_decide_eq_true hrb).2
    have hn3 : 3 ≤ lo.length := (of_decide_eq_true hrb).1
    have hL1 := HhL.out.below keeps_int (hb1.mono hB0)
    have hl1 := Hhl.out.below keeps_tri (hb1.mono hB0)
    have Hhrb := Lib.hid hrb; clear hrb; have Hhnd := Lib.hid hnd; clear hnd; have HhL1 := Lib.hid hL1; clear hL1; have Hhl1 := Lib.hid hl1; clear hl1
    go_wp2_with fail
    go_loopw [20] (fun i wr => ∃ k : Nat, k ≤ R.length ∧ i = .int .i64 (k : Int) ∧ (∀ r ∈ R.take k, okR lo.length r) ∧ Below w1.heap.size w1 wr) (fun i _ => R.length - (intOf i).toNat)
    case atStart => exact ⟨0, by omega, rfl, fun r hr => by simp at hr, Below.refl _ _⟩
    case round =>
      obtain ⟨k, hk, rfl, hall, hbel⟩ := hrel
      have hz := hbel.size
      by_cases hkl : k < R.length
      · obtain ⟨b, o, rfl, hb, a1, a2, a3⟩ := (Hhl1.out.below keeps_tri (hbel.mono (by omega))).tri_at hkl
        have hmem := List.getElem_mem hkl
        have htk := List.take_succ_eq_append_getElem hkl
        obtain ⟨⟨q1, q2⟩, ⟨q3, q4⟩, q5, q6⟩ := HhokR.out _ hmem
        generalize R[k] = r at *
        obtain ⟨r1, r2, r3⟩ := r
        simp only [] at a1 a2 a3 q1 q2 q3 q4 q5 q6
        have hbw : b < wr.heap.size := by omega
        have hbA := (hb1.trans (hbel.mono hz1)).alloc (by omega) (.cells #[.int .i64 r1, .int .i64 r2, .int .i64 r3] 37)
        have hb2 := hbel.alloc hz (.cells #[.int .i64 r1, .int .i64 r2, .int .i64 r3] 37)
        have hbad : ¬ okR lo.length (r1, r2, r3) → ∃ r ∈ R, ¬ okR lo.length r := fun h9 => ⟨_, hmem, h9⟩
        have hnext : okR lo.length (r1, r2, r3) → ∀ r ∈ R.take (k + 1), okR lo.length r := fun h9 r hr => by
          rw [htk] at hr
          rcases List.mem_append.1 hr with h8 | h8
          · exact hall r h8
          · rw [List.mem_singleton.1 h8]; exact h9
        have Hhall := Lib.hid hall; clear hall; have Hhmem := Lib.hid hmem; clear hmem; have Hhtk := Lib.hid htk; clear htk; have HhbA := Lib.hid hbA; clear hbA; have Hhb2 := Lib.hid hb2; clear hb2; have Hhbad := Lib.hid hbad; clear hbad; have Hhnext := Lib.hid hnext; clear hnext
        by_cases c1 : r3 < 1
        · have hx := Hhbad.out fun h9 => by
            obtain ⟨e1, e2, e3, e4, e5, e6⟩ := h9
            simp only at e1 e2 e3 e4 e5 e6
            omega
          have Hhx := Lib.hid hx; clear hx
          go_wp2_with fail
          all_goals first | (exfalso; omega) | skip
          go_ret2
          exact ⟨⟨_, _, rfl, .inr (.inl ⟨Hhrb.out, Hhx.out, rfl, rfl⟩)⟩, HhbA.out⟩
        · by_cases c2 : (lo.length : Int) < r3
          · have hx := Hhbad.out fun h9 => by
              obtain ⟨e1, e2, e3, e4, e5, e6⟩ := h9
              simp only at e1 e2 e3 e4 e5 e6
              omega
            have Hhx := Lib.hid hx; clear hx
            go_wp2_with fail
            all_goals first | (exfalso; omega) | skip
            go_ret2
            exact ⟨⟨_, _, rfl, .inr (.inl ⟨Hhrb.out, Hhx.out, rfl, rfl⟩)⟩, HhbA.out⟩
          · by_cases c3 : r1 < 0
            · have hx := Hhbad.out fun h9 => by
                obtain ⟨e1, e2, e3, e4, e5, e6⟩ := h9
                simp only at e1 e2 e3 e4 e5 e6
                omega
              have Hhx := Lib.hid hx; clear hx
              go_wp2_with fail
              all_goals first | (exfalso; omega) | skip
              go_ret2
              exact ⟨⟨_, _, rfl, .inr (.inl ⟨Hhrb.out, Hhx.out, rfl, rfl⟩)⟩, HhbA.out⟩
            · by_cases c4 : r2 < 0
              · have hx := Hhbad.out fun h9 => by
                  obtain ⟨e1, e2, e3, e4, e5, e6⟩ := h9
                  simp only at e1 e2 e3 e4 e5 e6
                  omega
                have Hhx := Lib.hid hx; clear hx
                go_wp2_with fail
                all_goals first | (exfalso; omega) | skip
                go_ret2
                exact ⟨⟨_, _, rfl, .inr (.inl ⟨Hhrb.out, Hhx.out, rfl, rfl⟩)⟩, HhbA.out⟩
              · by_cases c5 : (lo.length : Int) ≤ r2
                · have hx := Hhbad.out fun h9 => by
                    obtain ⟨e1, e2, e3, e4, e5, e6⟩ := h9
                    simp only at e1 e2 e3 e4 e5 e6
                    omega
                  have Hhx := Lib.hid hx; clear hx
                  go_wp2_with fail
                  all_goals first | (exfalso; omega) | skip
                  go_ret2
                  exact ⟨⟨_, _, rfl, .inr (.inl ⟨Hhrb.out, Hhx.out, rfl, rfl⟩)⟩, HhbA.out⟩
                · by_cases c6 : r2 - r1 < 2 * r3 - 1
                  · have hx := Hhbad.out fun h9 => by
                      obtain ⟨e1, e2, e3, e4, e5, e6⟩ := h9
                      simp only at e1 e2 e3 e4 e5 e6
                      omega
                    have Hhx := Lib.hid hx; clear hx
                    go_wp2_with fail
                    all_goals first | (exfalso; omega) | skip
                    go_ret2
                    exact ⟨⟨_, _, rfl, .inr (.inl ⟨Hhrb.out, Hhx.out, rfl, rfl⟩)⟩, HhbA.out⟩
                  · have hx := Hhnext.out ⟨by simp only; omega, by simp only; omega, by simp only; omega, by simp only; omega, by simp only; omega, by simp only; omega⟩
                    have Hhx := Lib.hid hx; clear hx
                    go_wp2_with fail
                    all_goals first | (exfalso; omega) | skip
                    exact ⟨⟨k + 1, by omega, by simp, Hhx.out, Hhb2.out⟩, by simp [intOf]; omega⟩
      · obtain rfl : k = R.length := by omega
        rw [List.take_length] at hall
        obtain ⟨w2, hw2⟩ : ∃ w2, w2 = wr := ⟨_, rfl⟩
        subst hw2
        have hbel2 := hb1.trans (hbel.mono hz1)
        have hl2 := Hhl1.out.below keeps_tri (hbel.mono (by omega))
        have hL2 := HhL1.out.below keeps_int (hbel.mono (by omega))
        have hnew := Mp.new (enc := enc1) (ok := I64) (ev := fun _ : Unit => Value.bool true) w2
        have hb3 := (Below.refl w2.heap.size w2).alloc (Nat.le_refl _) (.map #[] 0)
        have hmm := @run_makeMap Try.prog
        have hz2 : B ≤ w2.heap.size := by omega
        have Hhall := Lib.hid hall; clear hall; have Hhl2 := Lib.hid hl2; clear hl2; have HhL2 := Lib.hid hL2; clear hL2; have Hhnew := Lib.hid hnew; clear hnew; have Hhb3 := Lib.hid hb3; clear hb3
        go_wp2_with fail
        clear hmm
        go_loopw [8, 67] (fun ov iv wr => ∃ (k : Nat) (S : List (Int × Unit)), k ≤ R.length ∧ iv = .int .i64 (k : Int) ∧ wr.ownsRow (w2.heap.size + 1) 49 4 ov (exP lo ((R.take k).flatMap exR)).length (flat4 (exP lo ((R.take k).flatMap exR))) ∧ Mp enc1 I64 (fun _ : Unit => Value.bool true) wr w2.heap.size S ∧ (∀ x, (Words.look S x).isSome = true ↔ x ∈ flP ((R.take k).flatMap exR)) ∧ (flP ((R.take k).flatMap exR)).Nodup ∧ (exP lo ((R.take k).flatMap exR)).length ≤ 1000 * k ∧ Below w2.heap.size w2 wr ∧ w2.heap.size + 1 ≤ wr.heap.size) (fun _ iv _ => R.length - (intOf iv).toNat)
        case atStart => exact ⟨0, [], by omega, rfl, World.ownsRow_nil _ _ _ _, Hhnew.out, fun x => by simp [Words.look, flP], List.nodup_nil, Nat.zero_le _, Hhb3.out, by simp⟩
        case round =>
          obtain ⟨k, S, hk, rfl, hown, hmp, hS, hQ, hln, hbr, hzr⟩ := hrel
          obtain ⟨A5, cap5, rfl, hc5⟩ := own_form hown
          by_cases hkl : k < R.length
          · obtain ⟨b, o, rfl, hb, a1, a2, a3⟩ := (Hhl2.out.below keeps_tri (hbr.mono hz2)).tri_at hkl
            have hmem := List.getElem_mem hkl
            have hk' : R[k]? = some R[k] := List.getElem?_eq_getElem hkl
            have htk := List.take_succ_eq_append_getElem hkl
            obtain ⟨e1, e2, e3, e4, e5, e6⟩ := Hhall.out _ hmem
            obtain ⟨w3, hw3⟩ : ∃ w3, w3 = wr := ⟨_, rfl⟩
            subst hw3
            generalize R[k] = r at *
            obtain ⟨r1, r2, r3⟩ := r
            simp only [] at a1 a2 a3 e1 e2 e3 e4 e5 e6
            obtain ⟨rl, rfl⟩ : ∃ m : Nat, r3 = (m : Int) := ⟨r3.toNat, by omega⟩
            obtain ⟨ra, rfl⟩ : ∃ m : Nat, r1 = (m : Int) := ⟨r1.toNat, by omega⟩
            obtain ⟨rb, rfl⟩ : ∃ m : Nat, r2 = (m : Int) := ⟨r2.toNat, by omega⟩
            have hsp := fun (i : Nat) (hi : (i : Int) < (rl : Int)) => exR_split (i := i) hk' hi
            have hst := fun (i : Nat) (hi : (i : Int) < (rl : Int)) => exR_take (r := ((ra : Int), (rb : Int), (rl : Int))) (i := i) hi
            have hfull : (exR ((ra : Int), (rb : Int), (rl : Int))).take rl = exR ((ra : Int), (rb : Int), (rl : Int)) := List.take_of_length_le (by rw [exR_len]; simp)
            have hnx : (R.take (k + 1)).flatMap exR = (R.take k).flatMap exR ++ (exR ((ra : Int), (rb : Int), (rl : Int))).take rl := by
              rw [htk, List.flatMap_append, hfull]; simp
            generalize (R.take k).flatMap exR = Q0 at *
            generalize exR ((ra : Int), (rb : Int), (rl : Int)) = E at *
            have hbw : b < w3.heap.size := by omega
            have hkr := Bk.new w3 37 [.int .i64 (ra : Int), .int .i64 (rb : Int), .int .i64 (rl : Int)]
            have hbA := hbr.alloc (by omega) (.cells #[.int .i64 (ra : Int), .int .i64 (rb : Int), .int .i64 (rl : Int)] 37)
            have hmA := hmp.alloc (.cells #[.int .i64 (ra : Int), .int .i64 (rb : Int), .int .i64 (rl : Int)] 37)
            have hoA := hown.alloc (.cells #[.int .i64 (ra : Int), .int .i64 (rb : Int), .int .i64 (rl : Int)] 37)
            have y0 : Q0 ++ E.take 0 = Q0 := by simp
            have hS0 : ∀ x, (Words.look S x).isSome = true ↔ x ∈ flP (Q0 ++ E.take 0) := by rw [y0]; exact hS
            have hQ0 : (flP (Q0 ++ E.take 0)).Nodup := by rw [y0]; exact hQ
            have hln0 : (exP lo (Q0 ++ E.take 0)).length ≤ 1000 * k + 0 := by rw [y0]; exact hln
            have HhS0 := Lib.hid hS0; clear hS0; have HhQ0 := Lib.hid hQ0; clear hQ0; have Hhown := Lib.hid hown; clear hown; have Hhmp := Lib.hid hmp; clear hmp; have HhS := Lib.hid hS; clear hS; have HhQ := Lib.hid hQ; clear hQ; have Hhln := Lib.hid hln; clear hln; have Hhmem := Lib.hid hmem; clear hmem; have Hhk' := Lib.hid hk'; clear hk'; have Hhtk := Lib.hid htk; clear htk; have Hhsp := Lib.hid hsp; clear hsp; have Hhst := Lib.hid hst; clear hst; have Hhfull := Lib.hid hfull; clear hfull; have Hhnx := Lib.hid hnx; clear hnx; have Hhkr := Lib.hid hkr; clear hkr; have HhbA := Lib.hid hbA; clear hbA; have HhmA := Lib.hid hmA; clear hmA; have HhoA := Lib.hid hoA; clear hoA; have Hy0 := Lib.hid y0; clear y0; have Hhln0 := Lib.hid hln0; clear hln0
            go_wp2_with fail
            go_loopw [8, 73] (fun ov iv wr => ∃ (i : Nat) (S : List (Int × Unit)), i ≤ rl ∧ iv = .int .i64 (i : Int) ∧ wr.ownsRow (w2.heap.size + 1) 49 4 ov (exP lo (Q0 ++ E.take i)).length (flat4 (exP lo (Q0 ++ E.take i))) ∧ Mp enc1 I64 (fun _ : Unit => Value.bool true) wr w2.heap.size S ∧ (∀ x, (Words.look S x).isSome = true ↔ x ∈ flP (Q0 ++ E.take i)) ∧ (flP (Q0 ++ E.take i)).Nodup ∧ (exP lo (Q0 ++ E.take i)).length ≤ 1000 * k + i ∧ Bk wr w3.heap.size 37 [.int .i64 (ra : Int), .int .i64 (rb : Int), .int .i64 (rl : Int)] ∧ Below w2.heap.size w2 wr ∧ w3.heap.size + 1 ≤ wr.heap.size) (fun _ iv _ => rl - (intOf iv).toNat)
            case atStart => exact ⟨0, S, by omega, rfl, by rw [Hy0.out]; exact HhoA.out, HhmA.out, HhS0.out, HhQ0.out, Hhln0.out, Hhkr.out, HhbA.out, by simp⟩
            case round =>
              obtain ⟨i, S2, hi, rfl, hown2, hmp2, hS2, hQ2, hln2, hkr2, hbr2, hzr2⟩ := hrel
              obtain ⟨A6, cap6, rfl, hc6⟩ := own_form hown2
              by_cases hil : i < rl
              · obtain ⟨rest, hsp⟩ := Hhsp.out i (by omega)
                have hst := Hhst.out i (by show (i : Int) < (rl : Int); omega)
                obtain ⟨av, hav⟩ : ∃ av : Nat, (ra : Int) + (i : Int) = av := ⟨ra + i, rfl⟩
                obtain ⟨bv, hbv⟩ : ∃ bv : Nat, (rb : Int) - (i : Int) = bv := ⟨rb - i, by omega⟩
                change E.take (i + 1) = E.take i ++ [((ra : Int) + (i : Int), (rb : Int) - (i : Int))] at hst
                change _ = (Q0 ++ E.take i) ++ ((ra : Int) + (i : Int), (rb : Int) - (i : Int)) :: rest at hsp
                rw [hav, hbv] at hsp hst
                have hq9 : Q0 ++ E.take (i + 1) = (Q0 ++ E.take i) ++ [((av : Int), (bv : Int))] := by rw [hst, List.append_assoc]
                obtain ⟨Q, hQQ⟩ : ∃ Q, Q0 ++ E.take i = Q := ⟨_, rfl⟩
                rw [hQQ] at hown2 hS2 hQ2 hln2 hq9 hsp hc6
                have hal : av < lo.length := by omega
                have hbl : bv < lo.length := by omega
                have hab : av ≠ bv := by omega
                have htw : ((av : Int) ∈ flP Q ∨ (bv : Int) ∈ flP Q) → ¬ (flP (R.flatMap exR)).Nodup := fun h9 => by
                  rw [hsp]; exact flP_twice h9
                rw [← hS2, ← hS2] at htw
                have hbz := hbr2.drew
                have hmz := hmp2.drew
                have k0 : wr.cell? ⟨w3.heap.size, 0, none⟩ = some (.int .i64 (ra : Int)) := hkr2.cell 0
                have k1 : wr.cell? ⟨w3.heap.size, 1, none⟩ = some (.int .i64 (rb : Int)) := hkr2.cell 1
                have k2 : wr.cell? ⟨w3.heap.size, 2, none⟩ = some (.int .i64 (rl : Int)) := hkr2.cell 2
                have hfin := hbel2.trans (hbz.mono hbel2.size)
                rw [hQQ]
                cases hla : Words.look S2 (av : Int) with
                | some u =>
                  have hx := htw (.inl (by rw [hla]; rfl))
                  have hra : (Instr.lookup 59 (.map (some w2.heap.size)) (.int .i64 (av : Int)) false).run Try.prog wr.drew = .ok (.bool true) wr.drew := by
                    have h9 := hmz.look_run keyI Try.underlying59 (zero_bool wr.drew) (x := (av : Int)) (I64.nat (by omega)) false
                    rw [hla] at h9
                    exact h9
                  have Hhown2 := Lib.hid hown2; clear hown2; have Hhmp2 := Lib.hid hmp2; clear hmp2; have HhS2 := Lib.hid hS2; clear hS2; have HhQ2 := Lib.hid hQ2; clear hQ2; have Hhkr2 := Lib.hid hkr2; clear hkr2; have Hhsp := Lib.hid hsp; clear hsp; have Hhst := Lib.hid hst; clear hst; have Hhq9 := Lib.hid hq9; clear hq9; have Hhtw := Lib.hid htw; clear htw; have Hhbz := Lib.hid hbz; clear hbz; have Hhmz := Lib.hid hmz; clear hmz; have Hhla := Lib.hid hla; clear hla; have Hhx := Lib.hid hx; clear hx; have Hhfin := Lib.hid hfin; clear hfin; have HhQQ := Lib.hid hQQ; clear hQQ
                  go_wp2_with fail
                  refine Go.Canon.wp_region_text mixed (by kernel_rfl) ?_
                  go_wp2_with fail
                  refine Go.Canon.chk (by rfl) ?_
                  go_wp2_with fail
                  go_ret2
                  exact ⟨⟨_, _, rfl, .inr (.inr (.inl ⟨Hhrb.out, Hhall.out, Hhx.out, rfl, rfl⟩))⟩, Hhfin.out⟩
                | none =>
                  have hra : (Instr.lookup 59 (.map (some w2.heap.size)) (.int .i64 (av : Int)) false).run Try.prog wr.drew = .ok (.bool false) wr.drew := by
                    have h9 := hmz.look_run keyI Try.underlying59 (zero_bool wr.drew) (x := (av : Int)) (I64.nat (by omega)) false
                    rw [hla] at h9
                    exact h9
                  cases hlb : Words.look S2 (bv : Int) with
                  | some u =>
                    have hx := htw (.inr (by rw [hlb]; rfl))
                    have hrb : (Instr.lookup 59 (.map (some w2.heap.size)) (.int .i64 (bv : Int)) false).run Try.prog wr.drew = .ok (.bool true) wr.drew := by
                      have h9 := hmz.look_run keyI Try.underlying59 (zero_bool wr.drew) (x := (bv : Int)) (I64.nat (by omega)) false
                      rw [hlb] at h9
                      exact h9
                    have Hhown2 := Lib.hid hown2; clear hown2; have Hhmp2 := Lib.hid hmp2; clear hmp2; have HhS2 := Lib.hid hS2; clear hS2; have HhQ2 := Lib.hid hQ2; clear hQ2; have Hhkr2 := Lib.hid hkr2; clear hkr2; have Hhsp := Lib.hid hsp; clear hsp; have Hhst := Lib.hid hst; clear hst; have Hhq9 := Lib.hid hq9; clear hq9; have Hhtw := Lib.hid htw; clear htw; have Hhbz := Lib.hid hbz; clear hbz; have Hhmz := Lib.hid hmz; clear hmz; have Hhla := Lib.hid hla; clear hla; have Hhlb := Lib.hid hlb; clear hlb; have Hhx := Lib.hid hx; clear hx; have Hhfin := Lib.hid hfin; clear hfin; have HhQQ := Lib.hid hQQ; clear hQQ
                    go_wp2_with fail
                    refine Go.Canon.wp_region_text mixed (by kernel_rfl) ?_
                    go_wp2_with fail
                    refine Go.Canon.chk (by rfl) ?_
                    go_wp2_with fail
                    go_ret2
                    exact ⟨⟨_, _, rfl, .inr (.inr (.inl ⟨Hhrb.out, Hhall.out, Hhx.out, rfl, rfl⟩))⟩, Hhfin.out⟩
                  | none =>
                    have hrb : (Instr.lookup 59 (.map (some w2.heap.size)) (.int .i64 (bv : Int)) false).run Try.prog wr.drew = .ok (.bool false) wr.drew := by
                      have h9 := hmz.look_run keyI Try.underlying59 (zero_bool wr.drew) (x := (bv : Int)) (I64.nat (by omega)) false
                      rw [hlb] at h9
                      exact h9
                    have hna : (av : Int) ∉ flP Q := fun h9 => by
                      have := (hS2 (av : Int)).2 h9
                      rw [hla] at this
                      cases this
                    have hnb : (bv : Int) ∉ flP Q := fun h9 => by
                      have := (hS2 (bv : Int)).2 h9
                      rw [hlb] at this
                      cases this
                    have hQ3 : (flP (Q0 ++ E.take (i + 1))).Nodup := by
                      rw [hq9, flP_snoc]
                      refine List.nodup_append.2 ⟨hQ2, by simp; omega, fun x hx y hy => ?_⟩
                      rcases List.mem_cons.1 hy with rfl | hy
                      · exact fun h9 => hna ((show x = (av : Int) from h9) ▸ hx)
                      · rw [List.mem_singleton.1 hy]; exact fun h9 => hnb ((show x = (bv : Int) from h9) ▸ hx)
                    have hS3 : ∀ x, (Words.look (Words.put (Words.put S2 (av : Int) ()) (bv : Int) ()) x).isSome = true ↔ x ∈ flP (Q0 ++ E.take (i + 1)) := fun x => by
                      rw [hq9, flP_snoc, look_put, look_put]
                      simp only [List.mem_append, List.mem_cons, List.not_mem_nil, or_false]
                      by_cases h8 : (bv : Int) = x
                      · rw [if_pos h8]; exact ⟨fun _ => .inr (.inr h8.symm), fun _ => rfl⟩
                      · rw [if_neg h8]
                        by_cases h7 : (av : Int) = x
                        · rw [if_pos h7]; exact ⟨fun _ => .inr (.inl h7.symm), fun _ => rfl⟩
                        · rw [if_neg h7, hS2 x]
                          constructor
                          · exact .inl
                          · rintro (h | h | h)
                            · exact h
                            · exact absurd h.symm h7
                            · exact absurd h.symm h8
                    have hex : exP lo (Q0 ++ E.take (i + 1)) = exP lo Q ++ [(edgeL lo av, edgeL lo bv)] := by rw [hq9, exP_snoc]; rfl
                    have hneb : ∀ (n : Nat) (v : Value) xs, wr.ownsRow (w2.heap.size + 1) 49 4 v n xs → v.ownBlock = none ∨ v.ownBlock ≠ some w2.heap.size := fun n v xs h9 => .inr fun e => by have := (h9.lt _ e).1; omega
                    have hneb := hneb _ _ _ hown2
                    have hown3 := own_below hown2 (Below.refl _ wr).drew (Nat.le_refl _)
                    have hkr3 := hkr2.drew
                    have hml := hmp2.lt
                    obtain ⟨⟨ea1, ea2⟩, hea⟩ : ∃ e, edgeL lo av = e := ⟨_, rfl⟩
                    obtain ⟨⟨eb1, eb2⟩, heb⟩ : ∃ e, edgeL lo bv = e := ⟨_, rfl⟩
                    have hedA := fun wz (hz : Sl 1 RInt wz B (.slice A lo.length cap) lo) (hB : B ≤ wz.heap.size) => sedge_calls hz hB (by omega) av hal
                    have hedB := fun wz (hz : Sl 1 RInt wz B (.slice A lo.length cap) lo) (hB : B ≤ wz.heap.size) => sedge_calls hz hB (by omega) bv hbl
                    change ∀ wz, _ → _ → Calls _ _ _ wz (fun e w' => e = .returned (enc2 (edgeL lo av)) ∧ _) at hedA
                    change ∀ wz, _ → _ → Calls _ _ _ wz (fun e w' => e = .returned (enc2 (edgeL lo bv)) ∧ _) at hedB
                    rw [hea] at hedA
                    rw [heb] at hedB
                    rw [hea, heb] at hex
                    simp only [enc2] at hedA hedB
                    have Hhown2 := Lib.hid hown2; clear hown2; have Hhmp2 := Lib.hid hmp2; clear hmp2; have HhS2 := Lib.hid hS2; clear hS2; have HhQ2 := Lib.hid hQ2; clear hQ2; have Hhkr2 := Lib.hid hkr2; clear hkr2; have Hhsp := Lib.hid hsp; clear hsp; have Hhst := Lib.hid hst; clear hst; have Hhq9 := Lib.hid hq9; clear hq9; have Hhtw := Lib.hid htw; clear htw; have Hhbz := Lib.hid hbz; clear hbz; have Hhmz := Lib.hid hmz; clear hmz; have Hhla := Lib.hid hla; clear hla; have Hhlb := Lib.hid hlb; clear hlb; have Hhfin := Lib.hid hfin; clear hfin; have HhQQ := Lib.hid hQQ; clear hQQ; have Hhna := Lib.hid hna; clear hna; have Hhnb := Lib.hid hnb; clear hnb; have HhQ3 := Lib.hid hQ3; clear hQ3; have HhS3 := Lib.hid hS3; clear hS3; have Hhex := Lib.hid hex; clear hex; have Hhneb := Lib.hid hneb; clear hneb; have Hhown3 := Lib.hid hown3; clear hown3; have Hhkr3 := Lib.hid hkr3; clear hkr3; have HhedA := Lib.hid hedA; clear hedA; have HhedB := Lib.hid hedB; clear hedB; have Hhea := Lib.hid hea; clear hea; have Hheb := Lib.hid heb; clear heb
                    go_wp2_with fail
                    refine Go.Canon.wp_region_text mixed (by kernel_rfl) ?_
                    go_wp2_with fail
                    refine Go.Canon.chk (by rfl) ?_
                    go_wp2_with (first
                      | (at_mapUpdate; refine wpList_put _ rfl _ _ _ 59 rfl 3 4 keyI Try.underlying59 w2.heap.size S2 rfl Hhmz.out (av : Int) rfl (I64.nat (by omega)) () rfl ?_; intro w5 hmp5 hgr5 hsz5; have Hhmp5 := Lib.hid hmp5; clear hmp5; have Hhgr5 := Lib.hid hgr5; clear hgr5; clear hsz5)
                      | (at_mapUpdate; refine wpList_put _ rfl _ _ _ 59 rfl 3 4 keyI Try.underlying59 w2.heap.size (Words.put S2 (av : Int) ()) rfl Hhmp5.out (bv : Int) rfl (I64.nat (by omega)) () rfl ?_; intro w6 hmp6 hgr6 hsz6; have Hhmp6 := Lib.hid hmp6; clear hmp6; have Hhgr6 := Lib.hid hgr6; clear hgr6; clear hsz6))
                    have hb5 := Hhbz.out.grown Hhgr5.out Hhbz.out.size (fun q hq => by cases hq; exact Nat.le_refl _)
                    have hb6 := hb5.grown Hhgr6.out hb5.size (fun q hq => by cases hq; exact Nat.le_refl _)
                    have hz6 : wr.heap.size ≤ w6.heap.size := Nat.le_trans Hhgr5.out.size Hhgr6.out.size
                    have own6 := (Hhown3.out.kept Hhgr5.out Hhneb.out).kept Hhgr6.out Hhneb.out
                    have hne3 : some w3.heap.size ≠ some w2.heap.size := fun h9 => by injection h9 with h9; omega
                    have kr6 := (Hhkr3.out.grown Hhgr5.out hne3).grown Hhgr6.out hne3
                    have hedA6 := HhedA.out w6 (HhL2.out.below keeps_int (hb6.mono hz2)) (by omega)
                    refine hedA6.mono ?_
                    clear hedA6
                    rintro e w7 ⟨rfl, hb7⟩
                    have own7 := own_below own6 hb7 (Nat.le_refl _)
                    have kr7 := kr6.below hb7 kr6.lt
                    have mp7 := Hhmp6.out.below hb7 Hhmp6.out.lt
                    have hb8 := hb6.trans (hb7.mono hb6.size)
                    have hz7 := hb7.size
                    have hedB7 := HhedB.out w7 (HhL2.out.below keeps_int (hb8.mono hz2)) (by omega)
                    clear own6 kr6
                    have Hown7 := Lib.hid own7; clear own7; have Hkr7 := Lib.hid kr7; clear kr7; have Hmp7 := Lib.hid mp7; clear mp7; have HhedB7 := Lib.hid hedB7; clear hedB7
                    go_wp2_with fail
                    refine HhedB7.out.mono ?_
                    rintro e w8 ⟨rfl, hb9⟩
                    have own8 := own_below Hown7.out hb9 (Nat.le_refl _)
                    have kr8 := Hkr7.out.below hb9 Hkr7.out.lt
                    have mp8 := Hmp7.out.below hb9 Hmp7.out.lt
                    have hb10 := hb8.trans (hb9.mono hb8.size)
                    have hz8 := hb9.size
                    have hn3 : some w3.heap.size ≠ (Value.slice A6 (exP lo Q).length cap6).ownBlock := own_ne own8 kr8 (by decide)
                    have hn2 : some w2.heap.size ≠ (Value.slice A6 (exP lo Q).length cap6).ownBlock := fun e => by have := (own8.lt _ e.symm).1; omega
                    have hsz8 : w2.heap.size + 1 ≤ w8.heap.size := by omega
                    have Hown8 := Lib.hid own8; clear own8; have Hkr8 := Lib.hid kr8; clear kr8; have Hmp8 := Lib.hid mp8; clear mp8; have Hhn3 := Lib.hid hn3; clear hn3; have Hhn2 := Lib.hid hn2; clear hn2
                    go_wp2_with (at_builtin; refine append_block _ rfl (.tmp 96) (.tmp 104) 32 rfl (w2.heap.size + 1) infoPair Try.underlying32 rfl (by decide) _ (exP lo Q).length (flat4 (exP lo Q)) rfl (Hown8.out.alloc _) w8.heap.size [.int .i64 ea1, .int .i64 ea2, .int .i64 eb1, .int .i64 eb2] rfl (Bk.new _ _ _) rfl (by simp [Value.oneCell']) (by omega) (by decide) (by simp; omega) ?_; intro v1 w9 hown9 hb11 hgr9 _; have Hhown9 := Lib.hid hown9; clear hown9; have Hhgr9 := Lib.hid hgr9; clear hgr9)
                    have mp9 := (Hmp8.out.alloc (.cells #[.int .i64 ea1, .int .i64 ea2, .int .i64 eb1, .int .i64 eb2] 49)).grown Hhgr9.out Hhn2.out
                    have kr9 := (Hkr8.out.alloc (.cells #[.int .i64 ea1, .int .i64 ea2, .int .i64 eb1, .int .i64 eb2] 49)).grown Hhgr9.out Hhn3.out
                    have hb12 := (hb10.alloc (by omega) (.cells #[.int .i64 ea1, .int .i64 ea2, .int .i64 eb1, .int .i64 eb2] 49)).trans (hb11.mono (by omega))
                    have hz9 := hb11.size
                    simp only [World.size_alloc] at hz9
                    refine ⟨⟨i + 1, _, by omega, by simp, by rw [Hhex.out, flat4_snoc, List.length_append]; exact Hhown9.out, mp9, HhS3.out, HhQ3.out, by rw [Hhex.out, List.length_append]; simp; omega, kr9, hb12, by omega⟩, by simp [intOf]; omega⟩
              · obtain rfl : i = rl := by omega
                have hlf : (exP lo ((R.take (k + 1)).flatMap exR)).length ≤ 1000 * (k + 1) := by rw [Hhnx.out]; omega
                have Hhown2 := Lib.hid hown2; clear hown2; have Hhmp2 := Lib.hid hmp2; clear hmp2; have HhS2 := Lib.hid hS2; clear hS2; have HhQ2 := Lib.hid hQ2; clear hQ2; have Hhkr2 := Lib.hid hkr2; clear hkr2; have Hhlf := Lib.hid hlf; clear hlf
                go_wp2_with fail
                exact ⟨⟨k + 1, S2, by omega, by simp, by rw [Hhnx.out]; exact Hhown2.out, Hhmp2.out, by rw [Hhnx.out]; exact HhS2.out, by rw [Hhnx.out]; exact HhQ2.out, Hhlf.out, hbr2, by omega⟩, by simp [intOf]; omega⟩
          · obtain rfl : k = R.length := by omega
            simp only [List.take_length] at hown hQ ⊢
            have hbf := hbel2.trans (hbr.mono hbel2.size)
            have hown2 := own_base hown (base' := w.heap.size) (by have := hbel2.size; omega)
            have Hhown := Lib.hid hown; clear hown; have Hhmp := Lib.hid hmp; clear hmp; have HhS := Lib.hid hS; clear hS; have HhQ := Lib.hid hQ; clear hQ; have Hhown2 := Lib.hid hown2; clear hown2
            go_wp2_with fail
            go_ret2
            exact ⟨⟨_, _, rfl, .inr (.inr (.inr ⟨Hhrb.out, Hhall.out, HhQ.out, rfl, Hhown2.out⟩))⟩, hbf⟩
end Go.Proofs.Ytpbdcppaiafbgaa
