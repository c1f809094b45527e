/- Walk: sew.Runs. -/
import Derived.Test.YtdljcemnbbamcaaFH
import Derived.Test.YtdljcemnbbamcaaGB
import Derived.Test.YtdljcemnbbamcaaBY
namespace Go.Words
open Go Go.RowKit Go.Mesh
theorem flat3_last (D : List T3) (a b x y : Int) : flat3 (D ++ [(a, b, y)]) = (flat3 (D ++ [(a, b, x)])).set (D.length * 3 + 2) (.int .i64 y) := by
  induction D with
  | nil => rfl
  | cons d D ih =>
    have e : ∀ z, flat3 ((d :: D) ++ [(a, b, z)]) = .int .i64 d.1 :: .int .i64 d.2.1 :: .int .i64 d.2.2 :: flat3 (D ++ [(a, b, z)]) := fun z => rfl
    rw [e, e, ih, List.length_cons, show (D.length + 1) * 3 + 2 = (D.length * 3 + 2) + 1 + 1 + 1 by omega]
    rfl
theorem flat3_end (D : List T3) (a b x : Int) : (flat3 (D ++ [(a, b, x)]))[D.length * 3 + 2]? = some (.int .i64 x) := by
  induction D with
  | nil => rfl
  | cons d D ih =>
    have e : flat3 ((d :: D) ++ [(a, b, x)]) = .int .i64 d.1 :: .int .i64 d.2.1 :: .int .i64 d.2.2 :: flat3 (D ++ [(a, b, x)]) := rfl
    rw [e, List.length_cons, show (D.length + 1) * 3 + 2 = (D.length * 3 + 2) + 1 + 1 + 1 by omega]
    exact ih
/-- A pair more in the map from the lesser place to the greater. -/
theorem toP_next {lo : List Int} {l : List P4} {j : Nat} {p : P4} (hp : l[j]? = some p) (hP : (l.map (plP lo)).Pairwise Apart) (mt : List (Int × Int)) (h : ∀ a, look mt a = (toP ((l.take j).map (plP lo)) a).map fun p => max p.1 p.2) :
    ∀ a, look (put mt (min (plP lo p).1 (plP lo p).2) (max (plP lo p).1 (plP lo p).2)) a = (toP ((l.take (j + 1)).map (plP lo)) a).map fun p => max p.1 p.2 := fun a => by
  obtain ⟨hj, rfl⟩ := List.getElem?_eq_some_iff.1 hp
  have e : (l.take (j + 1)).map (plP lo) = (l.take j).map (plP lo) ++ [plP lo l[j]] := by rw [List.take_succ_eq_append_getElem hj, List.map_append]; rfl
  have hsub : ((l.take (j + 1)).map (plP lo)).Pairwise Apart := hP.sublist ((List.take_sublist _ _).map _)
  rw [e] at hsub
  obtain ⟨_, _, h3⟩ := List.pairwise_append.1 hsub
  rw [look_put, e]
  unfold toP
  rw [List.find?_append]
  by_cases h9 : min (plP lo l[j]).1 (plP lo l[j]).2 = a
  · rw [if_pos h9]
    have hno : ((l.take j).map (plP lo)).find? (fun p => decide (min p.1 p.2 = a)) = none := List.find?_eq_none.2 fun q hq h8 => by
      obtain ⟨g1, g2, g3, g4⟩ := h3 q hq (plP lo l[j]) (by simp)
      simp only [decide_eq_true_eq] at h8
      omega
    rw [hno, List.find?_cons]
    simp [h9]
  · rw [if_neg h9, h a]
    unfold toP
    rw [List.find?_cons]
    have h8 : decide (min (plP lo l[j]).1 (plP lo l[j]).2 = a) = false := decide_eq_false h9
    rw [h8]
    simp
end Go.Words
namespace Go.Proofs.Ytdljcemnbbamcaa
open Go Go.RowKit Go.Words Go.Mesh

theorem infoRun : (Try.prog.info? 52).map (fun i => (i.zero, i.size, i.bytes)) = some (some (.agg #[.int .i64 0, .int .i64 0, .int .i64 0]), 3, 24) := by kernel_rfl
/-- What sew.Runs hands back. -/
def RunsEnd (w w' : World) (lo : List Int) (l : List P4) (v : Value) (c : Int) : Prop :=
  (rightB lo = false ∧ c = 1 ∧ v = .slice none 0 0) ∨
  (rightB lo = true ∧ c = placedN (hasL lo) l ∧ c ≠ 0 ∧ v = .slice none 0 0) ∨
  (rightB lo = true ∧ placedN (hasL lo) l = 0 ∧ c = 0 ∧ w'.ownsRow w.heap.size 52 3 v (runsL (sortP (l.map (plP lo)) lo.length)).length (flat3 (runsL (sortP (l.map (plP lo)) lo.length))))
set_option maxRecDepth 40000 in
set_option maxHeartbeats 8000000 in
theorem runs_calls {w : World} {B : Nat} {sv lv : Value} {lo : List Int} {l : List P4} (hL : Sl 1 RInt w B sv lo) (hl : Sl 4 R4 w B lv l) (hB0 : B ≤ w.heap.size) (hlo : lo.length ≤ 1000) (hll : l.length ≤ 1000) (hok : ∀ e ∈ edgs l, ok2 e) (hokL : ∀ x ∈ lo, I64 x) :
    Calls Try.prog 13 #[sv, lv] w fun e w' => (∃ (v : Value) (c : Int), e = .returned (.tuple #[v, .int .i64 c]) ∧ RunsEnd w w' lo l v c) ∧ Below w.heap.size w w' := by
  have hri := right_calls hL hB0 (by omega)
  obtain ⟨A, cap, rfl, hcap⟩ := hL.form
  obtain ⟨A2, cap2, rfl, hcap2⟩ := hl.form
  have hmm := @run_makeMap Try.prog
  have HhL := Lib.hid hL; clear hL; have Hhl := Lib.hid hl; clear hl; have Hhri := Lib.hid hri; clear hri; have Hhok := Lib.hid hok; clear hok; have HhokL := Lib.hid hokL; clear hokL
  go_enter Try.func13, Try.ntmps13
  go_wp2_with fail
  refine Hhri.out.mono ?_
  rintro e w1 ⟨rfl, hb1⟩
  have hz1 := hb1.size
  cases hrb : rightB lo with
  | false =>
    have Hhrb := Lib.hid hrb; clear hrb
    go_wp2_with fail
    go_ret2
    exact ⟨⟨_, _, rfl, .inl ⟨Hhrb.out, rfl, rfl⟩⟩, hb1⟩
  | true =>
    have hnd : lo.Nodup := (of_decide_eq_true hrb).2
    have hn3 : 3 ≤ lo.length := (of_decide_eq_true hrb).1
    have hL1 := HhL.out.below keeps_int (hb1.mono hB0)
    have hl1 := Hhl.out.below keeps_4 (hb1.mono hB0)
    have hmp0 := Mp.new (enc := enc2) (ok := ok2) (ev := enc1) w1
    have hb2 := (Below.refl w1.heap.size w1).alloc (Nat.le_refl _) (.map #[] 0)
    have hokE : ∀ k, k < lo.length → ok2 (edgeL lo k) := fun k hk => by
      have h9 : ∀ i, i < lo.length → I64 (lo.getD i 0) := fun i hi => by
        rw [List.getD_eq_getElem?_getD, List.getElem?_eq_getElem hi]
        exact HhokL.out _ (List.getElem_mem hi)
      exact ⟨h9 _ (Nat.mod_lt _ (by omega)), h9 _ hk⟩
    have Hhrb := Lib.hid hrb; clear hrb; have Hhnd := Lib.hid hnd; clear hnd; have HhL1 := Lib.hid hL1; clear hL1; have Hhl1 := Lib.hid hl1; clear hl1; have Hhmp0 := Lib.hid hmp0; clear hmp0; have Hhb2 := Lib.hid hb2; clear hb2; have HhokE := Lib.hid hokE; clear hokE
    go_wp2_with fail
    go_loopw [27] (fun i wr => ∃ (k : Nat) (m : List ((Int × Int) × Int)), k ≤ lo.length ∧ i = .int .i64 k ∧ Mp enc2 ok2 enc1 wr w1.heap.size m ∧ (∀ i, i < k → Words.look m (edgeL lo i) = some (i : Int)) ∧ (∀ e, (Words.look m e).isSome = true ↔ ∃ i, i < k ∧ edgeL lo i = e) ∧ Below w1.heap.size w1 wr) (fun i _ => lo.length - (intOf i).toNat)
    case atStart => exact ⟨0, [], by omega, rfl, Hhmp0.out, fun i hi => by omega, fun e => by simp [Words.look], Hhb2.out⟩
    case round =>
      obtain ⟨k, m, hk, rfl, hmr, hma, hmk, hbel⟩ := hrel
      have hz := hbel.size
      have hml := hmr.lt
      by_cases hkl : k < lo.length
      · have hed := sedge_calls (HhL1.out.below keeps_int (hbel.mono (by omega))) (by omega) (by omega) k hkl
        change Calls _ _ _ _ (fun e w' => e = .returned (enc2 (edgeL lo k)) ∧ _) at hed
        have hr := HhokE.out k hkl
        have hinj := fun i hi => edgeL_inj (i := k) (j := i) Hhnd.out hkl hi
        have hst1 : ∀ i, i < k + 1 → Words.look (Words.put m (edgeL lo k) (k : Int)) (edgeL lo i) = some (i : Int) := fun i hi => by
          rw [look_put]
          by_cases h9 : edgeL lo k = edgeL lo i
          · rw [if_pos h9, hinj i (by omega) h9]
          · rw [if_neg h9]
            refine hma i ?_
            by_cases h8 : i = k
            · subst h8; exact absurd rfl h9
            · omega
        have hst2 : ∀ e, (Words.look (Words.put m (edgeL lo k) (k : Int)) e).isSome = true ↔ ∃ i, i < k + 1 ∧ edgeL lo i = e := fun e => by
          rw [look_put]
          by_cases h9 : edgeL lo k = e
          · rw [if_pos h9]
            exact ⟨fun _ => ⟨k, by omega, h9⟩, fun _ => rfl⟩
          · rw [if_neg h9, hmk e]
            constructor
            · rintro ⟨i, h1, h2⟩; exact ⟨i, by omega, h2⟩
            · rintro ⟨i, h1, h2⟩
              refine ⟨i, ?_, h2⟩
              by_cases h8 : i = k
              · subst h8; exact absurd h2 h9
              · omega
        generalize hee : edgeL lo k = ed at *
        obtain ⟨x1, x2⟩ := ed
        simp only [enc2] at hed
        have Hhmr := Lib.hid hmr; clear hmr; have Hhma := Lib.hid hma; clear hma; have Hhmk := Lib.hid hmk; clear hmk; have Hhed := Lib.hid hed; clear hed; have Hhr := Lib.hid hr; clear hr; have Hhinj := Lib.hid hinj; clear hinj; have Hhst1 := Lib.hid hst1; clear hst1; have Hhst2 := Lib.hid hst2; clear hst2; have Hhee := Lib.hid hee; clear hee
        go_wp2_with fail
        refine Hhed.out.mono ?_
        rintro e w2 ⟨rfl, hb3⟩
        have hm2 := Hhmr.out.below hb3 hml
        have hbel2 := hbel.trans (hb3.mono hz)
        have Hhm2 := Lib.hid hm2; clear hm2
        go_wp2_with (at_mapUpdate; refine wpList_put _ rfl _ _ _ 68 rfl 47 3 keyE Try.underlying68 w1.heap.size m rfl Hhm2.out (x1, x2) rfl Hhr.out (k : Int) rfl ?_; intro w5 hmp2 hgr2 hsz2; have Hhmp2 := Lib.hid hmp2; clear hmp2; have Hhgr2 := Lib.hid hgr2; clear hgr2; clear hsz2)
        exact ⟨⟨k + 1, _, by omega, by simp, Hhmp2.out, Hhst1.out, Hhst2.out, hbel2.grown Hhgr2.out hbel2.size (fun q hq => by cases hq; exact Nat.le_refl _)⟩, by simp [intOf]; omega⟩
      · obtain rfl : k = lo.length := by omega
        obtain ⟨w2, hw2⟩ : ∃ w2, w2 = wr := ⟨_, rfl⟩
        subst hw2
        have hpl := placed_calls m hmr (Hhl1.out.below keeps_4 (hbel.mono (by omega))) (by omega) (by omega) Hhok.out
        have hfe : (fun e => (Words.look m e).isSome) = hasL lo := funext fun e => by
          rw [Bool.eq_iff_iff, hmk e, hasL_iff]
        rw [hfe] at hpl
        have hbel2 := hb1.trans (hbel.mono hz1)
        obtain ⟨c, hc⟩ : ∃ c, placedN (hasL lo) l = c := ⟨_, rfl⟩
        rw [hc] at hpl
        have Hhmr := Lib.hid hmr; clear hmr; have Hhma := Lib.hid hma; clear hma; have Hhmk := Lib.hid hmk; clear hmk; have Hhpl := Lib.hid hpl; clear hpl; have Hhfe := Lib.hid hfe; clear hfe; have Hhc := Lib.hid hc; clear hc
        go_wp2_with fail
        refine Hhpl.out.mono ?_
        rintro e w3 ⟨rfl, hb4⟩
        have hz3 := hb4.size
        have hbel3 := hbel2.trans (hb4.mono hbel2.size)
        by_cases hc0 : c = 0
        · subst hc0
          have hpz := Hhc.out
          have hpa := placed_all hpz
          obtain ⟨hap, hrg⟩ := places_of hpz
          have hm3 := Hhmr.out.below hb4 hml
          have hl3 := (Hhl1.out.below keeps_4 (hbel.mono (by omega))).below keeps_4 (hb4.mono (by omega))
          have hml3 := hm3.lt
          have hnewt := Mp.new (enc := enc1) (ok := I64) (ev := enc1) w3
          have hb5 := (Below.refl w3.heap.size w3).alloc (Nat.le_refl _) (.map #[] 0)
          obtain ⟨gm, hgm⟩ : ∃ gm, gm = w1.heap.size := ⟨_, rfl⟩
          rw [← hgm] at hm3 hml3
          have hmm := @run_makeMap Try.prog
          have Hhpz := Lib.hid hpz; clear hpz; have Hhpa := Lib.hid hpa; clear hpa; have Hhap := Lib.hid hap; clear hap; have Hhrg := Lib.hid hrg; clear hrg; have Hhm3 := Lib.hid hm3; clear hm3; have Hhl3 := Lib.hid hl3; clear hl3; have Hhnewt := Lib.hid hnewt; clear hnewt; have Hhb5 := Lib.hid hb5; clear hb5
          go_wp2_with fail
          rw [← hgm]
          clear hmm hgm
          go_loopw [45] (fun i wr => ∃ (j : Nat) (mt : List (Int × Int)), j ≤ l.length ∧ i = .int .i64 (j : Int) ∧ Mp enc1 I64 enc1 wr w3.heap.size mt ∧ (∀ a, Words.look mt a = (toP ((l.take j).map (plP lo)) a).map fun p => max p.1 p.2) ∧ Below w3.heap.size w3 wr) (fun i _ => l.length - (intOf i).toNat)
          case atStart => exact ⟨0, [], by omega, rfl, Hhnewt.out, fun a => rfl, Hhb5.out⟩
          case round =>
            obtain ⟨j, mt, hj, rfl, hmt, hmv, hbr⟩ := hrel
            have hzr := hbr.size
            have hmtl := hmt.lt
            by_cases hjl : j < l.length
            · obtain ⟨p, hp⟩ : ∃ p, l[j]? = some p := ⟨_, List.getElem?_eq_getElem hjl⟩
              obtain ⟨b, o, rfl, hb, a1, a2, a3, a4⟩ := (Hhl3.out.below keeps_4 (hbr.mono (by omega))).p4_at hp
              have hmem := List.mem_of_getElem? hp
              obtain ⟨g1, g2⟩ := Hhpa.out p hmem
              obtain ⟨i1, i1l, i1e, i1p⟩ := plI_has g1
              obtain ⟨i2, i2l, i2e, i2p⟩ := plI_has g2
              have hlk1 : Words.look m p.1 = some (i1 : Int) := by rw [← i1e]; exact Hhma.out i1 i1l
              have hlk2 : Words.look m p.2 = some (i2 : Int) := by rw [← i2e]; exact Hhma.out i2 i2l
              have hok1 : ok2 p.1 := Hhok.out _ (List.mem_flatMap.2 ⟨p, hmem, by simp⟩)
              have hok2 : ok2 p.2 := Hhok.out _ (List.mem_flatMap.2 ⟨p, hmem, by simp⟩)
              have hne : i1 ≠ i2 := fun h9 => (Hhrg.out (plP lo p) (List.mem_map_of_mem hmem)).1 (by show plI lo p.1 = plI lo p.2; rw [i1p, i2p, h9])
              have hnext := toP_next hp Hhap.out mt hmv
              rw [show (plP lo p).1 = (i1 : Int) from i1p, show (plP lo p).2 = (i2 : Int) from i2p] at hnext
              have hbw : b < wr.heap.size := by omega
              obtain ⟨⟨x1, x2⟩, x3, x4⟩ := p
              simp only [] at a1 a2 a3 a4 hlk1 hlk2 hok1 hok2
              have hkp := Bk.new wr 49 [.int .i64 x1, .int .i64 x2, .int .i64 x3, .int .i64 x4]
              have z0 : (wr.alloc (.cells #[.int .i64 x1, .int .i64 x2, .int .i64 x3, .int .i64 x4] 49)).cell? ⟨wr.heap.size, 0, none⟩ = some (.int .i64 x1) := hkp.cell 0
              have z1 : (wr.alloc (.cells #[.int .i64 x1, .int .i64 x2, .int .i64 x3, .int .i64 x4] 49)).cell? ⟨wr.heap.size, 1, none⟩ = some (.int .i64 x2) := hkp.cell 1
              have z2 : (wr.alloc (.cells #[.int .i64 x1, .int .i64 x2, .int .i64 x3, .int .i64 x4] 49)).cell? ⟨wr.heap.size, 2, none⟩ = some (.int .i64 x3) := hkp.cell 2
              have z3 : (wr.alloc (.cells #[.int .i64 x1, .int .i64 x2, .int .i64 x3, .int .i64 x4] 49)).cell? ⟨wr.heap.size, 3, none⟩ = some (.int .i64 x4) := hkp.cell 3
              have hmz := ((Hhm3.out.below hbr hml3).alloc (.cells #[.int .i64 x1, .int .i64 x2, .int .i64 x3, .int .i64 x4] 49)).drew
              have htz := (hmt.alloc (.cells #[.int .i64 x1, .int .i64 x2, .int .i64 x3, .int .i64 x4] 49)).drew
              have hbz := (hbr.alloc hzr (.cells #[.int .i64 x1, .int .i64 x2, .int .i64 x3, .int .i64 x4] 49)).drew
              have Hhmt := Lib.hid hmt; clear hmt; have Hhmv := Lib.hid hmv; clear hmv; have Hhkp := Lib.hid hkp; clear hkp; have Hhmz := Lib.hid hmz; clear hmz; have Hhtz := Lib.hid htz; clear htz; have Hhbz := Lib.hid hbz; clear hbz; have Hhlk1 := Lib.hid hlk1; clear hlk1; have Hhlk2 := Lib.hid hlk2; clear hlk2; have Hhok1 := Lib.hid hok1; clear hok1; have Hhok2 := Lib.hid hok2; clear hok2; have Hhne := Lib.hid hne; clear hne; have Hhnext := Lib.hid hnext; clear hnext; have Hi1e := Lib.hid i1e; clear i1e; have Hi2e := Lib.hid i2e; clear i2e; have Hi1p := Lib.hid i1p; clear i1p; have Hi2p := Lib.hid i2p; clear i2p; have Hg1 := Lib.hid g1; clear g1; have Hg2 := Lib.hid g2; clear g2; have Hhmem := Lib.hid hmem; clear hmem; have Hhp := Lib.hid hp; clear hp
              go_wp2_with fail
              refine Go.Canon.wp_region_tree [2, 6] (fun b => b = wr.heap.size) (.seg [0,1,2,4,5,6] (.alt 3 (.seg [8] (.alt 7 (.seg [9] .fin) .no)) (.alt 7 (.alt 3 (.seg [8,9] .fin) .no) .no))) mixed (by kernel_rfl) ?_
              refine Go.Canon.tr_seg ?_
              simp only [List.map_cons, List.map_nil, List.getD_cons_zero, List.getD_cons_succ]
              go_wp2_with fail
              refine Go.Canon.tr_to (Go.Canon.tr_alt ?_ (Go.Canon.tr_alt ?_ Go.Canon.tr_no))
              · simp only [List.getD_cons_zero, List.getD_cons_succ]
                go_wp2_with (at_lookup; refine wpList_look _ rfl _ _ 68 rfl 47 3 keyE Try.underlying68 zero_int gm m rfl Hhmz.out (x1, x2) rfl Hhok1.out ?_; rw [Hhlk1.out, show (((some (i1 : Int) : Option Int).map enc1).getD (.int .i64 0)) = .int .i64 (i1 : Int) from rfl])
                refine Go.Canon.tr_end (fun b hb => rfl) (Go.Canon.tr_seg ?_)
                simp only [List.map_cons, List.map_nil, List.getD_cons_zero, List.getD_cons_succ]
                go_wp2_with fail
                refine Go.Canon.tr_to (Go.Canon.tr_one ?_)
                simp only [List.getD_cons_zero, List.getD_cons_succ]
                go_wp2_with (at_lookup; refine wpList_look _ rfl _ _ 68 rfl 47 3 keyE Try.underlying68 zero_int gm m rfl Hhmz.out (x3, x4) rfl Hhok2.out ?_; rw [Hhlk2.out, show (((some (i2 : Int) : Option Int).map enc1).getD (.int .i64 0)) = .int .i64 (i2 : Int) from rfl])
                refine Go.Canon.tr_end (fun b hb => rfl) (Go.Canon.tr_seg ?_)
                simp only [List.map_cons, List.map_nil, List.getD_cons_zero, List.getD_cons_succ]
                go_wp2_with fail
                refine Go.Canon.tr_to (Go.Canon.tr_fin (by rfl) (List.forall_mem_cons.2 ⟨.inl ⟨_, rfl, rfl, by rw [World.cell?_drew, z0]; rfl⟩, List.forall_mem_cons.2 ⟨.inl ⟨_, rfl, rfl, by rw [World.cell?_drew, z2]; rfl⟩, fun _ h => by cases h⟩⟩) ?_)
                go_wp2_with (at_mapUpdate; refine wpList_put _ rfl _ _ _ 76 rfl 3 3 keyI Try.underlying76 w3.heap.size mt rfl Hhtz.out (min (i1 : Int) (i2 : Int)) rfl (by unfold I64; omega) (max (i1 : Int) (i2 : Int)) rfl ?_; intro w5 hmp2 hgr2 hsz2; have Hhmp2 := Lib.hid hmp2; clear hmp2; have Hhgr2 := Lib.hid hgr2; clear hgr2; clear hsz2)
                exact ⟨⟨j + 1, _, by omega, by simp, Hhmp2.out, Hhnext.out, Hhbz.out.grown Hhgr2.out (by have := Hhbz.out.size; omega) (fun q hq => by cases hq; exact Nat.le_refl _)⟩, by simp [intOf]; omega⟩
              · simp only [List.getD_cons_zero, List.getD_cons_succ]
                go_wp2_with (at_lookup; refine wpList_look _ rfl _ _ 68 rfl 47 3 keyE Try.underlying68 zero_int gm m rfl Hhmz.out (x3, x4) rfl Hhok2.out ?_; rw [Hhlk2.out, show (((some (i2 : Int) : Option Int).map enc1).getD (.int .i64 0)) = .int .i64 (i2 : Int) from rfl])
                refine Go.Canon.tr_end (fun b hb => rfl) (Go.Canon.tr_one ?_)
                simp only [List.getD_cons_zero, List.getD_cons_succ]
                go_wp2_with (at_lookup; refine wpList_look _ rfl _ _ 68 rfl 47 3 keyE Try.underlying68 zero_int gm m rfl Hhmz.out (x1, x2) rfl Hhok1.out ?_; rw [Hhlk1.out, show (((some (i1 : Int) : Option Int).map enc1).getD (.int .i64 0)) = .int .i64 (i1 : Int) from rfl])
                refine Go.Canon.tr_end (fun b hb => rfl) (Go.Canon.tr_seg ?_)
                simp only [List.map_cons, List.map_nil, List.getD_cons_zero, List.getD_cons_succ]
                go_wp2_with fail
                refine Go.Canon.tr_to (Go.Canon.tr_fin (by rfl) (List.forall_mem_cons.2 ⟨.inl ⟨_, rfl, rfl, by rw [World.cell?_drew, z0]; rfl⟩, List.forall_mem_cons.2 ⟨.inl ⟨_, rfl, rfl, by rw [World.cell?_drew, z2]; rfl⟩, fun _ h => by cases h⟩⟩) ?_)
                go_wp2_with (at_mapUpdate; refine wpList_put _ rfl _ _ _ 76 rfl 3 3 keyI Try.underlying76 w3.heap.size mt rfl Hhtz.out (min (i1 : Int) (i2 : Int)) rfl (by unfold I64; omega) (max (i1 : Int) (i2 : Int)) rfl ?_; intro w5 hmp2 hgr2 hsz2; have Hhmp2 := Lib.hid hmp2; clear hmp2; have Hhgr2 := Lib.hid hgr2; clear hgr2; clear hsz2)
                exact ⟨⟨j + 1, _, by omega, by simp, Hhmp2.out, Hhnext.out, Hhbz.out.grown Hhgr2.out (by have := Hhbz.out.size; omega) (fun q hq => by cases hq; exact Nat.le_refl _)⟩, by simp [intOf]; omega⟩
            · obtain rfl : j = l.length := by omega
              rw [List.take_length] at hmv
              obtain ⟨w4, hw4⟩ : ∃ w4, w4 = wr := ⟨_, rfl⟩
              subst hw4
              have hbel4 := hbel3.trans (hbr.mono hbel3.size)
              have hrg := Hhrg.out
              obtain ⟨P, hP⟩ : ∃ P, l.map (plP lo) = P := ⟨_, rfl⟩
              rw [hP] at hmv hrg
              have Hhmt := Lib.hid hmt; clear hmt; have Hhmv := Lib.hid hmv; clear hmv; have Hhrg := Lib.hid hrg; clear hrg; have HhP := Lib.hid hP; clear hP
              go_wp2_with fail
              go_loopw [14, 15, 16, 67] (fun ov lv fv iv wr => ∃ (a : Nat) (last far : Int), a ≤ lo.length ∧ iv = .int .i64 (a : Int) ∧ lv = .int .i64 last ∧ fv = .int .i64 far ∧ wr.ownsRow w4.heap.size 52 3 ov (runsL (sortP P a)).length (flat3 (runsL (sortP P a))) ∧ (∀ r, (runsL (sortP P a)).getLast? = some r → r.1 + r.2.2 = last + 1 ∧ r.2.1 - r.2.2 = far - 1 ∧ 0 ≤ r.1 ∧ 1 ≤ r.2.2) ∧ (-2 ≤ last ∧ last ≤ 1000 ∧ 0 ≤ far ∧ far ≤ 1000) ∧ (runsL (sortP P a)).length ≤ a ∧ Below w4.heap.size w4 wr) (fun _ _ _ iv _ => lo.length - (intOf iv).toNat)
              case atStart => exact ⟨0, -2, 0, by omega, rfl, rfl, rfl, World.ownsRow_nil _ _ _ _, fun r hr => by simp [sortP, runsL] at hr, by omega, Nat.zero_le _, Below.refl _ _⟩
              case round =>
                obtain ⟨a, last, far, ha, rfl, rfl, rfl, hown, hlast, hbd, hlen, hbel5⟩ := hrel
                have hz5 := hbel5.size
                by_cases hal : a < lo.length
                · have hmz := Hhmt.out.below hbel5 Hhmt.out.lt
                  have hsu := sortP_succ P a
                  cases htp : toP P (a : Int) with
                  | none =>
                    have hlk : Words.look mt (a : Int) = none := by rw [Hhmv.out, htp]; rfl
                    have hsame : sortP P (a + 1) = sortP P a := by rw [hsu, htp]; simp
                    have hln : (runsL (sortP P (a + 1))).length ≤ a + 1 := by rw [hsame]; omega
                    obtain ⟨A5, cap5, rfl, hc5⟩ := own_form hown
                    have Hhown := Lib.hid hown; clear hown; have Hhlast := Lib.hid hlast; clear hlast; have Hhmz := Lib.hid hmz; clear hmz; have Hhlk := Lib.hid hlk; clear hlk; have Hhsame := Lib.hid hsame; clear hsame; have Hhsu := Lib.hid hsu; clear hsu; have Hhtp := Lib.hid htp; clear htp; have Hhlen := Lib.hid hlen; clear hlen; have Hhln := Lib.hid hln; clear hln
                    go_wp2_with (at_lookup; refine wpList_look_ok _ rfl _ _ 76 rfl 3 3 keyI Try.underlying76 zero_int w3.heap.size mt rfl Hhmz.out (a : Int) rfl (I64.nat (by omega)) ?_; rw [Hhlk.out, show (((none : Option Int).map enc1).getD (.int .i64 0)) = .int .i64 0 from rfl, show (none : Option Int).isSome = false from rfl])
                    exact ⟨⟨a + 1, last, far, by omega, by simp, rfl, rfl, by rw [Hhsame.out]; exact Hhown.out, by rw [Hhsame.out]; exact Hhlast.out, hbd, Hhln.out, hbel5⟩, by simp [intOf]; omega⟩
                  | some p =>
                    obtain ⟨hpm, hmin⟩ := toP_some htp
                    have hr := Hhrg.out p hpm
                    obtain ⟨b, hb⟩ : ∃ b : Nat, max p.1 p.2 = b := ⟨(max p.1 p.2).toNat, by omega⟩
                    have hlk : Words.look mt (a : Int) = some (b : Int) := by
                      rw [Hhmv.out, htp]
                      show some (max p.1 p.2) = _
                      rw [hb]
                    have hadd : runsL (sortP P (a + 1)) = addR (runsL (sortP P a)) a b := by
                      rw [hsu, htp]
                      show runsL (sortP P a ++ [(min p.1 p.2, max p.1 p.2)]) = _
                      rw [runsL_snoc, hmin, hb]
                    have hbn : b ≤ 1000 := by omega
                    have hln2 : ∀ R : List T3, R.length ≤ a → (addR R a b).length ≤ a + 1 := fun R hR => by
                      unfold addR
                      split
                      · simp
                      · split
                        · rw [List.length_append, List.length_dropLast, List.length_singleton]; omega
                        · rw [List.length_append, List.length_singleton]; omega
                    have hlen2 : (runsL (sortP P (a + 1))).length ≤ a + 1 := by rw [hadd]; exact hln2 _ hlen
                    clear hln2 hsu htp hpm hr hb hmin
                    generalize runsL (sortP P a) = R at *
                    cases hR : R.getLast? with
                    | none =>
                      have hR0 : R = [] := List.getLast?_eq_none_iff.1 hR
                      subst hR0
                      obtain ⟨A5, cap5, rfl, hc5⟩ := own_form hown
                      have hgo : ∀ (w5 : World) (v5 : Value), w5.ownsRow w4.heap.size 52 3 v5 (0 + 1) ([] ++ [.int .i64 (a : Int), .int .i64 (b : Int), .int .i64 1]) → w5.ownsRow w4.heap.size 52 3 v5 (runsL (sortP P (a + 1))).length (flat3 (runsL (sortP P (a + 1)))) := fun w5 v5 h5 => by rw [hadd]; exact h5
                      have hlast2 : ∀ r, (runsL (sortP P (a + 1))).getLast? = some r → r.1 + r.2.2 = (a : Int) + 1 ∧ r.2.1 - r.2.2 = (b : Int) - 1 ∧ 0 ≤ r.1 ∧ 1 ≤ r.2.2 := fun r hr => by
                        rw [hadd] at hr
                        have hr : some ((a : Int), (b : Int), (1 : Int)) = some r := hr
                        rw [← Option.some.inj hr]
                        show (a : Int) + 1 = a + 1 ∧ (b : Int) - 1 = b - 1 ∧ 0 ≤ (a : Int) ∧ (1 : Int) ≤ 1
                        omega
                      simp only [List.length_nil] at hown hc5 ⊢
                      have hown : wr.ownsRow w4.heap.size 52 3 (.slice A5 0 cap5) 0 [] := hown
                      have Hhown := Lib.hid hown; clear hown; have Hhlast := Lib.hid hlast; clear hlast; have Hhmz := Lib.hid hmz; clear hmz; have Hhlk := Lib.hid hlk; clear hlk; have Hhadd := Lib.hid hadd; clear hadd; have Hhlen := Lib.hid hlen; clear hlen; have Hhlen2 := Lib.hid hlen2; clear hlen2; have Hhgo := Lib.hid hgo; clear hgo; have Hhlast2 := Lib.hid hlast2; clear hlast2; have HhR := Lib.hid hR; clear hR
                      go_wp2_with (first
                        | (at_lookup; refine wpList_look_ok _ rfl _ _ 76 rfl 3 3 keyI Try.underlying76 zero_int w3.heap.size mt rfl Hhmz.out (a : Int) rfl (I64.nat (by omega)) ?_; rw [Hhlk.out, show (((some (b : Int) : Option Int).map enc1).getD (.int .i64 0)) = .int .i64 (b : Int) from rfl, show (some (b : Int) : Option Int).isSome = true from rfl])
                        | (at_builtin; refine append_block _ rfl (.tmp 103) (.tmp 107) 38 rfl w4.heap.size infoRun Try.underlying38 rfl (by decide) _ (0) ([]) rfl (Hhown.out.alloc _) wr.heap.size [.int .i64 (a : Int), .int .i64 (b : Int), .int .i64 1] rfl (Bk.new _ _ _) rfl (by simp [Value.oneCell']) (by omega) (by decide) (by simp; omega) ?_; intro v1 w5 hown5 hb5 _ _; have Hhown5 := Lib.hid hown5; clear hown5))
                      exact ⟨⟨a + 1, a, b, by omega, by simp, rfl, rfl, Hhgo.out _ _ Hhown5.out, Hhlast2.out, by omega, Hhlen2.out, (hbel5.alloc hz5 _).trans hb5⟩, by simp [intOf]; omega⟩
                    | some r =>
                      have hs := last_split hR
                      obtain ⟨l1, l2, l3, l4⟩ := hlast r hR
                      obtain ⟨D, hD⟩ : ∃ D, R.dropLast = D := ⟨_, rfl⟩
                      obtain ⟨m9, hm9⟩ : ∃ m9, D.length = m9 := ⟨_, rfl⟩
                      have haddR : addR R a b = if (a : Int) = r.1 + r.2.2 ∧ (b : Int) = r.2.1 - r.2.2 then D ++ [(r.1, r.2.1, r.2.2 + 1)] else R ++ [((a : Int), (b : Int), 1)] := by
                        unfold addR; rw [hR]; rw [← hD]
                      rw [hD] at hs
                      have hRl : R.length = m9 + 1 := by rw [hs, List.length_append, List.length_singleton, hm9]
                      obtain ⟨r1, r2, r3⟩ := r
                      simp only [] at l1 l2 l3 l4 haddR
                      rw [hRl] at hown
                      obtain ⟨g5, cap5, rfl⟩ := ownsRow_succ hown
                      by_cases hgo : (a : Int) = last + 1 ∧ (b : Int) = far - 1
                      · rw [if_pos ⟨by omega, by omega⟩] at haddR
                        have q1 : ((a : Int) == last + 1) = true := by rw [hgo.1]; exact beq_self_eq_true _
                        have q2 : ((b : Int) == far - 1) = true := by rw [hgo.2]; exact beq_self_eq_true _
                        have hfe := flat3_end D r1 r2 r3
                        rw [← hs, hm9] at hfe
                        obtain ⟨ce, fe, hge, hgl⟩ := own_cellN hown hfe
                        have hset := own_set1 hown (m9 * 3 + 2) (.int .i64 (r3 + 1))
                        have hfl := flat3_last D r1 r2 r3 (r3 + 1)
                        rw [← hs, hm9] at hfl
                        rw [← hfl] at hset
                        have hown2 : (wr.setCell ⟨g5, m9 * 3 + 2, none⟩ (.int .i64 (r3 + 1))).ownsRow w4.heap.size 52 3 (.slice (some ⟨g5, 0, none⟩) (m9 + 1) cap5) (runsL (sortP P (a + 1))).length (flat3 (runsL (sortP P (a + 1)))) := by
                          rw [hadd, haddR, List.length_append, List.length_singleton, hm9]; exact hset
                        have hlast2 : ∀ r, (runsL (sortP P (a + 1))).getLast? = some r → r.1 + r.2.2 = (a : Int) + 1 ∧ r.2.1 - r.2.2 = (b : Int) - 1 ∧ 0 ≤ r.1 ∧ 1 ≤ r.2.2 := fun r hr => by
                          rw [hadd, haddR, List.getLast?_concat] at hr
                          rw [← Option.some.inj hr]
                          simp only
                          omega
                        have hb9 := hbel5.setCell (p := ⟨g5, m9 * 3 + 2, none⟩) hge (.int .i64 (r3 + 1))
                        obtain ⟨hg1, hg2⟩ := hgo
                        have hml9 : m9 + 1 ≤ 1000 := by omega
                        have hr3 : r3 ≤ 2000 := by omega
                        have Hhown := Lib.hid hown; clear hown; have Hhlast := Lib.hid hlast; clear hlast; have Hhmz := Lib.hid hmz; clear hmz; have Hhlk := Lib.hid hlk; clear hlk; have Hhadd := Lib.hid hadd; clear hadd; have HhaddR := Lib.hid haddR; clear haddR; have Hhlen := Lib.hid hlen; clear hlen; have Hhlen2 := Lib.hid hlen2; clear hlen2; have Hhlast2 := Lib.hid hlast2; clear hlast2; have HhR := Lib.hid hR; clear hR; have Hhs := Lib.hid hs; clear hs; have Hhfe := Lib.hid hfe; clear hfe; have Hhset := Lib.hid hset; clear hset; have Hhfl := Lib.hid hfl; clear hfl; have Hhown2 := Lib.hid hown2; clear hown2; have Hhb9 := Lib.hid hb9; clear hb9; have HhRl := Lib.hid hRl; clear hRl; have HhD := Lib.hid hD; clear hD; have Hhm9 := Lib.hid hm9; clear hm9; have Hhg1 := Lib.hid hg1; clear hg1; have Hhg2 := Lib.hid hg2; clear hg2
                        go_wp2_with (at_lookup; refine wpList_look_ok _ rfl _ _ 76 rfl 3 3 keyI Try.underlying76 zero_int w3.heap.size mt rfl Hhmz.out (a : Int) rfl (I64.nat (by omega)) ?_; rw [Hhlk.out, show (((some (b : Int) : Option Int).map enc1).getD (.int .i64 0)) = .int .i64 (b : Int) from rfl, show (some (b : Int) : Option Int).isSome = true from rfl])
                        exact ⟨⟨a + 1, a, b, by omega, by simp, rfl, rfl, Hhown2.out, Hhlast2.out, by omega, Hhlen2.out, Hhb9.out⟩, by simp [intOf]; omega⟩
                      · rw [if_neg fun h9 => hgo ⟨by omega, by omega⟩] at haddR
                        have hgo2 : ∀ (w5 : World) (v5 : Value), w5.ownsRow w4.heap.size 52 3 v5 (m9 + 1 + 1) (flat3 R ++ [.int .i64 (a : Int), .int .i64 (b : Int), .int .i64 1]) → w5.ownsRow w4.heap.size 52 3 v5 (runsL (sortP P (a + 1))).length (flat3 (runsL (sortP P (a + 1)))) := fun w5 v5 h5 => by
                          rw [hadd, haddR, flat3_snoc, List.length_append, List.length_singleton, hRl]; exact h5
                        have hlast2 : ∀ r, (runsL (sortP P (a + 1))).getLast? = some r → r.1 + r.2.2 = (a : Int) + 1 ∧ r.2.1 - r.2.2 = (b : Int) - 1 ∧ 0 ≤ r.1 ∧ 1 ≤ r.2.2 := fun r hr => by
                          rw [hadd, haddR, List.getLast?_concat] at hr
                          rw [← Option.some.inj hr]
                          show (a : Int) + 1 = a + 1 ∧ (b : Int) - 1 = b - 1 ∧ 0 ≤ (a : Int) ∧ (1 : Int) ≤ 1
                          omega
                        have Hhgo := Lib.hid hgo2
                        clear hgo2
                        have hml9 : m9 + 1 ≤ 1000 := by omega
                        by_cases hg1 : (a : Int) = last + 1
                        · have hg2 : ¬ (b : Int) = far - 1 := fun h9 => hgo ⟨hg1, h9⟩
                          have q1 : ((a : Int) == last + 1) = true := by rw [hg1]; exact beq_self_eq_true _
                          have q2 : ((b : Int) == far - 1) = false := by rw [beq_eq_false_iff_ne]; exact hg2
                          clear hgo
                          have Hhg1 := Lib.hid hg1; clear hg1; have Hhown := Lib.hid hown; clear hown; have Hhlast := Lib.hid hlast; clear hlast; have Hhmz := Lib.hid hmz; clear hmz; have Hhlk := Lib.hid hlk; clear hlk; have Hhadd := Lib.hid hadd; clear hadd; have HhaddR := Lib.hid haddR; clear haddR; have Hhlen := Lib.hid hlen; clear hlen; have Hhlen2 := Lib.hid hlen2; clear hlen2; have Hhlast2 := Lib.hid hlast2; clear hlast2; have HhR := Lib.hid hR; clear hR; have Hhs := Lib.hid hs; clear hs; have HhRl := Lib.hid hRl; clear hRl; have HhD := Lib.hid hD; clear hD; have Hhm9 := Lib.hid hm9; clear hm9
                          go_wp2_with (first
                            | (at_lookup; refine wpList_look_ok _ rfl _ _ 76 rfl 3 3 keyI Try.underlying76 zero_int w3.heap.size mt rfl Hhmz.out (a : Int) rfl (I64.nat (by omega)) ?_; rw [Hhlk.out, show (((some (b : Int) : Option Int).map enc1).getD (.int .i64 0)) = .int .i64 (b : Int) from rfl, show (some (b : Int) : Option Int).isSome = true from rfl])
                            | (at_builtin; refine append_block _ rfl (.tmp 103) (.tmp 107) 38 rfl w4.heap.size infoRun Try.underlying38 rfl (by decide) _ (m9 + 1) (flat3 R) rfl (Hhown.out.alloc _) wr.heap.size [.int .i64 (a : Int), .int .i64 (b : Int), .int .i64 1] rfl (Bk.new _ _ _) rfl (by simp [Value.oneCell']) (by omega) (by decide) (by simp; omega) ?_; intro v1 w5 hown5 hb5 _ _; have Hhown5 := Lib.hid hown5; clear hown5))
                          exact ⟨⟨a + 1, a, b, by omega, by simp, rfl, rfl, Hhgo.out _ _ Hhown5.out, Hhlast2.out, by omega, Hhlen2.out, (hbel5.alloc hz5 _).trans hb5⟩, by simp [intOf]; omega⟩
                        · have q1 : ((a : Int) == last + 1) = false := by rw [beq_eq_false_iff_ne]; exact hg1
                          clear hgo
                          have Hhown := Lib.hid hown; clear hown; have Hhlast := Lib.hid hlast; clear hlast; have Hhmz := Lib.hid hmz; clear hmz; have Hhlk := Lib.hid hlk; clear hlk; have Hhadd := Lib.hid hadd; clear hadd; have HhaddR := Lib.hid haddR; clear haddR; have Hhlen := Lib.hid hlen; clear hlen; have Hhlen2 := Lib.hid hlen2; clear hlen2; have Hhlast2 := Lib.hid hlast2; clear hlast2; have HhR := Lib.hid hR; clear hR; have Hhs := Lib.hid hs; clear hs; have HhRl := Lib.hid hRl; clear hRl; have HhD := Lib.hid hD; clear hD; have Hhm9 := Lib.hid hm9; clear hm9
                          go_wp2_with (first
                            | (at_lookup; refine wpList_look_ok _ rfl _ _ 76 rfl 3 3 keyI Try.underlying76 zero_int w3.heap.size mt rfl Hhmz.out (a : Int) rfl (I64.nat (by omega)) ?_; rw [Hhlk.out, show (((some (b : Int) : Option Int).map enc1).getD (.int .i64 0)) = .int .i64 (b : Int) from rfl, show (some (b : Int) : Option Int).isSome = true from rfl])
                            | (at_builtin; refine append_block _ rfl (.tmp 103) (.tmp 107) 38 rfl w4.heap.size infoRun Try.underlying38 rfl (by decide) _ (m9 + 1) (flat3 R) rfl (Hhown.out.alloc _) wr.heap.size [.int .i64 (a : Int), .int .i64 (b : Int), .int .i64 1] rfl (Bk.new _ _ _) rfl (by simp [Value.oneCell']) (by omega) (by decide) (by simp; omega) ?_; intro v1 w5 hown5 hb5 _ _; have Hhown5 := Lib.hid hown5; clear hown5))
                          exact ⟨⟨a + 1, a, b, by omega, by simp, rfl, rfl, Hhgo.out _ _ Hhown5.out, Hhlast2.out, by omega, Hhlen2.out, (hbel5.alloc hz5 _).trans hb5⟩, by simp [intOf]; omega⟩
                · obtain rfl : a = lo.length := by omega
                  have hbf := hbel4.trans (hbel5.mono hbel4.size)
                  have hown2 := own_base hown (base' := w.heap.size) hbel4.size
                  have Hhown := Lib.hid hown; clear hown; have Hhlast := Lib.hid hlast; clear hlast; have Hhown2 := Lib.hid hown2; clear hown2
                  go_wp2_with fail
                  go_ret2
                  exact ⟨⟨_, _, rfl, .inr (.inr ⟨Hhrb.out, Hhpz.out, rfl, by rw [HhP.out]; exact Hhown2.out⟩)⟩, hbf⟩
        · have hcb : (c != 0) = true := bne_iff_ne.2 hc0
          go_wp2_with fail
          go_ret2
          exact ⟨⟨_, _, rfl, .inr (.inl ⟨Hhrb.out, Hhc.out.symm, hc0, rfl⟩)⟩, hbel3⟩
end Go.Proofs.Ytdljcemnbbamcaa
