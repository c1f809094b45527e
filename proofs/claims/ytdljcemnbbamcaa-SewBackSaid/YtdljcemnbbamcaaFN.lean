/- The law SewBack, walked. -/
import Derived.Test.YtdljcemnbbamcaaFNT
import Derived.Deep.CutBlock
namespace Go.Mesh
theorem runs_few : ∀ R : List T3, (∀ r ∈ R, 1 ≤ r.2.2) → R.length ≤ (R.flatMap exR).length
  | [], _ => Nat.le_refl 0
  | r :: R, h => by
    have ih := runs_few R fun x hx => h x (List.mem_cons_of_mem _ hx)
    have h1 := h r (by simp)
    have : 1 ≤ (exR r).length := by unfold exR; rw [List.length_map, List.length_range]; omega
    rw [List.flatMap_cons, List.length_append, List.length_cons]
    omega
/-- All that SewBack asks, of a loop and pairs whose edges stand on it, each once. -/
structure Back (lo : List Int) (l : List P4) (Q : List (Int × Int)) : Prop where
  flat : (runsL Q).flatMap exR = Q
  okr : ∀ r ∈ runsL Q, okR lo.length r
  nodup : (flP ((runsL Q).flatMap exR)).Nodup
  placed : placedN (hasL lo) (exP lo Q) = 0
  again : runsL (sortP ((exP lo Q).map (plP lo)) lo.length) = runsL Q
  len : (exP lo Q).length = l.length
  there : ∀ q ∈ l, ∃ k, k < (exP lo Q).length ∧ ((exP lo Q)[k]? = some q ∨ (exP lo Q)[k]? = some (q.2, q.1))
  sep : Sep (runsL Q)
  few : (runsL Q).length ≤ l.length
  rng : ∀ p ∈ Q, 0 ≤ p.1 ∧ p.1 < p.2 ∧ p.2 < lo.length
theorem back_of {lo : List Int} {l : List P4} (hn : lo.Nodup) (hz : placedN (hasL lo) l = 0) : Back lo l (sortP (l.map (plP lo)) lo.length) := by
  obtain ⟨hap, hr⟩ := places_of hz
  obtain ⟨s1, s2, s3⟩ := sort_apart hap hr
  have hall := placed_all hz
  have hdist : ∀ p ∈ l.map (plP lo), ∀ q ∈ l.map (plP lo), min p.1 p.2 = min q.1 q.2 → p = q := fun p hp q hq he => by
    rcases apart_mem hap p hp q hq with h | ⟨h1, h2, h3, h4⟩
    · exact h
    · omega
  have hplaces : ∀ q ∈ l, edgeL lo (plI lo q.1).toNat = q.1 ∧ edgeL lo (plI lo q.2).toNat = q.2 := fun q hq => by
    obtain ⟨g1, g2⟩ := hall q hq
    obtain ⟨i, _, h2, h3⟩ := plI_has g1
    obtain ⟨j, _, h5, h6⟩ := plI_has g2
    rw [h3, h6]
    exact ⟨h2, h5⟩
  have hthere : ∀ q ∈ l, (min (plP lo q).1 (plP lo q).2, max (plP lo q).1 (plP lo q).2) ∈ sortP (l.map (plP lo)) lo.length := fun q hq => by
    have hm : plP lo q ∈ l.map (plP lo) := List.mem_map_of_mem hq
    have := hr _ hm
    exact sortP_has hdist hm (by omega) (by omega)
  have hrise := sortP_rise (l.map (plP lo)) lo.length
  generalize hQ : sortP (l.map (plP lo)) lo.length = Q at *
  obtain ⟨f1, f2⟩ := runs_all Q
  have hr2 : ∀ p ∈ Q, 0 ≤ p.1 ∧ p.1 < lo.length ∧ 0 ≤ p.2 ∧ p.2 < lo.length := fun p hp => by have := s2 p hp; omega
  refine { flat := f1, okr := runs_fit s2, nodup := by rw [f1]; exact s1, placed := exP_placed hn hr2 s1, again := ?_, len := ?_, there := fun q hq => ?_, sep := (runs_sep Q hrise).1, few := ?_, rng := s2 }
  · rw [exP_places hn hr2, sortP_again hrise s2]
  · unfold exP; rw [List.length_map, s3, List.length_map]
  · obtain ⟨k, hk, he⟩ := List.getElem_of_mem (hthere q hq)
    obtain ⟨h1, h2⟩ := hplaces q hq
    have hlen : (exP lo Q).length = Q.length := by unfold exP; rw [List.length_map]
    refine ⟨k, by omega, ?_⟩
    have hget : (exP lo Q)[k]? = some (edgeL lo (Q[k]).1.toNat, edgeL lo (Q[k]).2.toNat) := by
      unfold exP; rw [List.getElem?_map, List.getElem?_eq_getElem hk]; rfl
    rw [hget, he]
    have e1 : (plP lo q).1 = plI lo q.1 := rfl
    have e2 : (plP lo q).2 = plI lo q.2 := rfl
    rw [e1, e2]
    rcases Int.le_total (plI lo q.1) (plI lo q.2) with h9 | h9
    · left
      show some (edgeL lo (min (plI lo q.1) (plI lo q.2)).toNat, edgeL lo (max (plI lo q.1) (plI lo q.2)).toNat) = _
      rw [Int.min_eq_left h9, Int.max_eq_right h9, h1, h2]
    · right
      show some (edgeL lo (min (plI lo q.1) (plI lo q.2)).toNat, edgeL lo (max (plI lo q.1) (plI lo q.2)).toNat) = _
      rw [Int.min_eq_right h9, Int.max_eq_left h9, h1, h2]
  · have := runs_few (runsL Q) f2
    rw [f1, s3, List.length_map] at this
    exact this
end Go.Mesh
namespace Go.Proofs.Ytdljcemnbbamcaa
open Go Go.RowKit Go.Words Go.Mesh

set_option maxRecDepth 40000 in
set_option maxHeartbeats 8000000 in
theorem sewback_law (v0 : Value) (lo : List Int) (v1 : Value) (l : List P4) (w : World) {B : Nat} (hB0 : B ≤ w.heap.size) (h0 : Sl 1 RInt w B v0 lo ∧ ∀ x ∈ lo, I64 x) (h1 : Sl 4 R4 w B v1 l ∧ ∀ p ∈ l, ok2 p.1 ∧ ok2 p.2) :
    Calls Try.prog 4 #[v0, v1] w fun e w' => e = .returned (.bool true) ∧ Below w.heap.size w w' := by
  obtain ⟨hL, hokL⟩ := h0
  obtain ⟨hl, hok4⟩ := h1
  have hok : ∀ e ∈ edgs l, ok2 e := fun e he => by
    obtain ⟨p, hp, h1⟩ := List.mem_flatMap.1 he
    simp at h1
    rcases h1 with rfl | rfl
    · exact (hok4 p hp).1
    · exact (hok4 p hp).2
  obtain ⟨A, cap, rfl, hcap⟩ := hL.form
  obtain ⟨A2, cap2, rfl, hcap2⟩ := hl.form
  have haw := awake20_calls w
  have HhL := Lib.hid hL; clear hL; have Hhl := Lib.hid hl; clear hl; have Hhok := Lib.hid hok; clear hok; have HhokL := Lib.hid hokL; clear hokL; have Hhok4 := Lib.hid hok4; clear hok4; have Hhaw := Lib.hid haw; clear haw
  go_enter Try.func4, Try.ntmps4
  go_wp2_with fail
  refine Hhaw.out.mono ?_
  rintro e w1 ⟨rfl, hb1⟩
  have hz1 := hb1.size
  by_cases hs1 : 30 < (lo.length : Int)
  · go_wp2_with fail
    all_goals first | (exfalso; omega) | skip
    go_ret
    exact ⟨rfl, hb1⟩
  by_cases hs2 : 20 < (l.length : Int)
  · go_wp2_with fail
    all_goals first | (exfalso; omega) | skip
    go_ret
    exact ⟨rfl, hb1⟩
  have hs3 : lo.length ≤ 30 := by omega
  have hs4 : l.length ≤ 20 := by omega
  have hL1 := HhL.out.below keeps_int (hb1.mono hB0)
  have hl1 := Hhl.out.below keeps_4 (hb1.mono hB0)
  have hgi := given20_calls hl1 (by omega) (by omega)
  have HhL1 := Lib.hid hL1; clear hL1; have Hhl1 := Lib.hid hl1; clear hl1; have Hhgi := Lib.hid hgi; clear hgi
  go_wp2_with fail
  all_goals first | (exfalso; omega) | skip
  clear hs1 hs2
  refine Hhgi.out.mono ?_
  rintro e w2 ⟨⟨v, rfl, hown⟩, hb2⟩
  have hz2 := hb2.size
  have hbel2 := hb1.trans (hb2.mono hz1)
  have hL2 := HhL1.out.below keeps_int (hb2.mono (by omega))
  have hl2 := Hhl1.out.below keeps_4 (hb2.mono (by omega))
  have hru := runs_calls (hL2.keep keeps_int (Below.refl _ _) (show B ≤ w2.heap.size by omega)) (sl_own_4 hown) (Nat.le_refl _) (by omega) (by omega) Hhok.out HhokL.out
  obtain ⟨A3, cap3, rfl, hc3⟩ := own_form hown
  have Hhown := Lib.hid hown; clear hown; have HhL2 := Lib.hid hL2; clear hL2; have Hhl2 := Lib.hid hl2; clear hl2; have Hhru := Lib.hid hru; clear hru
  go_wp2_with fail
  refine Hhru.out.mono ?_
  rintro e w3 ⟨⟨v, c, rfl, hend⟩, hb3⟩
  have hz3 := hb3.size
  have hbel3 := hbel2.trans (hb3.mono hbel2.size)
  by_cases hc0 : c = 0
  case neg =>
    have hv : v = .slice none 0 0 := by
      rcases hend with ⟨_, _, h⟩ | ⟨_, _, _, h⟩ | ⟨_, _, h, _⟩
      · exact h
      · exact h
      · exact absurd h hc0
    subst hv
    have hcb : (c != 0) = true := bne_iff_ne.2 hc0
    clear hend
    go_wp2_with fail
    go_ret
    exact ⟨rfl, hbel3⟩
  subst hc0
  have hend : rightB lo = true ∧ placedN (hasL lo) l = 0 ∧ w3.ownsRow w2.heap.size 52 3 v (runsL (sortP (l.map (plP lo)) lo.length)).length (flat3 (runsL (sortP (l.map (plP lo)) lo.length))) := by
    rcases hend with ⟨_, h, _⟩ | ⟨_, _, h, _⟩ | ⟨h1, h2, _, h3⟩
    · cases h
    · exact absurd rfl h
    · exact ⟨h1, h2, h3⟩
  obtain ⟨hrb, hpz, hownr⟩ := hend
  have hnd : lo.Nodup := (of_decide_eq_true hrb).2
  have hbk := back_of hnd hpz
  generalize sortP (l.map (plP lo)) lo.length = Q at *
  obtain ⟨R, hR⟩ : ∃ R, runsL Q = R := ⟨_, rfl⟩
  have hokr := hbk.okr
  have hfew := hbk.few
  have hsep := hbk.sep
  have hagain := hbk.again
  have hnodup := hbk.nodup
  have hflat := hbk.flat
  rw [hR] at hownr hokr hfew hsep hagain hnodup hflat
  obtain ⟨A4, cap4, rfl, hc4⟩ := own_form hownr
  have hL3 := HhL2.out.below keeps_int (hb3.mono (by omega))
  have hslr := sl_own_3 hownr
  have hpa := spairs_calls (hL3.keep keeps_int (Below.refl _ _) (show B ≤ w3.heap.size by omega)) hslr (Nat.le_refl _) (by omega) (by omega) (fun r hr => by
    obtain ⟨e1, e2, e3, e4, e5, e6⟩ := hokr r hr
    unfold I64
    omega)
  have HhL3 := Lib.hid hL3; clear hL3; have Hhslr := Lib.hid hslr; clear hslr; have Hhpa := Lib.hid hpa; clear hpa; have Hhownr := Lib.hid hownr; clear hownr; have Hhrb := Lib.hid hrb; clear hrb; have Hhpz := Lib.hid hpz; clear hpz; have Hhnd := Lib.hid hnd; clear hnd; have Hhbk := Lib.hid hbk; clear hbk; have HhR := Lib.hid hR; clear hR; have Hhokr := Lib.hid hokr; clear hokr; have Hhsep := Lib.hid hsep; clear hsep; have Hhagain := Lib.hid hagain; clear hagain; have Hhnodup := Lib.hid hnodup; clear hnodup; have Hhflat := Lib.hid hflat; clear hflat
  go_wp2_with fail
  refine Hhpa.out.mono ?_
  rintro e w4 ⟨⟨v, c, rfl, hend⟩, hb4⟩
  have hend : c = 0 ∧ w4.ownsRow w3.heap.size 49 4 v (exP lo Q).length (flat4 (exP lo Q)) := by
    rcases hend with ⟨h, _⟩ | ⟨_, ⟨r, hr, h⟩, _⟩ | ⟨_, _, h, _⟩ | ⟨_, _, _, h1, h2⟩
    · rw [Hhrb.out] at h; cases h
    · exact absurd (Hhokr.out r hr) h
    · exact absurd Hhnodup.out h
    · rw [Hhflat.out] at h2; exact ⟨h1, h2⟩
  obtain ⟨rfl, hownp⟩ := hend
  have hplen := Hhbk.out.len
  rw [hplen] at hownp
  obtain ⟨A5, cap5, rfl, hc5⟩ := own_form hownp
  have hz4 := hb4.size
  have hbel4 := hbel3.trans (hb4.mono hbel3.size)
  have hL4 := HhL3.out.below keeps_int (hb4.mono (by omega))
  have hslp : Sl 4 R4 w4 w4.heap.size (.slice A5 l.length cap5) (exP lo Q) := sl_own_4 (by rw [hplen]; exact hownp)
  have hokp : ∀ e ∈ edgs (exP lo Q), ok2 e := fun e he => by
    have h9 : ∀ i, i < lo.length → I64 (lo.getD i 0) := fun i hi => by
      rw [List.getD_eq_getElem?_getD, List.getElem?_eq_getElem hi]
      exact HhokL.out _ (List.getElem_mem hi)
    obtain ⟨p, hp, h1⟩ := List.mem_flatMap.1 he
    obtain ⟨q, hq, rfl⟩ := List.mem_map.1 hp
    have hrq := Hhbk.out.rng q hq
    have hE : ∀ k, k < lo.length → ok2 (edgeL lo k) := fun k hk => ⟨h9 _ (Nat.mod_lt _ (by omega)), h9 _ hk⟩
    simp at h1
    rcases h1 with rfl | rfl
    · exact hE _ (by omega)
    · exact hE _ (by omega)
  have hr2 := runs_calls (hL4.keep keeps_int (Below.refl _ _) (show B ≤ w4.heap.size by omega)) hslp (Nat.le_refl _) (by omega) (by rw [hplen]; omega) hokp HhokL.out
  have HhL4 := Lib.hid hL4; clear hL4; have Hhslp := Lib.hid hslp; clear hslp; have Hhownp := Lib.hid hownp; clear hownp; have Hhr2 := Lib.hid hr2; clear hr2; have Hhplen := Lib.hid hplen; clear hplen; have Hhokp := Lib.hid hokp; clear hokp
  go_wp2_with fail
  refine Hhr2.out.mono ?_
  rintro e w5 ⟨⟨v, c, rfl, hend⟩, hb5⟩
  have hend : c = 0 ∧ w5.ownsRow w4.heap.size 52 3 v R.length (flat3 R) := by
    rcases hend with ⟨h, _⟩ | ⟨_, h1, h2, _⟩ | ⟨_, _, h1, h2⟩
    · rw [Hhrb.out] at h; cases h
    · rw [Hhbk.out.placed] at h1; exact absurd h1 h2
    · rw [Hhagain.out] at h2; exact ⟨h1, h2⟩
  obtain ⟨rfl, howna⟩ := hend
  obtain ⟨A6, cap6, rfl, hc6⟩ := own_form howna
  have hz5 := hb5.size
  have hbel5 := hbel4.trans (hb5.mono hbel4.size)
  have hsla := sl_own_3 howna
  have hslr5 := (Hhslr.out.below keeps_tri hb4).below keeps_tri (hb5.mono hz4)
  have hpl1 := plainruns_calls hsla (Nat.le_refl _) (by omega)
  have Hhowna := Lib.hid howna; clear howna; have Hhsla := Lib.hid hsla; clear hsla; have Hhslr5 := Lib.hid hslr5; clear hslr5; have Hhpl1 := Lib.hid hpl1; clear hpl1
  go_wp2_with fail
  refine Hhpl1.out.mono ?_
  rintro e w6 ⟨⟨v, rfl, hx6⟩, hb6⟩
  have hz6 := hb6.size
  have hbel6 := hbel5.trans (hb6.mono hbel5.size)
  have hslr6 := Hhslr5.out.below keeps_tri (hb6.mono (by omega))
  have hpl2 := plainruns_calls hslr6 (show w3.heap.size ≤ w6.heap.size by omega) (by omega)
  obtain ⟨A7, cap7, rfl, hc7⟩ := hx6.form
  have Hhx6 := Lib.hid hx6; clear hx6; have Hhslr6 := Lib.hid hslr6; clear hslr6; have Hhpl2 := Lib.hid hpl2; clear hpl2
  go_wp2_with fail
  refine Hhpl2.out.mono ?_
  rintro e w7 ⟨⟨v, rfl, hx7⟩, hb7⟩
  have hz7 := hb7.size
  have hbel7 := hbel6.trans (hb7.mono hbel6.size)
  obtain ⟨A8, cap8, rfl, hc8⟩ := hx7.form
  have hsa := sameruns_calls ((Hhx6.out.below keeps_tri hb7).keep keeps_tri (Below.refl _ _) hz7) hx7 (Nat.le_refl _) (by omega)
  rw [decide_eq_true rfl] at hsa
  have Hhx7 := Lib.hid hx7; clear hx7; have Hhsa := Lib.hid hsa; clear hsa
  go_wp2_with fail
  refine Hhsa.out.mono ?_
  rintro e w8 ⟨rfl, hb8⟩
  have hz8 := hb8.size
  have hbel8 := hbel7.trans (hb8.mono hbel7.size)
  have h38 : Below w3.heap.size w3 w8 := ((((hb4.trans (hb5.mono hz4)).trans (hb6.mono (by omega))).trans (hb7.mono (by omega))).trans (hb8.mono (by omega)))
  have h48 : Below w4.heap.size w4 w8 := (((hb5.trans (hb6.mono hz5)).trans (hb7.mono (by omega))).trans (hb8.mono (by omega)))
  have hslr8 := Hhslr.out.below keeps_tri h38
  have hslp8 := Hhslp.out.below keeps_4 h48
  have hl8 := Hhl2.out.below keeps_4 ((hb3.trans (h38.mono hz3)).mono (show B ≤ w2.heap.size by omega))
  have Hhslr8 := Lib.hid hslr8; clear hslr8; have Hhslp8 := Lib.hid hslp8; clear hslp8; have Hhl8 := Lib.hid hl8; clear hl8
  go_wp2_with fail
  go_loopw [11] (fun iv wr => ∃ j : Nat, j ≤ l.length ∧ iv = .int .i64 (j : Int) ∧ Below w8.heap.size w8 wr) (fun iv _ => l.length - (intOf iv).toNat)
  case atStart => exact ⟨0, by omega, rfl, Below.refl _ _⟩
  case round =>
    obtain ⟨j, hj, rfl, hbel9⟩ := hrel
    have hz9 := hbel9.size
    obtain ⟨w9, hw9⟩ : ∃ w9, w9 = wr := ⟨_, rfl⟩
    subst hw9
    by_cases hjl : j < l.length
    · obtain ⟨q, hq⟩ : ∃ q, l[j]? = some q := ⟨_, List.getElem?_eq_getElem hjl⟩
      have hthere := Hhbk.out.there q (List.mem_of_getElem? hq)
      obtain ⟨b, o, rfl, hb, a1, a2, a3, a4⟩ := ((Hhl8.out.below keeps_4 (hbel9.mono (show B ≤ w8.heap.size by omega)))).p4_at hq
      have hbw : b < w9.heap.size := by omega
      have hplen2 := Hhplen.out
      obtain ⟨PL, hPL⟩ : ∃ PL, exP lo Q = PL := ⟨_, rfl⟩
      rw [hPL] at hthere hplen2
      have hslp9 := Hhslp8.out.below keeps_4 (hbel9.mono (show w4.heap.size ≤ w8.heap.size by omega))
      rw [hPL] at hslp9
      obtain ⟨⟨q1, q2⟩, q3, q4⟩ := q
      simp only [] at a1 a2 a3 a4 hthere
      have Hhthere := Lib.hid hthere; clear hthere; have Hhslp9 := Lib.hid hslp9; clear hslp9; have HhPL := Lib.hid hPL; clear hPL; have Hhplen2 := Lib.hid hplen2; clear hplen2; have Hhq := Lib.hid hq; clear hq
      go_wp2_with fail
      go_loopw [12, 13] (fun bv kv wz => ∃ (k : Nat) (bd : Bool), k ≤ l.length ∧ kv = .int .i64 (k : Int) ∧ bv = .bool bd ∧ (bd = true ↔ ∃ i, i < k ∧ (PL[i]? = some ((q1, q2), q3, q4) ∨ PL[i]? = some ((q3, q4), q1, q2))) ∧ Below w9.heap.size w9 wz) (fun _ kv _ => l.length - (intOf kv).toNat)
      case atStart => exact ⟨0, false, by omega, rfl, rfl, ⟨fun h => (by cases h), fun ⟨i, hi, _⟩ => by omega⟩, Below.refl _ _⟩
      case round =>
        obtain ⟨k, bd, hk, rfl, rfl, hbd, hbel10⟩ := hrel
        by_cases hkl : k < l.length
        · have hkp : k < PL.length := by rw [Hhplen2.out]; exact hkl
          obtain ⟨p, hp⟩ : ∃ p, PL[k]? = some p := ⟨_, List.getElem?_eq_getElem hkp⟩
          obtain ⟨b', o', rfl, hb', c1, c2, c3, c4⟩ := (Hhslp9.out.below keeps_4 (hbel10.mono (show w4.heap.size ≤ w9.heap.size by omega))).p4_at hp
          have e1 := (hbel10.cell (p := ⟨b, o + j * 4, none⟩) hbw).trans a1
          have e2 := (hbel10.cell (p := ⟨b, o + j * 4 + 1, none⟩) hbw).trans a2
          have e3 := (hbel10.cell (p := ⟨b, o + j * 4 + 2, none⟩) hbw).trans a3
          have e4 := (hbel10.cell (p := ⟨b, o + j * 4 + 3, none⟩) hbw).trans a4
          have hbz := hbel10.drew
          obtain ⟨⟨p1, p2⟩, p3, p4⟩ := p
          simp only [] at c1 c2 c3 c4
          have hup : (∃ i, i < k ∧ (PL[i]? = some ((q1, q2), q3, q4) ∨ PL[i]? = some ((q3, q4), q1, q2))) → ∃ i, i < k + 1 ∧ (PL[i]? = some ((q1, q2), q3, q4) ∨ PL[i]? = some ((q3, q4), q1, q2)) := fun ⟨i, h1, h2⟩ => ⟨i, by omega, h2⟩
          cases bd with
          | true =>
            have hst := hup (hbd.1 rfl)
            have Hhbd := Lib.hid hbd; clear hbd; have Hhup := Lib.hid hup; clear hup; have Hhst := Lib.hid hst; clear hst; have Hhbz := Lib.hid hbz; clear hbz; have Hhp := Lib.hid hp; clear hp
            go_wp2_with fail
            refine Go.Canon.wp_region_text mixed (by kernel_rfl) ?_
            go_wp2_with fail
            refine Go.Canon.chk (by rfl) ?_
            go_wp2_with fail
            exact ⟨⟨k + 1, true, by omega, by simp, rfl, ⟨fun _ => Hhst.out, fun _ => rfl⟩, Hhbz.out⟩, by simp [intOf]; omega⟩
          | false =>
            have h1 := edge_run20 p1 p2 q1 q2
            have h2 := edge_run20 p3 p4 q3 q4
            have h3 := edge_run20 p1 p2 q3 q4
            have h4 := edge_run20 p3 p4 q1 q2
            have hif : ∀ bd' : Bool, bd' = (decide ((p1, p2) = (q1, q2)) && decide ((p3, p4) = (q3, q4)) || decide ((p1, p2) = (q3, q4)) && decide ((p3, p4) = (q1, q2))) → (bd' = true ↔ ∃ i, i < k + 1 ∧ (PL[i]? = some ((q1, q2), q3, q4) ∨ PL[i]? = some ((q3, q4), q1, q2))) := fun bd' h9 => by
              rw [h9]
              simp only [Bool.or_eq_true, Bool.and_eq_true, decide_eq_true_eq]
              constructor
              · rintro (⟨g1, g2⟩ | ⟨g1, g2⟩)
                · exact ⟨k, by omega, .inl (by rw [hp, g1, g2])⟩
                · exact ⟨k, by omega, .inr (by rw [hp, g1, g2])⟩
              · rintro ⟨i, g1, g2⟩
                by_cases hik : i = k
                · subst hik
                  rw [hp] at g2
                  rcases g2 with g2 | g2
                  · have g2 := Option.some.inj g2
                    exact .inl ⟨congrArg Prod.fst g2, congrArg Prod.snd g2⟩
                  · have g2 := Option.some.inj g2
                    exact .inr ⟨congrArg Prod.fst g2, congrArg Prod.snd g2⟩
                · have := hbd.2 ⟨i, by omega, g2⟩
                  cases this
            generalize decide ((p1, p2) = (q1, q2)) = b1 at *
            generalize decide ((p3, p4) = (q3, q4)) = b2 at *
            generalize decide ((p1, p2) = (q3, q4)) = b3 at *
            generalize decide ((p3, p4) = (q1, q2)) = b4 at *
            have Hhbd := Lib.hid hbd; clear hbd; have Hhup := Lib.hid hup; clear hup; have Hhbz := Lib.hid hbz; clear hbz; have Hhp := Lib.hid hp; clear hp; have Hhif := Lib.hid hif; clear hif
            cases b1 with
            | true =>
              cases b2 with
              | true =>
                clear h3 h4
                go_wp2_with fail
                refine Go.Canon.wp_region_text mixed (by kernel_rfl) ?_
                go_wp2_with fail
                refine Go.Canon.chk (by rfl) ?_
                go_wp2_with fail
                exact ⟨⟨k + 1, true, by omega, by simp, rfl, Hhif.out _ (by simp), Hhbz.out⟩, by simp [intOf]; omega⟩
              | false =>
                cases b3 with
                | true =>
                  cases b4 with
                  | true =>
                    go_wp2_with fail
                    refine Go.Canon.wp_region_text mixed (by kernel_rfl) ?_
                    go_wp2_with fail
                    refine Go.Canon.chk (by rfl) ?_
                    go_wp2_with fail
                    exact ⟨⟨k + 1, true, by omega, by simp, rfl, Hhif.out _ (by simp), Hhbz.out⟩, by simp [intOf]; omega⟩
                  | false =>
                    go_wp2_with fail
                    refine Go.Canon.wp_region_text mixed (by kernel_rfl) ?_
                    go_wp2_with fail
                    refine Go.Canon.chk (by rfl) ?_
                    go_wp2_with fail
                    exact ⟨⟨k + 1, false, by omega, by simp, rfl, Hhif.out _ (by simp), Hhbz.out⟩, by simp [intOf]; omega⟩
                | false =>
                  clear h4
                  go_wp2_with fail
                  refine Go.Canon.wp_region_text mixed (by kernel_rfl) ?_
                  go_wp2_with fail
                  refine Go.Canon.chk (by rfl) ?_
                  go_wp2_with fail
                  exact ⟨⟨k + 1, false, by omega, by simp, rfl, Hhif.out _ (by simp), Hhbz.out⟩, by simp [intOf]; omega⟩
            | false =>
              clear h2
              cases b3 with
              | true =>
                cases b4 with
                | true =>
                  go_wp2_with fail
                  refine Go.Canon.wp_region_text mixed (by kernel_rfl) ?_
                  go_wp2_with fail
                  refine Go.Canon.chk (by rfl) ?_
                  go_wp2_with fail
                  exact ⟨⟨k + 1, true, by omega, by simp, rfl, Hhif.out _ (by simp), Hhbz.out⟩, by simp [intOf]; omega⟩
                | false =>
                  go_wp2_with fail
                  refine Go.Canon.wp_region_text mixed (by kernel_rfl) ?_
                  go_wp2_with fail
                  refine Go.Canon.chk (by rfl) ?_
                  go_wp2_with fail
                  exact ⟨⟨k + 1, false, by omega, by simp, rfl, Hhif.out _ (by simp), Hhbz.out⟩, by simp [intOf]; omega⟩
              | false =>
                clear h4
                go_wp2_with fail
                refine Go.Canon.wp_region_text mixed (by kernel_rfl) ?_
                go_wp2_with fail
                refine Go.Canon.chk (by rfl) ?_
                go_wp2_with fail
                exact ⟨⟨k + 1, false, by omega, by simp, rfl, Hhif.out _ (by simp), Hhbz.out⟩, by simp [intOf]; omega⟩
        · obtain rfl : k = l.length := by omega
          have hbt : bd = true := hbd.2 (by
            obtain ⟨i, g1, g2⟩ := Hhthere.out
            rw [Hhplen2.out] at g1
            exact ⟨i, g1, g2⟩)
          subst hbt
          have hbz := hbel9.trans (hbel10.mono hz9)
          have Hhbd := Lib.hid hbd; clear hbd
          go_wp2_with fail
          exact ⟨⟨j + 1, by omega, by simp, hbz⟩, by simp [intOf]; omega⟩
    · have hbf := hbel8.trans (hbel9.mono hbel8.size)
      have hfew2 : R.length ≤ 20 := by omega
      have hslr9 := Hhslr8.out.below keeps_tri (hbel9.mono (show w3.heap.size ≤ w8.heap.size by omega))
      go_upto_block 4 with fail
      refine sewback_tail Hhsep.out Hhokr.out hs3 hfew2 _ _ _ _ _ _ _ _ _ _ _ _ _ _ _ _ _ _ _ _ _ _ _ _ _ _ _ _ _ _ _ _ _ _ _ _ _ _ _ _ _ _ _ _ _ _ _ _ _ _ _ _ _ _ _ _ _ _ _ _ _ _ _ _ _ _ _ _ _ _ _ _ _ _ _ _ _ _ _ _ _ _ _ _ _ _ _ _ _ _ _ _ _ _ _ _ _ _ _ _ _ _ _ _ _ _ _ _ _ _ _ _ _ _ _ _ _ _ _ _ _ _ _ _ _ _ _ _ _ _ _ _ _ _ _ _ _ _ _ _ _ _ _ _ _ _ _ _ _ _ _ _ _ _ _ _ _ _ _ _ _ _ _ _ _ _ _ _ _ _ _ _ _ _ _ _ _ _ _ _ _ _ _ _ _ _ _ _ _ _ _ _ _ _ _ _ _ _ _ _ _ _ w9 hslr9 (show w3.heap.size ≤ w9.heap.size by omega) _ ?_ _ rfl
      intro y4 y14 y137 y138 y139 y140 y141 y142 y143 y144 y145 y146 y147 y148 y149 y150 y151 y152 y153 y154 y155 y156 y157 y158 y159 y160 y161 y162 y163 y164 y165 y166 y167 y168 y169 y170 y171 y172 y173 y174 y175 y176 y177 y178 y179 y180 y181 y182 y183 y184 y185 y186 y187 y188 y189 y190 y191 y192 y193 y194 y195 y196 y197 y198 y199 y200 y201 y202 y203 wz hbel10
      have hbf2 := hbf.trans (hbel10.mono hbf.size)
      have Hhslr9 := Lib.hid hslr9; clear hslr9
      go_wp2_with fail
      go_ret
      exact ⟨rfl, hbf2⟩
end Go.Proofs.Ytdljcemnbbamcaa
