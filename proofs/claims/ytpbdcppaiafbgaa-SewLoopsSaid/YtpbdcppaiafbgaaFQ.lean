/- The law SewLoops, walked. -/
import Derived.Test.YtpbdcppaiafbgaaFM
import Derived.Test.YtpbdcppaiafbgaaFS
import Derived.Test.YtpbdcppaiafbgaaGD
namespace Go.Proofs.Ytpbdcppaiafbgaa
open Go Go.RowKit Go.Words Go.Mesh
set_option maxRecDepth 40000 in
set_option maxHeartbeats 8000000 in
theorem sewloops_law (sv : Value) (N : Int) (T : List T3) (m : Nat) (w : World) {B : Nat} (hB0 : B ≤ w.heap.size) (hT : Sl 3 RTri w B sv T) (hN : I64 N) (hm : m < 256) :
    Calls Try.prog 3 #[.agg #[.int .i64 N, sv], .int .u8 (m : Int)] w fun e w' => e = .returned (.bool true) ∧ Below w.heap.size w w' := by
  obtain ⟨A, cap, rfl, hcap⟩ := hT.form
  have hb0 := (Below.refl w.heap.size w).alloc (Nat.le_refl _) (.cells #[.int .i64 N, .slice A T.length cap] 24)
  have hk0 := Bk.new w 24 [.int .i64 N, .slice A T.length cap]
  have haw := awake20_calls (w.alloc (.cells #[.int .i64 N, .slice A T.length cap] 24))
  have hz0 : w.heap.size + 1 ≤ (w.alloc (.cells #[.int .i64 N, .slice A T.length cap] 24)).heap.size := by simp
  generalize hw0 : w.alloc (.cells #[.int .i64 N, .slice A T.length cap] 24) = w0 at *
  have HhT := Lib.hid hT; clear hT; have Hhaw := Lib.hid haw; clear haw; have Hhk0 := Lib.hid hk0; clear hk0
  go_enter Try.func3, Try.ntmps3
  go_wp2_with fail
  clear hw0
  refine Hhaw.out.mono ?_
  rintro e w1 ⟨rfl, hb1⟩
  have hz1 := hb1.size
  have hbel1 := hb0.trans (hb1.mono hb0.size)
  have hk1 := Hhk0.out.below hb1 (by omega)
  have c0 : w1.cell? ⟨w.heap.size, 0, none⟩ = some (.int .i64 N) := hk1.cell 0
  have c1 : w1.cell? ⟨w.heap.size, 1, none⟩ = some (.slice A T.length cap) := hk1.cell 1
  have hT1 := HhT.out.below keeps_tri (hbel1.mono hB0)
  have htb := table12_calls (w := w1) hT1 (show B ≤ w1.heap.size by omega) hN
  unfold Tabled12 at htb
  have Hhk1 := Lib.hid hk1; clear hk1; have HhT1 := Lib.hid hT1; clear hT1; have Hhtb := Lib.hid htb; clear htb
  go_wp2_with fail
  refine Hhtb.out.mono ?_
  rintro e w2 ⟨⟨tv, B1, rfl, hor⟩, hb2⟩
  have hz2 := hb2.size
  have hbel2 := hbel1.trans (hb2.mono hbel1.size)
  have hk2 := Hhk1.out.below hb2 (by omega)
  have hT2 := HhT1.out.below keeps_tri (hb2.mono (show B ≤ w1.heap.size by omega))
  have c2 : w2.cell? ⟨w.heap.size, 0, none⟩ = some (.int .i64 N) := hk2.cell 0
  have c3 : w2.cell? ⟨w.heap.size, 1, none⟩ = some (.slice A T.length cap) := hk2.cell 1
  rcases hor with ⟨hfew, hs, htab⟩ | ⟨hno, rfl⟩
  case inr =>
    by_cases hbig : 40 < (T.length : Int)
    · have Hhk2 := Lib.hid hk2; clear hk2; have HhT2 := Lib.hid hT2; clear hT2; have Hhno := Lib.hid hno; clear hno
      go_wp2_with fail
      all_goals first | (exfalso; omega) | skip
      go_ret
      exact ⟨rfl, hbel2⟩
    · have hns : ¬ Surf N T := fun h9 => hno ⟨by omega, h9⟩
      have his := is15_calls (.slice A T.length cap) N T w2 (show B ≤ w2.heap.size by omega) hT2 (by omega)
      have Hhk2 := Lib.hid hk2; clear hk2; have HhT2 := Lib.hid hT2; clear hT2; have Hhno := Lib.hid hno; clear hno; have Hhis := Lib.hid his; clear his
      go_wp2_with fail
      all_goals first | (exfalso; omega) | skip
      refine Hhis.out.mono ?_
      rintro e w3 ⟨⟨b, rfl, hb⟩, hb3⟩
      have hbf : b = false := by
        cases b with
        | false => rfl
        | true => exact absurd (hb.1 rfl) hns
      subst hbf
      have hbel3 := hbel2.trans (hb3.mono hbel2.size)
      have Hhb := Lib.hid hb; clear hb; have Hhns := Lib.hid hns; clear hns
      go_wp2_with fail
      go_ret
      exact ⟨rfl, hbel3⟩
  obtain ⟨gt, rfl⟩ : ∃ g, tv = .pointer (some g) := by
    obtain ⟨g, _, _, _, _, _, rfl, _⟩ := htab
    exact ⟨_, rfl⟩
  have hle1 := htab.le
  have hlo := bloops_calls (w := w2) (.inl htab) hs
  obtain ⟨n, rfl⟩ : ∃ n : Nat, N = n := ⟨N.toNat, by have := hs.n0; omega⟩
  rw [Int.toNat_natCast] at hlo
  have Hhk2 := Lib.hid hk2; clear hk2; have HhT2 := Lib.hid hT2; clear hT2; have Hhtab := Lib.hid htab; clear htab; have Hhs := Lib.hid hs; clear hs; have Hhlo := Lib.hid hlo; clear hlo
  go_wp2_with fail
  refine Hhlo.out.mono ?_
  rintro e w3 ⟨⟨r3, rfl, hrows⟩, hb3⟩
  obtain ⟨vs, hvl, hown3, hrow⟩ := hrows
  obtain ⟨q, hq⟩ : ∃ q, (lps T (n : Int) n).length = q := ⟨_, rfl⟩
  rw [hq] at hvl hown3
  obtain ⟨A3, cap3, rfl, hcap3⟩ := own_form hown3
  have hz3 := hb3.size
  have hbel3 := hbel2.trans (hb3.mono hbel2.size)
  have hs := Hhs.out
  have hk3 := Hhk2.out.below hb3 (by omega)
  have hT3 := HhT2.out.below keeps_tri (hb3.mono (show B ≤ w2.heap.size by omega))
  have c4 : w3.cell? ⟨w.heap.size, 0, none⟩ = some (.int .i64 n) := hk3.cell 0
  have c5 : w3.cell? ⟨w.heap.size, 1, none⟩ = some (.slice A T.length cap) := hk3.cell 1
  by_cases hq0 : q = 0
  · subst hq0
    have hq9 : ((0 : Nat) : Int) = 0 := rfl
    have Hhk3 := Lib.hid hk3; clear hk3; have HhT3 := Lib.hid hT3; clear hT3; have Hhvl := Lib.hid hvl; clear hvl; have Hhown3 := Lib.hid hown3; clear hown3; have Hhrow := Lib.hid hrow; clear hrow; have Hhq := Lib.hid hq; clear hq; have Hhs := Lib.hid hs; clear hs
    go_wp2_with fail
    all_goals first | (exfalso; omega) | skip
    go_ret
    exact ⟨rfl, hbel3⟩
  have hqp : 0 < q := by omega
  have hqp' : (q : Int) ≠ 0 := by omega
  obtain ⟨g3, c9, hsv, hg3, hgz3⟩ := own_some hown3 hqp
  injection hsv with hsv1 _ hsv2
  subst hsv1; subst hsv2
  obtain ⟨j, hj⟩ : ∃ j, m % q = j := ⟨_, rfl⟩
  have hjq : j < q := by rw [← hj]; exact Nat.mod_lt _ hqp
  have hmj : (m : Int) % (q : Int) = (j : Int) := by rw [← hj]; exact (Int.natCast_emod m q).symm
  have hjq' : (j : Int) < (q : Int) := by omega
  have hne0 : ((q : Int) == 0) = false := by rw [beq_eq_false_iff_ne]; omega
  have hjl : j < (lps T (n : Int) n).length := by omega
  have hv1 := List.getElem?_eq_getElem (show j < vs.length by omega)
  have hL1 := List.getElem?_eq_getElem hjl
  obtain ⟨hp3, u, hun, hLu, a, hau⟩ := hs.lps_each n _ (List.getElem_mem hjl)
  rw [hLu] at hL1 hp3
  have hro := hrow j _ _ hv1 hL1
  have hcj := (hown3.cellAt j (by omega)).trans hv1
  generalize vs[j] = rv at hcj hro hv1
  have hsr := sl_nvals hro
  rw [show (loopAt T (n : Int) (u : Int)).map (fun n : Nat => (n : Int)) = loI T (n : Int) (u : Int) from rfl] at hsr
  have hll := loI_len (T := T) (N := (n : Int)) (v := (u : Int))
  have hp120 := hs.loop_len (u : Int)
  have hnd := hs.loI_nodup hau
  rw [← hll] at hp3 hp120 hro
  obtain ⟨p, hp⟩ : ∃ p, (loI T (n : Int) (u : Int)).length = p := ⟨_, rfl⟩
  rw [hp] at hp3 hp120 hro
  obtain ⟨A4, cap4, rfl, hcap4⟩ := own_form hro
  obtain ⟨wl, hwl⟩ : ∃ wl, w3.alloc (.cells #[.int .i64 0, .int .i64 ((p - 1 - p % 2 : Nat) : Int), .int .i64 ((p / 2 : Nat) : Int)] 37) = wl := ⟨_, rfl⟩
  have hbl : Below w3.heap.size w3 wl := by rw [← hwl]; exact (Below.refl w3.heap.size w3).alloc (Nat.le_refl _) _
  have hzl : w3.heap.size + 1 ≤ wl.heap.size := by rw [← hwl]; simp
  have hsl : Sl 1 RInt wl wl.heap.size (.slice A4 p cap4) (loI T (n : Int) (u : Int)) := (hsr.below keeps_int hbl).keep keeps_int (Below.refl _ _) (by omega)
  have hrun : wl.ownsRow w3.heap.size 37 3 (.slice (some ⟨w3.heap.size, 0, none⟩) 1 1) 1 (flat3 [((0 : Int), ((p - 1 - p % 2 : Nat) : Int), ((p / 2 : Nat) : Int))]) := by
    rw [← hwl]
    exact World.ownsRow_lit (e := 37) (size := 3) w3 #[.int .i64 0, .int .i64 ((p - 1 - p % 2 : Nat) : Int), .int .i64 ((p / 2 : Nat) : Int)] 1 (Nat.le_refl _) (by unfold maxLen; omega) rfl
  have hsR := sl_own_3 hrun
  have hpa := spairs_calls hsl hsR (Nat.le_refl _) (by omega) (by simp) (by
    intro r hr
    simp only [List.mem_singleton] at hr
    subst hr
    exact ⟨show I64 (0 : Int) from ⟨by decide, by decide⟩, show I64 ((p - 1 - p % 2 : Nat) : Int) from ⟨by omega, by omega⟩, show I64 ((p / 2 : Nat) : Int) from ⟨by omega, by omega⟩⟩)
  have e1 : (p : Int) - 1 - (p : Int) % 2 = ((p - 1 - p % 2 : Nat) : Int) := by omega
  have e2 : (p : Int) / 2 = ((p / 2 : Nat) : Int) := by omega
  generalize hsn : p - 1 - p % 2 = sn at *
  generalize hhn : p / 2 = hn2 at *
  have e3 : Int.tmod (p : Int) 2 = (p : Int) % 2 := Int.tmod_eq_emod_of_nonneg (by omega)
  have e4 : Int.tdiv (p : Int) 2 = (p : Int) / 2 := Int.tdiv_eq_ediv_of_nonneg (by omega)
  have Hhk3 := Lib.hid hk3; clear hk3; have HhT3 := Lib.hid hT3; clear hT3; have Hhvl := Lib.hid hvl; clear hvl; have Hhown3 := Lib.hid hown3; clear hown3; have Hhrow := Lib.hid hrow; clear hrow; have Hhq := Lib.hid hq; clear hq; have Hhs := Lib.hid hs; clear hs; have Hhv1 := Lib.hid hv1; clear hv1; have HhL1 := Lib.hid hL1; clear hL1; have HhLu := Lib.hid hLu; clear hLu; have Hhau := Lib.hid hau; clear hau; have Hhro := Lib.hid hro; clear hro; have Hhsr := Lib.hid hsr; clear hsr; have Hhll := Lib.hid hll; clear hll; have Hhp := Lib.hid hp; clear hp; have Hhnd := Lib.hid hnd; clear hnd; have Hhsl := Lib.hid hsl; clear hsl; have Hhrun := Lib.hid hrun; clear hrun; have HhsR := Lib.hid hsR; clear hsR; have Hhpa := Lib.hid hpa; clear hpa; have Hhj := Lib.hid hj; clear hj; have Hhsn := Lib.hid hsn; clear hsn; have Hhhn := Lib.hid hhn; clear hhn
  go_wp2_with fail
  all_goals first | (exfalso; omega) | skip
  clear hwl
  have hlo : (loI T (n : Int) (u : Int)).length = p := Hhp.out
  have hsn' : p - 1 - p % 2 = sn := Hhsn.out
  have hhn' : p / 2 = hn2 := Hhhn.out
  have hs := Hhs.out
  have hau := Hhau.out
  refine Hhpa.out.mono ?_
  rintro e w5 ⟨⟨pv, c, rfl, hend⟩, hb5⟩
  have hfl : foldP (loI T (n : Int) (u : Int)) = exP (loI T (n : Int) (u : Int)) ([((0 : Int), (sn : Int), (hn2 : Int))].flatMap exR) := by unfold foldP; rw [hlo, hsn', hhn']
  have hpl : (foldP (loI T (n : Int) (u : Int))).length = hn2 := by rw [foldP_len, hlo, hhn']
  have hpl0 := hs.fold_placed hau
  obtain ⟨rfl, hown5⟩ : c = 0 ∧ w5.ownsRow wl.heap.size 49 4 pv (foldP (loI T (n : Int) (u : Int))).length (flat4 (foldP (loI T (n : Int) (u : Int)))) := by
    have hri : rightB (loI T (n : Int) (u : Int)) = true := decide_eq_true ⟨by rw [hlo]; exact hp3, Hhnd.out⟩
    have hap := fold_apart (loI T (n : Int) (u : Int))
    have hokr := fold_ok (lo := loI T (n : Int) (u : Int)) (by rw [hlo]; exact hp3)
    rw [hlo, hsn', hhn'] at hap hokr
    rw [← hlo] at hokr
    rcases hend with ⟨h1, _⟩ | ⟨_, ⟨r, hr, h1⟩, _⟩ | ⟨_, _, h1, _⟩ | ⟨_, _, _, h1, h2⟩
    · rw [hri] at h1; cases h1
    · rw [List.mem_singleton.1 hr] at h1; exact absurd hokr h1
    · exact absurd hap h1
    · rw [← hfl] at h2; exact ⟨h1, h2⟩
  have hsP := sl_own_4 hown5
  rw [hpl] at hown5
  obtain ⟨A5, cap5, rfl, hcap5⟩ := own_form hown5
  clear hend
  have hz5 := hb5.size
  have hbel5 := (hbel3.trans (hbl.mono hbel3.size)).trans (hb5.mono (hbel3.trans (hbl.mono hbel3.size)).size)
  have hb35 := hbl.trans (hb5.mono hbl.size)
  have hT5 := HhT3.out.below keeps_tri (hb35.mono (show B ≤ w3.heap.size by omega))
  have hk5 := Hhk3.out.below hb35 (by omega)
  have c6 : w5.cell? ⟨w.heap.size, 0, none⟩ = some (.int .i64 n) := hk5.cell 0
  have c7 : w5.cell? ⟨w.heap.size, 1, none⟩ = some (.slice A T.length cap) := hk5.cell 1
  have hsw := sew_calls (w := w5) (B := w5.heap.size) (N := (n : Int)) (hT5.keep keeps_tri (Below.refl _ _) (show B ≤ w5.heap.size by omega)) hsP (Nat.le_refl _) hN (by rw [hpl]; omega) (fun e he => by
    obtain ⟨c, hc, _, rfl⟩ := mem_bedges.1 (hs.loI_bedges hau e he)
    have h1 := hs.rng (nx c) (nx_lt hc)
    have h2 := hs.rng (pv c) (pv_lt hc)
    have h3 := hs.nmax
    exact ⟨⟨show (-9223372036854775808 : Int) ≤ vt T (nx c) by omega, show vt T (nx c) ≤ 9223372036854775807 by omega⟩, ⟨show (-9223372036854775808 : Int) ≤ vt T (pv c) by omega, show vt T (pv c) ≤ 9223372036854775807 by omega⟩⟩)
  have Hhs := Lib.hid hs; clear hs; have Hhau := Lib.hid hau; clear hau; have Hhown5 := Lib.hid hown5; clear hown5; have HhsP := Lib.hid hsP; clear hsP; have HhT5 := Lib.hid hT5; clear hT5; have Hhk5 := Lib.hid hk5; clear hk5; have Hhsw := Lib.hid hsw; clear hsw; have Hhfl := Lib.hid hfl; clear hfl; have Hhpl := Lib.hid hpl; clear hpl; have Hhpl0 := Lib.hid hpl0; clear hpl0; have Hhlo := Lib.hid hlo; clear hlo; have Hhsn' := Lib.hid hsn'; clear hsn'; have Hhhn' := Lib.hid hhn'; clear hhn'
  go_wp2_with fail
  all_goals first | (exfalso; omega) | skip
  refine Hhsw.out.mono ?_
  rintro e w6 ⟨⟨x, o, c, rfl, hend⟩, hb6⟩
  have hz6 := hb6.size
  have hbel6 := hbel5.trans (hb6.mono hbel5.size)
  have hs := Hhs.out
  have hau := Hhau.out
  rcases hend with ⟨h1, _⟩ | ⟨_, h1, h2, _⟩ | ⟨_, _, _, rfl, rfl, rfl⟩ | ⟨_, _, hsur, rfl, xs, rfl, hX6, _⟩
  · exact absurd hs h1
  · exact absurd (h1.trans Hhpl0.out) h2
  · have hbf := hbel6.trans (((Below.refl w6.heap.size w6).alloc (Nat.le_refl _) (.cells #[.int .i64 0, .slice none 0 0] 24)).mono hbel6.size)
    have Hhs := Lib.hid hs; clear hs; have Hhau := Lib.hid hau; clear hau
    go_wp2_with fail
    go_ret
    exact ⟨rfl, hbf⟩
  have hev : p % 2 = 0 := by
    rcases Nat.mod_two_eq_zero_or_one p with h9 | h9
    · exact h9
    · exact absurd hsur (hs.fold_odd hau (by rw [Hhlo.out]; exact h9))
  have hfo := Fold.loops ⟨hs, hau, by rw [Hhlo.out]; exact hev, hsur⟩
  have hTl : (sewT (labP (foldP (loI T (n : Int) (u : Int)))) T).length = T.length := by unfold sewT; rw [List.length_map]
  rw [Int.toNat_natCast, Int.toNat_natCast] at hfo
  rw [Int.toNat_natCast] at hsur ⊢
  obtain ⟨T', hT'⟩ : ∃ T', sewT (labP (foldP (loI T (n : Int) (u : Int)))) T = T' := ⟨_, rfl⟩
  obtain ⟨n', hn'⟩ : ∃ n', rnk (labP (foldP (loI T (n : Int) (u : Int)))) n = n' := ⟨_, rfl⟩
  rw [hT', hn'] at hfo
  rw [hT'] at hTl
  rw [hT', hn'] at hsur
  rw [hT'] at hX6
  rw [hn']
  have hq := Hhq.out
  rw [hq] at hfo
  obtain ⟨A6, cap6, rfl, hcap6⟩ := hX6.form
  obtain ⟨w7, hw7⟩ : ∃ w7, w6.alloc (.cells #[.int .i64 (n' : Int), .slice A6 T'.length cap6] 24) = w7 := ⟨_, rfl⟩
  have hb7 : Below w6.heap.size w6 w7 := by rw [← hw7]; exact (Below.refl w6.heap.size w6).alloc (Nat.le_refl _) _
  have hz7 : w6.heap.size + 1 ≤ w7.heap.size := by rw [← hw7]; simp
  have hk7 : Bk w7 w6.heap.size 24 [.int .i64 (n' : Int), .slice A6 T'.length cap6] := by rw [← hw7]; exact Bk.new w6 _ _
  have hX7 := (hX6.below keeps_tri hb7).keep keeps_tri (Below.refl _ _) hb7.size
  have hbel7 := hbel6.trans (hb7.mono hbel6.size)
  have c8 : w7.cell? ⟨w6.heap.size, 0, none⟩ = some (.int .i64 (n' : Int)) := hk7.cell 0
  have c9 : w7.cell? ⟨w6.heap.size, 1, none⟩ = some (.slice A6 T'.length cap6) := hk7.cell 1
  have hn9 := hsur.nmax
  have hN' : I64 (n' : Int) := ⟨by omega, by omega⟩
  have htc := table12_calls (w := w7) hX7 (Nat.le_refl _) hN'
  unfold Tabled12 at htc
  clear hcap6
  have Hhs := Lib.hid hs; clear hs; have Hhau := Lib.hid hau; clear hau; have HhX6 := Lib.hid hX6; clear hX6; have Hhk7 := Lib.hid hk7; clear hk7; have HhX7 := Lib.hid hX7; clear hX7; have Hhfo := Lib.hid hfo; clear hfo; have HhTl := Lib.hid hTl; clear hTl; have HhT' := Lib.hid hT'; clear hT'; have Hhn' := Lib.hid hn'; clear hn'; have Hhev := Lib.hid hev; clear hev; have Hhq := Lib.hid hq; clear hq; have Hhtc := Lib.hid htc; clear htc
  go_wp2_with fail
  clear hw7
  refine Hhtc.out.mono ?_
  rintro e w8 ⟨⟨tv8, B8, rfl, hor8⟩, hb8⟩
  have hz8 := hb8.size
  have hbel8 := hbel7.trans (hb8.mono hbel7.size)
  have hTl' := HhTl.out
  have htab8 : Tab w8 B8 tv8 (n' : Int) T' := by
    rcases hor8 with ⟨_, _, h9⟩ | ⟨h9, _⟩
    · exact h9
    · exact absurd ⟨by omega, hsur⟩ h9
  clear hor8
  obtain ⟨gt8, rfl⟩ : ∃ g, tv8 = .pointer (some g) := by
    obtain ⟨g, _, _, _, _, _, rfl, _⟩ := htab8
    exact ⟨_, rfl⟩
  have hle8 := htab8.le
  have hlo8 := bloops_calls (w := w8) (.inl htab8) hsur
  rw [Int.toNat_natCast] at hlo8
  have hev2 : (p : Int) % 2 = 0 := by have := Hhev.out; omega
  have hfo' := Hhfo.out
  have hq9 : (q : Int) - 1 = ((lps T' (n' : Int) n').length : Int) := by omega
  have hq4 : q ≤ 4096 := by
    have h1 := lps_len T (n : Int) n
    rw [Hhq.out] at h1
    have h2 := Hhs.out.nmax
    omega
  generalize lps T' (n' : Int) n' = Ls at *
  have hL4 : Ls.length ≤ 4096 := by omega
  have hbq : ((Ls.length : Int) == (Ls.length : Int)) = true := beq_self_eq_true _
  have Hhtab8 := Lib.hid htab8; clear htab8; have Hhlo8 := Lib.hid hlo8; clear hlo8; have HhTl' := Lib.hid hTl'; clear hTl'; have Hhsur := Lib.hid hsur; clear hsur; have Hhfo' := Lib.hid hfo'; clear hfo'
  go_wp2_with fail
  all_goals first | (exfalso; omega) | skip
  refine Hhlo8.out.mono ?_
  rintro e w9 ⟨⟨r9, rfl, vs9, _, hown9, _⟩, hb9⟩
  obtain ⟨A9, cap9, rfl, hcap9⟩ := own_form hown9
  have hbel9 := hbel8.trans (hb9.mono hbel8.size)
  have Hhown9 := Lib.hid hown9; clear hown9
  go_wp2_with fail
  go_ret
  exact ⟨rfl, hbel9⟩
end Go.Proofs.Ytpbdcppaiafbgaa
