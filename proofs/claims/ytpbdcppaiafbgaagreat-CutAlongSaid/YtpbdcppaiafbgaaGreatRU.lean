/- Walks: ref19's Check. -/
import Derived.Test.YtpbdcppaiafbgaaGreatRT
import Derived.Test.YtpbdcppaiafbgaaGreatFS
namespace Go.Proofs.YtpbdcppaiafbgaaGreat
open Go Go.RowKit Go.Words Go.Mesh
def CheckC (N : Int) (T : List T3) (l : List (Int × Int)) (c : Int) : Prop :=
  (¬ Surf N T ∧ c = 11) ∨ (Surf N T ∧ ∃ k, ∃ h : k < l.length, (∀ i (h' : i < l.length), i < k → addC T (l.take i) l[i] = 0) ∧ addC T (l.take k) l[k] = c ∧ c ≠ 0) ∨
    (Surf N T ∧ Go.Mesh.Clean T l ∧ ((l.any (idleE N T l) = true ∧ c = 14) ∨ (l.any (idleE N T l) = false ∧ c = 0)))
theorem with_neg {N : Int} {T : List T3} (hs : Surf N T) (x y : Int) : oi ((dirc T x y).map (· / 3)) < 0 ↔ oi (facing T (x, y)) < 0 := by
  rw [hs.dirc_facing]
  cases facing T (x, y) with
  | none => exact Iff.rfl
  | some c =>
    simp only [Option.map_some, oi]
    omega
theorem near_neg (T : List T3) (x y : Int) : near T x y = false ↔ oi (facing T (x, y)) < 0 ∧ oi (facing T (y, x)) < 0 := by
  unfold near
  cases facing T (x, y) <;> cases facing T (y, x) <;> simp [oi] <;> omega
theorem endsC_pos {L : List (Int × Int)} {e : Int × Int} (he : e ∈ L) : 1 ≤ endsC L e.1 ∧ 1 ≤ endsC L e.2 := by
  unfold endsC
  exact ⟨List.countP_pos_iff.2 ⟨e, he, by simp⟩, List.countP_pos_iff.2 ⟨e, he, by simp⟩⟩
theorem idleE_iff {N : Int} {T : List T3} {L : List (Int × Int)} {e : Int × Int} (he : e ∈ L) : idleE N T L e = true ↔ innerAt T N e.1 = true ∧ innerAt T N e.2 = true ∧ endsC L e.1 = 1 ∧ endsC L e.2 = 1 := by
  obtain ⟨h1, h2⟩ := endsC_pos he
  unfold idleE
  simp only [Bool.and_eq_true, decide_eq_true_eq]
  constructor
  · rintro ⟨⟨h3, h4⟩, h5, h6⟩; exact ⟨h4, h6, by omega, by omega⟩
  · rintro ⟨h3, h4, h5, h6⟩; exact ⟨⟨by omega, h3⟩, by omega, h4⟩
set_option maxRecDepth 40000 in
set_option maxHeartbeats 4000000 in
theorem check19_calls {w : World} {B : Nat} {sv lv : Value} {N : Int} {T : List T3} {l : List (Int × Int)} (hT : Sl 3 RTri w B sv T) (hl : Sl 2 RPair w B lv l) (hB0 : B ≤ w.heap.size) (hfew : T.length ≤ 200) (hll : l.length ≤ 1000) :
    Calls Tryz.prog 69 #[.agg #[.int .i64 N, sv], lv] w fun e w' => (∃ c, e = .returned (.int .i64 c) ∧ CheckC N T l c) ∧ Below w.heap.size w w' := by
  obtain ⟨A, cap, rfl, hcap⟩ := hT.form
  obtain ⟨Al, capl, rfl, hcapl⟩ := hl.form
  have hb0 := (Below.refl w.heap.size w).alloc (Nat.le_refl _) (.cells #[.int .i64 N, .slice A T.length cap] 24)
  have hk0 := Bk.new w 24 [.int .i64 N, .slice A T.length cap]
  have hz0 : w.heap.size + 1 ≤ (w.alloc (.cells #[.int .i64 N, .slice A T.length cap] 24)).heap.size := by simp
  have hT0 := hT.below keeps_tri (hb0.mono hB0)
  have hl0 := hl.below keeps_pair (hb0.mono hB0)
  generalize hw0 : w.alloc (.cells #[.int .i64 N, .slice A T.length cap] 24) = w0 at *
  have his := is15_calls (.slice A T.length cap) N T w0 (show B ≤ w0.heap.size by omega) hT0 hfew
  have d0 : w0.cell? ⟨w.heap.size, 0, none⟩ = some (.int .i64 N) := hk0.cell 0
  have d1 : w0.cell? ⟨w.heap.size, 1, none⟩ = some (.slice A T.length cap) := hk0.cell 1
  have HhT := Lib.hid hT; clear hT; have Hhl := Lib.hid hl; clear hl; have HhT0 := Lib.hid hT0; clear hT0; have Hhl0 := Lib.hid hl0; clear hl0; have Hhk0 := Lib.hid hk0; clear hk0; have Hhis := Lib.hid his; clear his
  go_enter Tryz.func69, Tryz.ntmps69
  go_wp2_with fail
  clear hw0
  refine Hhis.out.mono ?_
  rintro e w1 ⟨⟨b, rfl, hb⟩, hb1⟩
  have hz1 := hb1.size
  have hbel1 := hb0.trans (hb1.mono (by omega))
  have hk1 := Hhk0.out.below hb1 (by omega)
  have hT1 := HhT0.out.below keeps_tri (hb1.mono (show B ≤ w0.heap.size by omega))
  have hl1 := Hhl0.out.below keeps_pair (hb1.mono (show B ≤ w0.heap.size by omega))
  by_cases hs : Surf N T
  case neg =>
    have hbf : b = false := by
      cases b with
      | false => rfl
      | true => exact absurd (hb.1 rfl) hs
    subst hbf
    have Hhk1 := Lib.hid hk1; clear hk1; have HhT1 := Lib.hid hT1; clear hT1; have Hhl1 := Lib.hid hl1; clear hl1; have Hhb := Lib.hid hb; clear hb
    go_wp2_with fail
    go_ret
    exact ⟨⟨_, rfl, .inl ⟨hs, rfl⟩⟩, hbel1⟩
  obtain rfl : b = true := hb.2 hs
  have hr1 := Below.refl w1.heap.size w1
  have Hhk1 := Lib.hid hk1; clear hk1; have HhT1 := Lib.hid hT1; clear hT1; have Hhl1 := Lib.hid hl1; clear hl1; have Hhb := Lib.hid hb; clear hb
  go_wp2_with fail
  go_loopw [5] (fun iv wr => ∃ k : Nat, k ≤ l.length ∧ iv = .int .i64 (k : Int) ∧ (∀ i (h' : i < l.length), i < k → addC T (l.take i) l[i] = 0) ∧ Below w1.heap.size w1 wr) (fun iv _ => l.length - (intOf iv).toNat)
  case atStart => exact ⟨0, by omega, rfl, fun _ _ h => absurd h (by omega), hr1⟩
  case round =>
    obtain ⟨k, hk, rfl, hpre, hbr⟩ := hrel
    have hzr := hbr.size
    have hkr := Hhk1.out.below hbr (by omega)
    have hTr := HhT1.out.below keeps_tri (hbr.mono (show B ≤ w1.heap.size by omega))
    have hlr := Hhl1.out.below keeps_pair (hbr.mono (show B ≤ w1.heap.size by omega))
    have hbelr := hbel1.trans (hbr.mono hbel1.size)
    have hsl := hs.tmax
    by_cases hkl : k < l.length
    · have hcode : ∀ c : Int, addC T (l.take k) l[k] = c → c ≠ 0 → CheckC N T l c := fun c h1 h2 => .inr (.inl ⟨hs, k, hkl, hpre, h1, h2⟩)
      have hnext : addC T (l.take k) l[k] = 0 → ∀ i (h' : i < l.length), i < k + 1 → addC T (l.take i) l[i] = 0 := fun h9 i h' h8 => by
        by_cases h7 : i = k
        · subst h7; exact h9
        · exact hpre i h' (by omega)
      obtain ⟨bb, o, rfl, hbb, a1, a2⟩ := hlr.pair_at hkl
      have hlt := hlr.take (Nat.le_of_lt hkl)
      have hadd : addC T (l.take k) l[k] = addC T (l.take k) l[k] := rfl
      generalize l[k] = ed at *
      obtain ⟨x1, x2⟩ := ed
      simp only [] at a1 a2
      have hlD : (l.take k).length = k := by rw [List.length_take]; omega
      have hbd : Below wr.heap.size wr wr.drew := (Below.refl _ wr).drew
      have hTd := hTr.below keeps_tri (hbd.mono (show B ≤ wr.heap.size by omega))
      have hkd := hkr.below hbd (by omega)
      have hne := refNear_calls hTd (show B ≤ wr.drew.heap.size by have := hbd.size; omega) hs x1 x2
      have hzd := hbd.size
      have e0 : wr.drew.cell? ⟨w.heap.size, 0, none⟩ = some (.int .i64 N) := hkd.cell 0
      have e1 : wr.drew.cell? ⟨w.heap.size, 1, none⟩ = some (.slice A T.length cap) := hkd.cell 1
      clear hadd
      have Hhpre := Lib.hid hpre; clear hpre; have Hhcode := Lib.hid hcode; clear hcode; have Hhnext := Lib.hid hnext; clear hnext; have HhTr := Lib.hid hTr; clear hTr; have Hhlr := Lib.hid hlr; clear hlr; have Hhkr := Lib.hid hkr; clear hkr; have Hhlt := Lib.hid hlt; clear hlt; have HhTd := Lib.hid hTd; clear hTd; have Hhkd := Lib.hid hkd; clear hkd; have Hhne := Lib.hid hne; clear hne; have HhlD := Lib.hid hlD; clear hlD
      go_wp2_with fail
      refine Go.Canon.wp_region_text mixed (by kernel_rfl) ?_
      go_wp2_with fail
      refine Go.Canon.chk (by rfl) ?_
      go_wp2_with fail
      refine Hhne.out.mono ?_
      rintro e w2 ⟨rfl, hb2⟩
      have hz2 := hb2.size
      have hbr2 : Below w1.heap.size w1 w2 := hbr.drew.trans (hb2.mono hzr)
      have hbel2 := hbel1.trans (hbr2.mono hbel1.size)
      have hT2 := HhT1.out.below keeps_tri (hbr2.mono (show B ≤ w1.heap.size by omega))
      have hk2 := Hhk1.out.below hbr2 (by omega)
      have f0 : w2.cell? ⟨w.heap.size, 0, none⟩ = some (.int .i64 N) := hk2.cell 0
      have f1 : w2.cell? ⟨w.heap.size, 1, none⟩ = some (.slice A T.length cap) := hk2.cell 1
      by_cases hnf : near T x1 x2 = false
      · rw [hnf]
        obtain ⟨n1, n2⟩ := (near_neg T x1 x2).1 hnf
        have h8 : addC T (l.take k) (x1, x2) = 8 := by unfold addC; rw [if_pos ⟨n1, n2⟩]
        have HhT2 := Lib.hid hT2; clear hT2; have Hhk2 := Lib.hid hk2; clear hk2; have Hn1 := Lib.hid n1; clear n1; have Hn2 := Lib.hid n2; clear n2; have Hh8 := Lib.hid h8; clear h8; have Hhnf := Lib.hid hnf; clear hnf
        go_wp2_with fail
        go_ret
        exact ⟨⟨_, rfl, Hhcode.out 8 Hh8.out (by decide)⟩, hbel2⟩
      have hnt : near T x1 x2 = true := by
        cases h9 : near T x1 x2 with
        | false => exact absurd h9 hnf
        | true => rfl
      rw [hnt]
      have hno : ¬ (oi (facing T (x1, x2)) < 0 ∧ oi (facing T (x2, x1)) < 0) := fun h9 => hnf ((near_neg T x1 x2).2 h9)
      have hw1 := with_calls hT2 (show B ≤ w2.heap.size by omega) hsl x1 x2 (N := N)
      have hg1 := with_neg hs x1 x2
      generalize oi ((dirc T x1 x2).map (· / 3)) = u1 at *
      have HhT2 := Lib.hid hT2; clear hT2; have Hhk2 := Lib.hid hk2; clear hk2; have Hhnf := Lib.hid hnf; clear hnf; have Hhnt := Lib.hid hnt; clear hnt; have Hhno := Lib.hid hno; clear hno; have Hhw1 := Lib.hid hw1; clear hw1; have Hhg1 := Lib.hid hg1; clear hg1
      go_wp2_with fail
      refine Hhw1.out.mono ?_
      rintro e w3 ⟨rfl, hb3⟩
      have hz3 := hb3.size
      have hbr3 : Below w1.heap.size w1 w3 := hbr2.trans (hb3.mono hbr2.size)
      have hbel3 := hbel1.trans (hbr3.mono hbel1.size)
      have hk3 := Hhk1.out.below hbr3 (by omega)
      have f2 : w3.cell? ⟨w.heap.size, 0, none⟩ = some (.int .i64 N) := hk3.cell 0
      have f3 : w3.cell? ⟨w.heap.size, 1, none⟩ = some (.slice A T.length cap) := hk3.cell 1
      by_cases h1 : u1 < 0
      · have h13 : addC T (l.take k) (x1, x2) = 13 := by unfold addC; rw [if_neg Hhno.out, if_pos (.inl (Hhg1.out.1 h1))]
        have Hhk3 := Lib.hid hk3; clear hk3; have Hh13 := Lib.hid h13; clear h13
        go_wp2_with fail
        all_goals first | (exfalso; omega) | skip
        go_ret
        exact ⟨⟨_, rfl, Hhcode.out 13 Hh13.out (by decide)⟩, hbel3⟩
      have hT3 := HhT1.out.below keeps_tri (hbr3.mono (show B ≤ w1.heap.size by omega))
      have hw2 := with_calls hT3 (show B ≤ w3.heap.size by omega) hsl x2 x1 (N := N)
      have hg2 := with_neg hs x2 x1
      generalize oi ((dirc T x2 x1).map (· / 3)) = u2 at *
      have HhT3 := Lib.hid hT3; clear hT3; have Hhk3 := Lib.hid hk3; clear hk3; have Hhw2 := Lib.hid hw2; clear hw2; have Hhg2 := Lib.hid hg2; clear hg2
      go_wp2_with fail
      all_goals first | (exfalso; omega) | skip
      refine Hhw2.out.mono ?_
      rintro e w4 ⟨rfl, hb4⟩
      have hz4 := hb4.size
      have hbr4 : Below w1.heap.size w1 w4 := hbr3.trans (hb4.mono hbr3.size)
      have hbel4 := hbel1.trans (hbr4.mono hbel1.size)
      by_cases h2 : u2 < 0
      · have h13 : addC T (l.take k) (x1, x2) = 13 := by unfold addC; rw [if_neg Hhno.out, if_pos (.inr (Hhg2.out.1 h2))]
        have Hh13 := Lib.hid h13; clear h13
        go_wp2_with fail
        all_goals first | (exfalso; omega) | skip
        go_ret
        exact ⟨⟨_, rfl, Hhcode.out 13 Hh13.out (by decide)⟩, hbel4⟩
      have hl4 := Hhl1.out.below keeps_pair (hbr4.mono (show B ≤ w1.heap.size by omega))
      have hlt4 := (hl4.take (Nat.le_of_lt hkl)).below keeps_pair (((Below.refl w4.heap.size w4).drew).mono (show B ≤ w4.heap.size by omega))
      have hin := in19_calls hlt4 (show B ≤ w4.drew.heap.size by have := (Below.refl w4.heap.size w4).drew.size; omega) (by rw [HhlD.out]; omega) (x1, x2)
      change Calls _ _ #[.slice (some ⟨bb, o, none⟩) k capl, .agg #[.int .i64 x1, .int .i64 x2]] w4.drew _ at hin
      have b1 := (hbr4.cell (p := ⟨bb, o + k * 2, none⟩) (by show bb < _; omega)).trans ((hbr.cell (p := ⟨bb, o + k * 2, none⟩) (by show bb < _; omega)).symm.trans a1)
      have b2 := (hbr4.cell (p := ⟨bb, o + k * 2 + 1, none⟩) (by show bb < _; omega)).trans ((hbr.cell (p := ⟨bb, o + k * 2 + 1, none⟩) (by show bb < _; omega)).symm.trans a2)
      have hbr4' := hbr4.drew
      have hbel4' := hbel4.drew
      by_cases hm : nm (x1, x2) ∈ (l.take k).map nm
      · have h9 : addC T (l.take k) (x1, x2) = 9 := by unfold addC; rw [if_neg Hhno.out, if_neg (fun h => h.elim (fun h => by have := Hhg1.out.2 h; omega) (fun h => by have := Hhg2.out.2 h; omega)), if_pos hm]
        rw [decide_eq_true hm] at hin
        have Hhl4 := Lib.hid hl4; clear hl4; have Hhlt4 := Lib.hid hlt4; clear hlt4; have Hhin := Lib.hid hin; clear hin; have Hhm := Lib.hid hm; clear hm; have Hh9 := Lib.hid h9; clear h9
        go_wp2_with fail
        all_goals first | (exfalso; omega) | skip
        refine Go.Canon.wp_region_text mixed (by kernel_rfl) ?_
        go_wp2_with fail
        refine Hhin.out.mono ?_
        rintro r wz ⟨rfl, hbz⟩
        have hbF := hbel4'.trans (hbz.mono hbel4'.size)
        go_wp2_with fail
        refine Go.Canon.chk (by rfl) ?_
        go_wp2_with fail
        go_ret
        exact ⟨⟨_, rfl, Hhcode.out 9 Hh9.out (by decide)⟩, hbF⟩
      · have h9 : addC T (l.take k) (x1, x2) = 0 := by unfold addC; rw [if_neg Hhno.out, if_neg (fun h => h.elim (fun h => by have := Hhg1.out.2 h; omega) (fun h => by have := Hhg2.out.2 h; omega)), if_neg hm]
        rw [decide_eq_false hm] at hin
        have hy := Hhnext.out h9
        have Hhl4 := Lib.hid hl4; clear hl4; have Hhlt4 := Lib.hid hlt4; clear hlt4; have Hhin := Lib.hid hin; clear hin; have Hhm := Lib.hid hm; clear hm; have Hh9 := Lib.hid h9; clear h9; have Hhy := Lib.hid hy; clear hy
        go_wp2_with fail
        all_goals first | (exfalso; omega) | skip
        refine Go.Canon.wp_region_text mixed (by kernel_rfl) ?_
        go_wp2_with fail
        refine Hhin.out.mono ?_
        rintro r wz ⟨rfl, hbz⟩
        have hbF := hbr4'.trans (hbz.mono hbr4'.size)
        go_wp2_with fail
        refine Go.Canon.chk (by rfl) ?_
        go_wp2_with fail
        exact ⟨⟨k + 1, by omega, by simp, Hhy.out, hbF⟩, by simp [intOf]; omega⟩
    · obtain rfl : k = l.length := by omega
      obtain ⟨wq, hwq⟩ : ∃ wq, wq = wr := ⟨_, rfl⟩
      subst hwq
      have hcl : Go.Mesh.Clean T l := fun i h => hpre i h h
      have hrr := Below.refl wq.heap.size wq
      have hidl : ∀ i (h : i < l.length), i < 0 → idleE N T l l[i] = false := fun i _ h => absurd h (by omega)
      have Hhpre := Lib.hid hpre; clear hpre; have Hhcl := Lib.hid hcl; clear hcl; have HhTr := Lib.hid hTr; clear hTr; have Hhlr := Lib.hid hlr; clear hlr; have Hhkr := Lib.hid hkr; clear hkr
      go_wp2_with fail
      go_loopw [8] (fun iv wr => ∃ k : Nat, k ≤ l.length ∧ iv = .int .i64 (k : Int) ∧ (∀ i (h : i < l.length), i < k → idleE N T l l[i] = false) ∧ Below wq.heap.size wq wr) (fun iv _ => l.length - (intOf iv).toNat)
      case atStart => exact ⟨0, by omega, rfl, hidl, hrr⟩
      case round =>
        obtain ⟨k, hk, rfl, hpi, hbx⟩ := hrel
        have hzx := hbx.size
        have hb1x := hbr.trans (hbx.mono hbr.size)
        have hbelx := hbel1.trans (hb1x.mono hbel1.size)
        have hlx := Hhl1.out.below keeps_pair (hb1x.mono (show B ≤ w1.heap.size by omega))
        by_cases hkl : k < l.length
        · have hmem : l[k] ∈ l := List.getElem_mem hkl
          have hyes : idleE N T l l[k] = true → l.any (idleE N T l) = true := fun h => List.any_eq_true.2 ⟨_, hmem, h⟩
          have hnext : idleE N T l l[k] = false → ∀ i (h : i < l.length), i < k + 1 → idleE N T l l[i] = false := fun h9 i h' h8 => by
            by_cases h7 : i = k
            · subst h7; exact h9
            · exact hpi i h' (by omega)
          have hidle := idleE_iff (N := N) (T := T) hmem
          obtain ⟨bb, o, rfl, hbb, a1, a2⟩ := hlx.pair_at hkl
          have hel1 := endsC_le l l[k].1
          have hel2 := endsC_le l l[k].2
          generalize l[k] = ed at *
          obtain ⟨x1, x2⟩ := ed
          simp only [] at a1 a2 hidle hel1 hel2
          have hnot : ¬ (innerAt T N x1 = true ∧ innerAt T N x2 = true ∧ endsC l x1 = 1 ∧ endsC l x2 = 1) → idleE N T l (x1, x2) = false := fun h9 => by
            cases h8 : idleE N T l (x1, x2) with
            | false => rfl
            | true => exact absurd (hidle.1 h8) h9
          have hbd : Below wq.heap.size wq wr.drew := hbx.drew
          have hb1d : Below w1.heap.size w1 wr.drew := hb1x.drew
          have hzd := hb1d.size
          have hkd := Hhk1.out.below hb1d (by omega)
          have hTd := HhT1.out.below keeps_tri (hb1d.mono (show B ≤ w1.heap.size by omega))
          have e0 : wr.drew.cell? ⟨w.heap.size, 0, none⟩ = some (.int .i64 N) := hkd.cell 0
          have e1 : wr.drew.cell? ⟨w.heap.size, 1, none⟩ = some (.slice A T.length cap) := hkd.cell 1
          have hi1 := refInner_calls hTd (show B ≤ wr.drew.heap.size by omega) hs x1
          clear hmem
          have Hhpi := Lib.hid hpi; clear hpi; have Hhyes := Lib.hid hyes; clear hyes; have Hhnext := Lib.hid hnext; clear hnext; have Hhidle := Lib.hid hidle; clear hidle; have Hhlx := Lib.hid hlx; clear hlx; have Hhkd := Lib.hid hkd; clear hkd; have HhTd := Lib.hid hTd; clear hTd; have Hhi1 := Lib.hid hi1; clear hi1; have Hhnot := Lib.hid hnot; clear hnot
          go_wp2_with fail
          refine Go.Canon.wp_region_text mixed (by kernel_rfl) ?_
          go_wp2_with fail
          refine Go.Canon.chk (by rfl) ?_
          go_wp2_with fail
          refine Hhi1.out.mono ?_
          rintro e w2 ⟨rfl, hb2⟩
          have hnot := Hhnot.out
          have hbr2 : Below wq.heap.size wq w2 := hbd.trans (hb2.mono hbd.size)
          have hb12 := hbr.trans (hbr2.mono hbr.size)
          have hz2 := hb12.size
          cases hn1 : innerAt T N x1 with
          | false =>
            rw [hn1] at hnot
            have hy := Hhnext.out (hnot (fun h => absurd h.1 (by decide)))
            have Hhy := Lib.hid hy; clear hy; have Hhnot := Lib.hid hnot; clear hnot; have Hhn1 := Lib.hid hn1; clear hn1
            go_wp2_with fail
            all_goals first | (exfalso; omega) | skip
            exact ⟨⟨k + 1, by omega, by simp, Hhy.out, hbr2⟩, by simp [intOf]; omega⟩
          | true =>
            have hk2 := Hhk1.out.below hb12 (by omega)
            have hT2 := HhT1.out.below keeps_tri (hb12.mono (show B ≤ w1.heap.size by omega))
            have f0 : w2.cell? ⟨w.heap.size, 0, none⟩ = some (.int .i64 N) := hk2.cell 0
            have f1 : w2.cell? ⟨w.heap.size, 1, none⟩ = some (.slice A T.length cap) := hk2.cell 1
            have hi2 := refInner_calls hT2 (show B ≤ w2.heap.size by omega) hs x2
            have Hhk2 := Lib.hid hk2; clear hk2; have HhT2 := Lib.hid hT2; clear hT2; have Hhi2 := Lib.hid hi2; clear hi2; have Hhnot := Lib.hid hnot; clear hnot
            go_wp2_with fail
            refine Hhi2.out.mono ?_
            rintro e w3 ⟨rfl, hb3⟩
            have hnot := Hhnot.out
            have hbr3 := hbr2.trans (hb3.mono hbr2.size)
            have hb13 := hbr.trans (hbr3.mono hbr.size)
            have hz3 := hb13.size
            cases hn2 : innerAt T N x2 with
            | false =>
              rw [hn2] at hnot
              have hy := Hhnext.out (hnot (fun h => absurd h.2.1 (by decide)))
              have Hhy := Lib.hid hy; clear hy; have Hhnot := Lib.hid hnot; clear hnot; have Hhn1 := Lib.hid hn1; clear hn1; have Hhn2 := Lib.hid hn2; clear hn2
              go_wp2_with fail
              all_goals first | (exfalso; omega) | skip
              exact ⟨⟨k + 1, by omega, by simp, Hhy.out, hbr3⟩, by simp [intOf]; omega⟩
            | true =>
              have hl3 := Hhl1.out.below keeps_pair (hb13.mono (show B ≤ w1.heap.size by omega))
              have ha1 := at19_calls hl3 (show B ≤ w3.heap.size by omega) (by omega) x1
              generalize hq1 : endsC l x1 = q1 at *
              have Hhl3 := Lib.hid hl3; clear hl3; have Hha1 := Lib.hid ha1; clear ha1; have Hhnot := Lib.hid hnot; clear hnot; have Hhn1 := Lib.hid hn1; clear hn1; have Hhn2 := Lib.hid hn2; clear hn2; have Hhq1 := Lib.hid hq1; clear hq1
              go_wp2_with fail
              refine Hha1.out.mono ?_
              rintro e w4 ⟨rfl, hb4⟩
              have hnot := Hhnot.out
              have hbr4 := hbr3.trans (hb4.mono hbr3.size)
              have hb14 := hbr.trans (hbr4.mono hbr.size)
              have hz4 := hb14.size
              by_cases hc1 : (q1 : Int) = 1
              case neg =>
                have hc1' : ((q1 : Int) == 1) = false := beq_eq_false_iff_ne.2 hc1
                have hy := Hhnext.out (hnot (fun h => hc1 (by have := h.2.2.1; omega)))
                have Hhy := Lib.hid hy; clear hy; have Hhnot := Lib.hid hnot; clear hnot
                go_wp2_with fail
                all_goals first | (exfalso; omega) | skip
                exact ⟨⟨k + 1, by omega, by simp, Hhy.out, hbr4⟩, by simp [intOf]; omega⟩
              have hc1' : ((q1 : Int) == 1) = true := beq_iff_eq.2 hc1
              have hl4 := Hhl1.out.below keeps_pair (hb14.mono (show B ≤ w1.heap.size by omega))
              have ha2 := at19_calls hl4 (show B ≤ w4.heap.size by omega) (by omega) x2
              generalize hq2 : endsC l x2 = q2 at *
              have Hhl4 := Lib.hid hl4; clear hl4; have Hha2 := Lib.hid ha2; clear ha2; have Hhnot := Lib.hid hnot; clear hnot; have Hhq2 := Lib.hid hq2; clear hq2
              go_wp2_with fail
              refine Hha2.out.mono ?_
              rintro e w5 ⟨rfl, hb5⟩
              have hnot := Hhnot.out
              have hbr5 := hbr4.trans (hb5.mono hbr4.size)
              by_cases hc2 : (q2 : Int) = 1
              case neg =>
                have hc2' : ((q2 : Int) == 1) = false := beq_eq_false_iff_ne.2 hc2
                have hy := Hhnext.out (hnot (fun h => hc2 (by have := h.2.2.2; omega)))
                have Hhy := Lib.hid hy; clear hy; have Hhnot := Lib.hid hnot; clear hnot
                go_wp2_with fail
                all_goals first | (exfalso; omega) | skip
                exact ⟨⟨k + 1, by omega, by simp, Hhy.out, hbr5⟩, by simp [intOf]; omega⟩
              have hc2' : ((q2 : Int) == 1) = true := beq_iff_eq.2 hc2
              have hall := Hhyes.out (Hhidle.out.2 ⟨Hhn1.out, Hhn2.out, by omega, by omega⟩)
              have hbF := (hbel1.trans ((hbr.trans (hbr5.mono hbr.size)).mono hbel1.size))
              have Hhnot := Lib.hid hnot; clear hnot; have Hhall := Lib.hid hall; clear hall
              go_wp2_with fail
              all_goals first | (exfalso; omega) | skip
              go_ret
              exact ⟨⟨_, rfl, .inr (.inr ⟨hs, Hhcl.out, .inl ⟨Hhall.out, rfl⟩⟩)⟩, hbF⟩
        · obtain rfl : k = l.length := by omega
          have hany : l.any (idleE N T l) = false := List.any_eq_false.2 fun x hx => by
            obtain ⟨i, hi, rfl⟩ := List.getElem_of_mem hx
            rw [hpi i hi hi]
            decide
          have Hhpi := Lib.hid hpi; clear hpi; have Hhany := Lib.hid hany; clear hany; have Hhlx := Lib.hid hlx; clear hlx
          go_wp2_with fail
          go_ret
          exact ⟨⟨_, rfl, .inr (.inr ⟨hs, Hhcl.out, .inr ⟨Hhany.out, rfl⟩⟩)⟩, hbelx⟩
end Go.Proofs.YtpbdcppaiafbgaaGreat
