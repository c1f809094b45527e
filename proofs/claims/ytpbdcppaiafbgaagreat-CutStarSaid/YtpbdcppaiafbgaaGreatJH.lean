/- The law CutStar, walked. -/
import Derived.Test.YtpbdcppaiafbgaaGreatIJ
import Derived.Test.YtpbdcppaiafbgaaGreatHM
import Derived.Test.YtpbdcppaiafbgaaGreatDY
import Derived.Test.YtpbdcppaiafbgaaGreatEH
namespace Go.Mesh
theorem Pt.same {N : Int} {T : List T3} (hs : Surf N T) {out : List Int} {C x y : Nat} (h : Pt T out C T.length) (hx : x < T.length) (hy : y < T.length) {a b : Int} (ha : out[x]? = some a) (hb : out[y]? = some b) : a = b ↔ Con T x y := by
  obtain ⟨i, i1, i2, i3⟩ := h.full hx
  obtain ⟨j, j1, j2, j3⟩ := h.full hy
  rw [i2] at ha
  rw [j2] at hb
  have ha := Option.some.inj ha
  have hb := Option.some.inj hb
  constructor
  · intro e
    have : i = j := by omega
    subst this
    exact (i3.symm hs).trans hs j3
  · intro c
    have := h.at_ hs i1 hy (i3.trans hs c)
    rw [j2] at this
    have := Option.some.inj this
    omega
theorem haB_at {T : List T3} {v : Int} {t : Nat} (ht : t < T.length) : haB T[t] v = true ↔ AtV T v t := by
  unfold haB AtV
  simp only [Bool.or_eq_true, beq_iff_eq]
  have hv : ∀ k, k < 3 → vt T (3 * t + k) = vx T[t] k := fun k hk => by
    unfold vt
    have e : T.getD ((3 * t + k) / 3) (0, 0, 0) = T[t] := by
      rw [show (3 * t + k) / 3 = t by omega, List.getD_eq_getElem?_getD, List.getElem?_eq_getElem ht]; rfl
    rw [e, show (3 * t + k) % 3 = k by omega]
  have h0 := hv 0 (by omega)
  have h1 := hv 1 (by omega)
  have h2 := hv 2 (by omega)
  constructor
  · rintro ((h | h) | h)
    · exact ⟨3 * t + 0, by omega, by omega, h0.trans h⟩
    · exact ⟨3 * t + 1, by omega, by omega, h1.trans h⟩
    · exact ⟨3 * t + 2, by omega, by omega, h2.trans h⟩
  · rintro ⟨c, hc, rfl, h⟩
    have h3 : c % 3 = 0 ∨ c % 3 = 1 ∨ c % 3 = 2 := by omega
    rcases h3 with h3 | h3 | h3
    · rw [show 3 * (c / 3) + 0 = c by omega] at h0; exact .inl (.inl (h0.symm.trans h))
    · rw [show 3 * (c / 3) + 1 = c by omega] at h1; exact .inl (.inr (h1.symm.trans h))
    · rw [show 3 * (c / 3) + 2 = c by omega] at h2; exact .inr (h2.symm.trans h)
theorem loopE_snoc {lo : List Int} {i : Nat} (hi : i < lo.length) : (loopE lo).take (i + 1) = (loopE lo).take i ++ [(lo.getD i 0, lo.getD ((i + 1) % lo.length) 0)] := by
  have h := loopE_at hi
  obtain ⟨h1, h2⟩ := List.getElem?_eq_some_iff.1 h
  rw [List.take_succ_eq_append_getElem h1, h2]
/-- An inner vertex is there. -/
theorem inner_rng {N : Int} {T : List T3} {v : Int} (h : innerAt T N v = true) : 0 ≤ v ∧ v < N := by
  unfold innerAt at h
  split at h
  · assumption
  · cases h
theorem CutOk.star {N : Int} {T : List T3} {v : Int} {Es : List (Int × Int)} (h : CutOk N T (loopE (linkAt T N v)) Es) (hi : innerAt T N v = true) : Star N T v (newX N T ((loopE (linkAt T N v)).map nm)) (newO N T ((loopE (linkAt T N v)).map nm)) :=
  ⟨h.surf, inner_rng hi, hi, h.numb, h.parts, h.cut⟩
end Go.Mesh
namespace Go.Proofs.YtpbdcppaiafbgaaGreat
open Go Go.RowKit Go.Words Go.Mesh
theorem loop_ok {N : Int} {T : List T3} (hs : Surf N T) {v : Int} (hv : 0 ≤ v ∧ v < N) : ∀ e ∈ loopE (linkAt T N v), ok2 e := fun e he => by
  obtain ⟨i, hi, rfl⟩ := mem_loopE.1 he
  have h1 := link_rng hs hv (getD_mem hi)
  have h2 := link_rng hs hv (getD_mem (Nat.mod_lt (i + 1) (show 0 < (linkAt T N v).length by omega)))
  have := hs.nmax
  constructor
  · show I64 _
    unfold I64
    simp only []
    omega
  · show I64 _
    unfold I64
    simp only []
    omega
theorem infoE : (Tryz.prog.info? 39).map (fun i => (i.zero, i.size, i.bytes)) = some (some (.agg #[.int .i64 0, .int .i64 0]), 2, 16) := by kernel_rfl
theorem flat2_snoc (l : List (Int × Int)) (e : Int × Int) : flat2 (l ++ [e]) = flat2 l ++ [.int .i64 e.1, .int .i64 e.2] := by unfold flat2; rw [List.flatMap_append]; rfl
set_option maxRecDepth 40000 in
set_option maxHeartbeats 8000000 in
theorem cutstar_law (sv : Value) (N : Int) (T : List T3) (v : Int) (w : World) {B : Nat} (hB0 : B ≤ w.heap.size) (hT : Sl 3 RTri w B sv T) (hN : I64 N) :
    Calls Tryz.prog 9 #[.agg #[.int .i64 N, sv], .int .i64 v] w fun e w' => e = .returned (.bool true) ∧ Below w.heap.size w w' := by
  obtain ⟨A, cap, rfl, hcap⟩ := hT.form
  have hb0 := (Below.refl w.heap.size w).alloc (Nat.le_refl _) (.cells #[.int .i64 N, .slice A T.length cap] 24)
  have hk0 := Bk.new w 24 [.int .i64 N, .slice A T.length cap]
  have haw := awake19_calls (w.alloc (.cells #[.int .i64 N, .slice A T.length cap] 24))
  have hz0 : w.heap.size + 1 ≤ (w.alloc (.cells #[.int .i64 N, .slice A T.length cap] 24)).heap.size := by simp
  generalize hw0 : w.alloc (.cells #[.int .i64 N, .slice A T.length cap] 24) = w0 at *
  have HhT := Lib.hid hT; clear hT; have Hhaw := Lib.hid haw; clear haw; have Hhk0 := Lib.hid hk0; clear hk0
  go_enter Tryz.func9, Tryz.ntmps9
  go_wp2_with fail
  clear hw0
  refine Hhaw.out.mono ?_
  rintro e w1 ⟨rfl, hb1⟩
  have hz1 := hb1.size
  have hbel1 := hb0.trans (hb1.mono hb0.size)
  have hk1 := Hhk0.out.below hb1 (by omega)
  have c0 : w1.cell? ⟨w.heap.size, 0, none⟩ = some (.int .i64 N) := hk1.cell 0
  have c1 : w1.cell? ⟨w.heap.size, 1, none⟩ = some (.slice A T.length cap) := hk1.cell 1
  have hk1 := hk1
  have hgr := great19_calls N A none T.length 0 cap 0 w1
  obtain ⟨bg, hbg⟩ : ∃ bg, big19 N T.length 0 = bg := ⟨_, rfl⟩
  rw [hbg] at hgr
  have Hhk1 := Lib.hid hk1; clear hk1; have Hhgr := Lib.hid hgr; clear hgr
  go_wp2_with fail
  refine Hhgr.out.mono ?_
  rintro e w2 ⟨rfl, hb2⟩
  have hz2 := hb2.size
  have hbel2 := hbel1.trans (hb2.mono hbel1.size)
  cases bg with
  | true =>
    go_wp2_with fail
    go_ret
    exact ⟨rfl, hbel2⟩
  | false =>
    have hsm := small19 hbg
    have hk2 := Hhk1.out.below hb2 (by omega)
    have d0 : w2.cell? ⟨w.heap.size, 0, none⟩ = some (.int .i64 N) := hk2.cell 0
    have d1 : w2.cell? ⟨w.heap.size, 1, none⟩ = some (.slice A T.length cap) := hk2.cell 1
    have hT2 := HhT.out.below keeps_tri (hbel2.mono hB0)
    have hnw := new_calls (.slice A T.length cap) N T w2 (show B ≤ w2.heap.size by omega) hT2 hN
    have HhT2 := Lib.hid hT2; clear hT2; have Hhk2 := Lib.hid hk2; clear hk2; have Hhnw := Lib.hid hnw; clear hnw
    go_wp2_with fail
    refine Hhnw.out.mono ?_
    rintro e w3 ⟨⟨pv, x1, x2, x3, rfl, hor⟩, hb3⟩
    have hz3 := hb3.size
    have hb4 := (Below.refl w3.heap.size w3).alloc (Nat.le_refl _) (.cells #[.int .i64 x1, .int .i64 x2, .int .i64 x3] 48)
    have hb24 := hb3.trans (hb4.mono hz3)
    have hbel4 := hbel2.trans (hb24.mono hbel2.size)
    have hk4 := (Hhk2.out.below hb3 (by omega)).alloc (.cells #[.int .i64 x1, .int .i64 x2, .int .i64 x3] 48)
    have hz4 : w3.heap.size + 1 ≤ (w3.alloc (.cells #[.int .i64 x1, .int .i64 x2, .int .i64 x3] 48)).heap.size := by simp
    have hT4 := HhT2.out.below keeps_tri (hb24.mono (show B ≤ w2.heap.size by omega))
    rcases hor with ⟨hs, htab⟩ | ⟨hns, rfl⟩
    case inr =>
      have Hhk4 := Lib.hid hk4; clear hk4; have HhT4 := Lib.hid hT4; clear hT4
      go_wp2_with fail
      go_ret
      exact ⟨rfl, hbel4⟩
    obtain ⟨gt, rfl⟩ : ∃ g, pv = .pointer (some g) := by
      obtain ⟨g, _, _, _, _, _, rfl, _⟩ := htab
      exact ⟨_, rfl⟩
    have htab4 := htab.below hb4 (Nat.le_refl _)
    obtain ⟨w4, hw4⟩ : ∃ w4, w3.alloc (.cells #[.int .i64 x1, .int .i64 x2, .int .i64 x3] 48) = w4 := ⟨_, rfl⟩
    rw [hw4] at hb4 hb24 hbel4 hk4 hz4 hT4 htab4
    have hin := inner_calls (.inl htab4) hs v
    have e0 : w4.cell? ⟨w.heap.size, 0, none⟩ = some (.int .i64 N) := hk4.cell 0
    have e1 : w4.cell? ⟨w.heap.size, 1, none⟩ = some (.slice A T.length cap) := hk4.cell 1
    obtain ⟨ib, hib⟩ : ∃ ib, innerAt T N v = ib := ⟨_, rfl⟩
    rw [hib] at hin
    have Hhtab := Lib.hid htab; clear htab; have Hhtab4 := Lib.hid htab4; clear htab4; have Hhs := Lib.hid hs; clear hs; have Hhk4 := Lib.hid hk4; clear hk4; have HhT4 := Lib.hid hT4; clear hT4; have Hhin := Lib.hid hin; clear hin; have Hhib := Lib.hid hib; clear hib
    go_wp2_with fail
    clear hw4
    refine Hhin.out.mono ?_
    rintro e w5 ⟨rfl, hb5⟩
    have hz5 := hb5.size
    have hb45 := hb5
    have hbel5 := hbel4.trans (hb5.mono hbel4.size)
    cases ib with
    | false =>
      go_wp2_with fail
      go_ret
      exact ⟨rfl, hbel5⟩
    | true =>
    have hrv := inner_rng Hhib.out
    have htab5 := Hhtab4.out.below hb5 (by omega)
    have hlk := link_calls (.inl htab5) Hhs.out v
    have hll : (linkAt T N v).length = (ringAt T N v).length := by rw [link_len Hhs.out hrv, if_pos Hhib.out]; rfl
    have h3l : 3 ≤ (linkAt T N v).length := by rw [hll]; exact inner_three Hhs.out hrv Hhib.out
    have hlf : (linkAt T N v).length ≤ 3 * T.length := by
      obtain ⟨hne, r⟩ := Hhs.out.ring_in hrv
      have h9 := nodup_len r.nodup (m := List.range (3 * T.length)) fun x hx => List.mem_range.2 ((r.mem x).1 hx).1
      rw [List.length_range] at h9
      omega
    have hlok := loop_ok Hhs.out hrv
    have hsc := fun (c : Int) (h : AlongC N T (loopE (linkAt T N v)) c) => star_cut Hhs.out hrv Hhib.out (by omega) h
    have hst := fun (Es : List (Int × Int)) (h : CutOk N T (loopE (linkAt T N v)) Es) => h.star Hhib.out
    obtain ⟨lo, hlo⟩ : ∃ lo, lo = linkAt T N v := ⟨_, rfl⟩
    rw [← hlo] at hlk hll h3l hlf hlok hsc hst
    have Hhtab5 := Lib.hid htab5; clear htab5; have Hhlk := Lib.hid hlk; clear hlk; have Hhlok := Lib.hid hlok; clear hlok; have Hhsc := Lib.hid hsc; clear hsc; have Hhst := Lib.hid hst; clear hst; have Hhlo := Lib.hid hlo; clear hlo; have Hhll := Lib.hid hll; clear hll
    go_wp2_with fail
    refine Hhlk.out.mono ?_
    rintro e w6 ⟨⟨r, rfl, hown6⟩, hb6⟩
    have hsl6 : Sl 1 RInt w6 w6.heap.size r lo := sl_ivals hown6
    obtain ⟨A6, cap6, rfl, hcap6⟩ := hsl6.form
    have hz6 := hb6.size
    have hbel6 := hbel5.trans (hb6.mono hbel5.size)
    have hb46 : Below w4.heap.size w4 w6 := hb5.trans (hb6.mono hz5)
    have hlE := loopE_len lo
    have hne0 : ((lo.length : Int) == 0) = false := by rw [beq_eq_false_iff_ne]; omega
    have hpos0 : 0 < (lo.length : Int) := by omega
    clear hown6
    have Hhsl6 := Lib.hid hsl6; clear hsl6; have HhlE := Lib.hid hlE; clear hlE
    go_wp2_with fail
    go_loopw [8, 9] (fun lv iv wr => ∃ i : Nat, i ≤ lo.length ∧ iv = .int .i64 (i : Int) ∧ wr.ownsRow w6.heap.size 39 2 lv i (flat2 ((loopE lo).take i)) ∧ Below w6.heap.size w6 wr) (fun _ iv _ => lo.length - (intOf iv).toNat)
    case atStart => exact ⟨0, by omega, rfl, World.ownsRow_nil _ _ _ _, Below.refl _ _⟩
    case round =>
      obtain ⟨i, hi, rfl, hown, hbr⟩ := hrel
      obtain ⟨wq, hwq⟩ : ∃ wq, wq = wr := ⟨_, rfl⟩
      subst hwq
      have hzr := hbr.size
      by_cases hil : i < lo.length
      · obtain ⟨j, hj⟩ : ∃ j, (i + 1) % lo.length = j := ⟨_, rfl⟩
        have hjl : j < lo.length := by rw [← hj]; exact Nat.mod_lt _ (by omega)
        have hji : ((i : Int) + 1) % (lo.length : Int) = (j : Int) := by rw [← hj]; exact (Int.natCast_emod (i + 1) lo.length).symm
        have hslr := Hhsl6.out.below keeps_int hbr
        obtain ⟨b, o, rfl, hb, ci⟩ := hslr.int_at hil
        obtain ⟨b', o', h1, hb', cj⟩ := hslr.int_at hjl
        injection h1 with h1
        injection h1 with h1 h2
        subst h1; subst h2
        have hsn := loopE_snoc hil
        rw [hj, show lo.getD i 0 = lo[i] by rw [List.getD_eq_getElem?_getD, List.getElem?_eq_getElem hil]; rfl, show lo.getD j 0 = lo[j] by rw [List.getD_eq_getElem?_getD, List.getElem?_eq_getElem hjl]; rfl] at hsn
        generalize lo[i] = y1 at *
        generalize lo[j] = y2 at *
        have hbw : b < wq.heap.size := by omega
        clear hj
        obtain ⟨Al, capl, rfl, hcapl⟩ := own_form hown
        have Hhown := Lib.hid hown; clear hown; have Hhslr := Lib.hid hslr; clear hslr; have Hhsn := Lib.hid hsn; clear hsn
        go_wp2_with fail
        refine Go.Canon.wp_region_text mixed (by kernel_rfl) ?_
        go_wp2_with (at_builtin; refine append_block _ rfl (.tmp 47) (.tmp 61) 25 rfl w6.heap.size infoE Tryz.underlying25 rfl (by decide) _ i _ rfl ((own_drew Hhown.out).alloc _) wq.heap.size [.int .i64 y1, .int .i64 y2] rfl (Bk.new' _ _ (by simp)) rfl (by simp [Value.oneCell']) (by omega) (by omega) (by simp; omega) ?_)
        intro v' wE hownE hbE hgE _
        obtain ⟨gv, cv, rfl⟩ := ownsRow_succ hownE
        have hbF := ((hbr.drew.alloc (by simp; omega) (.cells #[.int .i64 y1, .int .i64 y2] 39)).trans hbE)
        rw [show flat2 ((loopE lo).take i) ++ [Value.int .i64 y1, .int .i64 y2] = flat2 ((loopE lo).take (i + 1)) by rw [Hhsn.out, flat2_snoc]] at hownE
        have HhownE := Lib.hid hownE; clear hownE; have HhbE := Lib.hid hbE; clear hbE; have HhgE := Lib.hid hgE; clear hgE; have HhbF := Lib.hid hbF; clear hbF
        go_wp2_with fail
        refine Go.Canon.chk (by rfl) ?_
        go_wp2_with fail
        exact ⟨⟨i + 1, by omega, by simp, HhownE.out, HhbF.out⟩, by simp [intOf]; omega⟩
      · obtain rfl : i = lo.length := by omega
        rw [List.take_of_length_le (by rw [HhlE.out]; exact Nat.le_refl _)] at hown
        obtain ⟨Al, capl, rfl, hcapl⟩ := own_form hown
        have hslE : Sl 2 RPair wq wq.heap.size (.slice Al lo.length capl) (loopE lo) := Sl.of_own (by rw [HhlE.out]; exact hown) fun i a hi => flat2_at (loopE lo) i a hi
        have hb4r : Below w4.heap.size w4 wq := hb46.trans (hbr.mono (by omega))
        have hbelr := hbel6.trans (hbr.mono hbel6.size)
        have hTr := (HhT4.out.below keeps_tri (hb4r.mono (by omega))).keep keeps_tri (Below.refl _ _) (show B ≤ wq.heap.size by omega)
        have s0 := (hb4r.cell (p := ⟨w.heap.size, 0, none⟩) (by show w.heap.size < _; omega)).trans e0
        have s1 := (hb4r.cell (p := ⟨w.heap.size, 1, none⟩) (by show w.heap.size < _; omega)).trans e1
        have hal := along_calls (w := wq) (B := wq.heap.size) (Nat.le_refl _) hTr hN hslE Hhlok.out (by rw [HhlE.out]; omega)
        have Hhown := Lib.hid hown; clear hown; have HhslE := Lib.hid hslE; clear hslE; have HhTr := Lib.hid hTr; clear hTr; have Hhal := Lib.hid hal; clear hal
        go_wp2_with fail
        refine Hhal.out.mono ?_
        rintro e w7 ⟨⟨r, c, rfl, hend⟩, hb7⟩
        have hz7 := hb7.size
        have hbel7 := hbelr.trans (hb7.mono hbelr.size)
        rcases Hhsc.out c hend.1 with rfl | rfl
        case inr =>
          obtain rfl := hend.2.1 (by decide)
          have hbf := hbel7.alloc hbel7.size (.cells #[.int .i64 0, .slice none 0 0] 24)
          have Hhend := Lib.hid hend; clear hend; have Hhbf := Lib.hid hbf; clear hbf
          go_wp2_with fail
          go_ret
          exact ⟨rfl, Hhbf.out⟩
        obtain ⟨xv, wv, pv, Es, rfl, hcut, hX, hO, hP⟩ := hend.ok
        have hstar := Hhst.out _ hcut
        have hfew := hcut.few
        clear hend
        have hXl := hstar.numb.len
        have hsX := hstar.cut
        have hring := hstar.ring
        have hshell := fun (a b : Nat) (ha : AtV T v a) => hstar.shell (a := a) (b := b) ha
        obtain ⟨A4, cap4, rfl, hcap4⟩ := hO.form
        obtain ⟨A5, cap5, rfl, hcap5⟩ := hP.form
        obtain ⟨A3, cap3, rfl, hcap3⟩ := hX.form
        generalize newX N T ((loopE lo).map nm) = X at *
        generalize newO N T ((loopE lo).map nm) = O at *
        rw [hXl] at hX hcap3 ⊢
        have hb8 := (Below.refl w7.heap.size w7).alloc (Nat.le_refl _) (.cells #[.int .i64 (O.length : Nat), .slice A3 T.length cap3] 24)
        have hk8 := Bk.new w7 24 [.int .i64 (O.length : Nat), .slice A3 T.length cap3]
        have hz8 : w7.heap.size + 1 ≤ (w7.alloc (.cells #[.int .i64 (O.length : Nat), .slice A3 T.length cap3] 24)).heap.size := by simp
        have hbel8 := hbel7.trans (hb8.mono hbel7.size)
        have hX8 := hX.below keeps_tri hb8
        have hb48 : Below w4.heap.size w4 (w7.alloc (.cells #[.int .i64 (O.length : Nat), .slice A3 T.length cap3] 24)) := (hb4r.trans (hb7.mono (by omega))).trans (hb8.mono (by omega))
        obtain ⟨w8, hw8⟩ : ∃ w8, w7.alloc (.cells #[.int .i64 (O.length : Nat), .slice A3 T.length cap3] 24) = w8 := ⟨_, rfl⟩
        rw [hw8] at hb8 hk8 hz8 hbel8 hX8 hb48
        have t0 : w8.cell? ⟨w7.heap.size, 0, none⟩ = some (.int .i64 (O.length : Nat)) := hk8.cell 0
        have t1 : w8.cell? ⟨w7.heap.size, 1, none⟩ = some (.slice A3 T.length cap3) := hk8.cell 1
        have hnX := new_calls (.slice A3 T.length cap3) (O.length : Nat) X w8 (show w7.heap.size ≤ w8.heap.size by omega) hX8 (I64.nat (by omega))
        have u0 := (hb48.cell (p := ⟨w.heap.size, 0, none⟩) (by show w.heap.size < _; omega)).trans e0
        have u1 := (hb48.cell (p := ⟨w.heap.size, 1, none⟩) (by show w.heap.size < _; omega)).trans e1
        have hT8 := HhT4.out.below keeps_tri (hb48.mono (by omega))
        have HhX := Lib.hid hX; clear hX; have HhO := Lib.hid hO; clear hO; have HhP := Lib.hid hP; clear hP; have HhX8 := Lib.hid hX8; clear hX8; have Hhk8 := Lib.hid hk8; clear hk8; have Hhcut := Lib.hid hcut; clear hcut; have Hhstar := Lib.hid hstar; clear hstar; have HhsX := Lib.hid hsX; clear hsX; have Hhring := Lib.hid hring; clear hring; have Hhshell := Lib.hid hshell; clear hshell; have HhnX := Lib.hid hnX; clear hnX; have HhT8 := Lib.hid hT8; clear hT8
        go_wp2_with fail
        clear hw8
        refine HhnX.out.mono ?_
        rintro e w9 ⟨⟨uv, b1, b2, b3, rfl, hor⟩, hb9⟩
        rcases hor with ⟨_, hutab⟩ | ⟨h9, _⟩
        case inr => exact absurd HhsX.out h9
        obtain ⟨gu, rfl⟩ : ∃ g, uv = .pointer (some g) := by
          obtain ⟨g, _, _, _, _, _, rfl, _⟩ := hutab
          exact ⟨_, rfl⟩
        have hz9 := hb9.size
        obtain ⟨w10, hw10⟩ : ∃ w10, w9.alloc (.cells #[.int .i64 b1, .int .i64 b2, .int .i64 b3] 48) = w10 := ⟨_, rfl⟩
        have hb10 : Below w9.heap.size w9 w10 := by rw [← hw10]; exact (Below.refl w9.heap.size w9).alloc (Nat.le_refl _) _
        have hz10 : w9.heap.size + 1 ≤ w10.heap.size := by rw [← hw10]; simp
        have hb810 : Below w8.heap.size w8 w10 := hb9.trans (hb10.mono hz9)
        have hutab10 := hutab.below hb10 (Nat.le_refl _)
        have hof := of_calls hutab10 HhsX.out
        have hbel10 := hbel8.trans (hb810.mono hbel8.size)
        have c0 := (hb810.cell (p := ⟨w.heap.size, 0, none⟩) (by show w.heap.size < _; omega)).trans u0
        have c1 := (hb810.cell (p := ⟨w.heap.size, 1, none⟩) (by show w.heap.size < _; omega)).trans u1
        have hT10 := HhT8.out.below keeps_tri (hb810.mono (by omega))
        have Hhutab := Lib.hid hutab; clear hutab; have Hhutab10 := Lib.hid hutab10; clear hutab10; have Hhof := Lib.hid hof; clear hof; have HhT10 := Lib.hid hT10; clear hT10
        go_wp2_with fail
        clear hw10
        refine Hhof.out.mono ?_
        rintro e w11 ⟨⟨go, out, C, rfl, hko, hpt, hgo⟩, hb11⟩
        rw [show X.length = T.length from hXl]
        have hz11 := hb11.size
        have hbel11 := hbel10.trans (hb11.mono hbel10.size)
        have d0 := (hb11.cell (p := ⟨w.heap.size, 0, none⟩) (by show w.heap.size < _; omega)).trans c0
        have d1 := (hb11.cell (p := ⟨w.heap.size, 1, none⟩) (by show w.heap.size < _; omega)).trans c1
        have hT11 := HhT10.out.below keeps_tri (hb11.mono (by omega))
        have hutab11 := Hhutab10.out.below hb11 (by omega)
        have hol : out.length = T.length := by rw [hpt.len, hXl]
        -- the number of the vertex's triangles
        obtain ⟨t9, ht9, m9, hm9, hav9⟩ : ∃ t9, t9 < T.length ∧ ∃ m9, out[t9]? = some m9 ∧ AtV T v t9 := by
          obtain ⟨c9, hc9, hv9⟩ := Hhs.out.used v hrv.1 hrv.2
          have h9 : c9 / 3 < T.length := by omega
          exact ⟨c9 / 3, h9, _, List.getElem?_eq_getElem (by rw [hol]; exact h9), c9, hc9, rfl, hv9⟩
        have hmine : ∀ t, t < T.length → ∃ m, out[t]? = some m ∧ (m = m9 ↔ AtV T v t) ∧ -1 ≤ m := fun t ht => by
          obtain ⟨m, h1, h2, _⟩ := hpt.val (x := t) (by rw [hXl]; exact ht)
          refine ⟨m, h1, ?_, h2⟩
          rw [HhsX.out |> fun hs => (hpt.same hs (x := t9) (y := t) (by rw [hXl]; exact ht9) (by rw [hXl]; exact ht) hm9 h1 |> fun h => (⟨fun e => h.1 e.symm, fun e => (h.2 e).symm⟩ : m = m9 ↔ Con X t9 t))]
          exact (Hhshell.out _ _ hav9).symm
        have hm90 : 0 ≤ m9 := by
          obtain ⟨i, _, h1, _⟩ := hpt.full (x := t9) (by rw [hXl]; exact ht9)
          rw [hm9] at h1
          have := Option.some.inj h1
          omega
        have Hhko := Lib.hid hko; clear hko; have Hhpt := Lib.hid hpt; clear hpt; have HhT11 := Lib.hid hT11; clear hT11; have Hhutab11 := Lib.hid hutab11; clear hutab11; have Hhmine := Lib.hid hmine; clear hmine; have Hhm9 := Lib.hid hm9; clear hm9; have Hhav9 := Lib.hid hav9; clear hav9
        go_wp2_with fail
        all_goals first | (exfalso; omega) | skip
        go_loopw [17, 18] (fun mv iv wr => ∃ (i : Nat) (mi : Int), i ≤ T.length ∧ iv = .int .i64 (i : Int) ∧ mv = .int .i64 mi ∧ ((mi = -1 ∧ i ≤ t9) ∨ mi = m9) ∧ Below w11.heap.size w11 wr) (fun _ iv _ => T.length - (intOf iv).toNat)
        case atStart => exact ⟨0, -1, by omega, rfl, rfl, .inl ⟨rfl, by omega⟩, Below.refl _ _⟩
        case round =>
          obtain ⟨i, mi, hi, rfl, rfl, hmv, hbr⟩ := hrel
          have hzr := hbr.size
          have q0 := (hbr.cell (p := ⟨w.heap.size, 0, none⟩) (by show w.heap.size < _; omega)).trans d0
          have q1 := (hbr.cell (p := ⟨w.heap.size, 1, none⟩) (by show w.heap.size < _; omega)).trans d1
          have hgo11 : go < w11.heap.size := Hhko.out.lt
          by_cases hil : i < T.length
          · obtain ⟨b, o, rfl, hb, a1, a2, a3⟩ := (HhT11.out.below keeps_tri (hbr.mono (by omega))).tri_at hil
            obtain ⟨m, hm1, hm2, hm3⟩ := Hhmine.out i hil
            have hkr := Hhko.out.below hbr hgo11
            have cm : wr.cell? ⟨go, i, none⟩ = some (.int .i64 m) := (hkr.cell i).trans (ivals_at hm1)
            have hhas := has15_calls T[i] v wr
            have hat := haB_at hil (v := v)
            obtain ⟨hh, hhe⟩ : ∃ hh, haB T[i] v = hh := ⟨_, rfl⟩
            rw [hhe] at hhas hat
            clear hhe
            generalize T[i] = tt at *
            obtain ⟨y1, y2, y3⟩ := tt
            simp only [] at a1 a2 a3
            change Calls _ _ #[.agg #[.int .i64 y1, .int .i64 y2, .int .i64 y3], .int .i64 v] wr _ at hhas
            have hav := Hhav9.out
            cases hh with
            | false =>
              have hnt : ¬ AtV T v i := fun h9 => by have := hat.2 h9; cases this
              have hmv' : (mi = -1 ∧ i + 1 ≤ t9) ∨ mi = m9 := by
                rcases hmv with ⟨h1, h2⟩ | h1
                · refine .inl ⟨h1, ?_⟩
                  rcases Nat.lt_or_ge i t9 with h3 | h3
                  · exact h3
                  · exact absurd (by have : i = t9 := by omega
                                     rw [this]; exact hav) hnt
                · exact .inr h1
              have Hhmv := Lib.hid hmv; clear hmv; have Hhmv' := Lib.hid hmv'; clear hmv'; have Hhm1 := Lib.hid hm1; clear hm1; have Hhm2 := Lib.hid hm2; clear hm2; have Hhhas := Lib.hid hhas; clear hhas; have Hhat := Lib.hid hat; clear hat; have Hhav := Lib.hid hav; clear hav; have Hhkr := Lib.hid hkr; clear hkr; have Hhnt := Lib.hid hnt; clear hnt
              go_wp2_with fail
              refine Hhhas.out.mono ?_
              rintro e wz ⟨rfl, hbz⟩
              have hbrz := hbr.trans (hbz.mono hbr.size)
              go_wp2_with fail
              exact ⟨⟨i + 1, mi, by omega, by simp, rfl, Hhmv'.out, hbrz⟩, by simp [intOf]; omega⟩
            | true =>
              obtain rfl := hm2.2 (hat.1 rfl)
              have hmne : (m != m) = false := by simp
              have Hhm1 := Lib.hid hm1; clear hm1; have Hhm2 := Lib.hid hm2; clear hm2; have Hhhas := Lib.hid hhas; clear hhas; have Hhat := Lib.hid hat; clear hat; have Hhav := Lib.hid hav; clear hav; have Hhkr := Lib.hid hkr; clear hkr
              rcases hmv with ⟨rfl, h2⟩ | rfl
              · go_wp2_with fail
                refine Hhhas.out.mono ?_
                rintro e wz ⟨rfl, hbz⟩
                have hbrz := hbr.trans (hbz.mono hbr.size)
                have cz := (hbz.cell (p := ⟨go, i, none⟩) (show go < wr.heap.size by omega)).trans cm
                go_wp2_with fail
                exact ⟨⟨i + 1, _, by omega, by simp, rfl, .inr rfl, hbrz⟩, by simp [intOf]; omega⟩
              · go_wp2_with fail
                refine Hhhas.out.mono ?_
                rintro e wz ⟨rfl, hbz⟩
                have hbrz := hbr.trans (hbz.mono hbr.size)
                have cz := (hbz.cell (p := ⟨go, i, none⟩) (show go < wr.heap.size by omega)).trans cm
                go_wp2_with fail
                all_goals first | (exfalso; omega) | skip
                exact ⟨⟨i + 1, _, by omega, by simp, rfl, .inr rfl, hbrz⟩, by simp [intOf]; omega⟩
          · obtain rfl : i = T.length := by omega
            rcases hmv with ⟨_, h2⟩ | hmi
            case inl => omega
            have hmi := hmi.symm
            subst hmi
            obtain ⟨wb, hwb⟩ : ∃ wb, wb = wr := ⟨_, rfl⟩
            subst hwb
            go_wp2_with fail
            all_goals first | (exfalso; omega) | skip
            go_loopw [19] (fun iv wr => ∃ i : Nat, i ≤ T.length ∧ iv = .int .i64 (i : Int) ∧ Below w11.heap.size w11 wr) (fun iv _ => T.length - (intOf iv).toNat)
            case atStart => exact ⟨0, by omega, rfl, hbr⟩
            case round =>
              clear q0 q1 hbr hzr
              obtain ⟨i, hi, rfl, hbr⟩ := hrel
              have hzr := hbr.size
              have q0 := (hbr.cell (p := ⟨w.heap.size, 0, none⟩) (by show w.heap.size < _; omega)).trans d0
              have q1 := (hbr.cell (p := ⟨w.heap.size, 1, none⟩) (by show w.heap.size < _; omega)).trans d1
              by_cases hil : i < T.length
              · obtain ⟨b, o, rfl, hb, a1, a2, a3⟩ := (HhT11.out.below keeps_tri (hbr.mono (by omega))).tri_at hil
                obtain ⟨m, hm1, hm2, hm3⟩ := Hhmine.out i hil
                have hkr := Hhko.out.below hbr hgo11
                have cm : wr.cell? ⟨go, i, none⟩ = some (.int .i64 m) := (hkr.cell i).trans (ivals_at hm1)
                have hhas := has15_calls T[i] v wr
                have hat := haB_at hil (v := v)
                obtain ⟨hh, hhe⟩ : ∃ hh, haB T[i] v = hh := ⟨_, rfl⟩
                rw [hhe] at hhas hat
                clear hhe
                generalize T[i] = tt at *
                obtain ⟨y1, y2, y3⟩ := tt
                simp only [] at a1 a2 a3
                change Calls _ _ #[.agg #[.int .i64 y1, .int .i64 y2, .int .i64 y3], .int .i64 v] wr _ at hhas
                by_cases hmm : m = m9
                · have hq : (m == m9) = true := beq_iff_eq.2 hmm
                  have hht : hh = true := hat.2 (hm2.1 hmm)
                  subst hht
                  have Hhm1 := Lib.hid hm1; clear hm1; have Hhm2 := Lib.hid hm2; clear hm2; have Hhhas := Lib.hid hhas; clear hhas; have Hhat := Lib.hid hat; clear hat; have Hhkr := Lib.hid hkr; clear hkr; have Hhmm := Lib.hid hmm; clear hmm
                  go_wp2_with fail
                  all_goals first | (exfalso; omega) | skip
                  refine Hhhas.out.mono ?_
                  rintro e wz ⟨rfl, hbz⟩
                  have hbrz := hbr.trans (hbz.mono hbr.size)
                  go_wp2_with fail
                  exact ⟨⟨i + 1, by omega, by simp, hbrz⟩, by simp [intOf]; omega⟩
                · have hq : (m == m9) = false := beq_eq_false_iff_ne.2 hmm
                  have Hhm1 := Lib.hid hm1; clear hm1; have Hhm2 := Lib.hid hm2; clear hm2; have Hhhas := Lib.hid hhas; clear hhas; have Hhat := Lib.hid hat; clear hat; have Hhkr := Lib.hid hkr; clear hkr; have Hhmm := Lib.hid hmm; clear hmm
                  go_wp2_with fail
                  all_goals first | (exfalso; omega) | skip
                  exact ⟨⟨i + 1, by omega, by simp, hbr⟩, by simp [intOf]; omega⟩
              · obtain rfl : i = T.length := by omega
                have hring := Hhring.out
                have hll := Hhll.out
                have hti := inner_calls (.inl (Hhutab11.out.below hbr (by omega))) HhsX.out v
                have htd := fun wz (hz : Below w11.heap.size w11 wz) => degree_calls (.inl (Hhutab11.out.below hz (by omega))) HhsX.out v
                rw [hring.1] at hti
                rw [hring.2, ← hll] at htd
                have hbfr := hbel11.trans (hbr.mono hbel11.size)
                have hqq : ((lo.length : Int) == (lo.length : Int)) = true := beq_self_eq_true _
                have Hhring := Lib.hid hring; clear hring; have Hhti := Lib.hid hti; clear hti; have Hhtd := Lib.hid htd; clear htd
                go_wp2_with fail
                all_goals first | (exfalso; omega) | skip
                refine Hhti.out.mono ?_
                rintro e wz ⟨rfl, hbz⟩
                have hbfz := hbfr.trans (hbz.mono hbfr.size)
                have htz := Hhtd.out wz (hbr.trans (hbz.mono hbr.size))
                have Hhtz := Lib.hid htz; clear htz
                go_wp2_with fail
                refine Hhtz.out.mono ?_
                rintro e wy ⟨rfl, hby⟩
                have hbfy := hbfz.trans (hby.mono hbfz.size)
                go_wp2_with fail
                go_ret
                exact ⟨ret_bool (by first | rfl | simp), hbfy⟩
end Go.Proofs.YtpbdcppaiafbgaaGreat
