/- Walks: ref19's Sectors. -/
import Derived.Test.YtpbdcppaiafbgaaGreatRO
namespace Go.Proofs.YtpbdcppaiafbgaaGreat
open Go Go.RowKit Go.Words Go.Mesh
set_option maxRecDepth 40000 in
set_option maxHeartbeats 8000000 in
theorem sect19_calls {w : World} {B : Nat} {sv lv : Value} {N : Int} {T : List T3} {L : List (Int × Int)} (hT : Sl 3 RTri w B sv T) (hl : Sl 2 RPair w B lv L) (hB0 : B ≤ w.heap.size) (hs : Surf N T) (hfew : T.length ≤ 200) (hll : L.length ≤ 1000) (v : Int) (hv : 0 ≤ v ∧ v < N) :
    Calls Tryz.prog 71 #[.agg #[.int .i64 N, sv], lv, .int .i64 v] w fun e w' => (∃ r, e = .returned r ∧ ORows w' w.heap.size r (secL T (L.map nm) v (3 * T.length))) ∧ Below w.heap.size w w' := by
  obtain ⟨A, cap, rfl, hcap⟩ := hT.form
  obtain ⟨Al, capl, rfl, hcapl⟩ := hl.form
  have hb0 := (Below.refl w.heap.size w).alloc (Nat.le_refl _) (.cells #[.int .i64 N, .slice A T.length cap] 24)
  have hk0 := Bk.new w 24 [.int .i64 N, .slice A T.length cap]
  have hz0 : w.heap.size + 1 ≤ (w.alloc (.cells #[.int .i64 N, .slice A T.length cap] 24)).heap.size := by simp
  have hT0 := hT.below keeps_tri (hb0.mono hB0)
  have hl0 := hl.below keeps_pair (hb0.mono hB0)
  generalize hw0 : w.alloc (.cells #[.int .i64 N, .slice A T.length cap] 24) = w0 at *
  have har := refAround_calls hT0 (show B ≤ w0.heap.size by omega) hs v
  have d0 : w0.cell? ⟨w.heap.size, 0, none⟩ = some (.int .i64 N) := hk0.cell 0
  have d1 : w0.cell? ⟨w.heap.size, 1, none⟩ = some (.slice A T.length cap) := hk0.cell 1
  have hsl := hs.tmax
  have hNm := hs.nmax
  have HhT := Lib.hid hT; clear hT; have Hhl := Lib.hid hl; clear hl; have HhT0 := Lib.hid hT0; clear hT0; have Hhl0 := Lib.hid hl0; clear hl0; have Hhk0 := Lib.hid hk0; clear hk0; have Hhar := Lib.hid har; clear har
  go_enter Tryz.func71, Tryz.ntmps71
  go_wp2_with fail
  clear hw0
  refine Hhar.out.mono ?_
  rintro e w1 ⟨⟨r7, rfl, hown7⟩, hb1⟩
  have hring : 0 < (ringAt T N v).length ∧ Ring T v (ringAt T N v) (innerAt T N v) := by
    rcases hs.ring_or v with ⟨_, h, _⟩ | ⟨h1, _, h2⟩
    · exact absurd hv h
    · exact ⟨h1, h2⟩
  have hTz : ∀ wz, Below w0.heap.size w0 wz → Sl 3 RTri wz B (.slice A T.length cap) T := fun wz hz => HhT0.out.below keeps_tri (hz.mono (show B ≤ w0.heap.size by omega))
  have hlz : ∀ wz, Below w0.heap.size w0 wz → Sl 2 RPair wz B (.slice Al L.length capl) L := fun wz hz => Hhl0.out.below keeps_pair (hz.mono (show B ≤ w0.heap.size by omega))
  have hBz : ∀ wz, Below w0.heap.size w0 wz → B ≤ wz.heap.size := fun wz hz => by have := hz.size; omega
  have hkz : ∀ wz, Below w0.heap.size w0 wz → Bk wz w.heap.size 24 [.int .i64 N, .slice A T.length cap] := fun wz hz => Hhk0.out.below hz (by omega)
  have hinz : ∀ wz, Below w0.heap.size w0 wz → Calls Tryz.prog 114 #[.agg #[.int .i64 N, .slice A T.length cap], .int .i64 v] wz (fun e w' => e = .returned (.bool (innerAt T N v)) ∧ Below wz.heap.size wz w') := fun wz hz => refInner_calls (hTz wz hz) (hBz wz hz) hs v
  obtain ⟨hne, hring⟩ := hring
  generalize ringAt T N v = l at *
  generalize innerAt T N v = inner at *
  obtain ⟨n, hn⟩ : ∃ n, l.length = n := ⟨_, rfl⟩
  have hmem := hring.mem
  have hn6 : n ≤ 600 := by
    have h1 := nodup_len hring.nodup (m := List.range (3 * T.length)) fun c hc => List.mem_range.2 ((hmem c).1 hc).1
    rw [List.length_range] at h1
    omega
  have hbehz : ∀ wz (c : Nat), Below w0.heap.size w0 wz → c < 3 * T.length → Calls Tryz.prog 117 #[.agg #[.int .i64 N, .slice A T.length cap], .int .i64 (c : Int), .int .i64 1] wz (fun e w' => e = .returned (.int .i64 (vt T (nx c))) ∧ Below wz.heap.size wz w') := fun wz c hz hc => by
    have h8 := behind_calls (N := N) (hTz wz hz) (hBz wz hz) hsl c 1 hc (.inl rfl)
    rw [show 3 * (c / 3) + (c + 1) % 3 = nx c by unfold nx; omega] at h8
    exact h8
  have hcut : ∀ c, c < 3 * T.length → vt T c = v → decide (nm (v, vt T (nx c)) ∈ L.map nm) = pB T (L.map nm) c := fun c hc h9 => by
    unfold pB
    exact decide_eq_decide.2 (by unfold ctB; rw [h9])
  have hisz : ∀ wz (c : Nat), Below w0.heap.size w0 wz → c < 3 * T.length → vt T c = v → Calls Tryz.prog 72 #[.slice Al L.length capl, .agg #[.int .i64 v, .int .i64 (vt T (nx c))]] wz (fun e w' => e = .returned (.bool (pB T (L.map nm) c)) ∧ Below wz.heap.size wz w') := fun wz c hz hc h9 => by
    have h8 := in19_calls (hlz wz hz) (hBz wz hz) (by omega) (v, vt T (nx c))
    rw [hcut c hc h9] at h8
    exact h8
  generalize hC : L.map nm = C at *
  rw [hn] at hown7 hne
  obtain ⟨g7, cap7, rfl, hg7, hgz7⟩ := own_some hown7 hne
  have hz1 := hb1.size
  have hcell7 : ∀ wz, Below w1.heap.size w1 wz → ∀ i (hi : i < l.length), wz.cell? ⟨g7, i, none⟩ = some (.int .i64 (l[i] : Int)) := fun wz hz i hi => (hz.cell (p := ⟨g7, i, none⟩) hgz7).trans (nvals_cell hown7 hi hn)
  have hm1 := run_make_rep (P := Tryz.prog) 28 Tryz.underlying28 info_int rfl n (by omega) (by omega)
  obtain ⟨w2, hw2⟩ : ∃ w2, w1.alloc (.cells (Array.replicate n (Value.int .i64 0)) 3) = w2 := ⟨_, rfl⟩
  have hlab0 : (labL (pB T C) l 0 : Int) = 0 := by rw [labL_zero]; rfl
  have hkR : Bk w2 w1.heap.size 3 ((mixL (fun _ => 0) (fun a => (labL (pB T C) l a : Int)) 1 n).map (Value.int .i64)) := by
    rw [mixL_first hlab0, List.map_replicate, ← hw2]
    have h9 := Bk.new w1 3 (List.replicate n (.int .i64 0))
    rw [List.toArray_replicate] at h9
    exact h9
  have hb2 : Below w1.heap.size w1 w2 := by rw [← hw2]; exact (Below.refl w1.heap.size w1).alloc (Nat.le_refl _) _
  have hz2 : w1.heap.size + 1 ≤ w2.heap.size := by rw [← hw2]; simp
  have h01 := hb1
  clear hb1
  have Hhown7 := Lib.hid hown7; clear hown7; have HhTz := Lib.hid hTz; clear hTz; have Hhlz := Lib.hid hlz; clear hlz; have HhBz := Lib.hid hBz; clear hBz; have Hhkz := Lib.hid hkz; clear hkz; have Hhinz := Lib.hid hinz; clear hinz; have Hhring := Lib.hid hring; clear hring; have Hhmem := Lib.hid hmem; clear hmem; have Hhbehz := Lib.hid hbehz; clear hbehz; have Hhisz := Lib.hid hisz; clear hisz; have Hhcut := Lib.hid hcut; clear hcut; have Hhcell7 := Lib.hid hcell7; clear hcell7; have HhC := Lib.hid hC; clear hC; have HhkR := Lib.hid hkR; clear hkR; have Hhlab0 := Lib.hid hlab0; clear hlab0; have Hhn := Lib.hid hn; clear hn
  go_wp2_with fail
  clear hm1 hw2
  go_loopw [9, 10] (fun kv iv wr => ∃ a : Nat, a + 1 ≤ n ∧ iv = .int .i64 ((a : Int) + 1) ∧ kv = .int .i64 (labL (pB T C) l a : Int) ∧ Bk wr w1.heap.size 3 ((mixL (fun _ => 0) (fun a => (labL (pB T C) l a : Int)) (a + 1) n).map (Value.int .i64)) ∧ Below w1.heap.size w1 wr) (fun _ iv _ => n - (intOf iv).toNat)
  case atStart => exact ⟨0, by omega, rfl, by rw [Hhlab0.out], HhkR.out, hb2⟩
  case round =>
    obtain ⟨a, ha, rfl, rfl, hkRr, hbr⟩ := hrel
    have hzr := hbr.size
    have h0r : Below w0.heap.size w0 wr := h01.trans (hbr.mono hz1)
    have h0d : Below w0.heap.size w0 wr.drew := h0r.drew
    by_cases hai : a + 1 < n
    · have hln := Hhn.out
      have hmc := (Hhmem.out l[a + 1]).1 (List.getElem_mem (by omega))
      have e7 : wr.cell? ⟨g7, a + 1, none⟩ = some (.int .i64 (l[a + 1] : Int)) := Hhcell7.out wr hbr (a + 1) (by omega)
      have hst := labL_succ (p := pB T C) (l := l) (i := a) (by omega)
      have hkd := Hhkz.out _ h0d
      have hbe := Hhbehz.out wr.drew l[a + 1] h0d hmc.1
      have f0 : wr.drew.cell? ⟨w.heap.size, 0, none⟩ = some (.int .i64 N) := hkd.cell 0
      have f1 : wr.drew.cell? ⟨w.heap.size, 1, none⟩ = some (.slice A T.length cap) := hkd.cell 1
      have f0' : wr.cell? ⟨w.heap.size, 0, none⟩ = some (.int .i64 N) := f0
      have f1' : wr.cell? ⟨w.heap.size, 1, none⟩ = some (.slice A T.length cap) := f1
      have his := fun wz hz => Hhisz.out wz l[a + 1] hz hmc.1 hmc.2
      generalize l[a + 1] = c at *
      have Hhln := Lib.hid hln; clear hln; have Hhmc := Lib.hid hmc; clear hmc; have Hhst := Lib.hid hst; clear hst; have Hhkd := Lib.hid hkd; clear hkd; have Hhbe := Lib.hid hbe; clear hbe; have Hhis := Lib.hid his; clear his; have HhkRr := Lib.hid hkRr; clear hkRr
      go_wp2_with fail
      refine Go.Canon.wp_region_text mixed (by kernel_rfl) ?_
      go_wp2_with fail
      refine Hhbe.out.mono ?_
      rintro e w3 ⟨rfl, hb3⟩
      have h03 := h0d.trans (hb3.mono h0d.size)
      have hbr3 : Below w1.heap.size w1 w3 := hbr.drew.trans (hb3.mono hzr)
      have his3 := Hhis.out w3 h03
      have Hhis3 := Lib.hid his3; clear his3
      go_wp2_with fail
      refine Hhis3.out.mono ?_
      rintro e w4 ⟨rfl, hb4⟩
      have hbr4 := hbr3.trans (hb4.mono hbr3.size)
      have hkR4 : Bk w4 w1.heap.size 3 _ := ((HhkRr.out.drew).below hb3 HhkRr.out.drew.lt).below hb4 (by have := (HhkRr.out.drew.below hb3 HhkRr.out.drew.lt).lt; exact this)
      have hst := Hhst.out
      have hlb := labL_mono (pB T C) l (i := 0) (j := a) (by omega) (by have := Hhln.out; omega)
      have hla : labL (pB T C) l a ≤ n := by
        have h8 : labL (pB T C) l a ≤ ((l.take (a + 1)).drop 1).length := List.countP_le_length
        rw [List.length_drop, List.length_take] at h8
        have := Hhln.out
        omega
      have ck := hkR4.cell (a + 1)
      rw [List.getElem?_map, mixL_at _ _ _ hai, Option.map_some] at ck
      generalize (if a + 1 < a + 1 then ((labL (pB T C) l (a + 1) : Nat) : Int) else 0) = old at ck
      have fk := hkR4.frozen (a + 1)
      have hkR5 := hkR4.set (a + 1) (.int .i64 (labL (pB T C) l (a + 1) : Int))
      rw [← List.map_set, mixL_set (fun _ => 0) (fun a => (labL (pB T C) l a : Int)) hai] at hkR5
      have hb5 := hbr4.setCell (p := ⟨w1.heap.size, a + 1, none⟩) (Nat.le_refl _) (.int .i64 (labL (pB T C) l (a + 1) : Int))
      have hkv : ∀ x : Int, x = (labL (pB T C) l (a + 1) : Int) → Bk (w4.setCell ⟨w1.heap.size, a + 1, none⟩ (.int .i64 x)) w1.heap.size 3 ((mixL (fun _ => 0) (fun a => (labL (pB T C) l a : Int)) (a + 1 + 1) n).map (Value.int .i64)) ∧ Below w1.heap.size w1 (w4.setCell ⟨w1.heap.size, a + 1, none⟩ (.int .i64 x)) ∧ Value.int .i64 x = .int .i64 (labL (pB T C) l (a + 1) : Int) := fun x hx => by rw [hx]; exact ⟨hkR5, hb5, rfl⟩
      clear hkR5 hb5
      cases hp : pB T C c with
      | true =>
        rw [hp, if_pos rfl] at hst
        have hk9 := hkv ((labL (pB T C) l a : Int) + 1) (by rw [hst]; rfl)
        clear hlb
        generalize labL (pB T C) l a = k0 at *
        have Hhkv := Lib.hid hkv; clear hkv; have Hhst := Lib.hid hst; clear hst; have Hhk9 := Lib.hid hk9; clear hk9; have HhkR4 := Lib.hid hkR4; clear hkR4; have Hhp := Lib.hid hp; clear hp
        go_wp2_with fail
        refine Go.Canon.chk (by rfl) ?_
        go_wp2_with fail
        exact ⟨⟨a + 1, by omega, by simp, Hhk9.out.2.2, Hhk9.out.1, Hhk9.out.2.1⟩, by simp [intOf]; omega⟩
      | false =>
        rw [hp, if_neg (by decide), Nat.add_zero] at hst
        have hk9 := hkv (labL (pB T C) l a : Int) (by rw [hst]; rfl)
        clear hlb
        generalize labL (pB T C) l a = k0 at *
        have Hhkv := Lib.hid hkv; clear hkv; have Hhst := Lib.hid hst; clear hst; have Hhk9 := Lib.hid hk9; clear hk9; have HhkR4 := Lib.hid hkR4; clear hkR4; have Hhp := Lib.hid hp; clear hp
        go_wp2_with fail
        refine Go.Canon.chk (by rfl) ?_
        go_wp2_with fail
        exact ⟨⟨a + 1, by omega, by simp, Hhk9.out.2.2, Hhk9.out.1, Hhk9.out.2.1⟩, by simp [intOf]; omega⟩
    · obtain rfl : n = a + 1 := by omega
      obtain ⟨w3, hw3⟩ : ∃ w3, w3 = wr := ⟨_, rfl⟩
      subst hw3
      rw [mixL_full] at hkRr
      have hln := Hhn.out
      have h03 : Below w0.heap.size w0 w3 := h0r
      have hz3 := hzr
      have hlab : labL (pB T C) l a ≤ 600 := by
        have h8 : labL (pB T C) l a ≤ ((l.take (a + 1)).drop 1).length := List.countP_le_length
        rw [List.length_drop, List.length_take] at h8
        omega
      have hmc := (Hhmem.out (l[0]'(by omega))).1 (List.getElem_mem _)
      have e7 : w3.cell? ⟨g7, 0, none⟩ = some (.int .i64 (l[0]'(by omega) : Int)) := Hhcell7.out w3 hbr 0 (by omega)
      have hbez := fun wz hz => Hhbehz.out wz (l[0]'(by omega)) hz hmc.1
      have hisz := fun wz hz => Hhisz.out wz (l[0]'(by omega)) hz hmc.1 hmc.2
      have hop : openL T C l inner = (inner && !pB T C (l[0]'(by omega))) := by unfold openL; rw [getD_at (by omega)]
      generalize l[0]'(by omega) = c0 at *
      have hin := Hhinz.out w3.drew h03.drew
      have hkd := Hhkz.out _ h03.drew
      have f0 : w3.drew.cell? ⟨w.heap.size, 0, none⟩ = some (.int .i64 N) := hkd.cell 0
      have f1 : w3.drew.cell? ⟨w.heap.size, 1, none⟩ = some (.slice A T.length cap) := hkd.cell 1
      have h33 := (Below.refl w3.heap.size w3).drew
      have Hhln := Lib.hid hln; clear hln; have Hhmc := Lib.hid hmc; clear hmc; have Hhbez := Lib.hid hbez; clear hbez; have Hhisz := Lib.hid hisz; clear hisz; have Hhop := Lib.hid hop; clear hop; have Hhin := Lib.hid hin; clear hin; have Hhkd := Lib.hid hkd; clear hkd; have HhkRr := Lib.hid hkRr; clear hkRr
      go_upto_region 10 with fail
      go_cut [65] (fun s65 wx => s65 = .bool (openL T C l inner) ∧ Below w3.heap.size w3 wx)
      case first =>
        refine Go.Canon.wp_region_text mixed (by kernel_rfl) ?_
        go_wp2_with fail
        all_goals first | (exfalso; omega) | skip
        refine Hhin.out.mono ?_
        rintro e w4 ⟨rfl, hb4⟩
        have h34 := h33.trans (hb4.mono h33.size)
        have h04 := h03.trans (h34.mono h03.size)
        have hop := Hhop.out
        cases inner with
        | false =>
          rw [Bool.false_and] at hop
          have Hhop := Lib.hid hop; clear hop
          go_wp2_with fail
          refine Go.Canon.chk (by rfl) ?_
          go_wp2_with fail
          go_meet
          exact ⟨by rw [Hhop.out], h34⟩
        | true =>
          rw [Bool.true_and] at hop
          have hkd := Hhkz.out _ h04
          have f2 : w4.cell? ⟨w.heap.size, 0, none⟩ = some (.int .i64 N) := hkd.cell 0
          have f3 : w4.cell? ⟨w.heap.size, 1, none⟩ = some (.slice A T.length cap) := hkd.cell 1
          have hbe := Hhbez.out w4 h04
          have e8 : w4.cell? ⟨g7, 0, none⟩ = some (.int .i64 (c0 : Int)) := (h34.cell (p := ⟨g7, 0, none⟩) (by show g7 < _; omega)).trans e7
          have Hhop := Lib.hid hop; clear hop; have Hhkd := Lib.hid hkd; clear hkd; have Hhbe := Lib.hid hbe; clear hbe
          go_wp2_with fail
          refine Hhbe.out.mono ?_
          rintro e w5 ⟨rfl, hb5⟩
          have h35 := h34.trans (hb5.mono h34.size)
          have his := Hhisz.out w5 (h03.trans (h35.mono h03.size))
          have Hhis := Lib.hid his; clear his
          go_wp2_with fail
          refine Hhis.out.mono ?_
          rintro e w6 ⟨rfl, hb6⟩
          have h36 := h35.trans (hb6.mono h35.size)
          have hop := Hhop.out
          cases hp : pB T C c0 with
          | true =>
            rw [hp] at hop
            have Hhop := Lib.hid hop; clear hop; have Hhp := Lib.hid hp; clear hp
            go_wp2_with fail
            refine Go.Canon.chk (by rfl) ?_
            go_wp2_with fail
            go_meet
            exact ⟨by rw [Hhop.out]; rfl, h36⟩
          | false =>
            rw [hp] at hop
            have Hhop := Lib.hid hop; clear hop; have Hhp := Lib.hid hp; clear hp
            go_wp2_with fail
            refine Go.Canon.chk (by rfl) ?_
            go_wp2_with fail
            go_meet
            exact ⟨by rw [Hhop.out]; rfl, h36⟩
      case rest =>
        obtain ⟨rfl, h3c⟩ := hcut
        have hkRc := HhkRr.out.below h3c HhkRr.out.lt
        have hb1c := hbr.trans (h3c.mono hz3)
        have hml : ∀ i, mlab T C l inner i = if openL T C l inner = true ∧ labL (pB T C) l i = labL (pB T C) l a then 0 else labL (pB T C) l i := fun i => by
          unfold mlab
          rw [Hhln.out, Nat.add_sub_cancel]
        generalize openL T C l inner = o at *
        obtain ⟨ml, hmle⟩ : ∃ ml, mlab T C l inner = ml := ⟨_, rfl⟩
        rw [hmle] at hml
        have Hhmle := Lib.hid hmle; clear hmle
        go_upto_if 65 with fail
        go_cut [] (fun wx => Bk wx w1.heap.size 3 ((((List.range (a + 1)).map fun i => (ml i : Int))).map (Value.int .i64)) ∧ Below w1.heap.size w1 wx)
        case first =>
          cases o with
          | false =>
            have hkF : Bk wc w1.heap.size 3 ((((List.range (a + 1)).map fun i => (ml i : Int))).map (Value.int .i64)) := by
              rw [show (fun i => ((ml i : Nat) : Int)) = fun i => ((labL (pB T C) l i : Nat) : Int) from funext fun i => by rw [hml i, if_neg (fun h => absurd h.1 (by decide))]]
              exact hkRc
            have Hhml := Lib.hid hml; clear hml; have HhkRc := Lib.hid hkRc; clear hkRc; have HhkF := Lib.hid hkF; clear hkF
            go_wp2_with fail
            go_meet
            exact ⟨HhkF.out, hb1c⟩
          | true =>
            have hkG := hkRc
            rw [← mixL_zero _ (fun i => ((ml i : Nat) : Int))] at hkG
            have Hhml := Lib.hid hml; clear hml; have HhkRc := Lib.hid hkRc; clear hkRc; have HhkG := Lib.hid hkG; clear hkG
            go_wp2_with fail
            go_loopw [11] (fun iv wr => ∃ i : Nat, i ≤ a + 1 ∧ iv = .int .i64 (i : Int) ∧ Bk wr w1.heap.size 3 ((mixL (fun i => (labL (pB T C) l i : Int)) (fun i => (ml i : Int)) i (a + 1)).map (Value.int .i64)) ∧ Below w1.heap.size w1 wr) (fun iv _ => a + 1 - (intOf iv).toNat)
            case atStart => exact ⟨0, by omega, rfl, HhkG.out, hb1c⟩
            case round =>
              obtain ⟨i, hi, rfl, hkr, hbx⟩ := hrel
              by_cases hia : i < a + 1
              · have ck := hkr.cell i
                rw [List.getElem?_map, mixL_at _ _ _ hia, Option.map_some, if_neg (by omega)] at ck
                have fk := hkr.frozen i
                have hmi := Hhml.out i
                have hlm : labL (pB T C) l i ≤ labL (pB T C) l a := labL_mono _ _ (by omega) (by have := Hhln.out; omega)
                by_cases hq : labL (pB T C) l i = labL (pB T C) l a
                · rw [if_pos ⟨by trivial, hq⟩] at hmi
                  have hks := hkr.set i (.int .i64 0)
                  rw [← List.map_set, show (0 : Int) = (fun i => ((ml i : Nat) : Int)) i by simp only [hmi]; rfl, mixL_set _ _ hia] at hks
                  have hbs := hbx.setCell (p := ⟨w1.heap.size, i, none⟩) (Nat.le_refl _) (.int .i64 0)
                  have hqb : ((labL (pB T C) l i : Int) == (labL (pB T C) l a : Int)) = true := beq_iff_eq.2 (by omega)
                  simp only [hmi] at hks
                  generalize labL (pB T C) l i = k1 at *
                  generalize labL (pB T C) l a = k0 at *
                  have Hhkr := Lib.hid hkr; clear hkr; have Hhks := Lib.hid hks; clear hks; have Hhbs := Lib.hid hbs; clear hbs; have Hhmi := Lib.hid hmi; clear hmi; have Hhq := Lib.hid hq; clear hq
                  go_wp2_with fail
                  all_goals first | (exfalso; omega) | skip
                  exact ⟨⟨i + 1, by omega, by simp, Hhks.out, Hhbs.out⟩, by simp [intOf]; omega⟩
                · rw [if_neg (fun h => hq h.2)] at hmi
                  have hks := hkr
                  rw [mixL_skip _ _ (show (fun i => ((ml i : Nat) : Int)) i = (fun i => ((labL (pB T C) l i : Nat) : Int)) i by simp only [hmi])] at hks
                  have hqb : ((labL (pB T C) l i : Int) == (labL (pB T C) l a : Int)) = false := beq_eq_false_iff_ne.2 (by omega)
                  generalize labL (pB T C) l i = k1 at *
                  generalize labL (pB T C) l a = k0 at *
                  have Hhkr := Lib.hid hkr; clear hkr; have Hhks := Lib.hid hks; clear hks; have Hhmi := Lib.hid hmi; clear hmi; have Hhq := Lib.hid hq; clear hq
                  go_wp2_with fail
                  all_goals first | (exfalso; omega) | skip
                  exact ⟨⟨i + 1, by omega, by simp, Hhks.out, hbx⟩, by simp [intOf]; omega⟩
              · obtain rfl : i = a + 1 := by omega
                rw [mixL_full] at hkr
                have Hhkr := Lib.hid hkr; clear hkr
                go_wp2_with fail
                go_meet
                exact ⟨Hhkr.out, hbx⟩
        case rest =>
          obtain ⟨hkm, hb1m⟩ := hcut
          obtain ⟨wm, hwm⟩ : ∃ wm, wm = wc := ⟨_, rfl⟩
          subst hwm
          have h0m : Below w0.heap.size w0 wm := h01.trans (hb1m.mono hz1)
          have hkmlt := hkm.lt
          have hr0 := Below.refl wm.heap.size wm
          have hor0 := ORows.nil wm wm.heap.size
          rw [← secL_zero (T := T) (C := C) (v := v)] at hor0
          have Hhkm := Lib.hid hkm; clear hkm; have Hhml := Lib.hid hml; clear hml; have Hhor0 := Lib.hid hor0; clear hor0
          go_wp2_with fail
          go_loopw [12, 13] (fun ov cv wr => ∃ c : Nat, c ≤ 3 * T.length ∧ cv = .int .i64 (c : Int) ∧ ORows wr wm.heap.size ov (secL T C v c) ∧ Below wm.heap.size wm wr) (fun _ cv _ => 3 * T.length - (intOf cv).toNat)
          case atStart => exact ⟨0, by omega, rfl, Hhor0.out, hr0⟩
          case round =>
            obtain ⟨c, hc, rfl, hor, hbc⟩ := hrel
            obtain ⟨wC, hwC⟩ : ∃ wC, wC = wr := ⟨_, rfl⟩
            subst hwC
            have hzC := hbc.size
            have h0C : Below w0.heap.size w0 wC := h0m.trans (hbc.mono h0m.size)
            have hkdC := Hhkz.out _ h0C
            have f4 : wC.cell? ⟨w.heap.size, 0, none⟩ = some (.int .i64 N) := hkdC.cell 0
            have f5 : wC.cell? ⟨w.heap.size, 1, none⟩ = some (.slice A T.length cap) := hkdC.cell 1
            by_cases hcT : c < 3 * T.length
            · have hr1 := Below.refl wC.heap.size wC
              rw [← rowsD_zero (T := T) (C := C) (v := v) (l := l)] at hor
              have HhkdC := Lib.hid hkdC; clear hkdC; have Hhor := Lib.hid hor; clear hor
              go_wp2_with fail
              go_loopw [12, 14] (fun ov iv wr => ∃ i : Nat, i ≤ a + 1 ∧ iv = .int .i64 (i : Int) ∧ ORows wr wm.heap.size ov (rowsD T C v l c i) ∧ Below wm.heap.size wm wr) (fun _ iv _ => a + 1 - (intOf iv).toNat)
              case atStart => exact ⟨0, by omega, rfl, Hhor.out, hbc⟩
              case round =>
                obtain ⟨i, hi, rfl, horD, hbD⟩ := hrel
                obtain ⟨wD, hwD⟩ : ∃ wD, wD = wr := ⟨_, rfl⟩
                subst hwD
                have hzD := hbD.size
                have h1D : Below w1.heap.size w1 wD := hb1m.trans (hbD.mono hb1m.size)
                have hln := Hhln.out
                by_cases hia : i < a + 1
                · have e9 : wD.cell? ⟨g7, i, none⟩ = some (.int .i64 (l[i]'(by omega) : Int)) := Hhcell7.out wD h1D i (by omega)
                  by_cases hlc : l[i]'(by omega) = c
                  case neg =>
                    have hne9 : ((l[i]'(by omega) : Int) != (c : Int)) = true := bne_iff_ne.2 (by omega)
                    rw [← rowsD_ne (T := T) (C := C) (v := v) (by omega) hlc] at horD
                    generalize l[i]'(by omega) = li at *
                    have HhorD := Lib.hid horD; clear horD; have Hhln := Lib.hid hln; clear hln; have Hhlc := Lib.hid hlc; clear hlc
                    go_wp2_with fail
                    exact ⟨⟨i + 1, by omega, by simp, HhorD.out, hbD⟩, by simp [intOf]; omega⟩
                  case pos =>
                    have hDeq : rowsD T C v l c i = secL T C v c ∧ rowsD T C v l c (i + 1) = secL T C v (c + 1) := by
                      have h9 := rowsD_eq (T := T) (C := C) (v := v) Hhring.out.nodup (i := i) (by omega)
                      rw [hlc] at h9
                      exact h9
                    rw [hDeq.1] at horD
                    have hcv : vt T c = v := by rw [← hlc]; exact ((Hhmem.out _).1 (List.getElem_mem _)).2
                    have heq9 : ((l[i]'(by omega) : Int) != (c : Int)) = false := by rw [hlc]; simp
                    have hqD : ∀ j (hj : j < (hdsC T C v c).length), (List.range l.length).any (samP T C l inner (hdsC T C v c)[j] i) = true ↔ Sect T C (hdsC T C v c)[j] c := fun j hj => by
                      have hm := mem_hdsC.1 (List.getElem_mem hj)
                      have h9 := Ring.samP (C := C) Hhring.out (i := i) (by omega) (h := (hdsC T C v c)[j]) ⟨by omega, hm.2.1⟩
                      rw [hlc] at h9
                      exact h9
                    obtain ⟨q, hq⟩ : ∃ q : Nat → Bool, ∀ j, q j = (List.range l.length).any (samP T C l inner ((hdsC T C v c).getD j 0) i) := ⟨_, fun _ => rfl⟩
                    have hq2 : ∀ j (hj : j < (hdsC T C v c).length), q j = true ↔ Sect T C (hdsC T C v c)[j] c := fun j hj => by rw [hq, getD_at hj]; exact hqD j hj
                    have hlen := secL_len (T := T) (C := C) (v := v) c
                    have hlen6 := hdsC_len (T := T) (C := C) (v := v) c
                    obtain ⟨Ao, capo, rfl, hcapo⟩ := horD.form
                    have hrD := Below.refl wD.heap.size wD
                    have hls6 : (secL T C v c).length ≤ 600 := by omega
                    generalize l[i]'(by omega) = li at *
                    obtain ⟨ns, hns⟩ : ∃ ns, (secL T C v c).length = ns := ⟨_, rfl⟩
                    have hns6 : ns ≤ 600 := by omega
                    rw [hns] at hcapo horD
                    rw [hns]
                    have hwr0 : whr q 0 = -1 := rfl
                    have hwr := whr_range q
                    have HhorD := Lib.hid horD; clear horD; have HhDeq := Lib.hid hDeq; clear hDeq; have Hhcv := Lib.hid hcv; clear hcv; have HhqD := Lib.hid hqD; clear hqD; have Hhq := Lib.hid hq; clear hq; have Hhq2 := Lib.hid hq2; clear hq2; have Hhlen := Lib.hid hlen; clear hlen; have Hhlen6 := Lib.hid hlen6; clear hlen6; have Hhln := Lib.hid hln; clear hln; have Hhlc := Lib.hid hlc; clear hlc; have Hhls6 := Lib.hid hls6; clear hls6; have Hhns := Lib.hid hns; clear hns; have Hhwr0 := Lib.hid hwr0; clear hwr0; have Hhwr := Lib.hid hwr; clear hwr
                    go_wp2_with fail
                    go_loopw [15, 16] (fun wv jv wr => ∃ j : Nat, j ≤ ns ∧ jv = .int .i64 (j : Int) ∧ wv = .int .i64 (whr q j) ∧ Below wD.heap.size wD wr) (fun _ jv _ => ns - (intOf jv).toNat)
                    case atStart => exact ⟨0, by omega, rfl, by rw [Hhwr0.out], hrD⟩
                    case round =>
                      obtain ⟨j, hj, rfl, rfl, hbE⟩ := hrel
                      obtain ⟨wE, hwE⟩ : ∃ wE, wE = wr := ⟨_, rfl⟩
                      subst hwE
                      have horE := HhorD.out.below hbE
                      have hzE := hbE.size
                      have hmE : Below wm.heap.size wm wE := hbD.trans (hbE.mono hbD.size)
                      by_cases hjn : j < ns
                      · have hjl : j < (secL T C v c).length := by rw [Hhns.out]; exact hjn
                        have hjh : j < (hdsC T C v c).length := by rw [← Hhlen.out]; exact hjl
                        obtain ⟨go, rv, rfl, hgc, _, hgo, hgoz, hrow⟩ := horE.at_ Hhns.out hjl
                        have hfst := secL_first (T := T) (C := C) (v := v) hjh
                        have hrl := secL_row_len (T := T) (C := C) (v := v) c _ (List.getElem_mem hjl)
                        generalize (secL T C v c)[j] = row at *
                        have hrp : 0 < row.length := (List.getElem?_eq_some_iff.1 hfst).1
                        obtain ⟨gb, capb, rfl, hgb, hgbz⟩ := own_some hrow hrp
                        have hg0 : wE.cell? ⟨gb, 0, none⟩ = some (.int .i64 ((hdsC T C v c)[j] : Int)) := by
                          rw [hrow.cellAt 0 (by omega)]
                          unfold nvals
                          rw [List.getElem?_map, hfst]; rfl
                        have hqj := Hhq.out j
                        rw [getD_at hjh] at hqj
                        generalize (hdsC T C v c)[j] = hd at *
                        have hrE := Below.refl wE.heap.size wE
                        have hwj := Hhwr.out j
                        generalize hwh : whr q j = wh at *
                        have hstep : whr q (j + 1) = wmL (samP T C l inner hd i) wh (j : Int) (a + 1) := by
                          have h8 : whr q (j + 1) = if q j = true then (j : Int) else whr q j := rfl
                          rw [h8, hwh, hqj, Hhln.out]; rfl
                        have HhorE := Lib.hid horE; clear horE; have Hhrow := Lib.hid hrow; clear hrow; have Hhfst := Lib.hid hfst; clear hfst; have Hhqj := Lib.hid hqj; clear hqj; have Hhstep := Lib.hid hstep; clear hstep; have Hhwh := Lib.hid hwh; clear hwh
                        go_wp2_with fail
                        go_loopw [15, 17] (fun wv mv wr => ∃ m : Nat, m ≤ a + 1 ∧ mv = .int .i64 (m : Int) ∧ wv = .int .i64 (wmL (samP T C l inner hd i) wh (j : Int) m) ∧ Below wE.heap.size wE wr) (fun _ mv _ => a + 1 - (intOf mv).toNat)
                        case atStart => exact ⟨0, by omega, rfl, rfl, hrE⟩
                        case round =>
                          obtain ⟨m, hm, rfl, rfl, hbF⟩ := hrel
                          by_cases hma : m < a + 1
                          · have hmF : Below wm.heap.size wm wr := hmE.trans (hbF.mono hmE.size)
                            have hkF := Hhkm.out.below hmF hkmlt
                            have hln := Hhln.out
                            have x1 : wr.cell? ⟨g7, m, none⟩ = some (.int .i64 (l[m]'(by omega) : Int)) := Hhcell7.out wr (hb1m.trans (hmF.mono hb1m.size)) m (by omega)
                            have x2 := hkF.cell m
                            have x3 := hkF.cell i
                            rw [List.getElem?_map, List.getElem?_map, List.getElem?_range hma] at x2
                            rw [List.getElem?_map, List.getElem?_map, List.getElem?_range hia] at x3
                            simp only [Option.map_some] at x2 x3
                            have x4 := (hbF.cell (p := ⟨go, j, none⟩) (by show go < _; omega)).trans hgc
                            have x5 := (hbF.cell (p := ⟨gb, 0, none⟩) hgbz).trans hg0
                            have hsam : samP T C l inner hd i m = (decide (l[m]'(by omega) = hd) && decide (ml m = ml i)) := by unfold samP; rw [getD_at (by omega), Hhmle.out]
                            have hbF' := hbF.drew
                            generalize l[m]'(by omega) = lm at *
                            generalize ml m = mm at *
                            generalize ml i = mi at *
                            by_cases hq1 : lm = hd
                            · have hb1 : ((lm : Int) == (hd : Int)) = true := beq_iff_eq.2 (by omega)
                              by_cases hq3 : mm = mi
                              · have hb2 : ((mm : Int) == (mi : Int)) = true := beq_iff_eq.2 (by omega)
                                rw [decide_eq_true hq1, decide_eq_true hq3] at hsam
                                have hw9 := wmL_yes (x0 := wh) (j := (j : Int)) hsam
                                generalize wmL (samP T C l inner hd i) wh (j : Int) m = wv at *
                                have HhkF := Lib.hid hkF; clear hkF; have Hhln := Lib.hid hln; clear hln; have Hhsam := Lib.hid hsam; clear hsam; have Hhw9 := Lib.hid hw9; clear hw9; have Hhq1 := Lib.hid hq1; clear hq1; have Hhq3 := Lib.hid hq3; clear hq3
                                go_wp2_with fail
                                refine Go.Canon.wp_region_text mixed (by kernel_rfl) ?_
                                go_wp2_with fail
                                refine Go.Canon.chk (by rfl) ?_
                                go_wp2_with fail
                                exact ⟨⟨m + 1, by omega, by simp, by rw [Hhw9.out], hbF'⟩, by simp [intOf]; omega⟩
                              · have hb2 : ((mm : Int) == (mi : Int)) = false := beq_eq_false_iff_ne.2 (by omega)
                                rw [decide_eq_true hq1, decide_eq_false hq3] at hsam
                                have hw9 := wmL_no (x0 := wh) (j := (j : Int)) hsam
                                generalize wmL (samP T C l inner hd i) wh (j : Int) m = wv at *
                                have HhkF := Lib.hid hkF; clear hkF; have Hhln := Lib.hid hln; clear hln; have Hhsam := Lib.hid hsam; clear hsam; have Hhw9 := Lib.hid hw9; clear hw9; have Hhq1 := Lib.hid hq1; clear hq1; have Hhq3 := Lib.hid hq3; clear hq3
                                go_wp2_with fail
                                refine Go.Canon.wp_region_text mixed (by kernel_rfl) ?_
                                go_wp2_with fail
                                refine Go.Canon.chk (by rfl) ?_
                                go_wp2_with fail
                                exact ⟨⟨m + 1, by omega, by simp, by rw [Hhw9.out], hbF'⟩, by simp [intOf]; omega⟩
                            · have hb1 : ((lm : Int) == (hd : Int)) = false := beq_eq_false_iff_ne.2 (by omega)
                              rw [decide_eq_false hq1, Bool.false_and] at hsam
                              have hw9 := wmL_no (x0 := wh) (j := (j : Int)) hsam
                              generalize wmL (samP T C l inner hd i) wh (j : Int) m = wv at *
                              have HhkF := Lib.hid hkF; clear hkF; have Hhln := Lib.hid hln; clear hln; have Hhsam := Lib.hid hsam; clear hsam; have Hhw9 := Lib.hid hw9; clear hw9; have Hhq1 := Lib.hid hq1; clear hq1
                              go_wp2_with fail
                              refine Go.Canon.wp_region_text mixed (by kernel_rfl) ?_
                              go_wp2_with fail
                              refine Go.Canon.chk (by rfl) ?_
                              go_wp2_with fail
                              exact ⟨⟨m + 1, by omega, by simp, by rw [Hhw9.out], hbF'⟩, by simp [intOf]; omega⟩
                          · obtain rfl : m = a + 1 := by omega
                            have hbD9 := hbE.trans (hbF.mono hbE.size)
                            rw [← Hhstep.out]
                            go_wp2_with fail
                            exact ⟨⟨j + 1, by omega, by simp, rfl, hbD9⟩, by simp [intOf]; omega⟩
                      · obtain rfl : j = ns := by omega
                        by_cases hH : Head T C c
                        · have hw9 : whr q j = -1 := whr_none fun j' hj' => by
                            have hj9 : j' < (hdsC T C v c).length := by rw [← Hhlen.out, Hhns.out]; exact hj'
                            cases h9 : q j' with
                            | false => rfl
                            | true => exact absurd ((Hhq2.out j' hj9).1 h9) (hH _ (mem_hdsC.1 (List.getElem_mem hj9)).1)
                          obtain ⟨m1, hm1, hm2⟩ : ∃ m1, whr q j = m1 ∧ m1 < 0 := ⟨_, rfl, by omega⟩
                          rw [hm1]
                          clear hm1 hw9
                          obtain ⟨vs, v1, v2, v3⟩ := horE
                          have hnl := Hhns.out
                          rw [hnl] at v1 v2
                          have hnew := secL_new Hhcv.out hH
                          obtain ⟨wb, hwb⟩ : ∃ wb, (wE.alloc (.cells #[.int .i64 (c : Int)] 3)).alloc (.cells #[.slice (some ⟨wE.heap.size, 0, none⟩) 1 1] 28) = wb := ⟨_, rfl⟩
                          have hkb : Bk wb (wE.heap.size + 1) 28 [.slice (some ⟨wE.heap.size, 0, none⟩) 1 1] := by rw [← hwb]; exact Bk.new' _ _ (by simp)
                          have hlitb : wb.ownsRow wm.heap.size 3 1 (.slice (some ⟨wE.heap.size, 0, none⟩) 1 1) 1 (nvals [c]) := by rw [← hwb]; exact (World.ownsRow_lit (e := 3) (size := 1) wE #[.int .i64 (c : Int)] 1 (by omega) (by unfold maxLen; omega) rfl).alloc _
                          have v2b : wb.ownsRow wm.heap.size 28 1 (.slice Ao j capo) j vs := by rw [← hwb]; exact (v2.alloc _).alloc _
                          have v3b : ∀ (i : Nat) (x : Value) (L' : List Nat), vs[i]? = some x → (secL T C v c)[i]? = some L' → wb.ownsRow wm.heap.size 3 1 x L'.length (nvals L') := fun i x L' e1 e2 => by rw [← hwb]; exact ((v3 i x L' e1 e2).alloc _).alloc _
                          have hbb : Below wE.heap.size wE wb := by rw [← hwb]; exact ((Below.refl wE.heap.size wE).alloc (Nat.le_refl _) _).alloc (by simp) _
                          have hzb := hbb.size
                          have hnews : ∀ ad, (some ⟨wE.heap.size + 1, 0, none⟩ : Option Addr) = some ad → ∀ j u, ([.slice (some ⟨wE.heap.size, 0, none⟩) 1 1] : List Value)[j]? = some u → wb.cell? (ad.add j) = some u := fun ad e j u hj => by
                            injection e with e
                            subst e
                            rw [Addr.add_lit, Nat.zero_add]
                            exact (hkb.cell j).trans hj
                          have Hv1 := Lib.hid v1; clear v1; have Hv2 := Lib.hid v2; clear v2; have Hv3 := Lib.hid v3; clear v3; have Hhkb := Lib.hid hkb; clear hkb; have Hhlitb := Lib.hid hlitb; clear hlitb; have Hv2b := Lib.hid v2b; clear v2b; have Hv3b := Lib.hid v3b; clear v3b; have Hhnews := Lib.hid hnews; clear hnews; have Hhnl := Lib.hid hnl; clear hnl; have Hhnew := Lib.hid hnew; clear hnew
                          go_wp2_with (at_builtin; refine wpList_append_opt rfl (.tmp 138) (.tmp 141) 78 rfl wm.heap.size Tryz.underlying78 infoRowS rfl (by decide) _ j vs rfl Hv2b.out (some ⟨wE.heap.size + 1, 0, none⟩) 1 1 [.slice (some ⟨wE.heap.size, 0, none⟩) 1 1] rfl rfl (fun h => by cases h) Hhnews.out (by simp [Value.oneCell']) (by omega) (by decide) (by omega) ?_)
                          all_goals first | (exfalso; omega) | skip
                          intro v' w5 hown5 hgr5 hb5 _
                          clear hwb
                          obtain ⟨A5, cap5, rfl, hcap5⟩ := own_form hown5
                          have hm5 := (hmE.trans (hbb.mono hmE.size)).trans hb5
                          have hkeep : ∀ (x : Value) (L' : List Nat), wb.ownsRow wm.heap.size 3 1 x L'.length (nvals L') → w5.ownsRow wm.heap.size 3 1 x L'.length (nvals L') := fun x L' h9 => h9.kept hgr5 (own_apart Hv2b.out h9 (by decide))
                          have hor5 : ORows w5 wm.heap.size (.slice A5 (j + 1) cap5) (rowsD T C v l c (i + 1)) := by
                            rw [HhDeq.out.2, Hhnew.out]
                            refine ⟨vs ++ [.slice (some ⟨wE.heap.size, 0, none⟩) 1 1], by rw [List.length_append, List.length_append, Hv1.out, Hhnl.out]; rfl, by rw [List.length_append, Hhnl.out]; exact hown5, fun i' x L' e1 e2 => ?_⟩
                            by_cases hi9 : i' < j
                            · rw [List.getElem?_append_left (by have := Hv1.out; omega)] at e1
                              rw [List.getElem?_append_left (by have := Hhnl.out; omega)] at e2
                              exact hkeep x L' (Hv3b.out i' x L' e1 e2)
                            · have hi8 : i' = j := by
                                have h8 := (List.getElem?_eq_some_iff.1 e2).1
                                rw [List.length_append, Hhnl.out] at h8
                                simp only [List.length_cons, List.length_nil] at h8
                                omega
                              subst hi8
                              rw [List.getElem?_append_right (by have := Hv1.out; omega), Hv1.out, Nat.sub_self] at e1
                              rw [List.getElem?_append_right (by have := Hhnl.out; omega), Hhnl.out, Nat.sub_self] at e2
                              simp only [List.getElem?_cons_zero, Option.some.injEq] at e1 e2
                              subst e1; subst e2
                              exact hkeep _ _ Hhlitb.out
                          have Hhown5 := Lib.hid hown5; clear hown5; have Hhgr5 := Lib.hid hgr5; clear hgr5; have Hhor5 := Lib.hid hor5; clear hor5; have Hhkeep := Lib.hid hkeep; clear hkeep
                          go_wp2_with fail
                          refine ⟨?_, by simp [intOf]; omega⟩
                          repeat apply Exists.intro
                          refine ⟨?i9, ?e9⟩
                          case e9 => rw [show decide ((c : Int) < 3 * (T.length : Int)) = true from decide_eq_true (by omega)]
                          exact ⟨i + 1, by omega, by simp, Hhor5.out, hm5⟩
                        · obtain ⟨k, hk, hsk⟩ := hds_some Hhcv.out hH hs
                          have hkn : k < j := by rw [← Hhlen.out, Hhns.out] at hk; exact hk
                          have hw9 : whr q j = (k : Int) := whr_one hkn ((Hhq2.out k hk).2 hsk) fun j' hj' h9 => by
                            have hj9 : j' < (hdsC T C v c).length := by rw [← Hhlen.out, Hhns.out]; exact hj'
                            exact hds_one hj9 hk ((Hhq2.out j' hj9).1 h9) hsk
                          rw [hw9]
                          have hnl := Hhns.out
                          have hkl : k < (secL T C v c).length := by rw [hnl]; exact hkn
                          have hmore := secL_more Hhcv.out hk hsk
                          have hfst := secL_first (T := T) (C := C) (v := v) hk
                          have hrl := secL_row_len (T := T) (C := C) (v := v) c _ (List.getElem_mem hkl)
                          obtain ⟨go, rv, rfl, hgc, _, hgo, hgoz, hrow⟩ := horE.at_ hnl hkl
                          generalize (secL T C v c)[k] = row at *
                          have hrp : 0 < row.length := (List.getElem?_eq_some_iff.1 hfst).1
                          obtain ⟨gb, capb, rfl, hgb, hgbz⟩ := own_some hrow hrp
                          have hnvl : (nvals row).length = row.length := by unfold nvals; rw [List.length_map]
                          obtain ⟨wa, hwa⟩ : ∃ wa, wE.alloc (.cells #[] 3) = wa := ⟨_, rfl⟩
                          have hba : Below wE.heap.size wE wa := by rw [← hwa]; exact (Below.refl wE.heap.size wE).alloc (Nat.le_refl _) _
                          have hza := hba.size
                          have hown0 : wa.ownsRow wE.heap.size 3 1 (.slice (some ⟨wE.heap.size, 0, none⟩) 0 0) 0 [] := by rw [← hwa]; exact World.ownsRow_lit (e := 3) (size := 1) wE #[] 0 (Nat.le_refl _) (by unfold maxLen; omega) rfl
                          have hrowA : wa.ownsRow wm.heap.size 3 1 (.slice (some ⟨gb, 0, none⟩) row.length capb) row.length (nvals row) := by rw [← hwa]; exact hrow.alloc _
                          have hnews : ∀ ad, (some ⟨gb, 0, none⟩ : Option Addr) = some ad → ∀ j u, (nvals row)[j]? = some u → wa.cell? (ad.add j) = some u := fun ad e j u hj => by
                            injection e with e
                            subst e
                            rw [Addr.add_lit, Nat.zero_add]
                            exact (hrowA.cellAt j (by have := (List.getElem?_eq_some_iff.1 hj).1; omega)).trans hj
                          have hone : ∀ u ∈ nvals row, u.oneCell' = true := fun u hu => by
                            unfold nvals at hu
                            obtain ⟨x, _, rfl⟩ := List.mem_map.1 hu
                            rfl
                          have hgcA := (hba.cell (p := ⟨go, k, none⟩) hgoz).trans hgc
                          have HhorE := Lib.hid horE; clear horE; have Hhrow := Lib.hid hrow; clear hrow; have Hhown0 := Lib.hid hown0; clear hown0; have HhrowA := Lib.hid hrowA; clear hrowA; have Hhnews := Lib.hid hnews; clear hnews; have Hhone := Lib.hid hone; clear hone; have Hhnl := Lib.hid hnl; clear hnl; have Hhmore := Lib.hid hmore; clear hmore; have Hhfst := Lib.hid hfst; clear hfst; have Hhnvl := Lib.hid hnvl; clear hnvl; have Hhsk := Lib.hid hsk; clear hsk
                          go_wp2_with (at_builtin; refine wpList_append_opt rfl (.tmp 145) (.tmp 149) 28 rfl wE.heap.size Tryz.underlying28 info_int rfl (by decide) _ 0 [] rfl Hhown0.out (some ⟨gb, 0, none⟩) row.length capb (nvals row) rfl (by rw [Hhnvl.out]; simp) (fun h => by cases h) Hhnews.out Hhone.out (by omega) (by decide) (by omega) ?_)
                          all_goals first | (exfalso; omega) | skip
                          intro v1 w5 hown5 hgr5 hb5 _
                          clear hwa
                          try simp only [Nat.zero_add]
                          try simp only [Nat.zero_add, List.nil_append] at hown5
                          obtain ⟨A5, cap5, rfl, hcap5⟩ := own_form hown5
                          have hz5 := hb5.size
                          obtain ⟨w6, hw6⟩ : ∃ w6, w5.alloc (.cells #[.int .i64 (c : Int)] 3) = w6 := ⟨_, rfl⟩
                          have hk6 : Bk w6 w5.heap.size 3 [.int .i64 (c : Int)] := by rw [← hw6]; exact Bk.new w5 _ _
                          have hb6 : Below w5.heap.size w5 w6 := by rw [← hw6]; exact (Below.refl w5.heap.size w5).alloc (Nat.le_refl _) _
                          have hz6 := hb6.size
                          have hown6 : w6.ownsRow wE.heap.size 3 1 (.slice A5 row.length cap5) row.length (nvals row) := by rw [← hw6]; exact hown5.alloc _
                          have hnews2 : ∀ ad, (some ⟨w5.heap.size, 0, none⟩ : Option Addr) = some ad → ∀ j u, ([.int .i64 (c : Int)] : List Value)[j]? = some u → w6.cell? (ad.add j) = some u := fun ad e j u hj => by
                            injection e with e
                            subst e
                            rw [Addr.add_lit, Nat.zero_add]
                            exact (hk6.cell j).trans hj
                          have Hhown5 := Lib.hid hown5; clear hown5; have Hhgr5 := Lib.hid hgr5; clear hgr5; have Hhk6 := Lib.hid hk6; clear hk6; have Hhown6 := Lib.hid hown6; clear hown6; have Hhnews2 := Lib.hid hnews2; clear hnews2
                          go_wp2_with (at_builtin; refine wpList_append_opt rfl (.tmp 150) (.tmp 152) 28 rfl wE.heap.size Tryz.underlying28 info_int rfl (by decide) _ row.length (nvals row) rfl Hhown6.out (some ⟨w5.heap.size, 0, none⟩) 1 1 [.int .i64 (c : Int)] rfl rfl (fun h => by cases h) Hhnews2.out (by simp [Value.oneCell']) (by omega) (by decide) (by omega) ?_)
                          all_goals first | (exfalso; omega) | skip
                          intro v2 w7 hown7 hgr7 hb7 _
                          clear hw6
                          obtain ⟨A7, cap7, rfl, hcap7⟩ := own_form hown7
                          have hb57 : Below wE.heap.size wE w7 := ((hba.trans hb5).trans (hb6.mono (by omega))).trans hb7
                          have hm7 := hmE.trans (hb57.mono hmE.size)
                          have hor7 := HhorE.out.below hb57
                          obtain ⟨go', rv', he, hgc7, hgf7, hgo7, hgoz7, _⟩ := hor7.at_ Hhnl.out (i := k) (by rw [Hhnl.out]; exact hkn)
                          injection he with he
                          injection he with he
                          subst he
                          have hrow7 : w7.ownsRow wm.heap.size 3 1 (.slice A7 (row.length + 1) cap7) (row ++ [c]).length (nvals (row ++ [c])) := by
                            rw [List.length_append]
                            unfold nvals
                            rw [List.map_append]
                            exact own_base hown7 (by omega)
                          have hput : ORows (w7.setCell ⟨go, k, none⟩ (.slice A7 (row.length + 1) cap7)) wm.heap.size (.slice (some ⟨go, 0, none⟩) j capo) (rowsD T C v l c (i + 1)) := by
                            rw [HhDeq.out.2, Hhmore.out]
                            have h9 := hor7
                            have h8 := Hhnl.out
                            have h7 : k < (secL T C v c).length := by rw [h8]; exact hkn
                            rw [← h8] at h9 ⊢
                            have h6 := h9.put h7 hrow7
                            rw [List.length_set] at h6
                            exact h6
                          have hmF := hm7.setCell (p := ⟨go, k, none⟩) hgo (.slice A7 (row.length + 1) cap7)
                          have Hhown7 := Lib.hid hown7; clear hown7; have Hhgr7 := Lib.hid hgr7; clear hgr7; have Hhor7 := Lib.hid hor7; clear hor7; have Hhrow7 := Lib.hid hrow7; clear hrow7; have Hhput := Lib.hid hput; clear hput; have HhmF := Lib.hid hmF; clear hmF
                          go_wp2_with fail
                          exact ⟨⟨i + 1, by omega, by simp, Hhput.out, HhmF.out⟩, by simp [intOf]; omega⟩
                · obtain rfl : i = a + 1 := by omega
                  rw [← hln, rowsD_end Hhring.out hcT] at horD
                  have HhorD := Lib.hid horD; clear horD; have Hhln := Lib.hid hln; clear hln
                  go_wp2_with fail
                  exact ⟨⟨c + 1, by omega, by simp, HhorD.out, hbD⟩, by simp [intOf]; omega⟩
            · obtain rfl : c = 3 * T.length := by omega
              have hbF : Below w.heap.size w wC := hb0.trans (h0C.mono (by omega))
              obtain ⟨vs9, g1, g2, g3⟩ := hor
              have hoF : ORows wC w.heap.size _ (secL T C v (3 * T.length)) := ⟨vs9, g1, own_base g2 (by have := h0m.size; omega), fun i v L e1 e2 => own_base (g3 i v L e1 e2) (by have := h0m.size; omega)⟩
              rw [← HhC.out] at hoF
              have HhkdC := Lib.hid hkdC; clear hkdC; have Hg1 := Lib.hid g1; clear g1; have Hg2 := Lib.hid g2; clear g2; have Hg3 := Lib.hid g3; clear g3; have HhoF := Lib.hid hoF; clear hoF
              go_wp2_with fail
              all_goals first | (exfalso; omega) | skip
              go_ret
              exact ⟨⟨_, rfl, HhoF.out⟩, hbF⟩
end Go.Proofs.YtpbdcppaiafbgaaGreat
