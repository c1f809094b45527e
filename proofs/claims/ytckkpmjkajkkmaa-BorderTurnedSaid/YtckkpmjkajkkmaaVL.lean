/- The law BorderTurned, walked. -/
import Derived.Test.YtckkpmjkajkkmaaBW
import Derived.Test.YtckkpmjkajkkmaaBX
import Derived.Test.YtckkpmjkajkkmaaBY
import Derived.Test.YtckkpmjkajkkmaaTU
namespace Go.Mesh
theorem afI_of {T : List T3} {v a : Int} (h : aftV T v = some a) : afI T v = a := by unfold afI; rw [h]; rfl
theorem swp_two {L : List T3} {k : Nat} (h : k < L.length / 2) : (swp L k)[k]? = some (triAt L k) ∧ (swp L k)[L.length - 1 - k]? = some (triAt L (L.length - 1 - k)) := by
  refine ⟨?_, ?_⟩
  · rw [swp_at L k (by omega), if_pos]
    unfold rk
    rw [if_neg (by omega), if_neg (by omega)]
  · rw [swp_at L k (by omega), if_pos]
    unfold rk
    rw [if_neg (by omega), if_neg (by omega)]
theorem afI_no {T : List T3} {v : Int} (h : aftV T v = none) : afI T v = -1 := by unfold afI; rw [h]; rfl
end Go.Mesh
namespace Go.Proofs.Ytckkpmjkajkkmaa
open Go Go.RowKit Go.Words Go.Mesh

theorem triVals_of {T : List T3} {j : Nat} {t : T3} (h : T[j]? = some t) : (triVals T)[j * 3]? = some (.int .i64 t.1) ∧ (triVals T)[j * 3 + 1]? = some (.int .i64 t.2.1) ∧ (triVals T)[j * 3 + 2]? = some (.int .i64 t.2.2) := by
  obtain ⟨hl, rfl⟩ := List.getElem?_eq_some_iff.1 h
  exact triVals_cell hl
set_option maxRecDepth 100000 in
set_option maxHeartbeats 6000000 in
theorem bturned_law (sv : Value) (N : Int) (T : List T3) (lv : Value) (l : List Int) (w : World) {B : Nat} (hB0 : B ≤ w.heap.size) (hT : Sl 3 RTri w B sv T) (hN : I64 N) (hl : Sl 1 RInt w B lv l) :
    Calls Try.prog 8 #[.agg #[.int .i64 N, sv], lv] w fun e w' => e = .returned (.bool true) ∧ Below w.heap.size w w' := by
  obtain ⟨A9, cap9, rfl, hcap9⟩ := hl.form
  have Hhl := Lib.hid hl; clear hl
  obtain ⟨A, cap, rfl, hcap⟩ := hT.form
  have hb1 := (Below.refl w.heap.size w).alloc (Nat.le_refl _) (.cells #[.int .i64 N, .slice A T.length cap] 24)
  have hbox := Bk.new w 24 [.int .i64 N, .slice A T.length cap]
  have hTA := hT.below keeps_tri (hb1.mono hB0)
  have hbl := hbox.lt
  have c0 := hbox.cell 0
  have c1 := hbox.cell 1
  simp only [List.getElem?_cons_zero, List.getElem?_cons_succ] at c0 c1
  generalize hw0 : w.alloc (.cells #[.int .i64 N, .slice A T.length cap] 24) = w0 at *
  have haw := awake12_calls w0
  have hz0 := hb1.size
  have HhT := Lib.hid hT; have Hhbox := Lib.hid hbox; have HhTA := Lib.hid hTA; have Hhaw := Lib.hid haw; clear hT hbox hTA haw
  go_enter Try.func8, Try.ntmps8
  go_wp2_with fail
  clear hw0
  refine Hhaw.out.mono ?_
  rintro e w1 ⟨rfl, hb2⟩
  have hb3 := below_call hb1 hb2 hb1.size
  have d0 : w1.cell? ⟨w.heap.size, 0, none⟩ = some (.int .i64 N) := (hb2.cell (p := ⟨w.heap.size, 0, none⟩) hbl).trans c0
  have d1 : w1.cell? ⟨w.heap.size, 1, none⟩ = some (.slice A T.length cap) := (hb2.cell (p := ⟨w.heap.size, 1, none⟩) hbl).trans c1
  have hT1 := HhTA.out.below keeps_tri (hb2.mono (by omega))
  have hz1 := hb2.size
  have htb := table12_calls hT1 (by omega) hN
  have HhT1 := Lib.hid hT1; have Hhtb := Lib.hid htb; clear hT1 htb
  go_wp2_with fail
  refine Hhtb.out.mono ?_
  rintro e w2 ⟨⟨tv, B', rfl, hor⟩, hb4⟩
  have hb5 := below_call hb3 hb4 hb3.size
  have hz2 := hb4.size
  have e0 : w2.cell? ⟨w.heap.size, 0, none⟩ = some (.int .i64 N) := (hb4.cell (p := ⟨w.heap.size, 0, none⟩) (by show w.heap.size < _; omega)).trans d0
  have e1 : w2.cell? ⟨w.heap.size, 1, none⟩ = some (.slice A T.length cap) := (hb4.cell (p := ⟨w.heap.size, 1, none⟩) (by show w.heap.size < _; omega)).trans d1
  have hT2 := HhT1.out.below keeps_tri (hb4.mono (by omega))
  have hbw2 : w.heap.size < w2.heap.size := by omega
  have hB2 : B ≤ w2.heap.size := by omega
  clear c0 c1 d0 d1 hb1 hb2 hb3 hb4 hz0 hz1 hz2 hbl
  rcases hor with ⟨h40, hs, htab⟩ | ⟨hno, rfl⟩
  rotate_left 1
  · by_cases h40 : T.length ≤ 40
    · have hns : ¬ Surf N T := fun h => hno ⟨h40, h⟩
      have hsu := surface9_calls (.slice A T.length cap) N T w2 hB2 hT2 (by omega)
      have HhT2 := Lib.hid hT2; have Hhsu := Lib.hid hsu; have Hhns := Lib.hid hns; have Hhno := Lib.hid hno; clear hT2 hsu hns hno
      go_wp2_with fail
      refine Hhsu.out.mono ?_
      rintro e w3 ⟨⟨b, rfl, hb⟩, hb6⟩
      obtain rfl : b = false := by
        cases b with
        | false => rfl
        | true => exact absurd (hb.1 rfl) Hhns.out
      have hb7 := below_call hb5 hb6 hb5.size
      have Hhb := Lib.hid hb; clear hb
      go_wp2_with fail
      go_ret
      exact ⟨rfl, hb7⟩
    · have h3 : 40 < (T.length : Int) := by omega
      clear h40
      have HhT2 := Lib.hid hT2; have Hhno := Lib.hid hno; clear hT2 hno
      go_wp2_with fail
      go_ret
      exact ⟨rfl, hb5⟩
  obtain ⟨g, rfl⟩ : ∃ g, tv = .pointer (some ⟨g, 0, none⟩) := by
    obtain ⟨g, _, _, _, _, _, rfl, _⟩ := htab
    exact ⟨_, rfl⟩
  have hTN : TabN w2 B' (.pointer (some ⟨g, 0, none⟩)) N T := .inl htab
  have hle := hTN.le
  have hl2 : Sl 1 RInt w2 B (.slice A9 l.length cap9) l := Hhl.out.below keeps_int (hb5.mono hB0)
  obtain ⟨nN, rfl⟩ : ∃ nN : Nat, N = (nN : Int) := ⟨N.toNat, by have := hs.n0; omega⟩
  have hmax := hs.nmax
  have hmi := mirror08_calls (N := nN) hT2 hB2 hs.tmax
  have hmf : ∀ v u : Int, aftV T v = some u → afI (mir T) u = v := fun v u h => afI_of (hs.aft_mir h)
  have hmn : ∀ v : Int, aftV T v = none → afI (mir T) v = -1 := fun v h => afI_no (hs.aft_mir_none h)
  have haf := fun wz (h9 : Below w2.heap.size w2 wz) v => bafter_calls (hTN.below (h9.mono hle) (Nat.le_refl _)) hs v
  have hsm := hs.mir
  have hml := mir_len T
  have HhT2 := Lib.hid hT2; have Hhtab := Lib.hid htab; have HhTN := Lib.hid hTN; have Hhs := Lib.hid hs; have Hhl2 := Lib.hid hl2; have Hhmi := Lib.hid hmi; have Hhmf := Lib.hid hmf; have Hhmn := Lib.hid hmn; have Hhaf := Lib.hid haf; have Hhsm := Lib.hid hsm; have Hhml := Lib.hid hml; clear hT2 htab hTN hs hl2 hmi hmf hmn haf hsm hml
  go_wp2_with fail
  refine Hhmi.out.mono ?_
  rintro e w3 ⟨⟨r3, rfl, hown3⟩, hb6⟩
  obtain ⟨A3, cap3, rfl, hc3⟩ := own_form hown3
  rw [← Hhml.out] at hown3
  have hsl3 := sl_own_tris hown3
  rw [Hhml.out] at hsl3
  have htb3 := table12_calls (N := nN) hsl3 (Nat.le_refl _) hN
  have Hhown3 := Lib.hid hown3; have Hhsl3 := Lib.hid hsl3; have Hhtb3 := Lib.hid htb3; clear hown3 hsl3 htb3
  go_wp2_with fail
  refine Hhtb3.out.mono ?_
  rintro e w4 ⟨⟨tv4, B4, rfl, hor4⟩, hb7⟩
  rcases hor4 with ⟨_, _, htab4⟩ | ⟨hno4, -⟩
  case inr => exact absurd ⟨by rw [Hhml.out]; omega, Hhsm.out⟩ hno4
  obtain ⟨g4, rfl⟩ : ∃ g, tv4 = .pointer (some ⟨g, 0, none⟩) := by
    obtain ⟨g, _, _, _, _, _, rfl, _⟩ := htab4
    exact ⟨_, rfl⟩
  have hTN4 : TabN w4 B4 (.pointer (some ⟨g4, 0, none⟩)) nN (mir T) := .inl htab4
  have hle4 := hTN4.le
  have ham := fun wz (h9 : Below w4.heap.size w4 wz) v => bafter_calls (hTN4.below (h9.mono hle4) (Nat.le_refl _)) Hhsm.out v
  have hb24 := hb6.trans (hb7.mono hb6.size)
  have hz24 := hb24.size
  have Hhtab4 := Lib.hid htab4; have HhTN4 := Lib.hid hTN4; have Hham := Lib.hid ham; clear htab4 hTN4 ham
  go_wp2_with fail
  go_loopw [7] (fun i wr => ∃ k : Nat, k ≤ nN ∧ i = .int .i64 k ∧ Below w4.heap.size w4 wr) (fun i _ => nN - (intOf i).toNat)
  case atStart => exact ⟨0, by omega, rfl, Below.refl _ _⟩
  case round =>
    obtain ⟨k, hk, rfl, hbel⟩ := hrel
    obtain ⟨w5, hw5⟩ : ∃ w5, w5 = wr := ⟨_, rfl⟩
    subst hw5
    have hb25 := hb24.trans (hbel.mono hz24)
    have hz5 := hbel.size
    have p0 : w5.cell? ⟨w.heap.size, 0, none⟩ = some (.int .i64 nN) := (hb25.cell (p := ⟨w.heap.size, 0, none⟩) hbw2).trans e0
    have p1 : w5.cell? ⟨w.heap.size, 1, none⟩ = some (.slice A T.length cap) := (hb25.cell (p := ⟨w.heap.size, 1, none⟩) hbw2).trans e1
    by_cases hkn : k < nN
    · have haf1 := Hhaf.out w5 hb25 (k : Int)
      cases hav : aftV T (k : Int) with
      | none =>
        have ham1 := fun wz h9 => Hham.out wz h9 (k : Int)
        rw [afI_no hav] at haf1
        simp only [Hhmn.out _ hav] at ham1
        have Hhaf1 := Lib.hid haf1; have Hham1 := Lib.hid ham1; have Hhav := Lib.hid hav; clear haf1 ham1 hav
        go_wp2_with fail
        refine Hhaf1.out.mono ?_
        rintro e w6 ⟨rfl, hb8⟩
        have hbel6 := hbel.trans (hb8.mono hz5)
        go_wp2_with fail
        refine (Hham1.out _ hbel6).mono ?_
        rintro e w7 ⟨rfl, hb9⟩
        have hbel7 := hbel6.trans (hb9.mono hbel6.size)
        go_wp2_with fail
        exact ⟨⟨k + 1, by omega, by simp, hbel7⟩, by simp [intOf]; omega⟩
      | some u =>
        have ham1 := fun wz h9 => Hham.out wz h9 u
        have hu0 : 0 ≤ u := ((Hhs.out.aftV_rng hav).2).1
        rw [afI_of hav] at haf1
        simp only [Hhmf.out _ _ hav] at ham1
        have Hhaf1 := Lib.hid haf1; have Hham1 := Lib.hid ham1; have Hhav := Lib.hid hav; clear haf1 ham1 hav
        go_wp2_with fail
        refine Hhaf1.out.mono ?_
        rintro e w6 ⟨rfl, hb8⟩
        have hbel6 := hbel.trans (hb8.mono hz5)
        go_wp2_with fail
        refine (Hham1.out _ hbel6).mono ?_
        rintro e w7 ⟨rfl, hb9⟩
        have hbel7 := hbel6.trans (hb9.mono hbel6.size)
        go_wp2_with fail
        exact ⟨⟨k + 1, by omega, by simp, hbel7⟩, by simp [intOf]; omega⟩
    · obtain rfl : k = nN := by omega
      have hpe := perm08_calls (n := k) (Hhl2.out.below keeps_int (hb25.mono hB2)) (by omega)
      have hfi := hb5.trans (hb25.mono hb5.size)
      have Hhpe := Lib.hid hpe; clear hpe
      go_wp2_with fail
      refine Hhpe.out.mono ?_
      rintro e w6 ⟨⟨pb, rfl, hpb⟩, hw6⟩
      rw [hw6]
      clear hw6 w6
      cases pb with
      | false =>
        have Hhpb := Lib.hid hpb; clear hpb
        go_wp2_with fail
        go_ret
        exact ⟨rfl, hfi⟩
      | true =>
        have hp := hpb.1 rfl
        have hln : (l.length : Int) = (k : Int) := by rw [hp.1]
        have hsim := sim_swp (T := T) hp
        have hre := rename08_calls (HhT2.out.below keeps_tri (hb25.mono hB2)) (Hhl2.out.below keeps_int (hb25.mono hB2)) (by omega) Hhs.out hln
        have Hhpb := Lib.hid hpb; have Hhp := Lib.hid hp; have Hhre := Lib.hid hre; have Hhsim := Lib.hid hsim; clear hpb hp hre hsim
        go_wp2_with fail
        refine Hhre.out.mono ?_
        rintro e w7 ⟨⟨r7, rfl, hown7⟩, hb9⟩
        obtain ⟨A7, cap7, rfl, hc7⟩ := own_form hown7
        have hz7 := hb9.size
        have hA7 : ∀ g, A7 = some ⟨g, 0, none⟩ → g < w7.heap.size := fun g e => (hown7.lt g (by rw [e]; rfl)).2
        have hxl : (ren (pf l) T).length = T.length := ren_len _ _
        have hsim := Hhsim.out
        clear Hhsim
        generalize ren (pf l) T = X0 at *
        have hown8 : (w7.alloc (.cells #[.int .i64 (k : Int), .slice A7 T.length cap7] 24)).ownsRow w5.heap.size 55 3 (.slice A7 T.length cap7) T.length (triVals (swp X0 0)) := by
          rw [swp_zero]; exact hown7.alloc _
        have hbx8 := Bk.new w7 24 [.int .i64 (k : Int), .slice A7 T.length cap7]
        have hd8 : Below w5.heap.size w5 (w7.alloc (.cells #[.int .i64 (k : Int), .slice A7 T.length cap7] 24)) := hb9.alloc hz7 _
        have hlt8 := hbx8.lt
        have Hhown7 := Lib.hid hown7; have Hhsim := Lib.hid hsim; have Hhown8 := Lib.hid hown8; have Hhbx8 := Lib.hid hbx8; have HhA7 := Lib.hid hA7; clear hown7 hsim hown8 hbx8 hA7
        go_wp2_with fail
        generalize hw8 : w7.alloc (.cells #[.int .i64 (k : Int), .slice A7 T.length cap7] 24) = w8 at *
        clear hw8
        go_loopw [10] (fun i wr => ∃ j : Nat, j ≤ T.length / 2 ∧ i = .int .i64 j ∧ Bk wr w7.heap.size 24 [.int .i64 (k : Int), .slice A7 T.length cap7] ∧ wr.ownsRow w5.heap.size 55 3 (.slice A7 T.length cap7) T.length (triVals (swp X0 j)) ∧ Below w5.heap.size w5 wr ∧ w7.heap.size < wr.heap.size) (fun i _ => T.length / 2 - (intOf i).toNat)
        case atStart => exact ⟨0, by omega, rfl, Hhbx8.out, Hhown8.out, hd8, hlt8⟩
        case round =>
          obtain ⟨j, hj, rfl, hbx, hown, hbel9, hz9⟩ := hrel
          obtain ⟨w9, hw9⟩ : ∃ w9, w9 = wr := ⟨_, rfl⟩
          subst hw9
          have m1 : w9.cell? ⟨w7.heap.size, 1, none⟩ = some (.slice A7 T.length cap7) := hbx.cell 1
          by_cases hjl : j < T.length / 2
          · obtain ⟨g7, rfl⟩ := own_addr hown (by omega)
            have hg7 := HhA7.out g7 rfl
            have hj9 : (j : Int) < (T.length : Int) / 2 := by omega
            obtain ⟨e1, e2⟩ := swp_two (L := X0) (k := j) (by omega)
            have hstep := swp_step X0 (k := j) (by omega)
            rw [hxl] at e2 hstep
            obtain ⟨a1, a2, a3⟩ := triVals_of e1
            obtain ⟨b1, b2, b3⟩ := triVals_of e2
            generalize triAt X0 j = ta at *
            generalize triAt X0 (T.length - 1 - j) = tb at *
            obtain ⟨j2, hj2, hj3⟩ : ∃ j2 : Nat, (T.length : Int) - 1 - (j : Int) = (j2 : Int) ∧ T.length - 1 - j = j2 := ⟨T.length - 1 - j, by omega, rfl⟩
            rw [hj3] at hstep b1 b2 b3
            obtain ⟨x1, x2, x3⟩ := ta
            obtain ⟨y1, y2, y3⟩ := tb
            simp only [] at a1 a2 a3 b1 b2 b3
            obtain ⟨ca1, fa1, -, hg9⟩ := own_cellN hown a1
            obtain ⟨ca2, fa2, -, -⟩ := own_cellN hown a2
            obtain ⟨ca3, fa3, hgb, -⟩ := own_cellN hown a3
            obtain ⟨cb1, fb1, -, -⟩ := own_cellN hown b1
            obtain ⟨cb2, fb2, -, -⟩ := own_cellN hown b2
            obtain ⟨cb3, fb3, -, -⟩ := own_cellN hown b3
            have hj4 : (j2 : Int) < (T.length : Int) := by omega
            have hj5 : (j : Int) < (T.length : Int) := by omega
            have kb1 : ∀ X : Obj, Go.Canon.KeepU (fun b => b < w9.heap.size) w9.drew (w9.drew.alloc X) := fun X => keep_below (B := w9.heap.size) ((Below.refl w9.heap.size w9.drew).alloc (Nat.le_refl _) X)
            have kb2 : ∀ X Y : Obj, Go.Canon.KeepU (fun b => b < w9.heap.size) w9.drew ((w9.drew.alloc X).alloc Y) := fun X Y => keep_below (B := w9.heap.size) (((Below.refl w9.heap.size w9.drew).alloc (Nat.le_refl _) X).alloc (by simp) Y)
            have hz5 := hbel9.size
            have He1 := Lib.hid e1; have He2 := Lib.hid e2; have Ha1 := Lib.hid a1; have Ha2 := Lib.hid a2; have Ha3 := Lib.hid a3; have Hb1 := Lib.hid b1; have Hb2 := Lib.hid b2; have Hb3 := Lib.hid b3; have Hhstep := Lib.hid hstep; have Hhown := Lib.hid hown; have Hhbx := Lib.hid hbx; have Hhj3 := Lib.hid hj3; clear e1 e2 a1 a2 a3 b1 b2 b3 hstep hown hbx hj3
            go_wp2_with fail
            refine Go.Canon.wp_region_tree [1,4,6,8,14] (fun b => b < w9.heap.size) (.seg [0,1,2,3,4,5,6,7,8,9,10,11,12,13,14] (.alt 15 (.alt 16 (.alt 17 (.alt 18 .fin .no) .no) .no) (.alt 16 (.alt 15 (.alt 17 (.alt 18 .fin .no) .no) .no) .no))) mixed (by kernel_rfl) ?_
            refine Go.Canon.tr_seg ?_
            simp only [List.map_cons, List.map_nil, List.getD_cons_zero, List.getD_cons_succ]
            go_wp2_with fail
            refine Go.Canon.tr_to (Go.Canon.tr_alt ?_ (Go.Canon.tr_alt ?_ Go.Canon.tr_no))
            · simp only [List.getD_cons_zero, List.getD_cons_succ]
              go_wp2_with fail
              refine Go.Canon.tr_end (kb1 _) (Go.Canon.tr_one ?_)
              simp only [List.getD_cons_zero, List.getD_cons_succ]
              go_wp2_with fail
              refine Go.Canon.tr_end (kb2 _ _) (Go.Canon.tr_one ?_)
              simp only [List.getD_cons_zero, List.getD_cons_succ]
              go_wp2_with fail
              refine Go.Canon.tr_end (kb2 _ _) (Go.Canon.tr_one ?_)
              simp only [List.getD_cons_zero, List.getD_cons_succ]
              go_wp2_with fail
              refine Go.Canon.tr_end (kb2 _ _) (Go.Canon.tr_fin (by rfl) (List.forall_mem_cons.2 ⟨.inl ⟨_, rfl, hz9, by rw [World.cell?_drew, m1]; rfl⟩, List.forall_mem_cons.2 ⟨.inl ⟨_, rfl, hg9, by rw [World.cell?_drew, ca1]; rfl⟩, List.forall_mem_cons.2 ⟨.inl ⟨_, rfl, hz9, by rw [World.cell?_drew, m1]; rfl⟩, List.forall_mem_cons.2 ⟨.inl ⟨_, rfl, hz9, by rw [World.cell?_drew, m1]; rfl⟩, List.forall_mem_cons.2 ⟨.inl ⟨_, rfl, hg9, by rw [World.cell?_drew, cb1]; rfl⟩, fun _ h => by cases h⟩⟩⟩⟩⟩) ?_)
              have hbp := ((hbel9.alloc hz5 (.cells #[.int .i64 x1, .int .i64 x2, .int .i64 x3] 55)).alloc (by simp; omega) (.cells #[.int .i64 y1, .int .i64 y2, .int .i64 y3] 55)).drew
              have hsp := ((Hhbx.out.alloc (.cells #[.int .i64 x1, .int .i64 x2, .int .i64 x3] 55)).alloc (.cells #[.int .i64 y1, .int .i64 y2, .int .i64 y3] 55)).drew
              have hxp := ((Bk.new w9 55 [.int .i64 x1, .int .i64 x2, .int .i64 x3]).alloc (.cells #[.int .i64 y1, .int .i64 y2, .int .i64 y3] 55)).drew
              have hyp := (Bk.new' (n := w9.heap.size + 1) (w := w9.alloc (.cells #[.int .i64 x1, .int .i64 x2, .int .i64 x3] 55)) 55 [.int .i64 y1, .int .i64 y2, .int .i64 y3] (by simp)).drew
              have hownp := own_below Hhown.out (((Below.refl w9.heap.size w9).alloc (Nat.le_refl _) (.cells #[.int .i64 x1, .int .i64 x2, .int .i64 x3] 55)).alloc (by simp) (.cells #[.int .i64 y1, .int .i64 y2, .int .i64 y3] 55)).drew (Nat.le_refl _)
              have hsz9 : w9.heap.size + 2 ≤ ((w9.alloc (.cells #[.int .i64 x1, .int .i64 x2, .int .i64 x3] 55)).alloc (.cells #[.int .i64 y1, .int .i64 y2, .int .i64 y3] 55)).drew.heap.size := by simp
              generalize hwp : ((w9.alloc (.cells #[.int .i64 x1, .int .i64 x2, .int .i64 x3] 55)).alloc (.cells #[.int .i64 y1, .int .i64 y2, .int .i64 y3] 55)).drew = wp at *
              clear hwp
              have hzp := hbp.size
              have m1p : wp.cell? ⟨w7.heap.size, 1, none⟩ = some (.slice (some ⟨g7, 0, none⟩) T.length cap7) := hsp.cell 1
              have x1p : wp.cell? ⟨w9.heap.size, 0, none⟩ = some (.int .i64 x1) := hxp.cell 0
              have x2p : wp.cell? ⟨w9.heap.size, 1, none⟩ = some (.int .i64 x2) := hxp.cell 1
              have x3p : wp.cell? ⟨w9.heap.size, 2, none⟩ = some (.int .i64 x3) := hxp.cell 2
              have y1p : wp.cell? ⟨(w9.heap.size + 1), 0, none⟩ = some (.int .i64 y1) := hyp.cell 0
              have y2p : wp.cell? ⟨(w9.heap.size + 1), 1, none⟩ = some (.int .i64 y2) := hyp.cell 1
              have y3p : wp.cell? ⟨(w9.heap.size + 1), 2, none⟩ = some (.int .i64 y3) := hyp.cell 2
              clear ca1 ca2 ca3 cb1 cb2 cb3 m1 kb1 kb2
              have hyl := hyp.lt
              have hxl9 := hxp.lt
              have Hhsp := Lib.hid hsp; have Hhxp := Lib.hid hxp; have Hhyp := Lib.hid hyp; have Hhownp := Lib.hid hownp; clear hsp hxp hyp hownp
              go_wp2_with fail
              refine Go.Canon.wp_region_tree [1,4,6,13] (fun b => b = w7.heap.size ∨ b = w9.heap.size) (.seg [0,1,2,3,4,5,6,7,8,9,10,11,13] (.alt 12 (.alt 14 (.seg [15] (.alt 16 (.seg [17] (.alt 18 .fin .no)) .no)) .no) .no)) mixed (by kernel_rfl) ?_
              refine Go.Canon.tr_seg ?_
              simp only [List.map_cons, List.map_nil, List.getD_cons_zero, List.getD_cons_succ]
              go_wp2_with fail
              refine Go.Canon.tr_to (Go.Canon.tr_one ?_)
              simp only [List.getD_cons_zero, List.getD_cons_succ]
              go_wp2_with fail
              refine (turned08_calls y1 y2 y3 1 (by omega) wp.drew).mono ?_
              rintro e wq ⟨rfl, hbq⟩
              have hpq : Below wp.heap.size wp wq := (Below.refl _ wp).drew.trans hbq
              have x1q := (hpq.cell (p := ⟨w9.heap.size, 0, none⟩) hxl9).trans x1p
              have x2q := (hpq.cell (p := ⟨w9.heap.size, 1, none⟩) hxl9).trans x2p
              have x3q := (hpq.cell (p := ⟨w9.heap.size, 2, none⟩) hxl9).trans x3p
              go_wp2_with fail
              refine Go.Canon.tr_end (fun b hb => hpq.block b (by rcases hb with rfl | rfl <;> omega)) (Go.Canon.tr_one ?_)
              simp only [List.getD_cons_zero, List.getD_cons_succ]
              go_wp2_with fail
              refine (turned08_calls x1 x2 x3 2 (by omega) wq).mono ?_
              rintro e wr ⟨rfl, hbr⟩
              have hpr : Below wp.heap.size wp wr := hpq.trans (hbr.mono hpq.size)
              have hownr := own_below Hhownp.out hpr (Nat.le_refl _)
              have hsr := Hhsp.out.below hpr Hhsp.out.lt
              have hzr := hpr.size
              have hbel10 : Below w5.heap.size w5 wr := hbp.trans (hpr.mono hzp)
              obtain ⟨t1, t2⟩ : (∃ t, t = rot (y1, y2, y3) 1) ∧ ∃ t, t = rot (x1, x2, x3) 2 := ⟨⟨_, rfl⟩, ⟨_, rfl⟩⟩
              obtain ⟨⟨p1, p2, p3⟩, ht1⟩ := t1
              obtain ⟨⟨q1, q2, q3⟩, ht2⟩ := t2
              have hst := Hhstep.out
              rw [← ht1, ← ht2] at hst
              have hown11 := own_tri_set (own_tri_set hownr j p1 p2 p3) j2 q1 q2 q3
              rw [← hst] at hown11
              have kk : ∀ (wz : World) (b i : Nat) (u : Value), b ≠ g7 → (wz.setCell ⟨g7, i, none⟩ u).heap[b]? = wz.heap[b]? := fun wz b i u hg => Below.heap_setCell _ _ _ _ hg
              have kb : ∀ (wz : World) (i : Nat) (u : Value), Below w5.heap.size w5 wz → Below w5.heap.size w5 (wz.setCell ⟨g7, i, none⟩ u) := fun wz i u h9 => h9.setCell (p := ⟨g7, i, none⟩) hgb u
              have ks : ∀ (wz : World) (i : Nat) (u : Value), wz.heap.size ≤ (wz.setCell ⟨g7, i, none⟩ u).heap.size := fun wz i u => (KeepsWalks.setCell wz _ u).size
              obtain ⟨fz1, fy1, -, -⟩ := own_cellN hownr Ha1.out
              obtain ⟨fz2, fy2, -, -⟩ := own_cellN hownr Ha2.out
              obtain ⟨fz3, fy3, -, -⟩ := own_cellN hownr Ha3.out
              obtain ⟨fz4, fy4, -, -⟩ := own_cellN hownr Hb1.out
              obtain ⟨fz5, fy5, -, -⟩ := own_cellN hownr Hb2.out
              obtain ⟨fz6, fy6, -, -⟩ := own_cellN hownr Hb3.out
              rw [← ht1, ← ht2]
              simp only []
              have Hhownr := Lib.hid hownr; have Hhsr := Lib.hid hsr; have Hhbel10 := Lib.hid hbel10; have Hht1 := Lib.hid ht1; have Hht2 := Lib.hid ht2; have Hhst := Lib.hid hst; have Hhown11 := Lib.hid hown11; have Hkk := Lib.hid kk; have Hkb := Lib.hid kb; have Hks := Lib.hid ks; clear hownr hsr hbel10 ht1 ht2 hst hown11 kk kb ks
              go_wp2_with fail
              refine Go.Canon.tr_end (fun b hb => hpr.block b (by rcases hb with rfl | rfl <;> omega)) (Go.Canon.tr_seg ?_)
              simp only [List.map_cons, List.map_nil, List.getD_cons_zero, List.getD_cons_succ]
              go_wp2_with fail
              refine Go.Canon.tr_to (Go.Canon.tr_one ?_)
              simp only [List.getD_cons_zero, List.getD_cons_succ]
              go_wp2_with fail
              obtain ⟨wA, hwA⟩ : ∃ wA, wA = (((wr.setCell ⟨g7, j * 3, none⟩ (.int .i64 p1)).setCell ⟨g7, j * 3 + 1, none⟩ (.int .i64 p2)).setCell ⟨g7, j * 3 + 2, none⟩ (.int .i64 p3)) := ⟨_, rfl⟩
              have hownA : wA.ownsRow w5.heap.size 55 3 (.slice (some ⟨g7, 0, none⟩) T.length cap7) T.length (triVals ((swp X0 j).set j (p1, p2, p3))) := by rw [hwA]; exact own_tri_set Hhownr.out j p1 p2 p3
              have hkA : ∀ b, b ≠ g7 → wA.heap[b]? = wr.heap[b]? := fun b hb => by rw [hwA, Hkk.out _ _ _ _ hb, Hkk.out _ _ _ _ hb, Hkk.out _ _ _ _ hb]
              have hbA : Below w5.heap.size w5 wA := by rw [hwA]; exact Hkb.out _ _ _ (Hkb.out _ _ _ (Hkb.out _ _ _ Hhbel10.out))
              have hzA : wr.heap.size ≤ wA.heap.size := by rw [hwA]; exact Nat.le_trans (Hks.out _ _ _) (Nat.le_trans (Hks.out _ _ _) (Hks.out _ _ _))
              obtain ⟨t9, e9⟩ : ∃ t, ((swp X0 j).set j (p1, p2, p3))[j2]? = some t := ⟨_, List.getElem?_eq_getElem (by rw [List.length_set, swp_len]; omega)⟩
              obtain ⟨v1, v2, v3⟩ := triVals_of e9
              rw [← hwA]
              clear hwA fz1 fz2 fz3 fz4 fz5 fz6 fy1 fy2 fy3 fy4 fy5 fy6
              obtain ⟨fz4, fy4, -, -⟩ := own_cellN hownA v1
              obtain ⟨fz5, fy5, -, -⟩ := own_cellN hownA v2
              obtain ⟨fz6, fy6, -, -⟩ := own_cellN hownA v3
              have HhownA := Lib.hid hownA; have HhkA := Lib.hid hkA; have HhbA := Lib.hid hbA; have He9 := Lib.hid e9; have Hv1 := Lib.hid v1; have Hv2 := Lib.hid v2; have Hv3 := Lib.hid v3; clear hownA hkA hbA e9 v1 v2 v3
              refine Go.Canon.tr_end (fun b hb => (HhkA.out b (by rcases hb with rfl | rfl <;> omega)).trans (hpr.block b (by rcases hb with rfl | rfl <;> omega))) (Go.Canon.tr_seg ?_)
              simp only [List.map_cons, List.map_nil, List.getD_cons_zero, List.getD_cons_succ]
              go_wp2_with fail
              refine Go.Canon.tr_to (Go.Canon.tr_one ?_)
              simp only [List.getD_cons_zero, List.getD_cons_succ]
              go_wp2_with fail
              obtain ⟨wB, hwB⟩ : ∃ wB, wB = (((wA.setCell ⟨g7, j2 * 3, none⟩ (.int .i64 q1)).setCell ⟨g7, j2 * 3 + 1, none⟩ (.int .i64 q2)).setCell ⟨g7, j2 * 3 + 2, none⟩ (.int .i64 q3)) := ⟨_, rfl⟩
              have hownB : wB.ownsRow w5.heap.size 55 3 (.slice (some ⟨g7, 0, none⟩) T.length cap7) T.length (triVals (swp X0 (j + 1))) := by rw [hwB, Hhst.out]; exact own_tri_set HhownA.out j2 q1 q2 q3
              have hkB : ∀ b, b ≠ g7 → wB.heap[b]? = wr.heap[b]? := fun b hb => by rw [hwB, Hkk.out _ _ _ _ hb, Hkk.out _ _ _ _ hb, Hkk.out _ _ _ _ hb, HhkA.out b hb]
              have hbB : Below w5.heap.size w5 wB := by rw [hwB]; exact Hkb.out _ _ _ (Hkb.out _ _ _ (Hkb.out _ _ _ HhbA.out))
              have hzB : wA.heap.size ≤ wB.heap.size := by rw [hwB]; exact Nat.le_trans (Hks.out _ _ _) (Nat.le_trans (Hks.out _ _ _) (Hks.out _ _ _))
              rw [← hwB]
              have hbxB : Bk wB w7.heap.size 24 [.int .i64 (k : Int), .slice (some ⟨g7, 0, none⟩) T.length cap7] := (hkB _ (by omega)).trans Hhsr.out
              clear hwB
              have HhownB := Lib.hid hownB; have HhbB := Lib.hid hbB; have HhbxB := Lib.hid hbxB; clear hownB hbB hbxB
              refine Go.Canon.tr_end (fun b hb => (hkB b (by rcases hb with rfl | rfl <;> omega)).trans (hpr.block b (by rcases hb with rfl | rfl <;> omega))) (Go.Canon.tr_fin (by rfl) (List.forall_mem_cons.2 ⟨.inl ⟨_, rfl, .inl rfl, by rw [World.cell?_drew, m1p]; rfl⟩, List.forall_mem_cons.2 ⟨.inl ⟨_, rfl, .inl rfl, by rw [World.cell?_drew, m1p]; rfl⟩, List.forall_mem_cons.2 ⟨.inl ⟨_, rfl, .inl rfl, by rw [World.cell?_drew, m1p]; rfl⟩, List.forall_mem_cons.2 ⟨.inl ⟨_, rfl, .inr rfl, by rw [World.cell?_drew, x1p]; rfl⟩, fun _ h => by cases h⟩⟩⟩⟩) ?_)
              go_wp2_with fail
              exact ⟨⟨j + 1, by omega, by simp, HhbxB.out, HhownB.out, HhbB.out, by omega⟩, by simp [intOf]; omega⟩
            · simp only [List.getD_cons_zero, List.getD_cons_succ]
              go_wp2_with fail
              refine Go.Canon.tr_end (kb1 _) (Go.Canon.tr_one ?_)
              simp only [List.getD_cons_zero, List.getD_cons_succ]
              go_wp2_with fail
              refine Go.Canon.tr_end (kb2 _ _) (Go.Canon.tr_one ?_)
              simp only [List.getD_cons_zero, List.getD_cons_succ]
              go_wp2_with fail
              refine Go.Canon.tr_end (kb2 _ _) (Go.Canon.tr_one ?_)
              simp only [List.getD_cons_zero, List.getD_cons_succ]
              go_wp2_with fail
              refine Go.Canon.tr_end (kb2 _ _) (Go.Canon.tr_fin (by rfl) (List.forall_mem_cons.2 ⟨.inl ⟨_, rfl, hz9, by rw [World.cell?_drew, m1]; rfl⟩, List.forall_mem_cons.2 ⟨.inl ⟨_, rfl, hg9, by rw [World.cell?_drew, ca1]; rfl⟩, List.forall_mem_cons.2 ⟨.inl ⟨_, rfl, hz9, by rw [World.cell?_drew, m1]; rfl⟩, List.forall_mem_cons.2 ⟨.inl ⟨_, rfl, hz9, by rw [World.cell?_drew, m1]; rfl⟩, List.forall_mem_cons.2 ⟨.inl ⟨_, rfl, hg9, by rw [World.cell?_drew, cb1]; rfl⟩, fun _ h => by cases h⟩⟩⟩⟩⟩) ?_)
              have hbp := ((hbel9.alloc hz5 (.cells #[.int .i64 y1, .int .i64 y2, .int .i64 y3] 55)).alloc (by simp; omega) (.cells #[.int .i64 x1, .int .i64 x2, .int .i64 x3] 55)).drew
              have hsp := ((Hhbx.out.alloc (.cells #[.int .i64 y1, .int .i64 y2, .int .i64 y3] 55)).alloc (.cells #[.int .i64 x1, .int .i64 x2, .int .i64 x3] 55)).drew
              have hyp := ((Bk.new w9 55 [.int .i64 y1, .int .i64 y2, .int .i64 y3]).alloc (.cells #[.int .i64 x1, .int .i64 x2, .int .i64 x3] 55)).drew
              have hxp := (Bk.new' (n := w9.heap.size + 1) (w := w9.alloc (.cells #[.int .i64 y1, .int .i64 y2, .int .i64 y3] 55)) 55 [.int .i64 x1, .int .i64 x2, .int .i64 x3] (by simp)).drew
              have hownp := own_below Hhown.out (((Below.refl w9.heap.size w9).alloc (Nat.le_refl _) (.cells #[.int .i64 y1, .int .i64 y2, .int .i64 y3] 55)).alloc (by simp) (.cells #[.int .i64 x1, .int .i64 x2, .int .i64 x3] 55)).drew (Nat.le_refl _)
              have hsz9 : w9.heap.size + 2 ≤ ((w9.alloc (.cells #[.int .i64 y1, .int .i64 y2, .int .i64 y3] 55)).alloc (.cells #[.int .i64 x1, .int .i64 x2, .int .i64 x3] 55)).drew.heap.size := by simp
              generalize hwp : ((w9.alloc (.cells #[.int .i64 y1, .int .i64 y2, .int .i64 y3] 55)).alloc (.cells #[.int .i64 x1, .int .i64 x2, .int .i64 x3] 55)).drew = wp at *
              clear hwp
              have hzp := hbp.size
              have m1p : wp.cell? ⟨w7.heap.size, 1, none⟩ = some (.slice (some ⟨g7, 0, none⟩) T.length cap7) := hsp.cell 1
              have x1p : wp.cell? ⟨(w9.heap.size + 1), 0, none⟩ = some (.int .i64 x1) := hxp.cell 0
              have x2p : wp.cell? ⟨(w9.heap.size + 1), 1, none⟩ = some (.int .i64 x2) := hxp.cell 1
              have x3p : wp.cell? ⟨(w9.heap.size + 1), 2, none⟩ = some (.int .i64 x3) := hxp.cell 2
              have y1p : wp.cell? ⟨w9.heap.size, 0, none⟩ = some (.int .i64 y1) := hyp.cell 0
              have y2p : wp.cell? ⟨w9.heap.size, 1, none⟩ = some (.int .i64 y2) := hyp.cell 1
              have y3p : wp.cell? ⟨w9.heap.size, 2, none⟩ = some (.int .i64 y3) := hyp.cell 2
              clear ca1 ca2 ca3 cb1 cb2 cb3 m1 kb1 kb2
              have hyl := hyp.lt
              have hxl9 := hxp.lt
              have Hhsp := Lib.hid hsp; have Hhxp := Lib.hid hxp; have Hhyp := Lib.hid hyp; have Hhownp := Lib.hid hownp; clear hsp hxp hyp hownp
              go_wp2_with fail
              refine Go.Canon.wp_region_tree [1,4,6,13] (fun b => b = w7.heap.size ∨ b = (w9.heap.size + 1)) (.seg [0,1,2,3,4,5,6,7,8,9,10,11,13] (.alt 12 (.alt 14 (.seg [15] (.alt 16 (.seg [17] (.alt 18 .fin .no)) .no)) .no) .no)) mixed (by kernel_rfl) ?_
              refine Go.Canon.tr_seg ?_
              simp only [List.map_cons, List.map_nil, List.getD_cons_zero, List.getD_cons_succ]
              go_wp2_with fail
              refine Go.Canon.tr_to (Go.Canon.tr_one ?_)
              simp only [List.getD_cons_zero, List.getD_cons_succ]
              go_wp2_with fail
              refine (turned08_calls y1 y2 y3 1 (by omega) wp.drew).mono ?_
              rintro e wq ⟨rfl, hbq⟩
              have hpq : Below wp.heap.size wp wq := (Below.refl _ wp).drew.trans hbq
              have x1q := (hpq.cell (p := ⟨(w9.heap.size + 1), 0, none⟩) hxl9).trans x1p
              have x2q := (hpq.cell (p := ⟨(w9.heap.size + 1), 1, none⟩) hxl9).trans x2p
              have x3q := (hpq.cell (p := ⟨(w9.heap.size + 1), 2, none⟩) hxl9).trans x3p
              go_wp2_with fail
              refine Go.Canon.tr_end (fun b hb => hpq.block b (by rcases hb with rfl | rfl <;> omega)) (Go.Canon.tr_one ?_)
              simp only [List.getD_cons_zero, List.getD_cons_succ]
              go_wp2_with fail
              refine (turned08_calls x1 x2 x3 2 (by omega) wq).mono ?_
              rintro e wr ⟨rfl, hbr⟩
              have hpr : Below wp.heap.size wp wr := hpq.trans (hbr.mono hpq.size)
              have hownr := own_below Hhownp.out hpr (Nat.le_refl _)
              have hsr := Hhsp.out.below hpr Hhsp.out.lt
              have hzr := hpr.size
              have hbel10 : Below w5.heap.size w5 wr := hbp.trans (hpr.mono hzp)
              obtain ⟨t1, t2⟩ : (∃ t, t = rot (y1, y2, y3) 1) ∧ ∃ t, t = rot (x1, x2, x3) 2 := ⟨⟨_, rfl⟩, ⟨_, rfl⟩⟩
              obtain ⟨⟨p1, p2, p3⟩, ht1⟩ := t1
              obtain ⟨⟨q1, q2, q3⟩, ht2⟩ := t2
              have hst := Hhstep.out
              rw [← ht1, ← ht2] at hst
              have hown11 := own_tri_set (own_tri_set hownr j p1 p2 p3) j2 q1 q2 q3
              rw [← hst] at hown11
              have kk : ∀ (wz : World) (b i : Nat) (u : Value), b ≠ g7 → (wz.setCell ⟨g7, i, none⟩ u).heap[b]? = wz.heap[b]? := fun wz b i u hg => Below.heap_setCell _ _ _ _ hg
              have kb : ∀ (wz : World) (i : Nat) (u : Value), Below w5.heap.size w5 wz → Below w5.heap.size w5 (wz.setCell ⟨g7, i, none⟩ u) := fun wz i u h9 => h9.setCell (p := ⟨g7, i, none⟩) hgb u
              have ks : ∀ (wz : World) (i : Nat) (u : Value), wz.heap.size ≤ (wz.setCell ⟨g7, i, none⟩ u).heap.size := fun wz i u => (KeepsWalks.setCell wz _ u).size
              obtain ⟨fz1, fy1, -, -⟩ := own_cellN hownr Ha1.out
              obtain ⟨fz2, fy2, -, -⟩ := own_cellN hownr Ha2.out
              obtain ⟨fz3, fy3, -, -⟩ := own_cellN hownr Ha3.out
              obtain ⟨fz4, fy4, -, -⟩ := own_cellN hownr Hb1.out
              obtain ⟨fz5, fy5, -, -⟩ := own_cellN hownr Hb2.out
              obtain ⟨fz6, fy6, -, -⟩ := own_cellN hownr Hb3.out
              rw [← ht1, ← ht2]
              simp only []
              have Hhownr := Lib.hid hownr; have Hhsr := Lib.hid hsr; have Hhbel10 := Lib.hid hbel10; have Hht1 := Lib.hid ht1; have Hht2 := Lib.hid ht2; have Hhst := Lib.hid hst; have Hhown11 := Lib.hid hown11; have Hkk := Lib.hid kk; have Hkb := Lib.hid kb; have Hks := Lib.hid ks; clear hownr hsr hbel10 ht1 ht2 hst hown11 kk kb ks
              go_wp2_with fail
              refine Go.Canon.tr_end (fun b hb => hpr.block b (by rcases hb with rfl | rfl <;> omega)) (Go.Canon.tr_seg ?_)
              simp only [List.map_cons, List.map_nil, List.getD_cons_zero, List.getD_cons_succ]
              go_wp2_with fail
              refine Go.Canon.tr_to (Go.Canon.tr_one ?_)
              simp only [List.getD_cons_zero, List.getD_cons_succ]
              go_wp2_with fail
              obtain ⟨wA, hwA⟩ : ∃ wA, wA = (((wr.setCell ⟨g7, j * 3, none⟩ (.int .i64 p1)).setCell ⟨g7, j * 3 + 1, none⟩ (.int .i64 p2)).setCell ⟨g7, j * 3 + 2, none⟩ (.int .i64 p3)) := ⟨_, rfl⟩
              have hownA : wA.ownsRow w5.heap.size 55 3 (.slice (some ⟨g7, 0, none⟩) T.length cap7) T.length (triVals ((swp X0 j).set j (p1, p2, p3))) := by rw [hwA]; exact own_tri_set Hhownr.out j p1 p2 p3
              have hkA : ∀ b, b ≠ g7 → wA.heap[b]? = wr.heap[b]? := fun b hb => by rw [hwA, Hkk.out _ _ _ _ hb, Hkk.out _ _ _ _ hb, Hkk.out _ _ _ _ hb]
              have hbA : Below w5.heap.size w5 wA := by rw [hwA]; exact Hkb.out _ _ _ (Hkb.out _ _ _ (Hkb.out _ _ _ Hhbel10.out))
              have hzA : wr.heap.size ≤ wA.heap.size := by rw [hwA]; exact Nat.le_trans (Hks.out _ _ _) (Nat.le_trans (Hks.out _ _ _) (Hks.out _ _ _))
              obtain ⟨t9, e9⟩ : ∃ t, ((swp X0 j).set j (p1, p2, p3))[j2]? = some t := ⟨_, List.getElem?_eq_getElem (by rw [List.length_set, swp_len]; omega)⟩
              obtain ⟨v1, v2, v3⟩ := triVals_of e9
              rw [← hwA]
              clear hwA fz1 fz2 fz3 fz4 fz5 fz6 fy1 fy2 fy3 fy4 fy5 fy6
              obtain ⟨fz4, fy4, -, -⟩ := own_cellN hownA v1
              obtain ⟨fz5, fy5, -, -⟩ := own_cellN hownA v2
              obtain ⟨fz6, fy6, -, -⟩ := own_cellN hownA v3
              have HhownA := Lib.hid hownA; have HhkA := Lib.hid hkA; have HhbA := Lib.hid hbA; have He9 := Lib.hid e9; have Hv1 := Lib.hid v1; have Hv2 := Lib.hid v2; have Hv3 := Lib.hid v3; clear hownA hkA hbA e9 v1 v2 v3
              refine Go.Canon.tr_end (fun b hb => (HhkA.out b (by rcases hb with rfl | rfl <;> omega)).trans (hpr.block b (by rcases hb with rfl | rfl <;> omega))) (Go.Canon.tr_seg ?_)
              simp only [List.map_cons, List.map_nil, List.getD_cons_zero, List.getD_cons_succ]
              go_wp2_with fail
              refine Go.Canon.tr_to (Go.Canon.tr_one ?_)
              simp only [List.getD_cons_zero, List.getD_cons_succ]
              go_wp2_with fail
              obtain ⟨wB, hwB⟩ : ∃ wB, wB = (((wA.setCell ⟨g7, j2 * 3, none⟩ (.int .i64 q1)).setCell ⟨g7, j2 * 3 + 1, none⟩ (.int .i64 q2)).setCell ⟨g7, j2 * 3 + 2, none⟩ (.int .i64 q3)) := ⟨_, rfl⟩
              have hownB : wB.ownsRow w5.heap.size 55 3 (.slice (some ⟨g7, 0, none⟩) T.length cap7) T.length (triVals (swp X0 (j + 1))) := by rw [hwB, Hhst.out]; exact own_tri_set HhownA.out j2 q1 q2 q3
              have hkB : ∀ b, b ≠ g7 → wB.heap[b]? = wr.heap[b]? := fun b hb => by rw [hwB, Hkk.out _ _ _ _ hb, Hkk.out _ _ _ _ hb, Hkk.out _ _ _ _ hb, HhkA.out b hb]
              have hbB : Below w5.heap.size w5 wB := by rw [hwB]; exact Hkb.out _ _ _ (Hkb.out _ _ _ (Hkb.out _ _ _ HhbA.out))
              have hzB : wA.heap.size ≤ wB.heap.size := by rw [hwB]; exact Nat.le_trans (Hks.out _ _ _) (Nat.le_trans (Hks.out _ _ _) (Hks.out _ _ _))
              rw [← hwB]
              have hbxB : Bk wB w7.heap.size 24 [.int .i64 (k : Int), .slice (some ⟨g7, 0, none⟩) T.length cap7] := (hkB _ (by omega)).trans Hhsr.out
              clear hwB
              have HhownB := Lib.hid hownB; have HhbB := Lib.hid hbB; have HhbxB := Lib.hid hbxB; clear hownB hbB hbxB
              refine Go.Canon.tr_end (fun b hb => (hkB b (by rcases hb with rfl | rfl <;> omega)).trans (hpr.block b (by rcases hb with rfl | rfl <;> omega))) (Go.Canon.tr_fin (by rfl) (List.forall_mem_cons.2 ⟨.inl ⟨_, rfl, .inl rfl, by rw [World.cell?_drew, m1p]; rfl⟩, List.forall_mem_cons.2 ⟨.inl ⟨_, rfl, .inl rfl, by rw [World.cell?_drew, m1p]; rfl⟩, List.forall_mem_cons.2 ⟨.inl ⟨_, rfl, .inl rfl, by rw [World.cell?_drew, m1p]; rfl⟩, List.forall_mem_cons.2 ⟨.inl ⟨_, rfl, .inr rfl, by rw [World.cell?_drew, x1p]; rfl⟩, fun _ h => by cases h⟩⟩⟩⟩) ?_)
              go_wp2_with fail
              exact ⟨⟨j + 1, by omega, by simp, HhbxB.out, HhownB.out, HhbB.out, by omega⟩, by simp [intOf]; omega⟩
          · obtain rfl : j = T.length / 2 := by omega
            have hX := Hhsim.out.surf Hhs.out
            have hXl : (swp X0 (T.length / 2)).length = T.length := by rw [swp_len, hxl]
            have hsl := sl_own_tris (T := swp X0 (T.length / 2)) (by rw [hXl]; exact hown)
            have htb9 := table12_calls hsl (Nat.le_refl _) hN
            have m0 : w9.cell? ⟨w7.heap.size, 0, none⟩ = some (.int .i64 (k : Int)) := hbx.cell 0
            have hsf : ∀ v u : Int, aftV T v = some u → afI (swp X0 (T.length / 2)) (pf l v) = pf l u := fun v u h => afI_of (Hhsim.out.aft Hhs.out h)
            have hsn : ∀ v : Int, 0 ≤ v → v < k → aftV T v = none → afI (swp X0 (T.length / 2)) (pf l v) = -1 := fun v h0 h1 h => afI_no (Hhsim.out.aft_none Hhs.out h0 h1 h)
            have hfr := fun v h0 h1 => Hhsim.out.frng v h0 h1
            have hlps := Hhsim.out.loops Hhs.out
            have hedg := Hhsim.out.edges Hhs.out
            generalize swp X0 (T.length / 2) = X9 at *
            have Hhown := Lib.hid hown; have Hhbx := Lib.hid hbx; have HhX := Lib.hid hX; have HhXl := Lib.hid hXl; have Hhsl := Lib.hid hsl; have Hhtb9 := Lib.hid htb9; have Hhsf := Lib.hid hsf; have Hhsn := Lib.hid hsn; have Hhfr := Lib.hid hfr; have Hhlps := Lib.hid hlps; have Hhedg := Lib.hid hedg; clear hown hbx hX hXl hsl htb9 hsf hsn hfr hlps hedg
            go_wp2_with fail
            refine Hhtb9.out.mono ?_
            rintro e w10 ⟨⟨tv9, B9, rfl, hor9⟩, hb11⟩
            rcases hor9 with ⟨_, _, htab9⟩ | ⟨hno9, -⟩
            case inr => exact absurd ⟨by rw [HhXl.out]; omega, HhX.out⟩ hno9
            obtain ⟨g9, rfl⟩ : ∃ g, tv9 = .pointer (some ⟨g, 0, none⟩) := by
              obtain ⟨g, _, _, _, _, _, rfl, _⟩ := htab9
              exact ⟨_, rfl⟩
            have hTN9 : TabN w10 B9 (.pointer (some ⟨g9, 0, none⟩)) k X9 := .inl htab9
            have hle9 := hTN9.le
            have ham9 := fun wz (h9 : Below w10.heap.size w10 wz) v => bafter_calls (hTN9.below (h9.mono hle9) (Nat.le_refl _)) HhX.out v
            have hlo9 := fun wz (h9 : Below w10.heap.size w10 wz) => bloops_calls (hTN9.below (h9.mono hle9) (Nat.le_refl _)) HhX.out
            have hed9 := fun wz (h9 : Below w10.heap.size w10 wz) => bedges_calls (hTN9.below (h9.mono hle9) (Nat.le_refl _)) HhX.out
            have hd10 : Below w5.heap.size w5 w10 := hbel9.trans (hb11.mono hbel9.size)
            have hd210 : Below w2.heap.size w2 w10 := hb25.trans (hd10.mono hb25.size)
            have hz10 := hd210.size
            have hlt := fun wz (h9 : Below w2.heap.size w2 wz) => bloops_calls (HhTN.out.below (h9.mono hle) (Nat.le_refl _)) Hhs.out
            have het := fun wz (h9 : Below w2.heap.size w2 wz) => bedges_calls (HhTN.out.below (h9.mono hle) (Nat.le_refl _)) Hhs.out
            clear m0
            have Hhtab9 := Lib.hid htab9; have HhTN9 := Lib.hid hTN9; have Hham9 := Lib.hid ham9; have Hhlo9 := Lib.hid hlo9; have Hhed9 := Lib.hid hed9; have Hhlt := Lib.hid hlt; have Hhet := Lib.hid het; clear htab9 hTN9 ham9 hlo9 hed9 hlt het
            go_wp2_with fail
            go_loopw [14] (fun i wr => ∃ v : Nat, v ≤ k ∧ i = .int .i64 v ∧ Below w10.heap.size w10 wr) (fun i _ => k - (intOf i).toNat)
            case atStart => exact ⟨0, by omega, rfl, Below.refl _ _⟩
            case round =>
              obtain ⟨v, hv, rfl, hbel11⟩ := hrel
              obtain ⟨w11, hw11⟩ : ∃ w11, w11 = wr := ⟨_, rfl⟩
              subst hw11
              have hd211 := hd210.trans (hbel11.mono hz10)
              have p0 : w11.cell? ⟨w.heap.size, 0, none⟩ = some (.int .i64 k) := (hd211.cell (p := ⟨w.heap.size, 0, none⟩) hbw2).trans e0
              have p1 : w11.cell? ⟨w.heap.size, 1, none⟩ = some (.slice A T.length cap) := (hd211.cell (p := ⟨w.heap.size, 1, none⟩) hbw2).trans e1
              by_cases hvk : v < k
              · have hsl11 := Hhl2.out.below keeps_int (hd211.mono hB2)
                obtain ⟨b9, o9, rfl, hb9l, cv⟩ := hsl11.int_at (k := v) (by omega)
                have hpf : ∀ (x : Nat) (h : x < l.length), l[x] = pf l (x : Int) := fun x h => by unfold pf; rw [Int.toNat_natCast, List.getD_eq_getElem?_getD, List.getElem?_eq_getElem h]; rfl
                rw [hpf] at cv
                have hb9w : b9 < w11.heap.size := by have := hd211.size; omega
                have hvi : (v : Int) < (l.length : Int) := by omega
                have haf1 := Hhaf.out w11.drew hd211.drew (v : Int)
                cases hav : aftV T (v : Int) with
                | none =>
                  have ham1 := fun wz h9 => Hham9.out wz h9 (pf l (v : Int))
                  rw [afI_no hav] at haf1
                  simp only [Hhsn.out _ (by omega) (by omega) hav] at ham1
                  generalize pf l (v : Int) = pv9 at *
                  have Hhav := Lib.hid hav; have Hhsl11 := Lib.hid hsl11; have Hhpf := Lib.hid hpf; clear hav hsl11 hpf
                  have Hhaf1 := Lib.hid haf1; have Hham1 := Lib.hid ham1; clear haf1 ham1
                  go_wp2_with fail
                  refine Go.Canon.wp_region_tree [7] (fun b => b = b9) (.seg [0,1,3,4,5,6,7] (.alt 2 (.alt 8 (.seg [9,10] .fin) .no) .no)) mixed (by kernel_rfl) ?_
                  refine Go.Canon.tr_seg ?_
                  simp only [List.map_cons, List.map_nil, List.getD_cons_zero, List.getD_cons_succ]
                  go_wp2_with fail
                  refine Go.Canon.tr_to (Go.Canon.tr_one ?_)
                  simp only [List.getD_cons_zero, List.getD_cons_succ]
                  go_wp2_with fail
                  refine Hhaf1.out.mono ?_
                  rintro e w12 ⟨rfl, hb12⟩
                  have hd12 : Below w11.heap.size w11 w12 := (Below.refl _ w11).drew.trans hb12
                  have hbel12 := hbel11.trans (hd12.mono hbel11.size)
                  go_wp2_with fail
                  refine Go.Canon.tr_end (fun b hb => by subst hb; exact hd12.block _ (by omega)) (Go.Canon.tr_one ?_)
                  simp only [List.getD_cons_zero, List.getD_cons_succ]
                  go_wp2_with fail
                  refine (Hham1.out w12 hbel12).mono ?_
                  rintro e w13 ⟨rfl, hb13⟩
                  have hd13 : Below w11.heap.size w11 w13 := hd12.trans (hb13.mono hd12.size)
                  have hbel13 := hbel11.trans (hd13.mono hbel11.size)
                  go_wp2_with fail
                  refine Go.Canon.tr_end (fun b hb => by subst hb; exact hd13.block _ (by omega)) (Go.Canon.tr_seg ?_)
                  simp only [List.map_cons, List.map_nil, List.getD_cons_zero, List.getD_cons_succ]
                  go_wp2_with fail
                  refine Go.Canon.tr_to (Go.Canon.tr_fin (by rfl) (List.forall_mem_cons.2 ⟨.inl ⟨_, rfl, rfl, by rw [World.cell?_drew, cv]; rfl⟩, fun _ h => by cases h⟩) ?_)
                  go_wp2_with fail
                  exact ⟨⟨v + 1, by omega, by simp, hbel13⟩, by simp [intOf]; omega⟩
                | some u =>
                  have ham1 := fun wz h9 => Hham9.out wz h9 (pf l (v : Int))
                  obtain ⟨hur, hu2⟩ := (Hhs.out.aftV_rng hav).2
                  obtain ⟨u, rfl⟩ : ∃ n : Nat, u = (n : Int) := ⟨u.toNat, by omega⟩
                  have hup := (Hhfr.out u hur hu2).1
                  rw [afI_of hav] at haf1
                  simp only [Hhsf.out _ _ hav] at ham1
                  obtain ⟨_, _, e9, _, cu⟩ := hsl11.int_at (k := u) (by omega)
                  injection e9 with e9
                  injection e9 with e9 e8 _
                  subst e9; subst e8
                  rw [hpf] at cu
                  have hui : (u : Int) < (l.length : Int) := by omega
                  generalize pf l (v : Int) = pv9 at *
                  generalize pf l (u : Int) = pu9 at *
                  have Hhav := Lib.hid hav; have Hhsl11 := Lib.hid hsl11; have Hhpf := Lib.hid hpf; clear hav hsl11 hpf
                  have Hhaf1 := Lib.hid haf1; have Hham1 := Lib.hid ham1; clear haf1 ham1
                  go_wp2_with fail
                  refine Go.Canon.wp_region_tree [7] (fun b => b = b9) (.seg [0,1,3,4,5,6,7] (.alt 2 (.alt 8 (.seg [9,10] .fin) .no) .no)) mixed (by kernel_rfl) ?_
                  refine Go.Canon.tr_seg ?_
                  simp only [List.map_cons, List.map_nil, List.getD_cons_zero, List.getD_cons_succ]
                  go_wp2_with fail
                  refine Go.Canon.tr_to (Go.Canon.tr_one ?_)
                  simp only [List.getD_cons_zero, List.getD_cons_succ]
                  go_wp2_with fail
                  refine Hhaf1.out.mono ?_
                  rintro e w12 ⟨rfl, hb12⟩
                  have hd12 : Below w11.heap.size w11 w12 := (Below.refl _ w11).drew.trans hb12
                  have hbel12 := hbel11.trans (hd12.mono hbel11.size)
                  go_wp2_with fail
                  refine Go.Canon.tr_end (fun b hb => by subst hb; exact hd12.block _ (by omega)) (Go.Canon.tr_one ?_)
                  simp only [List.getD_cons_zero, List.getD_cons_succ]
                  go_wp2_with fail
                  refine (Hham1.out w12 hbel12).mono ?_
                  rintro e w13 ⟨rfl, hb13⟩
                  have hd13 : Below w11.heap.size w11 w13 := hd12.trans (hb13.mono hd12.size)
                  have hbel13 := hbel11.trans (hd13.mono hbel11.size)
                  go_wp2_with fail
                  refine Go.Canon.tr_end (fun b hb => by subst hb; exact hd13.block _ (by omega)) (Go.Canon.tr_seg ?_)
                  simp only [List.map_cons, List.map_nil, List.getD_cons_zero, List.getD_cons_succ]
                  go_wp2_with fail
                  refine Go.Canon.tr_to (Go.Canon.tr_fin (by rfl) (List.forall_mem_cons.2 ⟨.inl ⟨_, rfl, rfl, by rw [World.cell?_drew, cv]; rfl⟩, fun _ h => by cases h⟩) ?_)
                  have cu13 := (hd13.cell (p := ⟨b9, o9 + u, none⟩) hb9w).trans cu
                  go_wp2_with fail
                  exact ⟨⟨v + 1, by omega, by simp, hbel13⟩, by simp [intOf]; omega⟩
              · obtain rfl : v = k := by omega
                have hlo11 := Hhlo9.out w11 hbel11
                have hlt2 := Hhlt.out
                have hle1 := Hhlps.out
                have hle2 := Hhedg.out
                have hbo1 : (lps T v (v : Int).toNat).length ≤ 100000 := by have := lps_len T v (v : Int).toNat; omega
                have hbo2 : (bedges T).length ≤ 100000 := by have := bord_len T; unfold bedges; rw [List.length_map]; omega
                have Hhlo11 := Lib.hid hlo11; have Hhlt2 := Lib.hid hlt2; have Hhle1 := Lib.hid hle1; have Hhle2 := Lib.hid hle2; clear hlo11 hlt2 hle1 hle2
                go_wp2_with fail
                refine Hhlo11.out.mono ?_
                rintro e w12 ⟨⟨r12, rfl, hr12⟩, hb12⟩
                obtain ⟨A12, cap12, rfl, -⟩ : ∃ A cap, r12 = .slice A (lps X9 v (v : Int).toNat).length cap ∧ (lps X9 v (v : Int).toNat).length ≤ cap := by
                  obtain ⟨vs, v1, v2, v3⟩ := hr12
                  exact own_form v2
                rw [Hhle1.out]
                have hd12 := hd211.trans (hb12.mono hd211.size)
                have hbel12 := hbel11.trans (hb12.mono hbel11.size)
                have hlt12 := Hhlt2.out w12 hd12
                have Hhr12 := Lib.hid hr12; have Hhlt12 := Lib.hid hlt12; clear hr12 hlt12
                go_wp2_with fail
                refine Hhlt12.out.mono ?_
                rintro e w13 ⟨⟨r13, rfl, hr13⟩, hb13⟩
                obtain ⟨A13, cap13, rfl, -⟩ : ∃ A cap, r13 = .slice A (lps T v (v : Int).toNat).length cap ∧ (lps T v (v : Int).toNat).length ≤ cap := by
                  obtain ⟨vs, v1, v2, v3⟩ := hr13
                  exact own_form v2
                have hd13 := hd12.trans (hb13.mono hd12.size)
                have hbel13 := hbel12.trans (hb13.mono hbel12.size)
                have hed13 := Hhed9.out w13 hbel13
                have Hhr13 := Lib.hid hr13; have Hhed13 := Lib.hid hed13; clear hr13 hed13
                go_wp2_with fail
                refine Hhed13.out.mono ?_
                rintro e w14 ⟨⟨r14, rfl, hr14⟩, hb14⟩
                obtain ⟨A14, cap14, rfl, -⟩ := own_form hr14
                rw [Hhle2.out]
                have hd14 := hd13.trans (hb14.mono hd13.size)
                have het14 := Hhet.out w14 hd14
                have Hhr14 := Lib.hid hr14; have Hhet14 := Lib.hid het14; clear hr14 het14
                go_wp2_with fail
                refine Hhet14.out.mono ?_
                rintro e w15 ⟨⟨r15, rfl, hr15⟩, hb15⟩
                obtain ⟨A15, cap15, rfl, -⟩ := own_form hr15
                have hfi9 := hb5.trans ((hd14.trans (hb15.mono hd14.size)).mono hb5.size)
                have Hhr15 := Lib.hid hr15; clear hr15
                go_wp2_with fail
                go_ret
                exact ⟨rfl, hfi9⟩
end Go.Proofs.Ytckkpmjkajkkmaa
