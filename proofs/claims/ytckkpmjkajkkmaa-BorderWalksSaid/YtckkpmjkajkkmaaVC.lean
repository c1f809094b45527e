/- The law RingTells, walked. -/
import Derived.Test.YtckkpmjkajkkmaaTT
namespace Go.Proofs.Ytckkpmjkajkkmaa
open Go Go.RowKit Go.Words Go.Mesh

theorem linkAt_nil (v : Int) : linkAt [] 0 v = [] := by unfold linkAt; rw [ringAt_nil]; rfl
theorem innerAt_nil (v : Int) : innerAt [] 0 v = false := by unfold innerAt; rw [if_neg (by omega)]
theorem near_nil (v w : Int) : near [] v w = false := rfl
set_option maxRecDepth 40000 in
set_option maxHeartbeats 2000000 in
theorem tells_law (sv : Value) (N : Int) (T : List T3) (v z : Int) (w : World) {B : Nat} (hB0 : B ≤ w.heap.size) (hT : Sl 3 RTri w B sv T) (hN : I64 N) (hv9 : I64 v) (hz9 : I64 z) :
    Calls Try.prog 12 #[.agg #[.int .i64 N, sv], .int .i64 v, .int .i64 z] w fun e w' => e = .returned (.bool true) ∧ Below w.heap.size w w' := by
  obtain ⟨A, cap, rfl, hcap⟩ := hT.form
  have hb1 := (Below.refl w.heap.size w).alloc (Nat.le_refl _) (.cells #[.int .i64 N, .slice A T.length cap] 24)
  have hbox := Bk.new w 24 [.int .i64 N, .slice A T.length cap]
  have hTA := hT.below keeps_tri (hb1.mono hB0)
  have hbl := hbox.lt
  have c0 := hbox.cell 0
  have c1 := hbox.cell 1
  simp only [List.getElem?_cons_zero, List.getElem?_cons_succ] at c0 c1
  generalize hw0 : w.alloc (.cells #[.int .i64 N, .slice A T.length cap] 24) = w0 at *
  have haw := awake_calls w0
  have hz0 := hb1.size
  have HhT := Lib.hid hT; have Hhbox := Lib.hid hbox; have HhTA := Lib.hid hTA; have Hhaw := Lib.hid haw; clear hT hbox hTA haw
  go_enter Try.func12, Try.ntmps12
  go_wp2_with fail
  clear hw0
  refine Hhaw.out.mono ?_
  rintro e w1 ⟨rfl, hb2⟩
  have hb3 := below_call hb1 hb2 hb1.size
  have d0 : w1.cell? ⟨w.heap.size, 0, none⟩ = some (.int .i64 N) := (hb2.cell (p := ⟨w.heap.size, 0, none⟩) hbl).trans c0
  have d1 : w1.cell? ⟨w.heap.size, 1, none⟩ = some (.slice A T.length cap) := (hb2.cell (p := ⟨w.heap.size, 1, none⟩) hbl).trans c1
  have hT1 := HhTA.out.below keeps_tri (hb2.mono (by omega))
  have hz1 := hb2.size
  have htb := table_calls hT1 (by omega) hN
  have HhT1 := Lib.hid hT1; have Hhtb := Lib.hid htb; clear hT1 htb
  go_wp2_with fail
  refine Hhtb.out.mono ?_
  intro e w2 htd
  obtain ⟨pv, B', N', T', rfl, hs, htab, hb4, hor⟩ := tabled_tab htd
  have hb5 := below_call hb3 hb4 hb3.size
  have hz2 := hb4.size
  rcases hor with ⟨rfl, rfl, rfl, -⟩ | ⟨g, rfl, rfl, rfl, hsm⟩
  · have hk := link_calls htab hs v
    have hi := fun wz (hz : TabN wz B' (.pointer none) 0 []) => inner_calls hz hs v
    have hd := fun wz (hz : TabN wz B' (.pointer none) 0 []) => degree_calls hz hs v
    have hn := fun wz (hz : TabN wz B' (.pointer none) 0 []) => near_calls hz v z hv9 hz9
    rw [linkAt_nil] at hk
    rw [innerAt_nil] at hi
    rw [ringAt_nil] at hd
    simp only [near_nil] at hn
    have hle := htab.le
    have Hhtd := Lib.hid htd; have Hhs := Lib.hid hs; have Hhtab := Lib.hid htab; have Hhk := Lib.hid hk; have Hhi := Lib.hid hi; have Hhd := Lib.hid hd; have Hhn := Lib.hid hn; clear htd hs htab hk hi hd hn
    go_wp2_with fail
    refine Hhk.out.mono ?_
    rintro e w3 ⟨⟨r, rfl, hown⟩, hb6⟩
    have hb7 := below_call hb5 hb6 hb5.size
    obtain ⟨A2, cap2, rfl, -⟩ := own_form hown
    simp only [List.length_nil] at hown ⊢
    have h3 := Hhi.out w3 (Hhtab.out.below (hb6.mono hle) (Nat.le_refl _))
    have hz3 := hb6.size
    have Hhown := Lib.hid hown; have Hh3 := Lib.hid h3; clear hown h3
    go_wp2_with fail
    refine Hh3.out.mono ?_
    rintro e w4 ⟨rfl, hb8⟩
    have hb9 := below_call hb7 hb8 hb7.size
    have hbz := hb6.trans (hb8.mono hz3)
    have hz4 := hbz.size
    have h4 := Hhd.out w4 (Hhtab.out.below (hbz.mono hle) (Nat.le_refl _))
    have Hh4 := Lib.hid h4; clear h4
    go_wp2_with fail
    refine Hh4.out.mono ?_
    rintro e w5 ⟨rfl, hb10⟩
    have hb11 := below_call hb9 hb10 hb9.size
    have hby := hbz.trans (hb10.mono hz4)
    have h5 := Hhn.out w5 (Hhtab.out.below (hby.mono hle) (Nat.le_refl _))
    have Hh5 := Lib.hid h5; clear h5
    go_wp2_with fail
    refine Hh5.out.mono ?_
    rintro e w6 ⟨rfl, hb12⟩
    have hb13 := below_call hb11 hb12 hb11.size
    go_wp2_with fail
    go_ret
    exact ⟨rfl, hb13⟩
  · have e0 : w2.cell? ⟨w.heap.size, 0, none⟩ = some (.int .i64 N') := (hb4.cell (p := ⟨w.heap.size, 0, none⟩) (by show w.heap.size < _; omega)).trans d0
    have e1 : w2.cell? ⟨w.heap.size, 1, none⟩ = some (.slice A T'.length cap) := (hb4.cell (p := ⟨w.heap.size, 1, none⟩) (by show w.heap.size < _; omega)).trans d1
    have hT2 := HhT1.out.below keeps_tri (hb4.mono (by omega))
    have hlen := hs.ring_len v
    have h40 := hsm.1
    have hbw2 : w.heap.size < w2.heap.size := by omega
    clear c0 c1 d0 d1 hb1 hb2 hb3 hb4 hz0 hz1 hz2 hbl
    have hle := htab.le
    have hTab : ∀ wz, Below w2.heap.size w2 wz → TabN wz B' (.pointer (some g)) N' T' := fun wz h => htab.below (h.mono hle) (Nat.le_refl _)
    have hSl : ∀ wz, Below w2.heap.size w2 wz → Sl 3 RTri wz B (.slice A T'.length cap) T' := fun wz h => hT2.below keeps_tri (h.mono (by omega))
    have hKU : ∀ wz, Below w2.heap.size w2 wz → Go.Canon.KeepU (fun b => b = w.heap.size) w2.drew wz := fun wz h b hb => by subst hb; exact h.block _ (by omega)
    have hBB : ∀ wz, Below w2.heap.size w2 wz → B ≤ wz.heap.size := fun wz h => by have := h.size; omega
    have hCell : ∀ wz, Below w2.heap.size w2 wz → wz.cell? ⟨w.heap.size, 0, none⟩ = some (.int .i64 N') ∧ wz.cell? ⟨w.heap.size, 1, none⟩ = some (.slice A T'.length cap) := fun wz h => ⟨(h.cell (p := ⟨w.heap.size, 0, none⟩) hbw2).trans e0, (h.cell (p := ⟨w.heap.size, 1, none⟩) hbw2).trans e1⟩
    have hk := link_calls (hTab _ (Below.refl _ w2).drew) hs v
    have hlkl : (linkAt T' N' v).length ≤ 1000000 := by
      rw [hs.link_inner, List.length_append, List.length_map]
      split
      · split <;> simp only [List.length_cons, List.length_nil] <;> omega
      · simp only [List.length_nil]; omega
    generalize hLk : linkAt T' N' v = K9 at *
    have Hhtd := Lib.hid htd; have Hhs := Lib.hid hs; have Hhtab := Lib.hid htab; have HhT2 := Lib.hid hT2; have Hhk := Lib.hid hk; have Hhsm := Lib.hid hsm; have HhTab := Lib.hid hTab; have HhSl := Lib.hid hSl; have HhKU := Lib.hid hKU; have HhBB := Lib.hid hBB; have HhLk := Lib.hid hLk; have HhCell := Lib.hid hCell; clear htd hs htab hT2 hk hsm hTab hSl hKU hBB hLk hCell
    go_wp2_with fail
    refine Go.Canon.wp_region_tree [3, 11, 20, 31] (fun b => b = w.heap.size) (.seg [0,1,3,4] (.alt 2 (.alt 5 (.alt 6 (.seg [7,8,9,11,12] (.alt 10 (.alt 13 (.seg [14,15,16,17,18,20,21] (.alt 19 (.alt 22 (.seg [23,24,25,26,27,28,29,31,32,33] (.alt 30 (.alt 34 (.seg [35,36,37] .fin) .no) .no)) .no) .no)) .no) .no)) .no) .no) .no)) mixed (by kernel_rfl) ?_
    refine Go.Canon.tr_seg ?_
    simp only [List.map_cons, List.map_nil, List.getD_cons_zero, List.getD_cons_succ]
    go_wp2_with fail
    refine Go.Canon.tr_to (Go.Canon.tr_one ?_)
    simp only [List.getD_cons_zero, List.getD_cons_succ]
    go_wp2_with fail
    refine Hhk.out.mono ?_
    rintro e w3 ⟨⟨r3, rfl, hown3⟩, hb3⟩
    have hB3 : Below w2.heap.size w2 w3 := (Below.refl _ w2).drew.trans hb3
    have h5 := refLink_calls (HhSl.out w3 hB3) (HhBB.out w3 hB3) Hhs.out v
    rw [HhLk.out] at h5
    have Hhown3 := Lib.hid hown3; have Hh5 := Lib.hid h5; clear hown3 h5
    go_wp2_with fail
    refine Go.Canon.tr_end (HhKU.out _ hB3) (Go.Canon.tr_one ?_)
    simp only [List.getD_cons_zero, List.getD_cons_succ]
    go_wp2_with fail
    refine Hh5.out.mono ?_
    rintro e w4 ⟨⟨r4, rfl, hown4⟩, hb4⟩
    have hB4 := hB3.trans (hb4.mono hB3.size)
    have hs3 : Sl 1 RInt w4 w4.heap.size r3 K9 := (sl_ivals Hhown3.out).keep keeps_int hb4 hb4.size
    have h6 := ints_calls hs3 (sl_ivals hown4) (Nat.le_refl _) hlkl
    rw [show decide (K9 = K9) = true from decide_eq_true rfl] at h6
    have Hhown4 := Lib.hid hown4; have Hhs3 := Lib.hid hs3; have Hh6 := Lib.hid h6; clear hown4 hs3 h6
    go_wp2_with fail
    refine Go.Canon.tr_end (HhKU.out _ hB4) (Go.Canon.tr_one ?_)
    simp only [List.getD_cons_zero, List.getD_cons_succ]
    go_wp2_with fail
    refine Hh6.out.mono ?_
    rintro e w5 ⟨rfl, hb5'⟩
    have hB5 := hB4.trans (hb5'.mono hB4.size)
    have h10 := inner_calls (HhTab.out w5 hB5) Hhs.out v
    have Hh10 := Lib.hid h10; clear h10
    obtain ⟨p5, q5⟩ := HhCell.out w5 hB5
    go_wp2_with fail
    refine Go.Canon.tr_end (HhKU.out _ hB5) (Go.Canon.tr_seg ?_)
    simp only [List.map_cons, List.map_nil, List.getD_cons_zero, List.getD_cons_succ]
    go_wp2_with fail
    refine Go.Canon.tr_to (Go.Canon.tr_one ?_)
    simp only [List.getD_cons_zero, List.getD_cons_succ]
    go_wp2_with fail
    refine Hh10.out.mono ?_
    rintro e w6 ⟨rfl, hb6⟩
    have hB6 := hB5.trans (hb6.mono hB5.size)
    have h13 := refInner_calls (HhSl.out w6 hB6) (HhBB.out w6 hB6) Hhs.out v
    have Hh13 := Lib.hid h13; clear h13
    go_wp2_with fail
    refine Go.Canon.tr_end (HhKU.out _ hB6) (Go.Canon.tr_one ?_)
    simp only [List.getD_cons_zero, List.getD_cons_succ]
    go_wp2_with fail
    refine Hh13.out.mono ?_
    rintro e w7 ⟨rfl, hb7⟩
    have hB7 := hB6.trans (hb7.mono hB6.size)
    have h19 := degree_calls (HhTab.out w7 hB7) Hhs.out v
    have Hh19 := Lib.hid h19; clear h19
    obtain ⟨p7, q7⟩ := HhCell.out w7 hB7
    go_wp2_with fail
    refine Go.Canon.tr_end (HhKU.out _ hB7) (Go.Canon.tr_seg ?_)
    simp only [List.map_cons, List.map_nil, List.getD_cons_zero, List.getD_cons_succ]
    go_wp2_with fail
    refine Go.Canon.tr_to (Go.Canon.tr_one ?_)
    simp only [List.getD_cons_zero, List.getD_cons_succ]
    go_wp2_with fail
    refine Hh19.out.mono ?_
    rintro e w8 ⟨rfl, hb8⟩
    have hB8 := hB7.trans (hb8.mono hB7.size)
    have h22 := refAround_calls (HhSl.out w8 hB8) (HhBB.out w8 hB8) Hhs.out v
    have Hh22 := Lib.hid h22; clear h22
    go_wp2_with fail
    refine Go.Canon.tr_end (HhKU.out _ hB8) (Go.Canon.tr_one ?_)
    simp only [List.getD_cons_zero, List.getD_cons_succ]
    go_wp2_with fail
    refine Hh22.out.mono ?_
    rintro e w9 ⟨⟨r9, rfl, hown9⟩, hb9⟩
    have hB9 := hB8.trans (hb9.mono hB8.size)
    obtain ⟨A9, cap9, rfl, -⟩ := own_form hown9
    have h30 := near_calls (HhTab.out w9 hB9) v z hv9 hz9
    have Hhown9 := Lib.hid hown9; have Hh30 := Lib.hid h30; clear hown9 h30
    obtain ⟨p9, q9⟩ := HhCell.out w9 hB9
    go_wp2_with fail
    refine Go.Canon.tr_end (HhKU.out _ hB9) (Go.Canon.tr_seg ?_)
    simp only [List.map_cons, List.map_nil, List.getD_cons_zero, List.getD_cons_succ]
    go_wp2_with fail
    refine Go.Canon.tr_to (Go.Canon.tr_one ?_)
    simp only [List.getD_cons_zero, List.getD_cons_succ]
    go_wp2_with fail
    refine Hh30.out.mono ?_
    rintro e w10 ⟨rfl, hb10⟩
    have hB10 := hB9.trans (hb10.mono hB9.size)
    have h34 := refNear_calls (HhSl.out w10 hB10) (HhBB.out w10 hB10) Hhs.out v z
    have Hh34 := Lib.hid h34; clear h34
    go_wp2_with fail
    refine Go.Canon.tr_end (HhKU.out _ hB10) (Go.Canon.tr_one ?_)
    simp only [List.getD_cons_zero, List.getD_cons_succ]
    go_wp2_with fail
    refine Hh34.out.mono ?_
    rintro e w11 ⟨rfl, hb11⟩
    have hB11 := hB10.trans (hb11.mono hB10.size)
    go_wp2_with fail
    refine Go.Canon.tr_end (HhKU.out _ hB11) (Go.Canon.tr_seg ?_)
    simp only [List.map_cons, List.map_nil, List.getD_cons_zero, List.getD_cons_succ]
    go_wp2_with fail
    refine Go.Canon.tr_to (Go.Canon.tr_fin (by rfl) (List.forall_mem_cons.2 ⟨.inl ⟨_, rfl, rfl, by rw [World.cell?_drew, e0]; rfl⟩, List.forall_mem_cons.2 ⟨.inl ⟨_, rfl, rfl, by rw [World.cell?_drew, e0]; rfl⟩, List.forall_mem_cons.2 ⟨.inl ⟨_, rfl, rfl, by rw [World.cell?_drew, e0]; rfl⟩, List.forall_mem_cons.2 ⟨.inl ⟨_, rfl, rfl, by rw [World.cell?_drew, e0]; rfl⟩, fun _ h => by cases h⟩⟩⟩⟩) ?_)
    go_wp2_with fail
    go_ret
    exact ⟨by simp, below_call hb5 hB11 hb5.size⟩
end Go.Proofs.Ytckkpmjkajkkmaa
