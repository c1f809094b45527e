/- The law BorderEdges, walked. -/
import Derived.Test.YtckkpmjkajkkmaaBU
import Derived.Test.YtckkpmjkajkkmaaBV
import Derived.Test.YtckkpmjkajkkmaaTU
namespace Go.Proofs.Ytckkpmjkajkkmaa
open Go Go.RowKit Go.Words Go.Mesh

set_option maxRecDepth 100000 in
set_option maxHeartbeats 2000000 in
theorem bedges_law (sv : Value) (N : Int) (T : List T3) (v : Int) (w : World) {B : Nat} (hB0 : B ≤ w.heap.size) (hT : Sl 3 RTri w B sv T) (hN : I64 N) :
    Calls Try.prog 6 #[.agg #[.int .i64 N, sv], .int .i64 v] w fun e w' => e = .returned (.bool true) ∧ Below w.heap.size w w' := by
  obtain ⟨A, cap, rfl, hcap⟩ := hT.form
  have hb1 := (Below.refl w.heap.size w).alloc (Nat.le_refl _) (.cells #[.int .i64 N, .slice A T.length cap] 24)
  have hbox := Bk.new w 24 [.int .i64 N, .slice A T.length cap]
  have hTA := hT.below keeps_tri (hb1.mono hB0)
  have hbl := hbox.lt
  have c0 := hbox.cell 0
  have c1 := hbox.cell 1
  simp only [List.getElem?_cons_zero, List.getElem?_cons_succ] at c0 c1
  generalize hw0 : w.alloc (.cells #[.int .i64 N, .slice A T.length cap] 24) = w0 at *
  have haw := awake12_calls w0
  have hz0 := hb1.size
  have HhT := Lib.hid hT; have Hhbox := Lib.hid hbox; have HhTA := Lib.hid hTA; have Hhaw := Lib.hid haw; clear hT hbox hTA haw
  go_enter Try.func6, Try.ntmps6
  go_wp2_with fail
  clear hw0
  refine Hhaw.out.mono ?_
  rintro e w1 ⟨rfl, hb2⟩
  have hb3 := below_call hb1 hb2 hb1.size
  have d0 : w1.cell? ⟨w.heap.size, 0, none⟩ = some (.int .i64 N) := (hb2.cell (p := ⟨w.heap.size, 0, none⟩) hbl).trans c0
  have d1 : w1.cell? ⟨w.heap.size, 1, none⟩ = some (.slice A T.length cap) := (hb2.cell (p := ⟨w.heap.size, 1, none⟩) hbl).trans c1
  have hT1 := HhTA.out.below keeps_tri (hb2.mono (by omega))
  have hz1 := hb2.size
  have htb := table12_calls hT1 (by omega) hN
  have HhT1 := Lib.hid hT1; have Hhtb := Lib.hid htb; clear hT1 htb
  go_wp2_with fail
  refine Hhtb.out.mono ?_
  rintro e w2 ⟨⟨tv, B', rfl, hor⟩, hb4⟩
  have hb5 := below_call hb3 hb4 hb3.size
  have hz2 := hb4.size
  have e0 : w2.cell? ⟨w.heap.size, 0, none⟩ = some (.int .i64 N) := (hb4.cell (p := ⟨w.heap.size, 0, none⟩) (by show w.heap.size < _; omega)).trans d0
  have e1 : w2.cell? ⟨w.heap.size, 1, none⟩ = some (.slice A T.length cap) := (hb4.cell (p := ⟨w.heap.size, 1, none⟩) (by show w.heap.size < _; omega)).trans d1
  have hT2 := HhT1.out.below keeps_tri (hb4.mono (by omega))
  have hbw2 : w.heap.size < w2.heap.size := by omega
  have hB2 : B ≤ w2.heap.size := by omega
  clear c0 c1 d0 d1 hb1 hb2 hb3 hb4 hz0 hz1 hz2 hbl
  rcases hor with ⟨h40, hs, htab⟩ | ⟨hno, rfl⟩
  rotate_left 1
  · by_cases h40 : T.length ≤ 40
    · have hns : ¬ Surf N T := fun h => hno ⟨h40, h⟩
      have hsu := surface9_calls (.slice A T.length cap) N T w2 hB2 hT2 (by omega)
      have HhT2 := Lib.hid hT2; have Hhsu := Lib.hid hsu; have Hhns := Lib.hid hns; have Hhno := Lib.hid hno; clear hT2 hsu hns hno
      go_wp2_with fail
      refine Hhsu.out.mono ?_
      rintro e w3 ⟨⟨b, rfl, hb⟩, hb6⟩
      obtain rfl : b = false := by
        cases b with
        | false => rfl
        | true => exact absurd (hb.1 rfl) Hhns.out
      have hb7 := below_call hb5 hb6 hb5.size
      have Hhb := Lib.hid hb; clear hb
      go_wp2_with fail
      go_ret
      exact ⟨rfl, hb7⟩
    · have h3 : 40 < (T.length : Int) := by omega
      clear h40
      have HhT2 := Lib.hid hT2; have Hhno := Lib.hid hno; clear hT2 hno
      go_wp2_with fail
      go_ret
      exact ⟨rfl, hb5⟩
  obtain ⟨g, rfl⟩ : ∃ g, tv = .pointer (some ⟨g, 0, none⟩) := by
    obtain ⟨g, _, _, _, _, _, rfl, _⟩ := htab
    exact ⟨_, rfl⟩
  have hTN : TabN w2 B' (.pointer (some ⟨g, 0, none⟩)) N T := .inl htab
  have hle := hTN.le
  have hKU : ∀ wz, Below w2.heap.size w2 wz → Go.Canon.KeepU (fun b => b = w.heap.size) w2.drew wz := fun wz h b h9 => by subst h9; exact h.block _ hbw2
  have he := fun wz (h9 : Below w2.heap.size w2 wz) => bedges_calls (hTN.below (h9.mono hle) (Nat.le_refl _)) hs
  have hr := fun wz (h9 : Below w2.heap.size w2 wz) => edges12_calls (N := N) (hT2.below keeps_tri (h9.mono hB2)) (by have := h9.size; omega) hs.tmax
  have ha := fun wz (h9 : Below w2.heap.size w2 wz) => bafter_calls (hTN.below (h9.mono hle) (Nat.le_refl _)) hs v
  have hra := fun wz (h9 : Below w2.heap.size w2 wz) => after12_calls (N := N) (hT2.below keeps_tri (h9.mono hB2)) (by have := h9.size; omega) hs v
  have hl := fun wz (h9 : Below w2.heap.size w2 wz) => bloops_calls (hTN.below (h9.mono hle) (Nat.le_refl _)) hs
  have hrl := fun wz (h9 : Below w2.heap.size w2 wz) => loops12_calls (N := N) (hT2.below keeps_tri (h9.mono hB2)) (by have := h9.size; omega) hs
  have hbl : (bedges T).length ≤ 24576 := by have := bord_len T; have := hs.tmax; unfold bedges; rw [List.length_map]; omega
  have hll : (lps T N N.toNat).length ≤ 4096 := by have := lps_len T N N.toNat; have := hs.nmax; have := hs.n0; omega
  have hle9 : ∀ L ∈ lps T N N.toNat, L.length ≤ 24576 := fun L hL => by
    obtain ⟨_, u, _, rfl, _⟩ := hs.lps_each _ L hL
    have := hs.loop_len (u : Int)
    have := hs.tmax
    omega
  have hd0 : Below w2.heap.size w2 w2.drew := (Below.refl _ w2).drew
  have HhT2 := Lib.hid hT2; have Hhtab := Lib.hid htab; have HhTN := Lib.hid hTN; have Hhs := Lib.hid hs; have HhKU := Lib.hid hKU; have Hhe := Lib.hid he; have Hhr := Lib.hid hr; have Hha := Lib.hid ha; have Hhra := Lib.hid hra; have Hhl := Lib.hid hl; have Hhrl := Lib.hid hrl; have Hhle9 := Lib.hid hle9; clear hT2 htab hTN hs hKU he hr ha hra hl hrl hle9
  go_wp2_with fail
  refine Go.Canon.wp_region_tree [2, 9, 17] (fun b => b = w.heap.size) (.seg [0,2] (.alt 1 (.alt 3 (.alt 4 (.seg [5,6,7,9,10] (.alt 8 (.alt 11 (.seg [12,13,14,15,17] (.alt 16 (.alt 18 (.alt 19 (.seg [20,21] .fin) .no) .no) .no)) .no) .no)) .no) .no) .no)) mixed (by kernel_rfl) ?_
  refine Go.Canon.tr_seg ?_
  simp only [List.map_cons, List.map_nil, List.getD_cons_zero, List.getD_cons_succ]
  go_wp2_with fail
  refine Go.Canon.tr_to (Go.Canon.tr_one ?_)
  simp only [List.getD_cons_zero, List.getD_cons_succ]
  go_wp2_with fail
  refine (Hhe.out _ hd0).mono ?_
  rintro e w3 ⟨⟨r3, rfl, hown3⟩, hb3⟩
  have hd3 := hd0.trans (hb3.mono hd0.size)
  obtain ⟨A3, cap3, rfl, -⟩ := own_form hown3
  have Hhown3 := Lib.hid hown3; clear hown3
  go_wp2_with fail
  refine Go.Canon.tr_end (HhKU.out _ hd3) (Go.Canon.tr_one ?_)
  simp only [List.getD_cons_zero, List.getD_cons_succ]
  go_wp2_with fail
  refine (Hhr.out _ hd3).mono ?_
  rintro e w4 ⟨⟨r4, rfl, hown4⟩, hb4⟩
  have hd4 := hd3.trans (hb4.mono hd3.size)
  obtain ⟨A4, cap4, rfl, -⟩ := own_form hown4
  have hal := alike_calls ((sl_own_pairs Hhown3.out).keep keeps_pair hb4 hb4.size) (sl_own_pairs hown4) (Nat.le_refl _) (by omega)
  rw [decide_eq_true rfl] at hal
  have Hhown4 := Lib.hid hown4; have Hhal := Lib.hid hal; clear hown4 hal
  go_wp2_with fail
  refine Go.Canon.tr_end (HhKU.out _ hd4) (Go.Canon.tr_one ?_)
  simp only [List.getD_cons_zero, List.getD_cons_succ]
  go_wp2_with fail
  refine Hhal.out.mono ?_
  rintro e w5 ⟨rfl, hb5'⟩
  have hd5 := hd4.trans (hb5'.mono hd4.size)
  have p0 : w5.cell? ⟨w.heap.size, 0, none⟩ = some (.int .i64 N) := (hd5.cell (p := ⟨w.heap.size, 0, none⟩) hbw2).trans e0
  have p1 : w5.cell? ⟨w.heap.size, 1, none⟩ = some (.slice A T.length cap) := (hd5.cell (p := ⟨w.heap.size, 1, none⟩) hbw2).trans e1
  go_wp2_with fail
  refine Go.Canon.tr_end (HhKU.out _ hd5) (Go.Canon.tr_seg ?_)
  simp only [List.map_cons, List.map_nil, List.getD_cons_zero, List.getD_cons_succ]
  go_wp2_with fail
  refine Go.Canon.tr_to (Go.Canon.tr_one ?_)
  simp only [List.getD_cons_zero, List.getD_cons_succ]
  go_wp2_with fail
  refine (Hha.out _ hd5).mono ?_
  rintro e w6 ⟨rfl, hb6⟩
  have hd6 := hd5.trans (hb6.mono hd5.size)
  go_wp2_with fail
  refine Go.Canon.tr_end (HhKU.out _ hd6) (Go.Canon.tr_one ?_)
  simp only [List.getD_cons_zero, List.getD_cons_succ]
  go_wp2_with fail
  refine (Hhra.out _ hd6).mono ?_
  rintro e w7 ⟨rfl, hb7⟩
  have hd7 := hd6.trans (hb7.mono hd6.size)
  have q0 : w7.cell? ⟨w.heap.size, 0, none⟩ = some (.int .i64 N) := (hd7.cell (p := ⟨w.heap.size, 0, none⟩) hbw2).trans e0
  have q1 : w7.cell? ⟨w.heap.size, 1, none⟩ = some (.slice A T.length cap) := (hd7.cell (p := ⟨w.heap.size, 1, none⟩) hbw2).trans e1
  go_wp2_with fail
  refine Go.Canon.tr_end (HhKU.out _ hd7) (Go.Canon.tr_seg ?_)
  simp only [List.map_cons, List.map_nil, List.getD_cons_zero, List.getD_cons_succ]
  go_wp2_with fail
  refine Go.Canon.tr_to (Go.Canon.tr_one ?_)
  simp only [List.getD_cons_zero, List.getD_cons_succ]
  go_wp2_with fail
  refine (Hhl.out _ hd7).mono ?_
  rintro e w8 ⟨⟨r8, rfl, hrows8⟩, hb8⟩
  have hd8 := hd7.trans (hb8.mono hd7.size)
  have hs8 := hrows8.sl
  obtain ⟨vs8, v1, v2, v3⟩ := hrows8
  obtain ⟨A8, cap8, rfl, -⟩ := own_form v2
  have Hv1 := Lib.hid v1; have Hv2 := Lib.hid v2; have Hv3 := Lib.hid v3; have Hhs8 := Lib.hid hs8; clear v1 v2 v3 hs8
  go_wp2_with fail
  refine Go.Canon.tr_end (HhKU.out _ hd8) (Go.Canon.tr_one ?_)
  simp only [List.getD_cons_zero, List.getD_cons_succ]
  go_wp2_with fail
  refine (Hhrl.out _ hd8).mono ?_
  rintro e w9 ⟨⟨r9, rfl, hrows9⟩, hb9⟩
  have hd9 := hd8.trans (hb9.mono hd8.size)
  have hs9 := hrows9.sl
  obtain ⟨vs9, v1, v2, v3⟩ := hrows9
  obtain ⟨A9, cap9, rfl, -⟩ := own_form v2
  have hli := lists_calls (Hhs8.out.keep keeps_rows hb9 hb9.size) hs9 (Nat.le_refl _) (by rw [List.length_map]; omega) (fun l hl9 => by
    obtain ⟨L, hL, rfl⟩ := List.mem_map.1 hl9
    rw [List.length_map]
    have := Hhle9.out L hL
    omega)
  rw [decide_eq_true rfl] at hli
  have Hv1 := Lib.hid v1; have Hv2 := Lib.hid v2; have Hv3 := Lib.hid v3; have Hhs9 := Lib.hid hs9; have Hhli := Lib.hid hli; clear v1 v2 v3 hs9 hli
  go_wp2_with fail
  refine Go.Canon.tr_end (HhKU.out _ hd9) (Go.Canon.tr_one ?_)
  simp only [List.getD_cons_zero, List.getD_cons_succ]
  go_wp2_with fail
  refine Hhli.out.mono ?_
  rintro e w10 ⟨rfl, hb10⟩
  have hd10 := hd9.trans (hb10.mono hd9.size)
  have hfi := hb5.trans (hd10.mono hb5.size)
  go_wp2_with fail
  refine Go.Canon.tr_end (HhKU.out _ hd10) (Go.Canon.tr_seg ?_)
  simp only [List.map_cons, List.map_nil, List.getD_cons_zero, List.getD_cons_succ]
  go_wp2_with fail
  refine Go.Canon.tr_to (Go.Canon.tr_fin (by rfl) (List.forall_mem_cons.2 ⟨.inl ⟨_, rfl, rfl, by rw [World.cell?_drew, e0]; rfl⟩, List.forall_mem_cons.2 ⟨.inl ⟨_, rfl, rfl, by rw [World.cell?_drew, e0]; rfl⟩, List.forall_mem_cons.2 ⟨.inl ⟨_, rfl, rfl, by rw [World.cell?_drew, e0]; rfl⟩, fun _ h => by cases h⟩⟩⟩) ?_)
  go_wp2_with fail
  go_ret
  exact ⟨rfl, hfi⟩
end Go.Proofs.Ytckkpmjkajkkmaa
