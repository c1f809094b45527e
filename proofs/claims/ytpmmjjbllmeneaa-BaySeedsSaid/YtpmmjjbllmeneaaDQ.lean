/- The law BaySeeds. -/
import Derived.Test.YtpmmjjbllmeneaaDP
namespace Go.Proofs.Ytpmmjjbllmeneaa
open Go Go.RowKit Go.Words Go.Mesh

set_option maxRecDepth 100000 in
set_option maxHeartbeats 2000000 in
theorem seeds_law (sv : Value) (N : Int) (T : List T3) (most : Int) (w : World) {B : Nat} (hB0 : B ≤ w.heap.size) (hT : Sl 3 RTri w B sv T) (hN : I64 N) (_hm : I64 most) :
    Calls Try.prog 3 #[.agg #[.int .i64 N, sv], .int .i64 most] w fun e w' => e = .returned (.bool true) ∧ Below w.heap.size w w' := by
  obtain ⟨A, cap, rfl, hcap⟩ := hT.form
  have hb1 := (Below.refl w.heap.size w).alloc (Nat.le_refl _) (.cells #[.int .i64 N, .slice A T.length cap] 24)
  have hbox := Bk.new w 24 [.int .i64 N, .slice A T.length cap]
  have hTA := hT.below keeps_tri (hb1.mono hB0)
  have hbl := hbox.lt
  have c0 := hbox.cell 0
  have c1 := hbox.cell 1
  simp only [List.getElem?_cons_zero, List.getElem?_cons_succ] at c0 c1
  generalize hw0 : w.alloc (.cells #[.int .i64 N, .slice A T.length cap] 24) = w0 at *
  have haw := awake39_calls w0
  have hz0 := hb1.size
  have HhT := Lib.hid hT; have Hhbox := Lib.hid hbox; have HhTA := Lib.hid hTA; have Hhaw := Lib.hid haw; clear hT hbox hTA haw
  go_enter Try.func3, Try.ntmps3
  go_wp2_with fail
  clear hw0
  refine Hhaw.out.mono ?_
  rintro e w1 ⟨rfl, hb2⟩
  have hb3 := below_call hb1 hb2 hb1.size
  have d0 : w1.cell? ⟨w.heap.size, 0, none⟩ = some (.int .i64 N) := (hb2.cell (p := ⟨w.heap.size, 0, none⟩) hbl).trans c0
  have d1 : w1.cell? ⟨w.heap.size, 1, none⟩ = some (.slice A T.length cap) := (hb2.cell (p := ⟨w.heap.size, 1, none⟩) hbl).trans c1
  have hT1 := HhTA.out.below keeps_tri (hb2.mono (by omega))
  have hz1 := hb2.size
  have htb := table39_calls hT1 (by omega) hN
  have HhT1 := Lib.hid hT1; have Hhtb := Lib.hid htb; clear hT1 htb
  go_wp2_with fail
  refine Hhtb.out.mono ?_
  rintro e w2 ⟨⟨pv, B', rfl, hor⟩, hb4⟩
  have hb5 := below_call hb3 hb4 hb3.size
  have hz2 := hb4.size
  have e0 : w2.cell? ⟨w.heap.size, 0, none⟩ = some (.int .i64 N) := (hb4.cell (p := ⟨w.heap.size, 0, none⟩) (by show w.heap.size < _; omega)).trans d0
  have e1 : w2.cell? ⟨w.heap.size, 1, none⟩ = some (.slice A T.length cap) := (hb4.cell (p := ⟨w.heap.size, 1, none⟩) (by show w.heap.size < _; omega)).trans d1
  have hT2 := HhT1.out.below keeps_tri (hb4.mono (by omega))
  have hbw2 : w.heap.size < w2.heap.size := by omega
  have hB2 : B ≤ w2.heap.size := by omega
  have hw12 : Below w.heap.size w w1 := hb3
  clear c0 c1 d0 d1
  rcases hor with ⟨hsm, hs, htab⟩ | ⟨hno, rfl⟩
  case inr =>
    have hsn := seeds_nil most w2
    have HhT2 := Lib.hid hT2; have Hhno := Lib.hid hno; have Hhsn := Lib.hid hsn; clear hT2 hno hsn
    go_wp2_with fail
    refine Hhsn.out.mono ?_
    rintro e w3 ⟨rfl, rfl⟩
    go_wp2_with fail
    go_ret
    exact ⟨rfl, hb5⟩
  obtain ⟨g, rfl⟩ : ∃ g, pv = .pointer (some ⟨g, 0, none⟩) := by
    obtain ⟨g, _, _, _, _, _, rfl, _⟩ := htab
    exact ⟨_, rfl⟩
  have hle := htab.le
  obtain ⟨h30, hN0, h60⟩ := hsm
  have hse1 := seeds_calls (htab.below ((Below.refl w2.heap.size w2).drew.mono hle) (Nat.le_refl _)) hs most
  have hd2 := (Below.refl w2.heap.size w2).drew
  have hrs := fun wz (hz : Below w2.heap.size w2 wz) => refseeds_calls (N := N) (hT2.below keeps_tri (hz.mono hB2)) (by have := hz.size; omega) hs most
  have hXl : (seedsOf T most).length ≤ 1000000 := by
    unfold seedsOf
    split
    · simp
    · rw [(hs.seeds_ok (by omega) _ (by omega)).1]; omega
  generalize hX : seedsOf T most = X at *
  have HhT2 := Lib.hid hT2; have Hhs := Lib.hid hs; have Hhtab := Lib.hid htab; have Hhse1 := Lib.hid hse1; have Hhrs := Lib.hid hrs; have HhX := Lib.hid hX; clear hT2 hs htab hse1 hrs hX
  go_wp2_with fail
  refine Go.Canon.wp_region_tree [3] (fun b => b = w.heap.size) (.seg [0,1,3,4] (.alt 2 (.alt 5 (.alt 6 (.seg [7] .fin) .no) .no) .no)) mixed (by kernel_rfl) ?_
  refine Go.Canon.tr_seg ?_
  simp only [List.map_cons, List.map_nil, List.getD_cons_zero, List.getD_cons_succ]
  go_wp2_with fail
  refine Go.Canon.tr_to (Go.Canon.tr_one ?_)
  simp only [List.getD_cons_zero, List.getD_cons_succ]
  go_wp2_with fail
  refine Hhse1.out.mono ?_
  rintro e w3 ⟨⟨r3, rfl, hown3⟩, hb6⟩
  obtain ⟨A3, cap3, rfl, hc3⟩ := own_form hown3
  have hz3 := hb6.size
  have hd3 : Below w2.heap.size w2 w3 := hd2.trans hb6
  have hs3 := sl_nvals hown3
  have hrs3 := Hhrs.out w3 hd3
  have Hhown3 := Lib.hid hown3; clear hown3; have Hhs3 := Lib.hid hs3; clear hs3; have Hhrs3 := Lib.hid hrs3; clear hrs3
  go_wp2_with fail
  refine Go.Canon.tr_end (fun b hb => by subst hb; exact hd3.block _ hbw2) (Go.Canon.tr_one ?_)
  simp only [List.getD_cons_zero, List.getD_cons_succ]
  go_wp2_with fail
  refine Hhrs3.out.mono ?_
  rintro e w4 ⟨⟨r4, rfl, hs4⟩, hb7⟩
  obtain ⟨A4, cap4, rfl, hc4⟩ := hs4.form
  rw [List.length_map] at hc4 hs4 ⊢
  have hz4 := hb7.size
  have hd4 := hd3.trans (hb7.mono hz3)
  have hs34 := Hhs3.out.keep (B' := w4.heap.size) keeps_int hb7 hz4
  have hin := ints_calls hs34 hs4 (Nat.le_refl _) (by rw [List.length_map]; exact hXl)
  rw [decide_eq_true rfl] at hin
  have Hhs4 := Lib.hid hs4; clear hs4; have Hhs34 := Lib.hid hs34; clear hs34; have Hhin := Lib.hid hin; clear hin
  go_wp2_with fail
  refine Go.Canon.tr_end (fun b hb => by subst hb; exact hd4.block _ hbw2) (Go.Canon.tr_one ?_)
  simp only [List.getD_cons_zero, List.getD_cons_succ]
  go_wp2_with fail
  refine Hhin.out.mono ?_
  rintro e w5 ⟨rfl, hb8⟩
  have hd5 := hd4.trans (hb8.mono hd4.size)
  have hb9 := below_call hb5 hd5 hb5.size
  go_wp2_with fail
  refine Go.Canon.tr_end (fun b hb => by subst hb; exact hd5.block _ hbw2) (Go.Canon.tr_seg ?_)
  simp only [List.map_cons, List.map_nil, List.getD_cons_zero, List.getD_cons_succ]
  go_wp2_with fail
  refine Go.Canon.tr_to (Go.Canon.tr_fin (by rfl) (List.forall_mem_cons.2 ⟨.inl ⟨_, rfl, rfl, by rw [World.cell?_drew, e0]; rfl⟩, fun _ h => by cases h⟩) ?_)
  go_wp2_with fail
  go_ret
  exact ⟨rfl, hb9⟩
end Go.Proofs.Ytpmmjjbllmeneaa
