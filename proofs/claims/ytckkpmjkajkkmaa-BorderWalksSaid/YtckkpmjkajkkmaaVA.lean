/- The law RingArounds, walked. -/
import Derived.Test.YtckkpmjkajkkmaaTS
namespace Go.Proofs.Ytckkpmjkajkkmaa
open Go Go.RowKit Go.Words Go.Mesh

theorem tabled_tab {w w' : World} {N : Int} {T : List T3} {e : Ending} (h : Tabled w N T e w') : ∃ pv B' N' T', e = .returned pv ∧ Surf N' T' ∧ TabN w' B' pv N' T' ∧ Below w.heap.size w w' ∧ ((pv = .pointer none ∧ N' = 0 ∧ T' = [] ∧ ¬ (Small N T ∧ Surf N T)) ∨ (∃ g, pv = .pointer (some g) ∧ N' = N ∧ T' = T ∧ Small N T)) := by
  obtain ⟨⟨pv, B', rfl, h1⟩, hb⟩ := h
  rcases h1 with ⟨h1, h2, h3⟩ | ⟨h1, rfl⟩
  · refine ⟨pv, B', N, T, rfl, h2, .inl h3, hb, .inr ?_⟩
    obtain ⟨g, _, _, _, _, _, rfl, _⟩ := h3
    exact ⟨_, rfl, rfl, rfl, h1⟩
  · exact ⟨_, 0, 0, [], rfl, surf_nil, .inr ⟨rfl, rfl, rfl, Nat.zero_le _⟩, hb, .inl ⟨rfl, rfl, rfl, h1⟩⟩
set_option maxRecDepth 20000 in
set_option maxHeartbeats 2000000 in
theorem arounds_law (sv : Value) (N : Int) (T : List T3) (v : Int) (f : Nat) (w : World) {B : Nat} (hB0 : B ≤ w.heap.size) (hT : Sl 3 RTri w B sv T) (hN : I64 N) (hf : f < 256) :
    Calls Try.prog 3 #[.agg #[.int .i64 N, sv], .int .i64 v, .int .u8 (f : Int)] w fun e w' => e = .returned (.bool true) ∧ Below w.heap.size w w' := by
  obtain ⟨A, cap, rfl, hcap⟩ := hT.form
  have hb1 := (Below.refl w.heap.size w).alloc (Nat.le_refl _) (.cells #[.int .i64 N, .slice A T.length cap] 24)
  have hbox := Bk.new w 24 [.int .i64 N, .slice A T.length cap]
  have hTA := hT.below keeps_tri (hb1.mono hB0)
  have hbl := hbox.lt
  have c0 := hbox.cell 0
  have c1 := hbox.cell 1
  simp only [List.getElem?_cons_zero, List.getElem?_cons_succ] at c0 c1
  generalize hw0 : w.alloc (.cells #[.int .i64 N, .slice A T.length cap] 24) = w0 at *
  have haw := awake_calls w0
  have hz0 := hb1.size
  have HhT := Lib.hid hT; have Hhbox := Lib.hid hbox; have HhTA := Lib.hid hTA; have Hhaw := Lib.hid haw; clear hT hbox hTA haw
  go_enter Try.func3, Try.ntmps3
  go_wp2_with fail
  clear hw0
  refine Hhaw.out.mono ?_
  rintro e w1 ⟨rfl, hb2⟩
  have hb3 := below_call hb1 hb2 hb1.size
  have d0 : w1.cell? ⟨w.heap.size, 0, none⟩ = some (.int .i64 N) := (hb2.cell (p := ⟨w.heap.size, 0, none⟩) hbl).trans c0
  have d1 : w1.cell? ⟨w.heap.size, 1, none⟩ = some (.slice A T.length cap) := (hb2.cell (p := ⟨w.heap.size, 1, none⟩) hbl).trans c1
  have hT1 := HhTA.out.below keeps_tri (hb2.mono (by omega))
  have hz1 := hb2.size
  have htb := table_calls hT1 (by omega) hN
  have HhT1 := Lib.hid hT1; have Hhtb := Lib.hid htb; clear hT1 htb
  go_wp2_with fail
  refine Hhtb.out.mono ?_
  intro e w2 htd
  obtain ⟨pv, B', N', T', rfl, hs, htab, hb4, hor⟩ := tabled_tab htd
  have hb5 := below_call hb3 hb4 hb3.size
  have hz2 := hb4.size
  rcases hor with ⟨rfl, rfl, rfl, -⟩ | ⟨g, rfl, rfl, rfl, hsm⟩
  · have hli := list_calls htab hs v 9 (by omega) (by omega)
    rw [ringAt_nil] at hli
    have Hhtd := Lib.hid htd; have Hhs := Lib.hid hs; have Hhtab := Lib.hid htab; have Hhli := Lib.hid hli; clear htd hs htab hli
    go_wp2_with fail
    refine Hhli.out.mono ?_
    rintro e w3 ⟨⟨r, rfl, hown⟩, hb6⟩
    have hb7 := below_call hb5 hb6 hb5.size
    obtain ⟨A2, cap2, rfl, -⟩ := own_form hown
    simp only [List.take_nil, List.length_nil] at hown ⊢
    have Hhown := Lib.hid hown; clear hown
    go_wp2_with fail
    go_ret
    exact ⟨rfl, hb7⟩
  · have e0 : w2.cell? ⟨w.heap.size, 0, none⟩ = some (.int .i64 N') := (hb4.cell (p := ⟨w.heap.size, 0, none⟩) (by show w.heap.size < _; omega)).trans d0
    have e1 : w2.cell? ⟨w.heap.size, 1, none⟩ = some (.slice A T'.length cap) := (hb4.cell (p := ⟨w.heap.size, 1, none⟩) (by show w.heap.size < _; omega)).trans d1
    have hT2 := HhT1.out.below keeps_tri (hb4.mono (by omega))
    have hra := refAround_calls hT2 (by omega) hs v
    have hlen := hs.ring_len v
    have h40 := hsm.1
    have Hhtd := Lib.hid htd; have Hhs := Lib.hid hs; have Hhtab := Lib.hid htab; have HhT2 := Lib.hid hT2; have Hhra := Lib.hid hra; have Hhsm := Lib.hid hsm; clear htd hs htab hT2 hra hsm
    go_wp2_with fail
    refine Hhra.out.mono ?_
    rintro e w3 ⟨⟨r, rfl, hown⟩, hb6⟩
    have hb7 := below_call hb5 hb6 hb5.size
    have hz3 := hb6.size
    obtain ⟨A2, cap2, rfl, hc2⟩ := own_form hown
    obtain ⟨n, hn, hn1, hn2⟩ : ∃ n : Nat, (1 + (f : Int) % 50) = (n : Int) ∧ 1 ≤ n ∧ n < 1000000 := ⟨1 + f % 50, by omega, by omega, by omega⟩
    have htab3 := Hhtab.out.below (hb6.mono Hhtab.out.le) (Nat.le_refl _)
    have hli := fun wz (hz : TabN wz B' (.pointer (some g)) N' T') => list_calls hz Hhs.out v n hn1 hn2
    generalize ringAt T' N' v = L at *
    have Hhown := Lib.hid hown; have Hhli := Lib.hid hli; have Hhtab3 := Lib.hid htab3; clear hown hli htab3
    go_wp2_with fail
    have hwant : Sl 1 RInt w3 w3.heap.size (.slice A2 L.length cap2) (L.map fun n : Nat => (n : Int)) := sl_nvals Hhown.out
    have hcast : (L.map fun n : Nat => (n : Int)).take (min n L.length) = (L.take n).map fun n : Nat => (n : Int) := by rw [← List.map_take, List.take_eq_take_min (i := n)]
    obtain ⟨m, hm, hml, hmm⟩ : ∃ m : Nat, min (n : Int) (L.length : Int) = (m : Int) ∧ m ≤ L.length ∧ min n L.length = m := ⟨min n L.length, by omega, by omega, rfl⟩
    have hml' : (m : Int) ≤ (L.length : Int) := by omega
    rw [hmm] at hcast
    have hfin : decide (((L.take n).map fun n : Nat => (n : Int)) = (L.map fun n : Nat => (n : Int)).take m) = true := by rw [hcast]; exact decide_eq_true rfl
    have hlt : (L.map fun n : Nat => (n : Int)).length = L.length := List.length_map _
    have Hhn := Lib.hid hn; have Hhwant := Lib.hid hwant; have Hhcast := Lib.hid hcast; have Hhmm := Lib.hid hmm; have Hhfin := Lib.hid hfin; have Hhlt := Lib.hid hlt; clear hn hwant hcast hmm hfin hlt
    refine Go.Canon.wp_region_tree [] (fun _ => False) (.seg [0,1,2,4,5,6,7] (.alt 3 (.alt 8 (.seg [9] (.alt 10 (.seg [11] .fin) .no)) .no) (.alt 8 (.seg [9] (.alt 3 (.alt 10 (.seg [11] .fin) .no) .no)) .no))) mixed (by kernel_rfl) ?_
    refine Go.Canon.tr_seg ?_
    simp only [List.map_cons, List.map_nil, List.getD_cons_zero, List.getD_cons_succ]
    go_wp2_with fail
    refine Go.Canon.tr_to (Go.Canon.tr_alt ?_ (Go.Canon.tr_one ?_))
    · simp only [List.getD_cons_zero, List.getD_cons_succ]
      go_wp2_with fail
      refine (Hhli.out _ (Hhtab3.out.below (Below.refl w3.heap.size w3).drew (Nat.le_trans Hhtab.out.le hz3))).mono ?_
      rintro e w4 ⟨⟨r4, rfl, hown4⟩, hb8⟩
      have hb9 : Below w3.heap.size w3 w4 := (Below.refl _ w3).drew.trans hb8
      have hz4 : w3.heap.size ≤ w4.heap.size := hb9.size
      have hb10 := below_call hb7 hb9 hb7.size
      have Hhown4 := Lib.hid hown4; clear hown4
      go_wp2_with fail
      refine Go.Canon.tr_end (fun _ h => h.elim) (Go.Canon.tr_one ?_)
      simp only [List.getD_cons_zero, List.getD_cons_succ]
      go_wp2_with fail
      refine Go.Canon.tr_end (fun _ h => h.elim) (Go.Canon.tr_seg ?_)
      simp only [List.map_cons, List.map_nil, List.getD_cons_zero, List.getD_cons_succ]
      go_wp2_with fail
      refine Go.Canon.tr_to (Go.Canon.tr_one ?_)
      simp only [List.getD_cons_zero, List.getD_cons_succ]
      go_wp2_with fail
      have hs4 : Sl 1 RInt w4 w4.heap.size r4 ((L.take n).map fun n : Nat => (n : Int)) := sl_nvals Hhown4.out
      have hsw : Sl 1 RInt w4 w4.heap.size (.slice A2 m cap2) ((L.map fun n : Nat => (n : Int)).take m) := (Hhwant.out.keep keeps_int hb9 hz4).take hml
      refine (ints_calls hs4 hsw (Nat.le_refl _) (by rw [List.length_map, List.length_take]; omega)).mono ?_
      rintro e w5 ⟨rfl, hb11⟩
      rw [Hhfin.out]
      have hb12 := below_call hb10 hb11 hb10.size
      clear hs4 hsw
      go_wp2_with fail
      refine Go.Canon.tr_end (fun _ h => h.elim) (Go.Canon.tr_seg ?_)
      simp only [List.map_cons, List.map_nil, List.getD_cons_zero, List.getD_cons_succ]
      go_wp2_with fail
      refine Go.Canon.tr_to (Go.Canon.tr_fin (by rfl) (fun _ h => by cases h) ?_)
      go_wp2_with fail
      go_ret
      exact ⟨rfl, hb12⟩
    · simp only [List.getD_cons_zero, List.getD_cons_succ]
      go_wp2_with fail
      refine Go.Canon.tr_end (fun _ h => h.elim) (Go.Canon.tr_seg ?_)
      simp only [List.map_cons, List.map_nil, List.getD_cons_zero, List.getD_cons_succ]
      go_wp2_with fail
      refine Go.Canon.tr_to (Go.Canon.tr_one ?_)
      simp only [List.getD_cons_zero, List.getD_cons_succ]
      go_wp2_with fail
      refine (Hhli.out _ (Hhtab3.out.below (Below.refl w3.heap.size w3).drew (Nat.le_trans Hhtab.out.le hz3))).mono ?_
      rintro e w4 ⟨⟨r4, rfl, hown4⟩, hb8⟩
      have hb9 : Below w3.heap.size w3 w4 := (Below.refl _ w3).drew.trans hb8
      have hz4 : w3.heap.size ≤ w4.heap.size := hb9.size
      have hb10 := below_call hb7 hb9 hb7.size
      have Hhown4 := Lib.hid hown4; clear hown4
      go_wp2_with fail
      refine Go.Canon.tr_end (fun _ h => h.elim) (Go.Canon.tr_one ?_)
      simp only [List.getD_cons_zero, List.getD_cons_succ]
      go_wp2_with fail
      have hs4 : Sl 1 RInt w4 w4.heap.size r4 ((L.take n).map fun n : Nat => (n : Int)) := sl_nvals Hhown4.out
      have hsw : Sl 1 RInt w4 w4.heap.size (.slice A2 m cap2) ((L.map fun n : Nat => (n : Int)).take m) := (Hhwant.out.keep keeps_int hb9 hz4).take hml
      refine (ints_calls hs4 hsw (Nat.le_refl _) (by rw [List.length_map, List.length_take]; omega)).mono ?_
      rintro e w5 ⟨rfl, hb11⟩
      rw [Hhfin.out]
      have hb12 := below_call hb10 hb11 hb10.size
      clear hs4 hsw
      go_wp2_with fail
      refine Go.Canon.tr_end (fun _ h => h.elim) (Go.Canon.tr_seg ?_)
      simp only [List.map_cons, List.map_nil, List.getD_cons_zero, List.getD_cons_succ]
      go_wp2_with fail
      refine Go.Canon.tr_to (Go.Canon.tr_fin (by rfl) (fun _ h => by cases h) ?_)
      go_wp2_with fail
      go_ret
      exact ⟨rfl, hb12⟩
end Go.Proofs.Ytckkpmjkajkkmaa
