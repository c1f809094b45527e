/- The law StreamHalf: at least half of the best. -/
import Derived.Test.YtbhdfljdfjadnaaWC
import Derived.Test.YtbhdfljdfjadnaaL1
import Derived.Test.YtbhdfljdfjadnaaPure4
namespace Go.Proofs.Ytbhdfljdfjadnaa
open Go Go.RowKit Go.Words Go.StreamP

set_option maxHeartbeats 2000000 in
theorem best_calls (L : List (List B2)) : ∀ (v : Value) (bud : Int) (w : World) {B : Nat} (_ : B ≤ w.heap.size) (_ : Sl 1 (RSl 2 RPair) w B v L) (_ : ∀ l ∈ L, l.length ≤ 8) (_ : L.length ≤ 5) (_ : ∀ l ∈ L, ∀ b ∈ l, GoodB b) (_ : -9223372036854775808 ≤ bud ∧ bud ≤ 9223372036854775807),
    Calls Try.prog 26 #[v, .int .i64 bud] w fun e w' => e = .returned (.int .i64 (bestV L bud)) ∧ Below w.heap.size w w' := by
  induction L with
  | nil =>
    intro v bud w B hB0 h h8 h5 hg hbud
    obtain ⟨A, cap, rfl, hcap⟩ := h.form
    rw [List.length_nil]
    have Hh := Lib.hid h; clear h; have Hh8 := Lib.hid h8; clear h8; have Hh5 := Lib.hid h5; clear h5; have Hhg := Lib.hid hg; clear hg
    have hv : bestV [] bud = 0 := rfl
    rw [hv]
    go_enter Try.func26, Try.ntmps26
    go_wp2
    all_goals
      go_ret
      exact ⟨rfl, Below.refl _ _⟩
  | cons l L ih =>
    intro v bud w B hB0 h h8 h5 hg hbud
    obtain ⟨A, cap, rfl, hcap⟩ := h.form
    by_cases hneg : bud < 0
    · have hv := best_neg (l :: L) bud hneg
      rw [hv]
      have Hh := Lib.hid h; clear h; have Hh8 := Lib.hid h8; clear h8; have Hhg := Lib.hid hg; clear hg; have Hhv := Lib.hid hv; clear hv; have Hih := Lib.hid ih; clear ih
      go_enter Try.func26, Try.ntmps26
      go_wp2
      all_goals
        go_ret
        exact ⟨rfl, Below.refl _ _⟩
    · have hv : bestV (l :: L) bud = bestRow (bestV L) l bud (l.length + 1) := by unfold bestV; rw [if_neg hneg]
      rw [hv]
      have hl8 := h8 l List.mem_cons_self
      have hgl := hg l List.mem_cons_self
      have hL8 := fun m hm => h8 m (List.mem_cons_of_mem _ hm)
      have hgL := fun m hm => hg m (List.mem_cons_of_mem _ hm)
      have hbb := fun b => best_bound L hgL hL8 b
      rw [List.length_cons] at h5 hcap ⊢
      have hlen : ((L.length + 1 : Nat) : Int) ≠ 0 := by omega
      obtain ⟨b0, o0, v0, rfl, hb0, c0, hv0⟩ := h.sl_at (k := 0) (by simp)
      obtain ⟨A1, cap1, rfl, hcap1⟩ := hv0.form
      simp only [List.getElem_cons_zero, Nat.add_zero] at c0 hv0 hcap1
      have hcut : ∀ A' n' c', n' = L.length → (L.length = 0 ∨ (A' = some ⟨b0, o0 + 1, none⟩ ∧ c' = cap - 1)) → Sl 1 (RSl 2 RPair) w B (.slice A' n' c') L := by
        rintro A' n' c' rfl hA
        by_cases h0 : L.length = 0
        · have hL0 : L = [] := List.eq_nil_of_length_eq_zero h0
          subst hL0
          exact Sl.empty _ _ _ _
        · have hdr := h.drop (k := 1) (by simp)
          rw [if_neg (by omega)] at hdr
          rcases hA with hA | ⟨rfl, rfl⟩
          · exact absurd hA h0
          · simpa [Addr.add_lit] using hdr
      have hrow : ∀ n, n ≤ l.length + 1 → 0 ≤ bestRow (bestV L) l bud n ∧ bestRow (bestV L) l bud n ≤ 50331648 := by
        intro n hn
        have h0 := bestRow_is (bestV L) l bud n
        rcases h0 with h0 | ⟨j, _, _, h0⟩
        · omega
        · have hb1 := tot_bound (l.take j) (good_take hgl j)
          have hl1 : (l.take j).length ≤ 8 := by rw [List.length_take]; omega
          have hb2 := hbb (bud - (tot (l.take j)).1)
          omega
      have Hh := Lib.hid h; clear h; have Hh8 := Lib.hid h8; clear h8; have Hhg := Lib.hid hg; clear hg; have Hhv := Lib.hid hv; clear hv; have Hih := Lib.hid ih; clear ih; have Hhgl := Lib.hid hgl; clear hgl; have HhL8 := Lib.hid hL8; clear hL8; have HhgL := Lib.hid hgL; clear hgL; have Hhbb := Lib.hid hbb; clear hbb; have Hhv0 := Lib.hid hv0; clear hv0; have Hhcut := Lib.hid hcut; clear hcut; have Hhrow := Lib.hid hrow; clear hrow
      rcases (show cap = 1 ∨ cap ≠ 1 by omega) with rfl | hc1
      all_goals
        go_enter Try.func26, Try.ntmps26
        go_wp2
        go_loopw [5, 6] (fun m i wr => ∃ n : Nat, n ≤ l.length + 1 ∧ i = .int .i64 n ∧ m = .int .i64 (bestRow (bestV L) l bud n) ∧ Below w.heap.size w wr)
          (fun _ i _ => l.length + 1 - (intOf i).toNat)
        case atStart => exact ⟨0, by omega, rfl, rfl, Below.refl _ _⟩
        case round =>
          obtain ⟨n, hn, rfl, rfl, hbel⟩ := hrel
          have hz := hbel.size
          have c1 := (hbel.cell (p := ⟨b0, o0, none⟩) (by simp; omega)).trans c0
          have hrn := Hhrow.out n hn
          by_cases hlt : n < l.length + 1
          · have htk := (Hhv0.out.below keeps_pair (hbel.mono hB0)).take (k := n) (by omega)
            have hgt := good_take Hhgl.out n
            have hlt9 : (l.take n).length ≤ 1024 := by rw [List.length_take]; omega
            have hb1 := tot_bound (l.take n) hgt
            have hl1 : (l.take n).length ≤ 8 := by rw [List.length_take]; omega
            have hst : bestRow (bestV L) l bud (n + 1) = if (tot (l.take n)).1 ≤ bud then (if bestRow (bestV L) l bud n < (tot (l.take n)).2 + bestV L (bud - (tot (l.take n)).1) then (tot (l.take n)).2 + bestV L (bud - (tot (l.take n)).1) else bestRow (bestV L) l bud n) else bestRow (bestV L) l bud n := rfl
            generalize hbr : bestRow (bestV L) l bud n = R at *
            generalize hX : tot (l.take n) = X at *
            obtain ⟨X1, X2⟩ := X
            simp only [] at hst hb1
            have hbv := Hhbb.out (bud - X1)
            generalize hV : bestV L (bud - X1) = V at *
            have Hhtk := Lib.hid htk; clear htk; have Hhgt := Lib.hid hgt; clear hgt; have Hhlt9 := Lib.hid hlt9; clear hlt9; have Hhst := Lib.hid hst; clear hst; have Hhbr := Lib.hid hbr; clear hbr; have HhX := Lib.hid hX; clear hX; have HhV := Lib.hid hV; clear hV
            go_wp2_with fail
            refine (all_calls _ (l.take n) _ (by omega) Hhtk.out Hhlt9.out Hhgt.out).mono ?_
            rw [HhX.out]
            rintro e w1 ⟨rfl, hb1'⟩
            have hbel1 := below_call hbel hb1' hz
            have hz1 := hb1'.size
            by_cases hc : X1 ≤ bud
            case neg =>
              have hst := Hhst.out
              rw [if_neg hc] at hst
              have Hhst := Lib.hid hst; clear hst
              go_wp2
              exact ⟨⟨n + 1, by omega, by simp, by rw [Hhst.out], (by repeat (first | exact Below.refl _ _ | assumption | refine Below.drew ?_ | refine Below.setCell ?_ (by first | omega | (simp <;> omega)) _ | refine Below.alloc ?_ (by first | omega | (simp <;> omega)) _ | refine below_drewN ?_ _))⟩, by simp [intOf]; omega⟩
            case pos =>
              have hst := Hhst.out
              rw [if_pos hc] at hst
              have Hhst := Lib.hid hst; clear hst
              go_wp2_with (refine Go.Canon.wp_region_plan [1] (· < w1.heap.size + 1) [0,1,2,3,4,5,6,7] [[[8],[9,10]]] mixed (by kernel_rfl) (List.forall_mem_cons.2 ⟨?_, fun _ h => by cases h⟩))
              refine Go.Canon.seg_begin ?_
              simp only [List.map_cons, List.map_nil, List.getD_cons_zero, List.getD_cons_succ]
              have hcd : (w1.alloc (.cells #[.int .i64 X1, .int .i64 X2] 36)).cell? ⟨w1.heap.size, 1, none⟩ = some (.int .i64 X2) := (Bk.new w1 36 [.int .i64 X1, .int .i64 X2]).cell 1
              have hblA := hbel1.alloc hbel1.size (.cells #[.int .i64 X1, .int .i64 X2] 36)
              have Hhcd := Lib.hid hcd; clear hcd
              go_wp2_with fail
              all_goals
                refine (Hih.out _ (bud - X1) _ (B := B) (by simp; omega) ((Hhcut.out _ _ _ (by first | rfl | omega) (by first | (left; omega) | exact .inr ⟨rfl, rfl⟩)).keep (keeps_sl keeps_pair) (hblA.drew.mono hB0) (Nat.le_refl _)) HhL8.out (by omega) HhgL.out (by omega)).mono ?_
                rw [HhV.out]
                rintro e w2 ⟨rfl, hb2⟩
                have hbel2 := below_call hblA.drew hb2 hblA.size
                have kb := keep_below (show Below (w1.heap.size + 1) _ w2 from hb2.mono (by simp))
                have Hkb := Lib.hid kb; clear kb
                go_wp2_with fail
                refine Go.Canon.seg_end Hkb.out (Go.Canon.seg_begin ?_)
                simp only [List.map_cons, List.map_nil, List.getD_cons_zero, List.getD_cons_succ]
                go_wp2_with fail
                refine Go.Canon.seg_end Hkb.out (Go.Canon.seg_done (by rfl) (List.forall_mem_cons.2 ⟨.inl ⟨_, rfl, by simp, by simp only [World.cell?_drew, Hhcd.out]; rfl⟩, fun _ h => by cases h⟩) ?_)
                by_cases hgt9 : R < X2 + V
                · have hst9 := Hhst.out
                  rw [if_pos hgt9] at hst9
                  have Hhst9 := Lib.hid hst9; clear hst9
                  go_wp2
                  first | exact ⟨⟨n + 1, by omega, by simp, by rw [Hhst9.out], hbel2⟩, by simp [intOf]; omega⟩ | exact ⟨⟨n + 1, by omega, by simp, Hhst9.out.symm⟩, by simp [intOf]; omega⟩
                · have hst9 := Hhst.out
                  rw [if_neg hgt9] at hst9
                  have Hhst9 := Lib.hid hst9; clear hst9
                  go_wp2
                  first | exact ⟨⟨n + 1, by omega, by simp, by rw [Hhst9.out], hbel2⟩, by simp [intOf]; omega⟩ | exact ⟨⟨n + 1, by omega, by simp, Hhst9.out.symm⟩, by simp [intOf]; omega⟩
          · have hkl : n = l.length + 1 := by omega
            subst hkl
            go_wp2
            go_ret
            exact ⟨rfl, hbel⟩

set_option maxHeartbeats 4000000 in
theorem half_law (v : Value) (L : List (List B2)) (bud : Int) (w : World) {B : Nat} (hB0 : B ≤ w.heap.size) (h : Sl 1 (RSl 2 RPair) w B v L) (hbud : -9223372036854775808 ≤ bud ∧ bud ≤ 9223372036854775807) :
    Calls Try.prog 9 #[v, .int .i64 bud] w fun e w' => e = .returned (.bool true) ∧ Below w.heap.size w w' := by
  obtain ⟨A, cap, rfl, hcap⟩ := h.form
  have qT := nil_eq
  have Hh := Lib.hid h; clear h
  go_enter Try.func9, Try.ntmps9
  go_wp2_with (go_at_call 11; refine (awake_calls _).mono ?_; rintro e w1 ⟨rfl, hb1⟩; have hz1 := hb1.size)
  refine (plain_calls _ L _ (by omega) (Hh.out.below (keeps_sl keeps_pair) (hb1.mono hB0))).mono ?_
  rintro e w2 ⟨⟨p, rfl, hp⟩, hb2⟩
  have hz2 := hb2.size
  have hbel2 := below_call hb1 hb2 hz1
  cases hok : plainOk L
  case false =>
    obtain rfl := hp.2 hok
    have Hhp := Lib.hid hp; clear hp; have Hhok := Lib.hid hok; clear hok
    go_wp2
    go_ret
    exact ⟨rfl, hbel2⟩
  obtain ⟨a, n, c, rfl, hps⟩ := hp.1 hok
  have hfew := plainOk_few hok
  have hsm := few_small hfew
  have hfl := hfew.1
  obtain rfl := hps.len.1
  have Hhp := Lib.hid hp; clear hp; have Hhok := Lib.hid hok; clear hok; have Hhps := Lib.hid hps; clear hps; have Hhfew := Lib.hid hfew; clear hfew; have Hhsm := Lib.hid hsm; clear hsm
  by_cases hl4 : (4 : Int) < (L.length : Int)
  case pos =>
    go_wp2
    go_ret
    exact ⟨rfl, hbel2⟩
  go_wp2_with fail
  refine (refright_calls _ L _ (Nat.le_refl _) Hhps.out Hhsm.out.1 Hhsm.out.2).mono ?_
  cases hr : L.all rowB
  case false =>
    rintro e w3 ⟨rfl, hb3⟩
    have hbel3 := below_call hbel2 hb3 hbel2.size
    have Hhr := Lib.hid hr; clear hr
    go_wp2
    go_ret
    exact ⟨rfl, hbel3⟩
  rintro e w3 ⟨rfl, hb3⟩
  have hbel3 := below_call hbel2 hb3 hbel2.size
  have hz3 := hb3.size
  have hps3 := Hhps.out.after (keeps_sl keeps_pair) hb3 (Nat.le_refl _)
  have hg := all_row hr
  have Hhps3 := Lib.hid hps3; clear hps3; have Hhr := Lib.hid hr; clear hr; have Hhg := Lib.hid hg; clear hg
  go_wp2
  go_loopw [6] (fun i wr => ∃ k : Nat, k ≤ L.length ∧ i = .int .i64 k ∧ Below w3.heap.size w3 wr)
    (fun i _ => L.length - (intOf i).toNat)
  case atStart => exact ⟨0, by omega, rfl, Below.refl _ _⟩
  case round =>
    obtain ⟨k, hk, rfl, hbr⟩ := hrel
    have hzr := hbr.size
    have hbel := below_call hbel3 hbr hbel3.size
    by_cases hlt : k < L.length
    · obtain ⟨b, o, vr, rfl, hb, c1, hvr⟩ := (Hh.out.below (keeps_sl keeps_pair) (hbel.mono hB0)).sl_at hlt
      obtain ⟨A3, cap3, rfl, hcap3⟩ := hvr.form
      generalize hx : L[k] = x at *
      have Hhx := Lib.hid hx; clear hx; have Hhvr := Lib.hid hvr; clear hvr
      by_cases hgt : (4 : Int) < (x.length : Int)
      · go_wp2
        go_ret
        exact ⟨rfl, hbel⟩
      · go_wp2
        exact ⟨⟨k + 1, by omega, by simp, hbr⟩, by simp [intOf]; omega⟩
    · clear hk
      have hpl := half_plain Hhg.out Hhsm.out.2 bud
      have hfit := better_fits L bud
      have hs3 := sumRes_fits Hhr.out hfit
      have hbb := best_bound L Hhg.out Hhfew.out.2 bud
      have hsb := sumAll_mid Hhfew.out Hhg.out (betterL L bud) L.length
      rw [List.take_length] at hsb
      generalize hT : betterL L bud = T at *
      generalize hS : sumAll L T = S at *
      generalize hV : bestV L bud = V at *
      obtain ⟨s1, s2⟩ := S
      unfold Mid at hsb
      simp only [] at hpl hs3 hsb
      have Hhfit := Lib.hid hfit; clear hfit; have Hhs3 := Lib.hid hs3; clear hs3; have HhT := Lib.hid hT; clear hT; have HhS := Lib.hid hS; clear hS; have HhV := Lib.hid hV; clear hV
      go_wp2_with fail
      refine (better_calls _ L bud _ (by omega) (Hh.out.below (keeps_sl keeps_pair) (hbel.mono hB0)) Hhfew.out Hhr.out hbud).mono ?_
      rw [HhT.out]
      rintro e w4 ⟨⟨tv, rfl, htv⟩, hb4⟩
      have hbel4 := below_call hbel hb4 hbel.size
      have hz4 := hbel4.size
      obtain ⟨A6, cap6, rfl, hcap6⟩ := htv.form
      rw [List.length_map] at htv hcap6 ⊢
      have Hhtv := Lib.hid htv; clear htv
      go_wp2_with fail
      refine (sum_calls _ _ L _ _ (Nat.le_refl _) ((Hh.out.below (keeps_sl keeps_pair) (hbel4.mono hB0)).keep (keeps_sl keeps_pair) (Below.refl _ _) (by omega)) Hhtv.out Hhfew.out).mono ?_
      rw [Hhs3.out]
      rintro e w5 ⟨rfl, hb5⟩
      have hbel5 := below_call hbel4 hb5 hbel4.size
      have hps5 := Hhps3.out.keep (keeps_sl keeps_pair) ((below_call (below_call hbr hb4 hzr) hb5 (below_call hbr hb4 hzr).size).mono hz3) (Nat.le_refl _)
      have hz5 := hbel5.size
      have hz35 := (below_call (below_call hbr hb4 hzr) hb5 (below_call hbr hb4 hzr).size).size
      have Hhps5 := Lib.hid hps5; clear hps5
      obtain ⟨hp1, hp2, hp3⟩ := hpl
      rcases (show s1 ≤ bud ∨ (¬ s1 ≤ bud ∧ s1 = 0) by omega) with hc | ⟨hc, rfl⟩
      all_goals
        clear hp1
        go_wp2_with fail
        refine (best_calls L _ bud _ (B := w2.heap.size) (by omega) Hhps5.out Hhfew.out.2 hfl Hhg.out hbud).mono ?_
        rw [HhV.out]
        rintro e w6 ⟨rfl, hb6⟩
        have hbel6 := below_call hbel5 hb6 hbel5.size
        have hps6 := Hhps5.out.after (keeps_sl keeps_pair) hb6 (by omega)
        have Hhps6 := Lib.hid hps6; clear hps6
        go_wp2_with fail
        refine (best_calls L _ bud _ (B := w2.heap.size) (by have := hb6.size; omega) Hhps6.out Hhfew.out.2 hfl Hhg.out hbud).mono ?_
        rw [HhV.out]
        rintro e w7 ⟨rfl, hb7⟩
        have hbel7 := below_call hbel6 hb7 hbel6.size
        have hp4 : s2 ≤ V := by omega
        have hV0 : 0 ≤ V := by omega
        go_wp2
        go_ret
        exact ⟨rfl, hbel7⟩
end Go.Proofs.Ytbhdfljdfjadnaa
