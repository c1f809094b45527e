/- The law StreamFalls: pieces fall in yield. -/
import Derived.Test.YtbhdfljdfjadnaaWC
import Derived.Test.YtbhdfljdfjadnaaL3
import Derived.Test.YtbhdfljdfjadnaaPure3
namespace Go.Proofs.Ytbhdfljdfjadnaa
open Go Go.RowKit Go.Words Go.StreamP

theorem tot_take20 {l : List B2} (hg : ∀ b ∈ l, GoodB b) (h : l.length ≤ 20) (fr k : Nat) : 0 ≤ (tot ((l.drop fr).take k)).1 ∧ (tot ((l.drop fr).take k)).1 ≤ 20971520 ∧ 0 ≤ (tot ((l.drop fr).take k)).2 ∧ (tot ((l.drop fr).take k)).2 ≤ 20971520 := by
  have hb := tot_bound ((l.drop fr).take k) (good_take (good_drop hg fr) k)
  have h2 : ((l.drop fr).take k).length ≤ 20 := by rw [List.length_take, List.length_drop]; omega
  omega
theorem mul20 {x y : Int} (hx : 0 ≤ x ∧ x ≤ 20971520) (hy : 0 ≤ y ∧ y ≤ 20971520) : 0 ≤ x * y ∧ x * y ≤ 439804651110400 :=
  ⟨Int.mul_nonneg hx.1 hy.1, Int.le_trans (Int.mul_le_mul hx.2 hy.2 hy.1 (by omega)) (by omega)⟩

set_option maxRecDepth 20000 in
set_option maxHeartbeats 4000000 in
theorem falls_law (v : Value) (l : List B2) (w : World) {B : Nat} (hB0 : B ≤ w.heap.size) (h : Sl 2 RPair w B v l) :
    Calls Try.prog 3 #[v] w fun e w' => e = .returned (.bool true) ∧ Below w.heap.size w w' := by
  obtain ⟨A, cap, rfl, hcap⟩ := h.form
  by_cases hl8 : (l.length : Int) ≤ 20
  case neg =>
    have hl9 : (20 : Int) < (l.length : Int) := by omega
    have Hh := Lib.hid h; clear h
    go_enter Try.func3, Try.ntmps3
    go_wp2_with (go_at_call 11; refine (awake_calls _).mono ?_; rintro e w1 ⟨rfl, hb1⟩; have hz1 := hb1.size)
    go_ret
    exact ⟨rfl, hb1⟩
  case pos =>
    have hl1024 : l.length ≤ 1024 := by omega
    have Hh := Lib.hid h; clear h
    go_enter Try.func3, Try.ntmps3
    go_wp2_with (go_at_call 11; refine (awake_calls _).mono ?_; rintro e w1 ⟨rfl, hb1⟩; have hz1 := hb1.size)
    refine (one_calls _ l _ (by omega) (Hh.out.below keeps_pair (hb1.mono hB0)) hl1024).mono ?_
    rintro e w2 ⟨⟨v', rfl, hv'⟩, hb2⟩
    obtain ⟨A4, cap4, rfl, hcap4⟩ := own_form hv'
    have hz2 := hb2.size
    have hbel2 := below_call hb1 hb2 hz1
    have hv2 := flat_sl hv'
    have hbA := hbel2.alloc hbel2.size (.cells #[.slice A4 l.length cap4] 25)
    have hsl := one_row_sl (l := l) (Bk.new w2 25 [.slice A4 l.length cap4]) (hv2.keep keeps_pair ((Below.refl _ _).alloc (Nat.le_refl _) _) (by simp))
    have Hhv' := Lib.hid hv'; clear hv'; have Hhv2 := Lib.hid hv2; clear hv2; have Hhsl := Lib.hid hsl; clear hsl
    go_wp2_with fail
    refine (refright_calls _ [l] _ (Nat.le_refl _) Hhsl.out (by simp) (by simpa using hl1024)).mono ?_
    cases hr : [l].all rowB
    case false =>
      rintro e w3 ⟨rfl, hb3⟩
      have hbel3 := below_call hbA hb3 hbA.size
      have Hhr := Lib.hid hr; clear hr
      go_wp2
      go_ret
      exact ⟨rfl, hbel3⟩
    rintro e w3 ⟨rfl, hb3⟩
    have hbel3 := below_call hbA hb3 hbA.size
    have hz3 := hbel3.size
    have hgd := all_row hr l (by simp)
    have Hhr := Lib.hid hr; clear hr; have Hhgd := Lib.hid hgd; clear hgd
    go_wp2_with fail
    refine (hull_calls _ l _ (by omega) (Hh.out.below keeps_pair (hbel3.mono hB0)) hl1024 Hhgd.out).mono ?_
    rintro e w4 ⟨⟨p1, p2, rfl, hp1, hp2, hown⟩, hb4⟩
    clear hown
    have hz4 := hb4.size
    have hbel4 := below_call hbel3 hb4 hbel3.size
    obtain ⟨A5, cap5, rfl, hcap5⟩ := hp1.form
    obtain ⟨A6, cap6, rfl, hcap6⟩ := hp2.form
    rw [List.length_map] at hcap5 hcap6 hp1 hp2 ⊢
    rw [List.length_map]
    have hend := chain_end l _ 0 (by omega) (hull_chain l)
    have hpc := fun i hi => hull_piece Hhgd.out i hi
    have hlen0 : 0 < (hull l).length → 0 < l.length := fun h9 => by have h8 := hpc 0 h9; have h7 := h8.lt; have h6 := h8.le; omega
    have hlen1 : (hull l).length = 0 → l.length = 0 := fun h9 => by rw [h9] at hend; exact hend.symm
    have hlast : ∀ h9 : (hull l).length - 1 < (hull l).length, ((hull l)[(hull l).length - 1]).2 = l.length := fun h9 => by
      rw [← hend]; unfold startAt; rw [if_neg (by omega), getD_at _ _ _ h9]
    generalize hH : hull l = H at *
    have hH20 : H.length ≤ 20 := by
      have hx : ∀ i (hi : i < H.length), i < (H[i]).2 := by
        intro i
        induction i with
        | zero => intro hi; have := (hpc 0 hi).lt; omega
        | succ i ih => intro hi; have h9 := hpc (i + 1) hi; have := h9.from_ i (by omega) rfl; have := h9.lt; have := ih (by omega); omega
      by_cases h0 : H.length = 0
      · omega
      · have := hx (H.length - 1) (by omega)
        have := hlast (by omega)
        omega
    have Hhend := Lib.hid hend; clear hend; have Hhpc := Lib.hid hpc; clear hpc; have Hhlen0 := Lib.hid hlen0; clear hlen0; have Hhlen1 := Lib.hid hlen1; clear hlen1; have Hhlast := Lib.hid hlast; clear hlast; have Hhp1 := Lib.hid hp1; clear hp1; have Hhp2 := Lib.hid hp2; clear hp2; have HhH := Lib.hid hH; clear hH
    obtain ⟨m, hm⟩ : ∃ m, H.length = m ∧ m ≤ 20 := ⟨_, rfl, hH20⟩
    obtain ⟨hm, hm20⟩ := hm
    rw [hm] at hcap5 hcap6 ⊢
    rw [hm] at Hhlen0 Hhlen1 Hhp1 Hhp2
    by_cases h0 : m = 0
    case pos =>
      subst h0
      have hl0 := Hhlen1.out rfl
      rw [hl0]
      go_wp2
      go_loopw [5, 6] (fun f i wr => i = .int .i64 0 ∧ wr = w4) (fun _ _ _ => 0)
      case atStart => exact ⟨rfl, rfl⟩
      case round =>
        obtain ⟨rfl, rfl⟩ := hrel
        go_wp2
        go_ret
        exact ⟨rfl, hbel4⟩
    case neg =>
      obtain ⟨m', rfl⟩ : ∃ m', m = m' + 1 := ⟨m - 1, by omega⟩
      have hl0 := Hhlen0.out (by omega)
      obtain ⟨b2, o2, rfl, hb2', k1⟩ := Hhp2.out.int_at (k := m') (by rw [List.length_map, hm]; omega)
      rw [List.getElem_map] at k1
      have hlast := Hhlast.out (by omega)
      simp only [hm, Nat.add_sub_cancel] at hlast
      rw [hlast] at k1
      clear hlast
      have hl0' : ¬ l.length = 0 := by omega
      go_wp2
      go_loopw [5, 6] (fun f i wr => ∃ k : Nat, k ≤ m' + 1 ∧ i = .int .i64 k ∧ f = .int .i64 (startAt 0 H k) ∧ Below w4.heap.size w4 wr)
        (fun _ i _ => m' + 1 - (intOf i).toNat)
      case atStart => exact ⟨0, by omega, rfl, rfl, Below.refl _ _⟩
      case round =>
        obtain ⟨k, hk, rfl, rfl, hbr⟩ := hrel
        have hzr := hbr.size
        have hbel := below_call hbel4 hbr hbel4.size
        clear k1
        by_cases hlt : k < m' + 1
        · have hkH : k < H.length := by omega
          have hpk := Hhpc.out k hkH
          obtain ⟨b3, o3, hA3, hb3', c1, c2⟩ := (Hhp1.out.below keeps_pair hbr).pair_at (k := k) (by rw [List.length_map]; omega)
          subst hA3
          obtain ⟨b4, o4, hA4, hb4', c3⟩ := (Hhp2.out.below keeps_int hbr).int_at (k := k) (by rw [List.length_map]; omega)
          injection hA4 with hA4
          injection hA4 with e1 e2
          subst e1; subst e2
          rw [List.getElem_map] at c1 c2 c3
          have hlt2 := hpk.lt
          have hle2 := hpk.le
          have hsum := hpk.sum
          have hfront := hpk.front
          have hstep : startAt 0 H (k + 1) = H[k].2 := by
            unfold startAt; rw [if_neg (by omega), Nat.add_sub_cancel, getD_at _ _ _ hkH]
          have hPm := tot_take20 Hhgd.out (by omega) (startAt 0 H k) (H[k].2 - startAt 0 H k)
          rw [← hsum] at hPm
          have hk0 : k = 0 ∨ ∃ j, k = j + 1 := by cases k with | zero => exact .inl rfl | succ j => exact .inr ⟨j, rfl⟩
          have hprev : ∀ j, k = j + 1 → ∃ q : B2, H[k].1.2 * q.1 < q.2 * H[k].1.1 ∧ (0 ≤ q.1 ∧ q.1 ≤ 20971520) ∧ (0 ≤ q.2 ∧ q.2 ≤ 20971520) ∧ wr.cell? ⟨b3, o3 + j * 2, none⟩ = some (.int .i64 q.1) ∧ wr.cell? ⟨b3, o3 + j * 2 + 1, none⟩ = some (.int .i64 q.2) := by
            intro j hj
            have hjH : j < H.length := by omega
            have hpj := Hhpc.out j hjH
            have hPj := tot_take20 Hhgd.out (by omega) (startAt 0 H j) (H[j].2 - startAt 0 H j)
            rw [← hpj.sum] at hPj
            obtain ⟨b5, o5, hA5, hb5', g1, g2⟩ := (Hhp1.out.below keeps_pair hbr).pair_at (k := j) (by rw [List.length_map]; omega)
            injection hA5 with hA5
            injection hA5 with e1 e2
            subst e1; subst e2
            rw [List.getElem_map] at g1 g2
            exact ⟨H[j].1, hpk.falls j hjH hj, by omega, by omega, g1, g2⟩
          generalize hfr : startAt 0 H k = fr at *
          generalize hHk : H[k] = hx at *
          obtain ⟨⟨P1, P2⟩, en⟩ := hx
          simp only [] at c1 c2 c3 hlt2 hle2 hsum hfront hstep hPm hprev
          have hmP := mul20 (x := P2) (y := P1) (by omega) (by omega)
          have Hhpk := Lib.hid hpk; clear hpk; have Hhsum := Lib.hid hsum; clear hsum; have Hhfront := Lib.hid hfront; clear hfront; have Hhstep := Lib.hid hstep; clear hstep; have Hhfr := Lib.hid hfr; clear hfr; have HhHk := Lib.hid hHk; clear hHk
          have main : ∀ wi, Below wr.heap.size wr wi → True := fun _ _ => trivial
          clear main
          rcases hk0 with rfl | ⟨j, rfl⟩
          · clear hprev
            simp only [Nat.zero_mul, Nat.add_zero] at c1 c2 c3
            have hle3 : ¬ en ≤ fr := by omega
            go_wp2_with (first | (refine Go.Canon.wp_region_text mixed (by kernel_rfl) ?_) | (refine Go.Canon.chk (by rfl) ?_))
            clear hle3
            go_loopw [7, 8, 9] (fun c g i wi => ∃ n : Nat, fr + n ≤ en ∧ i = .int .i64 ((fr + n : Nat) : Int) ∧ c = .int .i64 (tot ((l.drop fr).take n)).1 ∧ g = .int .i64 (tot ((l.drop fr).take n)).2 ∧ Below wr.heap.size wr wi)
              (fun _ _ i _ => en - (intOf i).toNat)
            case atStart => exact ⟨0, by omega, by simp, by simp [tot_nil], by simp [tot_nil], (by repeat (first | exact Below.refl _ _ | assumption | refine Below.drew ?_ | refine Below.setCell ?_ (by first | omega | (simp <;> omega)) _ | refine Below.alloc ?_ (by first | omega | (simp <;> omega)) _ | refine below_drewN ?_ _))⟩
            case round =>
              obtain ⟨n, hn, rfl, rfl, rfl, hbi⟩ := hrel
              have hzi := hbi.size
              have hbelI := below_call hbel hbi hbel.size
              have hbrI := below_call hbr hbi hzr
              have c1 := (hbi.cell (p := ⟨b3, o3, none⟩) (by simp; omega)).trans c1
              have c2 := (hbi.cell (p := ⟨b3, o3 + 1, none⟩) (by simp; omega)).trans c2
              have c3 := (hbi.cell (p := ⟨b2, o2, none⟩) (by simp; omega)).trans c3
              have hS := tot_take20 Hhgd.out (by omega) fr n
              by_cases hlt3 : fr + n < en
              · obtain ⟨b5, o5, rfl, hb5', c4, c5⟩ := (Hh.out.below keeps_pair (hbelI.mono hB0)).pair_at (k := fr + n) (by omega)
                have hs : tot ((l.drop fr).take (n + 1)) = plus (tot ((l.drop fr).take n)) (l[fr + n]'(by omega)) := by
                  rw [tot_take_succ _ _ (by rw [List.length_drop]; omega), List.getElem_drop]
                have hS1 := tot_take20 Hhgd.out (by omega) fr (n + 1)
                have hf := Hhfront.out (n + 1) (by omega)
                have hgy := Hhgd.out _ (List.getElem_mem (show fr + n < l.length by omega))
                rw [hs] at hf hS1
                generalize hy : (l[fr + n]'(by omega)) = y at *
                generalize hSe : tot ((l.drop fr).take n) = T at *
                obtain ⟨y1, y2⟩ := y
                obtain ⟨s1, s2⟩ := T
                unfold LeY at hf
                unfold GoodB at hgy
                simp only [plus] at hf hs hS1 hS hgy c4 c5
                have hx1 := mul20 (x := s2 + y2) (y := P1) (by omega) (by omega)
                have hx2 := mul20 (x := P2) (y := s1 + y1) (by omega) (by omega)
                have hf := Int.not_lt.2 hf
                have Hhs := Lib.hid hs; clear hs; have Hhy := Lib.hid hy; clear hy; have HhSe := Lib.hid hSe; clear hSe
                go_wp2_with (first | (refine Go.Canon.wp_region_text mixed (by kernel_rfl) ?_) | (refine Go.Canon.chk (by rfl) ?_))
                exact ⟨⟨n + 1, by omega, by simp [Int.add_assoc], by rw [Hhs.out], by rw [Hhs.out], (by repeat (first | exact Below.refl _ _ | assumption | refine Below.drew ?_ | refine Below.setCell ?_ (by first | omega | (simp <;> omega)) _ | refine Below.alloc ?_ (by first | omega | (simp <;> omega)) _ | refine below_drewN ?_ _))⟩, by simp [intOf]; omega⟩
              · have hen : en = fr + n := by omega
                subst hen
                have hsm := Hhsum.out
                rw [show fr + n - fr = n from by omega] at hsm
                rw [← hsm]
                rw [← hsm] at hS
                clear hsm
                go_wp2
                exact ⟨⟨0 + 1, by omega, by simp, by rw [Hhstep.out, Int.natCast_add], hbrI⟩, by simp [intOf]⟩
          · obtain ⟨⟨Q1, Q2⟩, hq, hq1, hq2, g1, g2⟩ := hprev j rfl
            clear hprev
            simp only [] at hq hq1 hq2 g1 g2
            have hm1 := mul20 (x := P2) (y := Q1) (by omega) (by omega)
            have hm2 := mul20 (x := Q2) (y := P1) (by omega) (by omega)
            have hle3 : ¬ en ≤ fr := by omega
            go_wp2_with (first | (refine Go.Canon.wp_region_text mixed (by kernel_rfl) ?_) | (refine Go.Canon.chk (by rfl) ?_))
            clear hle3
            go_loopw [7, 8, 9] (fun c g i wi => ∃ n : Nat, fr + n ≤ en ∧ i = .int .i64 ((fr + n : Nat) : Int) ∧ c = .int .i64 (tot ((l.drop fr).take n)).1 ∧ g = .int .i64 (tot ((l.drop fr).take n)).2 ∧ Below wr.heap.size wr wi)
              (fun _ _ i _ => en - (intOf i).toNat)
            case atStart => exact ⟨0, by omega, by simp, by simp [tot_nil], by simp [tot_nil], (by repeat (first | exact Below.refl _ _ | assumption | refine Below.drew ?_ | refine Below.setCell ?_ (by first | omega | (simp <;> omega)) _ | refine Below.alloc ?_ (by first | omega | (simp <;> omega)) _ | refine below_drewN ?_ _))⟩
            case round =>
              obtain ⟨n, hn, rfl, rfl, rfl, hbi⟩ := hrel
              have hzi := hbi.size
              have hbelI := below_call hbel hbi hbel.size
              have hbrI := below_call hbr hbi hzr
              have c1 := (hbi.cell (p := ⟨b3, o3 + (j + 1) * 2, none⟩) (by simp; omega)).trans c1
              have c2 := (hbi.cell (p := ⟨b3, o3 + (j + 1) * 2 + 1, none⟩) (by simp; omega)).trans c2
              have c3 := (hbi.cell (p := ⟨b2, o2 + (j + 1), none⟩) (by simp; omega)).trans c3
              have hS := tot_take20 Hhgd.out (by omega) fr n
              by_cases hlt3 : fr + n < en
              · obtain ⟨b5, o5, rfl, hb5', c4, c5⟩ := (Hh.out.below keeps_pair (hbelI.mono hB0)).pair_at (k := fr + n) (by omega)
                have hs : tot ((l.drop fr).take (n + 1)) = plus (tot ((l.drop fr).take n)) (l[fr + n]'(by omega)) := by
                  rw [tot_take_succ _ _ (by rw [List.length_drop]; omega), List.getElem_drop]
                have hS1 := tot_take20 Hhgd.out (by omega) fr (n + 1)
                have hf := Hhfront.out (n + 1) (by omega)
                have hgy := Hhgd.out _ (List.getElem_mem (show fr + n < l.length by omega))
                rw [hs] at hf hS1
                generalize hy : (l[fr + n]'(by omega)) = y at *
                generalize hSe : tot ((l.drop fr).take n) = T at *
                obtain ⟨y1, y2⟩ := y
                obtain ⟨s1, s2⟩ := T
                unfold LeY at hf
                unfold GoodB at hgy
                simp only [plus] at hf hs hS1 hS hgy c4 c5
                have hx1 := mul20 (x := s2 + y2) (y := P1) (by omega) (by omega)
                have hx2 := mul20 (x := P2) (y := s1 + y1) (by omega) (by omega)
                have hf := Int.not_lt.2 hf
                have Hhs := Lib.hid hs; clear hs; have Hhy := Lib.hid hy; clear hy; have HhSe := Lib.hid hSe; clear hSe
                go_wp2_with (first | (refine Go.Canon.wp_region_text mixed (by kernel_rfl) ?_) | (refine Go.Canon.chk (by rfl) ?_))
                exact ⟨⟨n + 1, by omega, by simp [Int.add_assoc], by rw [Hhs.out], by rw [Hhs.out], (by repeat (first | exact Below.refl _ _ | assumption | refine Below.drew ?_ | refine Below.setCell ?_ (by first | omega | (simp <;> omega)) _ | refine Below.alloc ?_ (by first | omega | (simp <;> omega)) _ | refine below_drewN ?_ _))⟩, by simp [intOf]; omega⟩
              · have hen : en = fr + n := by omega
                subst hen
                have hsm := Hhsum.out
                rw [show fr + n - fr = n from by omega] at hsm
                rw [← hsm]
                rw [← hsm] at hS
                clear hsm
                go_wp2
                exact ⟨⟨(j + 1) + 1, by omega, by simp, by rw [Hhstep.out, Int.natCast_add], hbrI⟩, by simp [intOf]; omega⟩
        · have hkl : k = m' + 1 := by omega
          subst hkl
          go_wp2
          go_ret
          exact ⟨rfl, hbel⟩
end Go.Proofs.Ytbhdfljdfjadnaa
