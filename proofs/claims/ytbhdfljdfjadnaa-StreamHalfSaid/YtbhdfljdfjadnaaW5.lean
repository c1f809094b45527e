/- Walks: sums of what is taken. -/
import Derived.Test.YtbhdfljdfjadnaaW4
namespace Go.Proofs.Ytbhdfljdfjadnaa
open Go Go.RowKit Go.Words Go.StreamP

theorem all_row {L : List (List B2)} (h : L.all rowB = true) : ∀ l ∈ L, ∀ b ∈ l, GoodB b := fun l hl => (rowB_len (List.all_eq_true.1 h l hl)).2

set_option maxHeartbeats 1000000 in
theorem sum_calls (v1 v2 : Value) (L : List (List B2)) (T : List Int) (w : World) {B : Nat} (hB0 : B ≤ w.heap.size) (h : Sl 1 (RSl 2 RPair) w B v1 L) (h2 : Sl 1 RInt w B v2 T) (hf : Few L) :
    Calls Try.prog 18 #[v1, v2] w fun e w' => e = .returned (.tuple #[.int .i64 (sumRes L T (L.all rowB)).1, .int .i64 (sumRes L T (L.all rowB)).2.1, .int .i64 (sumRes L T (L.all rowB)).2.2]) ∧ Below w.heap.size w w' := by
  obtain ⟨A, cap, rfl, hcap⟩ := h.form
  obtain ⟨A2, cap2, rfl, hcap2⟩ := h2.form
  have hl := hf.1
  have hls : ∀ l ∈ L, l.length ≤ 1024 := fun l hl => by have := hf.2 l hl; omega
  cases hr : L.all rowB
  · have Hr := Lib.hid hr
    clear hr
    have Hhf := Lib.hid hf; clear hf
    go_enter Try.func18, Try.ntmps18
    go_wp2_with (go_at_call 31; refine (right_calls _ L _ hB0 h (by omega) hls).mono ?_; rw [Hr.out]; rintro e w1 ⟨rfl, hb1⟩)
    go_ret3
    exact ⟨by simp [sumRes], hb1⟩
  · have hg := all_row hr
    have Hr := Lib.hid hr
    clear hr
    by_cases hlen : T.length = L.length
    · have hne : ((T.length : Int) != (L.length : Int)) = false := by simp [hlen]
      have Hlen := Lib.hid hlen
      have hlen' : T.length ≤ L.length := by omega
      have hlen2 : L.length ≤ T.length := by omega
      clear hlen
      have Hhf := Lib.hid hf; clear hf; have Hhg := Lib.hid hg; clear hg
      go_enter Try.func18, Try.ntmps18
      go_wp2_with (go_at_call 31; refine (right_calls _ L _ hB0 h (by omega) hls).mono ?_; rw [Hr.out]; rintro e w1 ⟨rfl, hb1⟩; have hz1 := hb1.size)
      have Hh := Lib.hid h
      have Hh2 := Lib.hid h2
      clear h h2
      go_loopw [22] (fun i wr => ∃ k : Nat, k ≤ L.length ∧ i = .int .i64 k ∧ okTake (L.take k) (T.take k) = true ∧
          Bk wr w1.heap.size 32 [.int .i64 (sumAll (L.take k) ((T.take k).map Int.toNat)).1, .int .i64 (sumAll (L.take k) ((T.take k).map Int.toNat)).2] ∧ Below w1.heap.size w1 wr)
        (fun i _ => L.length - (intOf i).toNat)
      case atStart => exact ⟨0, by omega, rfl, by simp [okTake], by simpa [sumAll] using Bk.new w1 _ [.int .i64 0, .int .i64 0], (by repeat (first | exact Below.refl _ _ | assumption | refine Below.drew ?_ | refine Below.setCell ?_ (by first | omega | (simp <;> omega)) _ | refine Below.alloc ?_ (by first | omega | (simp <;> omega)) _ | refine below_drewN ?_ _))⟩
      case round =>
        obtain ⟨k, hk, rfl, hok, hblk, hb2⟩ := hrel
        have hbel : Below w.heap.size w wr := below_call hb1 hb2 (by omega)
        have hz2 := hb2.size
        by_cases hlt : k < L.length
        · obtain ⟨b, o, vr, rfl, hb, c1, hvr⟩ := (Hh.out.below (keeps_sl keeps_pair) (hbel.mono hB0)).sl_at hlt
          obtain ⟨b', o', rfl, hb', c2⟩ := (Hh2.out.below keeps_int (hbel.mono hB0)).int_at (k := k) (by omega)
          obtain ⟨A3, cap3, rfl, hcap3⟩ := hvr.form
          have hrl := Hhf.out.2 _ (List.getElem_mem hlt)
          have hrg := Hhg.out _ (List.getElem_mem hlt)
          have hltT : k < T.length := by omega
          generalize hx : L[k] = x at *
          generalize hy : T[k] = y at *
          by_cases hy0 : y < 0
          · have hbad : okTake L T = false := by
              rw [← Bool.not_eq_true, okTake_iff]
              intro hh
              have := (hh.2 k hlt hltT).1
              omega
            have Hhbad := Lib.hid hbad; clear hbad; have Hhx := Lib.hid hx; clear hx; have Hhy := Lib.hid hy; clear hy; have Hhok := Lib.hid hok; clear hok; have Hhblk := Lib.hid hblk; clear hblk; have Hhvr := Lib.hid hvr; clear hvr
            go_wp2
            go_ret3
            exact ⟨by simp [sumRes, Hhbad.out], hbel⟩
          · by_cases hy1 : (x.length : Int) < y
            · have hbad : okTake L T = false := by
                rw [← Bool.not_eq_true, okTake_iff]
                intro hh
                have := (hh.2 k hlt hltT).2
                rw [hx, hy] at this
                omega
              have Hhbad := Lib.hid hbad; clear hbad; have Hhx := Lib.hid hx; clear hx; have Hhy := Lib.hid hy; clear hy; have Hhok := Lib.hid hok; clear hok; have Hhblk := Lib.hid hblk; clear hblk; have Hhvr := Lib.hid hvr; clear hvr
              go_wp2
              go_ret3
              exact ⟨by simp [sumRes, Hhbad.out], hbel⟩
            · obtain ⟨yn, rfl⟩ : ∃ yn : Nat, y = yn := ⟨y.toNat, by omega⟩
              have hyn : yn ≤ x.length := by omega
              have hok1 : okTake (L.take (k + 1)) (T.take (k + 1)) = true := by
                rw [okTake_iff] at hok ⊢
                refine ⟨by simp; omega, fun i h1 h2 => ?_⟩
                simp only [List.length_take] at h1 h2
                rw [List.getElem_take, List.getElem_take]
                by_cases hik : i = k
                · subst hik; rw [hx, hy]; omega
                · have := hok.2 i (by simp; omega) (by simp; omega)
                  rw [List.getElem_take, List.getElem_take] at this
                  exact this
              have hsn := sumAll_snoc L (T.map Int.toNat) k hlt (by simpa using hltT)
              rw [hx, List.getElem_map, hy, Int.toNat_natCast, ← List.map_take, ← List.map_take] at hsn
              have hS := sumAll_mid Hhf.out Hhg.out ((T.take k).map Int.toNat) k
              have hS1 := fun j => sumAll_mid Hhf.out Hhg.out ((T.take k).map Int.toNat) j
              have hsl := hvr.take (k := yn) hyn
              generalize hSk : sumAll (L.take k) ((T.take k).map Int.toNat) = S at *
              have hmS : Mid S ∧ S.1 ≤ 67108864 ∧ S.2 ≤ 67108864 := by
                have := sumAll_bound (L.take k) ((T.take k).map Int.toNat) fun l hl => ⟨Hhf.out.2 l (List.mem_of_mem_take hl), Hhg.out l (List.mem_of_mem_take hl)⟩
                have h2 : (L.take k).length ≤ 5 := by rw [List.length_take]; omega
                rw [hSk] at this
                exact ⟨hS, by omega, by omega⟩
              obtain ⟨s1, s2⟩ := S
              clear hS hS1
              have hms := hmS
              have Hhok := Lib.hid hok; clear hok; have Hhok1 := Lib.hid hok1; clear hok1; have Hhsn := Lib.hid hsn; clear hsn; have HhSk := Lib.hid hSk; clear hSk; have Hhvr := Lib.hid hvr; clear hvr; have Hhx := Lib.hid hx; clear hx; have Hhy := Lib.hid hy; clear hy; have Hhrg := Lib.hid hrg; clear hrg; have HhmS := Lib.hid hmS; clear hmS; have Hhms := Lib.hid hms; clear hms
              obtain ⟨wo, rfl⟩ : ∃ wo : World, wo = wr := ⟨_, rfl⟩
              go_wp2_with fail
              go_loopw [45] (fun i wi => ∃ j : Nat, j ≤ yn ∧ i = .int .i64 j ∧
                  Bk wi w1.heap.size 32 [.int .i64 (s1 + (tot (x.take j)).1), .int .i64 (s2 + (tot (x.take j)).2)] ∧ Below w1.heap.size w1 wi ∧ Below B wo wi)
                (fun i _ => yn - (intOf i).toNat)
              case atStart => exact ⟨0, by omega, rfl, by simpa [tot_nil] using hblk, hb2, Below.refl _ _⟩
              case round =>
                obtain ⟨j, hj, rfl, hbk, hb3, hb4⟩ := hrel
                have hz3 := hb3.size
                by_cases hlt2 : j < yn
                · obtain ⟨b2, o2, rfl, hbb, c3, c4⟩ := (Hhvr.out.below keeps_pair hb4).pair_at (k := j) (by omega)
                  have hs1 := tot_take_succ x j (by omega)
                  have hgx : GoodB x[j] := Hhrg.out _ (List.getElem_mem (by omega))
                  have hbx := tot_bound (x.take j) (good_take Hhrg.out j)
                  have hlx : (x.take j).length ≤ 8 := by rw [List.length_take]; omega
                  have hm1 : Mid (s1 + (tot (x.take j)).1, s2 + (tot (x.take j)).2) := by
                    have := Hhms.out
                    obtain ⟨this, _, _⟩ := this
                    unfold Mid at this ⊢
                    simp only [] at this ⊢
                    omega
                  have hm2 := mid_good hgx
                  generalize hq : x[j] = q at *
                  generalize hX : tot (x.take j) = X at *
                  obtain ⟨q1, q2⟩ := q
                  obtain ⟨X1, X2⟩ := X
                  have d1 : wr.cell? ⟨w1.heap.size, 0, none⟩ = some (.int .i64 (s1 + X1)) := hbk.cell 0
                  have d2 : wr.cell? ⟨w1.heap.size, 1, none⟩ = some (.int .i64 (s2 + X2)) := hbk.cell 1
                  have hlt3 := hbk.lt
                  have hzB : B ≤ wr.heap.size := by omega
                  clear c1 c2
                  have Hhs1 := Lib.hid hs1; clear hs1; have Hhgx := Lib.hid hgx; clear hgx; have Hhbx := Lib.hid hbx; clear hbx; have Hhlx := Lib.hid hlx; clear hlx; have Hhm1 := Lib.hid hm1; clear hm1; have Hhm2 := Lib.hid hm2; clear hm2; have Hhq := Lib.hid hq; clear hq; have HhX := Lib.hid hX; clear hX; have Hhbk := Lib.hid hbk; clear hbk
                  go_wp2_with fail
                  refine (plus_calls (s1 + X1, s2 + X2) (q1, q2) _ Hhm1.out Hhm2.out).mono ?_
                  rintro e w3 ⟨rfl, hb5⟩
                  have e1 := (Hhbk.out.alloc (.cells #[.int .i64 q1, .int .i64 q2] 32)).below hb5 (by simp; omega)
                  have f1 := e1.frozen
                  have d3 : w3.cell? ⟨w1.heap.size, 0, none⟩ = some (.int .i64 (s1 + X1)) := e1.cell 0
                  have d4 : w3.cell? ⟨w1.heap.size, 1, none⟩ = some (.int .i64 (s2 + X2)) := e1.cell 1
                  have hb6 : Below w1.heap.size w1 w3 := below_call (hb3.alloc (by omega) _) hb5 (by simp; omega)
                  have hb7 : Below B wo w3 := below_call (hb4.alloc (by omega) _) hb5 (by simp; omega)
                  clear d1 d2 c3 c4 hb5
                  have He1 := Lib.hid e1; clear e1
                  go_wp2_with fail
                  refine ⟨⟨j + 1, by omega, by simp, ?_, hb6.setCell (by simp) _ |>.setCell (by simp) _, (hb7.setCell (by simp; omega) _).setCell (by simp; omega) _⟩, by simp [intOf]; omega⟩
                  rw [Hhs1.out]
                  have := (He1.out.set 0 (.int .i64 (plus (s1 + X1, s2 + X2) (q1, q2)).1)).set 1 (.int .i64 (plus (s1 + X1, s2 + X2) (q1, q2)).2)
                  simpa [plus, Int.add_assoc] using this
                · have hjy : j = yn := by omega
                  subst hjy
                  go_wp2
                  refine ⟨⟨k + 1, by omega, by simp, Hhok1.out, ?_, hb3⟩, by simp [intOf]; omega⟩
                  rw [Hhsn.out]
                  exact hbk
        · have hk1 : L.take k = L := List.take_of_length_le (by omega)
          have hk2 : T.take k = T := List.take_of_length_le (by omega)
          rw [hk1, hk2] at hok hblk
          have hlt3 := hblk.lt
          generalize hS : sumAll L (T.map Int.toNat) = S at *
          obtain ⟨s1, s2⟩ := S
          have d1 : wr.cell? ⟨w1.heap.size, 0, none⟩ = some (.int .i64 s1) := hblk.cell 0
          have d2 : wr.cell? ⟨w1.heap.size, 1, none⟩ = some (.int .i64 s2) := hblk.cell 1
          have Hhok := Lib.hid hok; clear hok; have Hhblk := Lib.hid hblk; clear hblk; have Hhk1 := Lib.hid hk1; clear hk1; have Hhk2 := Lib.hid hk2; clear hk2; have HhS := Lib.hid hS; clear hS
          go_wp2_with (first | (refine Go.Canon.wp_region_text mixed (by kernel_rfl) ?_) | (refine Go.Canon.chk (by rfl) ?_))
          go_ret3
          exact ⟨by simp [sumRes, Hhok.out, HhS.out], hbel.drew⟩
    · have hne : ((T.length : Int) != (L.length : Int)) = true := by rw [bne_iff_ne]; omega
      have hbad : okTake L T = false := by
        rw [← Bool.not_eq_true, okTake_iff]
        exact fun hh => hlen hh.1
      have Hlen := Lib.hid hlen
      clear hlen
      have Hhf := Lib.hid hf; clear hf; have Hhg := Lib.hid hg; clear hg; have Hhbad := Lib.hid hbad; clear hbad
      go_enter Try.func18, Try.ntmps18
      go_wp2_with (go_at_call 31; refine (right_calls _ L _ hB0 h (by omega) hls).mono ?_; rw [Hr.out]; rintro e w1 ⟨rfl, hb1⟩; have hz1 := hb1.size)
      go_ret3
      exact ⟨by simp [sumRes, Hhbad.out], hb1⟩
end Go.Proofs.Ytbhdfljdfjadnaa
