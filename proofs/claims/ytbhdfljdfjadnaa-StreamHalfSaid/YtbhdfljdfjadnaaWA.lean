/- Walks: which row goes next, by definition. -/
import Derived.Test.YtbhdfljdfjadnaaL1
namespace Go.Proofs.Ytbhdfljdfjadnaa
open Go Go.RowKit Go.Words Go.StreamP

set_option maxHeartbeats 2000000 in
theorem refnext_calls (v1 v2 : Value) (L : List (List B2)) (T : List Nat) (w : World) {B : Nat} (hB0 : B ≤ w.heap.size) (h : Sl 1 (RSl 2 RPair) w B v1 L) (h2 : Sl 1 RInt w B v2 (T.map fun n : Nat => (n : Int))) (hL : L.length ≤ 256) (hsm : ∀ l ∈ L, l.length ≤ 1024)
    (hg : ∀ l ∈ L, ∀ b ∈ l, GoodB b) (hfit : Fits L T) :
    Calls Try.prog 21 #[v1, v2] w fun e w' => e = .returned (.int .i64 (nextRow (nextL L T))) ∧ Below w.heap.size w w' := by
  obtain ⟨A, cap, rfl, hcap⟩ := h.form
  obtain ⟨A2, cap2, rfl, hcap2⟩ := h2.form
  rw [List.length_map]
  have Hhsm := Lib.hid hsm; clear hsm; have Hhg := Lib.hid hg; clear hg; have Hhfit := Lib.hid hfit; clear hfit; have Hh := Lib.hid h; clear h; have Hh2 := Lib.hid h2; clear h2
  go_enter Try.func21, Try.ntmps21
  go_wp2
  go_loopw [5, 6] (fun r i wr => ∃ k : Nat, k ≤ L.length ∧ i = .int .i64 k ∧ r = .int .i64 (nextRow (nextTo L T k)) ∧ Below w.heap.size w wr)
    (fun _ i _ => L.length - (intOf i).toNat)
  case atStart => exact ⟨0, by omega, rfl, rfl, (by repeat (first | exact Below.refl _ _ | assumption | refine Below.drew ?_ | refine Below.setCell ?_ (by first | omega | (simp <;> omega)) _ | refine Below.alloc ?_ (by first | omega | (simp <;> omega)) _ | refine below_drewN ?_ _))⟩
  case round =>
    obtain ⟨k, hk, rfl, rfl, hbel⟩ := hrel
    have hz := hbel.size
    by_cases hlt : k < L.length
    · have hltT : k < T.length := by have := Hhfit.out.len; omega
      obtain ⟨b, o, vr, rfl, hb, c1, hvr⟩ := (Hh.out.below (keeps_sl keeps_pair) (hbel.mono hB0)).sl_at hlt
      obtain ⟨b', o', rfl, hb', c2⟩ := (Hh2.out.below keeps_int (hbel.mono hB0)).int_at (k := k) (by simpa using hltT)
      rw [List.getElem_map] at c2
      obtain ⟨A3, cap3, rfl, hcap3⟩ := hvr.form
      have hrl := Hhsm.out _ (List.getElem_mem hlt)
      have hrg := Hhg.out _ (List.getElem_mem hlt)
      have hyn := Hhfit.out.le k hlt hltT
      have hst : nextTo L T (k + 1) = stepN (nextTo L T k) k (L[k].drop T[k]) := by
        rw [nextTo, getD_at _ _ _ hlt, getD_at _ _ _ hltT]
      generalize hx : L[k] = x at *
      generalize hy : T[k] = y at *
      by_cases hr0 : y < x.length
      · have hsl := hvr.drop (k := y) hyn
        have hcy : cap3 ≠ y := by omega
        rw [if_neg hcy] at hsl
        have hlen : (x.drop y).length = x.length - y := List.length_drop
        have hne : x.drop y ≠ [] := by intro h9; rw [h9] at hlen; simp at hlen; omega
        have hdl : (x.drop y).length ≤ 1024 := by rw [List.length_drop]; omega
        have hdg := good_drop hrg y
        cases hacc : nextTo L T k with
        | none =>
          have hst2 : nextRow (nextTo L T (k + 1)) = k := by rw [hst, hacc, stepN_none _ hne]; rfl
          rw [show nextRow none = -1 from rfl]
          have Hhst := Lib.hid hst; clear hst; have Hhx := Lib.hid hx; clear hx; have Hhy := Lib.hid hy; clear hy; have Hhrg := Lib.hid hrg; clear hrg; have Hhvr := Lib.hid hvr; clear hvr; have Hhsl := Lib.hid hsl; clear hsl; have Hhdl := Lib.hid hdl; clear hdl; have Hhdg := Lib.hid hdg; clear hdg; have Hhacc := Lib.hid hacc; clear hacc; have Hhlen := Lib.hid hlen; clear hlen; have Hhne := Lib.hid hne; clear hne; have Hhst2 := Lib.hid hst2; clear hst2
          go_wp2_with (first | (refine Go.Canon.wp_region_text mixed (by kernel_rfl) ?_) | (refine Go.Canon.chk (by rfl) ?_))
          exact ⟨⟨k + 1, by omega, by simp, by rw [Hhst2.out], (by repeat (first | exact Below.refl _ _ | assumption | refine Below.drew ?_ | refine Below.setCell ?_ (by first | omega | (simp <;> omega)) _ | refine Below.alloc ?_ (by first | omega | (simp <;> omega)) _ | refine below_drewN ?_ _))⟩, by simp [intOf]; omega⟩
        | some z =>
          obtain ⟨j, q, m⟩ := z
          rw [show nextRow (some (j, q, m)) = (j : Int) from rfl]
          obtain ⟨hjk, hne', hq, hm⟩ := nextTo_some L T _ _ _ _ hacc
          have hj : j < L.length := by omega
          have hjT : j < T.length := by have := Hhfit.out.len; omega
          rw [getD_at _ _ _ hj, getD_at _ _ _ hjT] at hne' hq hm
          obtain ⟨_, _, vo, hA9, _, d1, hvo⟩ := (Hh.out.below (keeps_sl keeps_pair) (hbel.mono hB0)).sl_at hj
          injection hA9 with hA9
          injection hA9 with e1 e2
          subst e1; subst e2
          obtain ⟨_, _, hA9, _, d2⟩ := (Hh2.out.below keeps_int (hbel.mono hB0)).int_at (k := j) (by simpa using hjT)
          injection hA9 with hA9
          injection hA9 with e1 e2
          subst e1; subst e2
          rw [List.getElem_map] at d2
          obtain ⟨A4, cap4, rfl, hcap4⟩ := hvo.form
          have hol := Hhsm.out _ (List.getElem_mem hj)
          have hog := Hhg.out _ (List.getElem_mem hj)
          have hoy := Hhfit.out.le j hj hjT
          generalize hxo : L[j] = xo at *
          generalize hyo : T[j] = yo at *
          have hlen2 : (xo.drop yo).length = xo.length - yo := List.length_drop
          have ho0 : yo < xo.length := by
            have : (xo.drop yo).length ≠ 0 := fun h9 => hne' (List.eq_nil_of_length_eq_zero h9)
            omega
          have hslo := hvo.drop (k := yo) hoy
          have hcyo : cap4 ≠ yo := by omega
          rw [if_neg hcyo] at hslo
          have hdlo : (xo.drop yo).length ≤ 1024 := by rw [List.length_drop]; omega
          have hdgo := good_drop hog yo
          generalize hrest : x.drop y = rest at *
          generalize hother : xo.drop yo = other at *
          have hfb := firstN_bound hne
          have hfo := firstN_bound hne'
          have hmP := mid_take rest hdg hdl (firstN rest)
          have hmQ := mid_take other hdgo hdlo (firstN other)
          have hl1 : 1 ≤ rest.length := by omega
          have hl2 : 1 ≤ other.length := by omega
          have hgp := good_take hdg (firstN rest)
          have hgq := good_take hdgo (firstN other)
          have hlp : (rest.take (firstN rest)).length ≤ 1024 := by rw [List.length_take]; omega
          have hlq : (other.take (firstN other)).length ≤ 1024 := by rw [List.length_take]; omega
          have ht1 := hsl.take (k := firstN rest) (by omega)
          have ht2 := hslo.take (k := firstN other) (by omega)
          subst hm
          subst hq
          have hno := stepN_no k j (tot (other.take (firstN other))) (firstN other) hne
          have hyes := stepN_yes k j (tot (other.take (firstN other))) (firstN other) hne
          rw [← hacc, ← hst] at hno hyes
          generalize hn1 : firstN rest = n1 at *
          generalize hn2 : firstN other = n2 at *
          generalize hP : rest.take n1 = lp at *
          generalize hQ : other.take n2 = lq at *
          have hj0 : ¬ ((j : Int) < 0) := by omega
          have hn1b : n1 ≤ x.length - y := by omega
          have hn2b : n2 ≤ xo.length - yo := by omega
          have Hhst := Lib.hid hst; clear hst; have Hhx := Lib.hid hx; clear hx; have Hhy := Lib.hid hy; clear hy; have Hhrg := Lib.hid hrg; clear hrg; have Hhvr := Lib.hid hvr; clear hvr; have Hhsl := Lib.hid hsl; clear hsl; have Hhdl := Lib.hid hdl; clear hdl; have Hhdg := Lib.hid hdg; clear hdg; have Hhacc := Lib.hid hacc; clear hacc; have Hhlen := Lib.hid hlen; clear hlen; have Hhne := Lib.hid hne; clear hne; have Hhne' := Lib.hid hne'; clear hne'; have Hhxo := Lib.hid hxo; clear hxo; have Hhyo := Lib.hid hyo; clear hyo; have Hhog := Lib.hid hog; clear hog; have Hhvo := Lib.hid hvo; clear hvo; have Hhslo := Lib.hid hslo; clear hslo; have Hhdlo := Lib.hid hdlo; clear hdlo; have Hhdgo := Lib.hid hdgo; clear hdgo; have Hhrest := Lib.hid hrest; clear hrest; have Hhother := Lib.hid hother; clear hother; have HhmP := Lib.hid hmP; clear hmP; have HhmQ := Lib.hid hmQ; clear hmQ; have Hhgp := Lib.hid hgp; clear hgp; have Hhgq := Lib.hid hgq; clear hgq; have Hht1 := Lib.hid ht1; clear ht1; have Hht2 := Lib.hid ht2; clear ht2; have Hhno := Lib.hid hno; clear hno; have Hhyes := Lib.hid hyes; clear hyes; have Hhn1 := Lib.hid hn1; clear hn1; have Hhn2 := Lib.hid hn2; clear hn2; have HhP := Lib.hid hP; clear hP; have HhQ := Lib.hid hQ; clear hQ
          go_wp2_with (first | (refine Go.Canon.wp_region_text mixed (by kernel_rfl) ?_) | (refine Go.Canon.chk (by rfl) ?_))
          have hB1 : B ≤ wr.heap.size := by omega
          refine (first_calls _ rest _ (by simpa using hB1) (((Hhsl.out.drew keeps_pair).drew keeps_pair).drew keeps_pair) Hhdl.out Hhdg.out hl1).mono ?_
          rw [Hhn1.out]
          rintro e w1 ⟨rfl, hb1⟩
          have hbw1 : Below wr.heap.size wr w1 := below_call (((Below.refl _ _).drew).drew).drew hb1 (by simp)
          have hz1 := hbw1.size
          go_wp2_with fail
          refine (all_calls _ lp _ (by omega) (Hht1.out.after keeps_pair hbw1 hB1) (by have := HhP.out; omega) Hhgp.out).mono ?_
          rintro e w2 ⟨rfl, hb2⟩
          have hbw2 : Below wr.heap.size wr w2 := below_call hbw1 hb2 hz1
          have hz2 := hbw2.size
          go_wp2_with fail
          refine (first_calls _ other _ (by omega) (Hhslo.out.after keeps_pair hbw2 hB1) Hhdlo.out Hhdgo.out hl2).mono ?_
          rw [Hhn2.out]
          rintro e w3 ⟨rfl, hb3⟩
          have hbw3 : Below wr.heap.size wr w3 := below_call hbw2 hb3 hz2
          have hz3 := hbw3.size
          go_wp2_with fail
          refine (all_calls _ lq _ (by omega) (Hht2.out.after keeps_pair hbw3 hB1) (by have := HhQ.out; omega) Hhgq.out).mono ?_
          rintro e w4 ⟨rfl, hb4⟩
          have hbw4 : Below wr.heap.size wr w4 := below_call hbw3 hb4 hz3
          have hz4 := hbw4.size
          go_wp2_with fail
          refine (more_calls (tot lp) (tot lq) _ HhmP.out HhmQ.out).mono ?_
          cases hmo : more (tot lp) (tot lq)
          · have hst2 := Hhno.out hmo
            rintro e w5 ⟨rfl, hb5⟩
            have hbw5 : Below wr.heap.size wr w5 := below_call hbw4 hb5 hz4
            have Hhmo := Lib.hid hmo; clear hmo; have Hhst2 := Lib.hid hst2; clear hst2
            go_wp2
            exact ⟨⟨k + 1, by omega, by simp, by rw [Hhst2.out, Hhacc.out]; rfl, below_call hbel hbw5 hz⟩, by simp [intOf]; omega⟩
          · have hst2 := Hhyes.out hmo
            rintro e w5 ⟨rfl, hb5⟩
            have hbw5 : Below wr.heap.size wr w5 := below_call hbw4 hb5 hz4
            have Hhmo := Lib.hid hmo; clear hmo; have Hhst2 := Lib.hid hst2; clear hst2
            go_wp2
            exact ⟨⟨k + 1, by omega, by simp, by rw [Hhst2.out]; rfl, below_call hbel hbw5 hz⟩, by simp [intOf]; omega⟩
      · have hne : x.drop y = [] := List.drop_eq_nil_of_le (by omega)
        have hst2 : nextTo L T (k + 1) = nextTo L T k := by rw [hst, stepN_nil _ _ hne]
        have Hhst := Lib.hid hst; clear hst; have Hhx := Lib.hid hx; clear hx; have Hhy := Lib.hid hy; clear hy; have Hhrg := Lib.hid hrg; clear hrg; have Hhvr := Lib.hid hvr; clear hvr; have Hhne := Lib.hid hne; clear hne; have Hhst2 := Lib.hid hst2; clear hst2
        go_wp2_with (first | (refine Go.Canon.wp_region_text mixed (by kernel_rfl) ?_) | (refine Go.Canon.chk (by rfl) ?_))
        exact ⟨⟨k + 1, by omega, by simp, by rw [Hhst2.out], (by repeat (first | exact Below.refl _ _ | assumption | refine Below.drew ?_ | refine Below.setCell ?_ (by first | omega | (simp <;> omega)) _ | refine Below.alloc ?_ (by first | omega | (simp <;> omega)) _ | refine below_drewN ?_ _))⟩, by simp [intOf]; omega⟩
    · have hkl : k = L.length := by omega
      subst hkl
      go_wp2
      go_ret
      exact ⟨rfl, hbel⟩

theorem ret_ib {a b : Int} {c d : Bool} (h : a = b) (h2 : c = d) : Ending.returned (.tuple #[.int .i64 a, .bool c]) = Ending.returned (.tuple #[.int .i64 b, .bool d]) := by rw [h, h2]
theorem fits_ok {L : List (List B2)} {T : List Nat} (h : Fits L T) : okTake L (T.map fun n : Nat => (n : Int)) = true := by
  rw [okTake_iff]
  refine ⟨by simpa using h.len, fun i h1 h2 => ?_⟩
  rw [List.getElem_map]
  have := h.le i h1 (by simpa using h2)
  omega
theorem toNat_cast (T : List Nat) : (T.map fun n : Nat => (n : Int)).map Int.toNat = T := by
  rw [List.map_map]
  have : (Int.toNat ∘ fun n : Nat => (n : Int)) = id := by funext n; simp
  rw [this, List.map_id]

set_option maxHeartbeats 1000000 in
theorem snext_bad (v1 v2 : Value) (L : List (List B2)) (T : List Int) (w : World) {B : Nat} (hB0 : B ≤ w.heap.size) (h : Sl 1 (RSl 2 RPair) w B v1 L) (h2 : Sl 1 RInt w B v2 T) (hf : Few L) (hbad : (sumRes L T (L.all rowB)).2.2 ≠ 0) :
    Calls Try.prog 20 #[v1, v2] w fun e w' => e = .returned (.tuple #[.int .i64 0, .bool false]) ∧ Below w.heap.size w w' := by
  have hc := sum_calls v1 v2 L T w hB0 h h2 hf
  generalize sumRes L T (L.all rowB) = S at *
  obtain ⟨s1, s2, s3⟩ := S
  simp only [] at hbad hc
  have Hhc := Lib.hid hc; clear hc; have Hh := Lib.hid h; clear h; have Hh2 := Lib.hid h2; clear h2
  go_enter Try.func20, Try.ntmps20
  go_wp2_with (go_at_call 18; refine (Hhc.out).mono ?_; rintro e w1 ⟨rfl, hb1⟩; have hz1 := hb1.size)
  go_ret2
  exact ⟨rfl, hb1⟩

set_option maxHeartbeats 1000000 in
theorem snext_good (v1 v2 : Value) (L : List (List B2)) (T : List Nat) (w : World) {B : Nat} (hB0 : B ≤ w.heap.size) (h : Sl 1 (RSl 2 RPair) w B v1 L) (h2 : Sl 1 RInt w B v2 (T.map fun n : Nat => (n : Int))) (hf : Few L) (hr : L.all rowB = true) (hfit : Fits L T) :
    Calls Try.prog 20 #[v1, v2] w fun e w' => e = .returned (.tuple #[.int .i64 (max (nextRow (nextL L T)) 0), .bool (decide (0 ≤ nextRow (nextL L T)))]) ∧ Below w.heap.size w w' := by
  have hc := sum_calls v1 v2 L _ w hB0 h h2 hf
  have hs0 : sumRes L (T.map fun n : Nat => (n : Int)) (L.all rowB) = ((sumAll L T).1, (sumAll L T).2, 0) := by unfold sumRes; rw [hr, fits_ok hfit, toNat_cast]; rfl
  rw [hs0] at hc
  have hls := few_small hf
  have hg := all_row hr
  have Hhc := Lib.hid hc; clear hc; have Hh := Lib.hid h; clear h; have Hh2 := Lib.hid h2; clear h2; have Hhs0 := Lib.hid hs0; clear hs0; have Hhr := Lib.hid hr; clear hr; have Hhfit := Lib.hid hfit; clear hfit; have Hhls := Lib.hid hls; clear hls; have Hhg := Lib.hid hg; clear hg
  go_enter Try.func20, Try.ntmps20
  go_wp2_with (go_at_call 18; refine (Hhc.out).mono ?_; rintro e w1 ⟨rfl, hb1⟩; have hz1 := hb1.size)
  refine (next_calls _ _ L T _ (by omega) (Hh.out.below (keeps_sl keeps_pair) (hb1.mono hB0)) (Hh2.out.below keeps_int (hb1.mono hB0)) Hhls.out.1 Hhls.out.2 Hhg.out Hhfit.out).mono ?_
  rintro e w2 ⟨rfl, hb2⟩
  have hbel2 := below_call hb1 hb2 hz1
  generalize hr9 : nextRow (nextL L T) = r
  generalize nextPiece (nextL L T) = pc
  generalize nextSize (nextL L T) = n
  have Hr9 := Lib.hid hr9
  clear hr9
  go_wp2
  all_goals
    go_ret2
    refine ⟨?_, hbel2.alloc hbel2.size _⟩
    rw [Hr9.out]
    show Ending.returned (.tuple #[.int .i64 _, .bool _]) = _
    exact ret_ib (by omega) (by first | rfl | (simp; omega))
end Go.Proofs.Ytbhdfljdfjadnaa
