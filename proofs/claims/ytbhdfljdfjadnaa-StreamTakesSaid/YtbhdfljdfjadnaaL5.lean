/- The law StreamMore: with a greater budget greed takes no less. -/
import Derived.Test.YtbhdfljdfjadnaaL4
namespace Go.StreamP
theorem tot_take_add (l : List B2) (t n : Nat) : tot (l.take (t + n)) = plus (tot (l.take t)) (tot ((l.drop t).take n)) := by
  rw [List.take_add, tot_append]
theorem sumAll_set : ∀ (C : List (List B2)) (T : List Nat) (i n : Nat) (h : i < C.length) (h' : i < T.length), sumAll C (T.set i (T[i] + n)) = plus (sumAll C T) (tot ((C[i].drop T[i]).take n))
  | [], _, _, _, h, _ => by simp at h
  | _ :: _, [], _, _, _, h => by simp at h
  | l :: C, t :: T, 0, n, _, _ => by
    simp only [List.set_cons_zero, List.getElem_cons_zero, sumAll, tot_take_add]
    simp [plus]; omega
  | l :: C, t :: T, i + 1, n, h, h' => by
    have ih := sumAll_set C T i n (by simpa using h) (by simpa using h')
    simp only [List.set_cons_succ, List.getElem_cons_succ, sumAll, ih]
    simp [plus]; omega
theorem sumAll_le : ∀ (C : List (List B2)) (T : List Nat), Fits C T → (∀ l ∈ C, ∀ b ∈ l, GoodB b) → (sumAll C T).1 ≤ (C.map fun l => (tot l).1).sum
  | [], T, _, _ => by simp [sumAll]
  | l :: C, T, h, hg => by
    have hl := h.len
    match T, hl with
    | t :: T, hl =>
      have ih := sumAll_le C T ⟨by simpa using hl, fun i h1 h2 => by have := h.le (i + 1) (by simp; omega) (by simp; omega); simpa using this⟩ fun m hm => hg m (List.mem_cons_of_mem _ hm)
      have h0 := h.le 0 (by simp) (by simp)
      simp only [List.getElem_cons_zero] at h0
      have h1 := tot_take_mono (hg l List.mem_cons_self) h0
      rw [List.take_length] at h1
      simp only [sumAll, plus, List.map_cons, List.sum_cons]
      omega
theorem sumAll_zero : ∀ (C : List (List B2)) (n : Nat), (sumAll C (List.replicate n 0)).1 = 0
  | [], n => by simp [sumAll]
  | l :: C, 0 => by simp [sumAll]
  | l :: C, n + 1 => by
    have := sumAll_zero C n
    simp only [List.replicate_succ, sumAll, plus, this]
    simp [tot_nil]
theorem nextTo_none (L : List (List B2)) (T : List Nat) : ∀ k, nextTo L T k = none → ∀ i, i < k → (L.getD i []).drop (T.getD i 0) = []
  | 0, _, i, hi => by omega
  | k + 1, h, i, hi => by
    unfold nextTo at h
    by_cases hr : (L.getD k []).drop (T.getD k 0) = []
    · rw [stepN_nil _ _ hr] at h
      by_cases hik : i = k
      · subst hik; exact hr
      · exact nextTo_none L T k h i (by omega)
    · cases hn : nextTo L T k with
      | none => rw [hn, stepN_none _ hr] at h; cases h
      | some x =>
        obtain ⟨j, q, m⟩ := x
        rw [hn] at h
        cases hm : more (tot (((L.getD k []).drop (T.getD k 0)).take (firstN ((L.getD k []).drop (T.getD k 0))))) q
        · rw [stepN_no _ _ _ _ hr hm] at h; cases h
        · rw [stepN_yes _ _ _ _ hr hm] at h; cases h
theorem set_ge {T : List Nat} {i n : Nat} (hi : i < T.length) : ∀ j (h : j < T.length) (h' : j < (T.set i (T.getD i 0 + n)).length), T[j] ≤ (T.set i (T.getD i 0 + n))[j] := fun j h h' => by
  rw [List.getElem_set]
  split
  · rename_i he; subst he; rw [getD_at _ _ _ hi]; omega
  · exact Nat.le_refl _
theorem greedyF_ge {C : List (List B2)} : ∀ (f : Nat) (T : List Nat) (left : Int), Fits C T → ∀ j (h : j < T.length) (h' : j < (greedyF f C T left).length), T[j] ≤ (greedyF f C T left)[j]
  | 0, T, left, _, j, h, h' => Nat.le_refl _
  | f + 1, T, left, hf, j, h, h' => by
    cases hn : nextL C T with
    | none => simp only [greedyF_none hn]; exact Nat.le_refl _
    | some x =>
      obtain ⟨i, p, n⟩ := x
      by_cases hp : left < p.1
      · simp only [greedyF_stop hn hp]; exact Nat.le_refl _
      · simp only [greedyF_go hn hp] at h' ⊢
        have hi : i < T.length := (next_facts hf hn).2.1
        exact Nat.le_trans (set_ge hi j h (by simpa using h)) (greedyF_ge f _ _ (fits_set hf hn) j (by simpa using h) h')
theorem greedyF_mono {C : List (List B2)} (hg : ∀ l ∈ C, ∀ b ∈ l, GoodB b) (hs : ∀ l ∈ C, l.length ≤ 1024) : ∀ (f1 f2 : Nat) (T : List Nat) (left1 left2 : Int), Fits C T → left1 ≤ left2 → left2.toNat < f2 →
    ∀ j (h : j < (greedyF f1 C T left1).length) (h' : j < (greedyF f2 C T left2).length), (greedyF f1 C T left1)[j] ≤ (greedyF f2 C T left2)[j]
  | 0, f2, T, l1, l2, hf, _, _, j, h, h' => greedyF_ge f2 T l2 hf j h h'
  | f1 + 1, f2, T, l1, l2, hf, hl, hf2, j, h, h' => by
    cases hn : nextL C T with
    | none => simp only [greedyF_none hn]; exact Nat.le_refl _
    | some x =>
      obtain ⟨i, p, n⟩ := x
      by_cases hp : l1 < p.1
      · simp only [greedyF_stop hn hp] at h ⊢
        exact greedyF_ge f2 T l2 hf j h h'
      · have hpc := next_piece hg hs hf hn
        obtain ⟨f2', rfl⟩ : ∃ f2', f2 = f2' + 1 := ⟨f2 - 1, by omega⟩
        have hp2 : ¬ l2 < p.1 := by omega
        simp only [greedyF_go hn hp] at h ⊢
        simp only [greedyF_go hn hp2] at h' ⊢
        exact greedyF_mono hg hs f1 f2' _ _ _ (fits_set hf hn) (by omega) (by omega) j h h'
theorem greedyF_all {C : List (List B2)} (hg : ∀ l ∈ C, ∀ b ∈ l, GoodB b) (hs : ∀ l ∈ C, l.length ≤ 1024) : ∀ (f : Nat) (T : List Nat) (left : Int), Fits C T → (C.map fun l => (tot l).1).sum - (sumAll C T).1 ≤ left → left.toNat < f →
    ∀ j (h : j < C.length) (h' : j < (greedyF f C T left).length), (greedyF f C T left)[j] = C[j].length
  | 0, T, left, _, _, hf, _, _, _ => by omega
  | f + 1, T, left, hfit, hl, hf, j, h, h' => by
    cases hn : nextL C T with
    | none =>
      simp only [greedyF_none hn] at h' ⊢
      have h1 := nextTo_none C T _ hn j h
      rw [getD_at _ _ _ h, getD_at _ _ _ h'] at h1
      have h2 := congrArg List.length h1
      rw [List.length_drop] at h2
      have h3 := hfit.le j h h'
      simp at h2
      omega
    | some x =>
      obtain ⟨i, p, n⟩ := x
      have hpc := next_piece hg hs hfit hn
      have hfs := fits_set hfit hn
      obtain ⟨hi1, hi2, _, _, _, hp, _⟩ := next_facts hfit hn
      have hse := sumAll_set C T i n hi1 hi2
      rw [← hp] at hse
      have hle := sumAll_le C _ hfs hg
      rw [getD_at _ _ _ hi2] at hle
      rw [hse] at hle
      simp only [plus] at hle
      have hnp : ¬ left < p.1 := by omega
      simp only [greedyF_go hn hnp] at h' ⊢
      refine greedyF_all hg hs f _ _ hfs ?_ (by omega) j h h'
      rw [getD_at _ _ _ hi2, hse]
      simp only [plus]
      omega
theorem more_plain {L : List (List B2)} (hg : ∀ l ∈ L, ∀ b ∈ l, GoodB b) (hs : ∀ l ∈ L, l.length ≤ 1024) {bud m : Int} (hb : ∀ l ∈ L, (tot l).1 ≤ bud) (hm : 0 ≤ m) :
    (∀ j (h : j < (greedyL L bud).length) (h' : j < (greedyL L (bud + m)).length), (greedyL L bud)[j] ≤ (greedyL L (bud + m))[j]) ∧
    ((L.map fun l => (tot l).1).sum ≤ bud → ∀ j (h : j < L.length) (h' : j < (greedyL L bud).length), (greedyL L bud)[j] = L[j].length) := by
  have c1 := cut_all hg hb
  have c2 := cut_all (bud := bud + m) hg (fun l hl => by have := hb l hl; omega)
  have hf := fits_zero L L.length rfl
  unfold greedyL
  rw [c1, c2]
  refine ⟨greedyF_mono hg hs _ _ _ _ _ hf (by omega) (Nat.lt_succ_self _), fun hall => greedyF_all hg hs _ _ _ hf ?_ (Nat.lt_succ_self _)⟩
  rw [sumAll_zero]
  omega
end Go.StreamP

namespace Go.Proofs.Ytbhdfljdfjadnaa
open Go Go.RowKit Go.Words Go.StreamP

def costs (L : List (List B2)) : Int := (L.map fun l => (tot l).1).sum
theorem costs_snoc (L : List (List B2)) (k : Nat) (h : k < L.length) : costs (L.take (k + 1)) = costs (L.take k) + (tot L[k]).1 := by
  unfold costs
  rw [List.take_succ_eq_append_getElem h, List.map_append, List.sum_append]
  simp

set_option maxRecDepth 20000 in
set_option maxHeartbeats 4000000 in
theorem more_law (v : Value) (L : List (List B2)) (bud m : Int) (w : World) {B : Nat} (hB0 : B ≤ w.heap.size) (h : Sl 1 (RSl 2 RPair) w B v L) (hbud : -9223372036854775808 ≤ bud ∧ bud ≤ 9223372036854775807) (hmr : -9223372036854775808 ≤ m ∧ m ≤ 9223372036854775807) :
    Calls Try.prog 4 #[v, .int .i64 bud, .int .i64 m] w fun e w' => e = .returned (.bool true) ∧ Below w.heap.size w w' := by
  obtain ⟨A, cap, rfl, hcap⟩ := h.form
  have qT := nil_eq
  have Hh := Lib.hid h; clear h
  go_enter Try.func4, Try.ntmps4
  go_wp2_with (go_at_call 11; refine (awake_calls _).mono ?_; rintro e w1 ⟨rfl, hb1⟩; have hz1 := hb1.size)
  refine (plain_calls _ L _ (by omega) (Hh.out.below (keeps_sl keeps_pair) (hb1.mono hB0))).mono ?_
  rintro e w2 ⟨⟨p, rfl, hp⟩, hb2⟩
  have hz2 := hb2.size
  have hbel2 := below_call hb1 hb2 hz1
  cases hok : plainOk L
  case false =>
    obtain rfl := hp.2 hok
    have Hhp := Lib.hid hp; clear hp; have Hhok := Lib.hid hok; clear hok
    go_wp2
    go_ret
    exact ⟨rfl, hbel2⟩
  obtain ⟨a, n, c, rfl, hps⟩ := hp.1 hok
  have hfew := plainOk_few hok
  have hsm := few_small hfew
  have hfl := hfew.1
  obtain rfl := hps.len.1
  have Hhp := Lib.hid hp; clear hp; have Hhok := Lib.hid hok; clear hok; have Hhps := Lib.hid hps; clear hps; have Hhfew := Lib.hid hfew; clear hfew; have Hhsm := Lib.hid hsm; clear hsm
  go_wp2_with fail
  refine (refright_calls _ L _ (Nat.le_refl _) Hhps.out Hhsm.out.1 Hhsm.out.2).mono ?_
  cases hr : L.all rowB
  case false =>
    rintro e w3 ⟨rfl, hb3⟩
    have hbel3 := below_call hbel2 hb3 hbel2.size
    have Hhr := Lib.hid hr; clear hr
    go_wp2
    go_ret
    exact ⟨rfl, hbel3⟩
  rintro e w3 ⟨rfl, hb3⟩
  have hbel3 := below_call hbel2 hb3 hbel2.size
  have hz3 := hb3.size
  have hps3 := Hhps.out.after (keeps_sl keeps_pair) hb3 (Nat.le_refl _)
  have hg := all_row hr
  have hf0 := field0
  have Hhps3 := Lib.hid hps3; clear hps3; have Hhr := Lib.hid hr; clear hr; have Hhg := Lib.hid hg; clear hg
  by_cases hb40 : (1099511627776 : Int) < bud
  case pos =>
    go_wp2
    go_ret
    exact ⟨rfl, hbel3⟩
  by_cases hm0 : m < 0
  case pos =>
    go_wp2
    go_ret
    exact ⟨rfl, hbel3⟩
  by_cases hm40 : (1099511627776 : Int) < m
  case pos =>
    go_wp2
    go_ret
    exact ⟨rfl, hbel3⟩
  go_wp2
  any_goals (exfalso; omega)
  go_loopw [8, 9] (fun s i wr => ∃ k : Nat, k ≤ L.length ∧ i = .int .i64 k ∧ s = .int .i64 (costs (L.take k)) ∧ 0 ≤ costs (L.take k) ∧ costs (L.take k) ≤ 1073741824 * k ∧ (∀ l ∈ L.take k, (tot l).1 ≤ bud) ∧ Below w3.heap.size w3 wr)
    (fun _ i _ => L.length - (intOf i).toNat)
  case atStart => exact ⟨0, by omega, rfl, rfl, by simp [costs], by simp [costs], by simp, Below.refl _ _⟩
  case round =>
    obtain ⟨k, hk, rfl, rfl, hc0, hc1, hall, hbr⟩ := hrel
    have hzr := hbr.size
    have hbel := below_call hbel3 hbr hbel3.size
    by_cases hlt : k < L.length
    · obtain ⟨b, o, vr, hA9, hb, c1, hvr⟩ := (Hhps3.out.below (keeps_sl keeps_pair) (hbr.mono hz3)).sl_at hlt
      injection hA9 with hA9
      subst hA9
      obtain ⟨A3, cap3, rfl, hcap3⟩ := hvr.form
      have hrl := Hhsm.out.2 _ (List.getElem_mem hlt)
      have hrg := Hhg.out _ (List.getElem_mem hlt)
      have htk : L.take (k + 1) = L.take k ++ [L[k]] := List.take_succ_eq_append_getElem hlt
      have hcs := costs_snoc L k hlt
      generalize hx : L[k] = x at *
      have hmX := mid_tot x hrg hrl
      generalize hX : tot x = X at *
      obtain ⟨X1, X2⟩ := X
      unfold Mid at hmX
      simp only [] at hmX hcs
      generalize hC : costs (L.take k) = C at *
      have Hhall := Lib.hid hall; clear hall; have Hhx := Lib.hid hx; clear hx; have Hhrg := Lib.hid hrg; clear hrg; have Hhvr := Lib.hid hvr; clear hvr; have Hhtk := Lib.hid htk; clear htk; have HhX := Lib.hid hX; clear hX; have Hhcs := Lib.hid hcs; clear hcs; have HhC := Lib.hid hC; clear hC
      go_wp2_with fail
      refine (all_calls _ x _ (by omega) Hhvr.out hrl Hhrg.out).mono ?_
      rw [HhX.out]
      rintro e w4 ⟨rfl, hb4⟩
      have hz4 := hb4.size
      have hbel4 := below_call hbel hb4 hbel.size
      have hbr4 := below_call hbr hb4 hzr
      by_cases hgt : bud < X1
      · go_wp2
        go_ret
        exact ⟨rfl, hbel4⟩
      · have c2 : w4.cell? ⟨b, o + k, none⟩ = some (.slice A3 x.length cap3) := (hb4.cell (p := ⟨b, o + k, none⟩) (by simp; omega)).trans c1
        have hvr4 := Hhvr.out.after keeps_pair hb4 (by omega)
        have Hhvr4 := Lib.hid hvr4; clear hvr4
        go_wp2_with fail
        refine (all_calls _ x _ (by omega) Hhvr4.out hrl Hhrg.out).mono ?_
        rw [HhX.out]
        rintro e w5 ⟨rfl, hb5⟩
        have hbr5 := below_call hbr4 hb5 (by omega)
        go_wp2
        refine ⟨⟨k + 1, by omega, rfl, by rw [Hhcs.out], by rw [Hhcs.out]; omega, by rw [Hhcs.out]; omega, ?_, hbr5⟩, by simp [intOf]; omega⟩
        rw [Hhtk.out]
        intro l hl
        rcases List.mem_append.1 hl with h9 | h9
        · exact Hhall.out l h9
        · have : l = x := by simpa using h9
          rw [this, HhX.out]; simp; omega
    · have hk1 : L.take k = L := List.take_of_length_le (by omega)
      rw [hk1] at hall hc0 hc1 ⊢
      have hpl := more_plain Hhg.out Hhsm.out.2 hall (m := m) (by omega)
      have hl1 := (greedy_fits L bud).len
      have hl2 := (greedy_fits L (bud + m)).len
      change _ ∧ (costs L ≤ bud → _) at hpl
      generalize hC : costs L = C at *
      generalize hT1 : greedyL L bud = T1 at *
      generalize hT2 : greedyL L (bud + m) = T2 at *
      have Hhall := Lib.hid hall; clear hall; have Hhk1 := Lib.hid hk1; clear hk1; have Hhpl := Lib.hid hpl; clear hpl; have HhC := Lib.hid hC; clear hC; have HhT1 := Lib.hid hT1; clear hT1; have HhT2 := Lib.hid hT2; clear hT2
      go_wp2_with fail
      refine (greedy_calls _ L bud _ (by omega) (Hh.out.below (keeps_sl keeps_pair) (hbel.mono hB0)) Hhsm.out.1 Hhsm.out.2 Hhr.out hbud).mono ?_
      rw [HhT1.out]
      rintro e w4 ⟨⟨v4, rfl, hv4⟩, hb4⟩
      have hbel4 := below_call hbel hb4 hbel.size
      obtain ⟨g4, cap4, rfl, hq4, hcap4, hk4⟩ := hv4
      rw [hl1] at hcap4 ⊢
      have Hhk4 := Lib.hid hk4; clear hk4
      go_wp2_with fail
      refine (greedy_calls _ L (bud + m) _ (Nat.le_trans hB0 hbel4.size) (Hh.out.below (keeps_sl keeps_pair) (hbel4.mono hB0)) Hhsm.out.1 Hhsm.out.2 Hhr.out (by omega)).mono ?_
      rw [HhT2.out]
      rintro e w5 ⟨⟨v5, rfl, hv5⟩, hb5⟩
      have hbel5 := below_call hbel4 hb5 hbel4.size
      obtain ⟨g5, cap5, rfl, hq5, hcap5, hk5⟩ := hv5
      rw [hl2] at hcap5 ⊢
      have hk45 := Hhk4.out.below hb5 Hhk4.out.lt
      have Hhk5 := Lib.hid hk5; clear hk5; have Hhk45 := Lib.hid hk45; clear hk45
      go_wp2
      go_loopw [12] (fun i wr => ∃ k : Nat, k ≤ L.length ∧ i = .int .i64 k ∧ Below w5.heap.size w5 wr)
        (fun i _ => L.length - (intOf i).toNat)
      case atStart => exact ⟨0, by omega, rfl, Below.refl _ _⟩
      case round =>
        obtain ⟨k, hkk, rfl, hbq⟩ := hrel
        have hbelq := below_call hbel5 hbq hbel5.size
        by_cases hlt2 : k < L.length
        · obtain ⟨b, o, vr, rfl, hb, c1, hvr⟩ := (Hh.out.below (keeps_sl keeps_pair) (hbelq.mono hB0)).sl_at hlt2
          obtain ⟨A3, cap3, rfl, hcap3⟩ := hvr.form
          have hi1 : k < T1.length := by omega
          have hi2 : k < T2.length := by omega
          have d1 : wr.cell? ⟨g4, k, none⟩ = some (.int .i64 T1[k]) := by
            rw [(Hhk45.out.below hbq Hhk45.out.lt).cell, List.getElem?_map, List.getElem?_eq_getElem hi1]; rfl
          have d2 : wr.cell? ⟨g5, k, none⟩ = some (.int .i64 T2[k]) := by
            rw [(Hhk5.out.below hbq Hhk5.out.lt).cell, List.getElem?_map, List.getElem?_eq_getElem hi2]; rfl
          have hle := Hhpl.out.1 k hi1 hi2
          have heq := fun h9 => Hhpl.out.2 h9 k hlt2 hi1
          generalize hx : L[k] = x at *
          generalize T1[k] = t1 at *
          generalize T2[k] = t2 at *
          by_cases hCb : C ≤ bud
          · have heq9 := heq hCb
            subst heq9
            have hbn : ((x.length : Int) != (x.length : Int)) = false := by simp
            have Hheq := Lib.hid heq; clear heq; have Hhx := Lib.hid hx; clear hx; have Hhvr := Lib.hid hvr; clear hvr
            go_wp2_with (first | (refine Go.Canon.wp_region_text mixed (by kernel_rfl) ?_) | (refine Go.Canon.chk (by rfl) ?_))
            exact ⟨⟨k + 1, by omega, rfl, hbq.drew⟩, by simp [intOf]; omega⟩
          · have Hheq := Lib.hid heq; clear heq; have Hhx := Lib.hid hx; clear hx; have Hhvr := Lib.hid hvr; clear hvr
            go_wp2_with (first | (refine Go.Canon.wp_region_text mixed (by kernel_rfl) ?_) | (refine Go.Canon.chk (by rfl) ?_))
            exact ⟨⟨k + 1, by omega, rfl, hbq.drew⟩, by simp [intOf]; omega⟩
        · go_wp2
          go_ret
          exact ⟨rfl, hbelq⟩
end Go.Proofs.Ytbhdfljdfjadnaa
