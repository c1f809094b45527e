/- Walks: the first piece, the front of a row, rows as told. -/
import Derived.Test.YtbhdfljdfjadnaaW1
namespace Go.Proofs.Ytbhdfljdfjadnaa
open Go Go.RowKit Go.Words Go.StreamP

set_option maxHeartbeats 400000 in
theorem first_calls (v : Value) (l : List B2) (w : World) {B : Nat} (hB0 : B ≤ w.heap.size) (h : Sl 2 RPair w B v l) (hl : l.length ≤ 1024) (hg : ∀ b ∈ l, GoodB b) (h1 : 1 ≤ l.length) :
    Calls Try.prog 35 #[v] w fun e w' => e = .returned (.int .i64 (firstN l)) ∧ Below w.heap.size w w' := by
  obtain ⟨A, cap, rfl, hcap⟩ := h.form
  go_enter Try.func35, Try.ntmps35
  go_wp2
  go_loopw [3, 4] (fun b i wr => ∃ k : Nat, 1 ≤ k ∧ k ≤ l.length ∧ i = .int .i64 (k + 1 : Nat) ∧ b = .int .i64 (bestTo l k) ∧ Below w.heap.size w wr)
     (fun _ i _ => l.length + 1 - (intOf i).toNat)
  case atStart =>
    exact ⟨1, by omega, by omega, rfl, by rw [bestTo_one]; rfl, Below.refl _ _⟩
  case round =>
    obtain ⟨k, hk1, hk, rfl, rfl, hbel⟩ := hrel
    by_cases hlt : k < l.length
    · have hb := bestTo_bound l k
      have hn : bestTo l (k + 1) = if more (tot (l.take (bestTo l k))) (tot (l.take (k + 1))) then bestTo l k else k + 1 := by rw [bestTo]
      have hm1 := mid_take l hg hl (bestTo l k)
      have hm2 := mid_take l hg hl (k + 1)
      have hsz := hbel.size
      generalize hbk : bestTo l k = b at *
      have hbl : b ≤ l.length := by omega
      have hb1 : 1 ≤ b := hb.1
      have hs := h.below keeps_pair (hbel.mono hB0)
      have hBr : B ≤ wr.heap.size := by omega
      have s1 := hs.take (k := b) (by omega)
      have s2 := hs.take (k := k + 1) (by omega)
      have g1 := good_take hg b
      have g2 := good_take hg (k + 1)
      have l1 : (l.take b).length ≤ 1024 := by rw [List.length_take]; omega
      have l2 : (l.take (k + 1)).length ≤ 1024 := by rw [List.length_take]; omega
      have Hh := Lib.hid h; clear h; have Hhg := Lib.hid hg; clear hg; have Hhbk := Lib.hid hbk; clear hbk; have Hhn := Lib.hid hn; clear hn; have Hhm1 := Lib.hid hm1; clear hm1; have Hhm2 := Lib.hid hm2; clear hm2; have Hhs := Lib.hid hs; clear hs; have Hs1 := Lib.hid s1; clear s1; have Hs2 := Lib.hid s2; clear s2; have Hg1 := Lib.hid g1; clear g1; have Hg2 := Lib.hid g2; clear g2; have Hl1 := Lib.hid l1; clear l1; have Hl2 := Lib.hid l2; clear l2; have Hhb := Lib.hid hb; clear hb
      go_wp2_with (first
        | (refine Go.Canon.wp_region_canon [0,1,2,4,5,6,3,7,8,9] mixed (by kernel_rfl) ?_; simp only [List.map_cons, List.map_nil, List.getD_cons_zero, List.getD_cons_succ])
        | (refine Go.Canon.chk (by rfl) ?_))
      refine (all_calls _ _ _ (by simpa using hBr) (Hs1.out.drew keeps_pair) Hl1.out Hg1.out).mono ?_
      rintro e w1 ⟨rfl, hb1⟩
      have hb1' : Below wr.heap.size wr w1 := (Below.refl _ _).drew.trans hb1
      have hz1 := hb1'.size
      go_wp2_with fail
      refine (all_calls _ _ _ (by omega) (Hs2.out.after keeps_pair hb1' hBr) Hl2.out Hg2.out).mono ?_
      rintro e w2 ⟨rfl, hb2⟩
      have hz2 := hb2.size
      go_wp2_with fail
      refine (more_calls _ _ _ Hhm1.out Hhm2.out).mono ?_
      rintro e w3 ⟨rfl, hb3⟩
      have hbel3 : Below w.heap.size w w3 := below_call (below_call (below_call hbel hb1' (by omega)) hb2 (by omega)) hb3 (by omega)
      clear hb1 hb1' hb2 hb3
      go_wp2_with (refine Go.Canon.chk (by rfl) ?_)
      · refine ⟨⟨k + 1, by omega, by omega, by simp, ?_, hbel3⟩, by simp [intOf]; omega⟩
        rw [Hhn.out, if_neg (by simp_all)]; rfl
      · refine ⟨⟨k + 1, by omega, by omega, by simp, ?_, hbel3⟩, by simp [intOf]; omega⟩
        rw [Hhn.out, if_pos (by simp_all)]
    · have hkl : k = l.length := by omega
      have hf : firstN l = bestTo l k := by rw [hkl]; rfl
      have Hhf := Lib.hid hf; clear hf; have Hhkl := Lib.hid hkl; clear hkl; have Hh := Lib.hid h; clear h
      go_wp2
      go_ret
      exact ⟨ret_int (by rw [Hhf.out]), hbel⟩

set_option maxHeartbeats 400000 in
theorem front_calls (v : Value) (l : List B2) (bud : Int) (w : World) {B : Nat} (hB0 : B ≤ w.heap.size) (h : Sl 2 RPair w B v l) (hl : l.length ≤ 1024) (hg : ∀ b ∈ l, GoodB b) :
    Calls Try.prog 32 #[v, .int .i64 bud] w fun e w' => e = .returned (.int .i64 (frontN l bud)) ∧ Below w.heap.size w w' := by
  obtain ⟨A, cap, rfl, hcap⟩ := h.form
  have hfr := frontN_is l bud
  generalize hF : frontN l bud = F at hfr
  have hFle := hfr.le
  have Hhfr := Lib.hid hfr; clear hfr
  go_enter Try.func32, Try.ntmps32
  go_wp2
  go_loopw [5, 10] (fun c i wr => ∃ k : Nat, k ≤ F ∧ i = .int .i64 k ∧ c = .int .i64 (tot (l.take k)).1 ∧ Below w.heap.size w wr)
     (fun _ i _ => l.length - (intOf i).toNat)
  case atStart =>
    exact ⟨0, by omega, rfl, rfl, Below.refl _ _⟩
  case round =>
    obtain ⟨k, hk, rfl, rfl, hbel⟩ := hrel
    by_cases hlt : k < l.length
    · obtain ⟨b, o, rfl, hb, c1, c2⟩ := (h.below keeps_pair (hbel.mono hB0)).pair_at hlt
      have hs := tot_take_succ l k hlt
      have hb1 := tot_take_bound l hg hl k
      have hb2 := tot_take_bound l hg hl (k + 1)
      have hcase : (k < F ∧ (tot (l.take k)).1 + l[k].1 ≤ bud) ∨ (k = F ∧ bud < (tot (l.take k)).1 + l[k].1) := by
        have e : (tot (l.take (k + 1))).1 = (tot (l.take k)).1 + l[k].1 := by rw [hs]; rfl
        rcases Nat.lt_or_ge k F with h1 | h1
        · exact .inl ⟨h1, by rw [← e]; exact Hhfr.out.fits (k + 1) (by omega) (by omega)⟩
        · have : k = F := by omega
          subst this
          exact .inr ⟨rfl, by rw [← e]; exact Hhfr.out.more hlt⟩
      rw [hs] at hb2
      generalize hsk : tot (l.take k) = s at *
      generalize hx : l[k] = x at *
      obtain ⟨sx, sy⟩ := s
      obtain ⟨x1, x2⟩ := x
      simp only [plus] at *
      have hsz := hbel.size
      have Hhs := Lib.hid hs; clear hs; have Hhsk := Lib.hid hsk; clear hsk; have Hhx := Lib.hid hx; clear hx; have Hh := Lib.hid h; clear h; have Hhg := Lib.hid hg; clear hg; have HhF := Lib.hid hF; clear hF
      rcases hcase with ⟨h1, h2⟩ | ⟨h1, h2⟩
      · go_wp2
        refine ⟨⟨k + 1, by omega, rfl, by rw [Hhs.out], (by repeat (first | exact Below.refl _ _ | assumption | refine Below.drew ?_ | refine Below.setCell ?_ (by first | omega | (simp <;> omega)) _ | refine Below.alloc ?_ (by first | omega | (simp <;> omega)) _ | refine below_drewN ?_ _))⟩, by simp [intOf]; omega⟩
      · subst h1
        go_wp2
        go_ret
        exact ⟨rfl, (by repeat (first | exact Below.refl _ _ | assumption | refine Below.drew ?_ | refine Below.setCell ?_ (by first | omega | (simp <;> omega)) _ | refine Below.alloc ?_ (by first | omega | (simp <;> omega)) _ | refine below_drewN ?_ _))⟩
    · have : F = l.length := by omega
      have : k = l.length := by omega
      subst this
      go_wp2
      go_ret
      exact ⟨ret_int (by omega), hbel⟩

theorem field0 (x y : Value) (w : World) : (Instr.field 36 (.agg #[x, y]) 0).run Try.prog w = .ok x w := by kernel_rfl
theorem field1 (x y : Value) (w : World) : (Instr.field 36 (.agg #[x, y]) 1).run Try.prog w = .ok y w := by kernel_rfl
set_option maxHeartbeats 400000 in
theorem reffront_calls (v : Value) (l : List B2) (bud : Int) (w : World) {B : Nat} (hB0 : B ≤ w.heap.size) (h : Sl 2 RPair w B v l) (hl : l.length ≤ 1024) (hg : ∀ b ∈ l, GoodB b) :
    Calls Try.prog 27 #[v, .int .i64 bud] w fun e w' => e = .returned (.int .i64 (frontN l bud)) ∧ Below w.heap.size w w' := by
  obtain ⟨A, cap, rfl, hcap⟩ := h.form
  go_enter Try.func27, Try.ntmps27
  go_wp2
  go_loopw [5, 6] (fun n i wr => ∃ k : Nat, k ≤ l.length ∧ i = .int .i64 (k + 1 : Nat) ∧ n = .int .i64 (frontN (l.take k) bud) ∧ Below w.heap.size w wr)
     (fun _ i _ => l.length + 1 - (intOf i).toNat)
  case atStart =>
    exact ⟨0, by omega, rfl, rfl, Below.refl _ _⟩
  case round =>
    obtain ⟨k, hk, rfl, rfl, hbel⟩ := hrel
    by_cases hlt : k < l.length
    · have hs := (h.below keeps_pair (hbel.mono hB0)).take (k := k + 1) (by omega)
      have hf := front_take hg bud k hlt
      have g2 := good_take hg (k + 1)
      have l2 : (l.take (k + 1)).length ≤ 1024 := by rw [List.length_take]; omega
      have hsz := hbel.size
      have hf0 := field0
      have Hh := Lib.hid h; clear h; have Hhg := Lib.hid hg; clear hg; have Hhf := Lib.hid hf; clear hf; have Hhs := Lib.hid hs; clear hs; have Hg2 := Lib.hid g2; clear g2; have Hl2 := Lib.hid l2; clear l2
      go_wp2_with (go_at_call 16; refine (all_calls _ _ _ (by omega) Hhs.out Hl2.out Hg2.out).mono ?_; rintro e w1 ⟨rfl, hb1⟩; have hbel1 := below_call hbel hb1 (by omega))
      · refine ⟨⟨k + 1, by omega, by simp, ?_, hbel1⟩, by simp [intOf]; omega⟩
        rw [Hhf.out, if_pos (by assumption)]; rfl
      · refine ⟨⟨k + 1, by omega, by simp, ?_, hbel1⟩, by simp [intOf]; omega⟩
        rw [Hhf.out, if_neg (by omega)]
    · have hk' : l.take k = l := List.take_of_length_le (by omega)
      rw [hk']
      have Hhk' := Lib.hid hk'; clear hk'; have Hh := Lib.hid h; clear h
      go_wp2
      go_ret
      exact ⟨rfl, hbel⟩

/-! ## All rows as told -/
theorem rowB_len {l : List B2} (h : rowB l = true) : l.length ≤ 1024 ∧ ∀ b ∈ l, GoodB b := by
  unfold rowB at h
  simp only [Bool.and_eq_true, decide_eq_true_eq, List.all_eq_true] at h
  exact h
set_option maxHeartbeats 400000 in
theorem badrow_calls (v : Value) (l : List B2) (w : World) {B : Nat} (hB0 : B ≤ w.heap.size) (h : Sl 2 RPair w B v l) (hl : l.length ≤ 1024) :
    Calls Try.prog 41 #[v] w fun e w' => e = .returned (.bool (!rowB l)) ∧ Below w.heap.size w w' := by
  go_enter Try.func41, Try.ntmps41
  go_wp2_with (go_at_call 28; refine (row_calls _ l _ hB0 h hl).mono ?_; rintro e w1 ⟨rfl, hb1⟩)
  go_ret
  exact ⟨rfl, hb1⟩
set_option maxHeartbeats 400000 in
theorem rindex_calls (v : Value) (L : List (List B2)) (w : World) {B : Nat} (hB0 : B ≤ w.heap.size) (h : Sl 1 (RSl 2 RPair) w B v L) (hl : L.length ≤ 256) (hls : ∀ l ∈ L, l.length ≤ 1024) :
    Calls Try.prog 43 #[v, .func (.func 41) #[] #[]] w fun e w' => (∃ i : Int, e = .returned (.int .i64 i) ∧ decide (0 ≤ i) = !(L.all rowB)) ∧ Below w.heap.size w w' := by
  obtain ⟨A, cap, rfl, hcap⟩ := h.form
  go_enter Try.func43, Try.ntmps43
  go_wp2
  go_loopw [8] (fun i wr => ∃ k : Nat, k ≤ L.length ∧ i = .int .i64 k ∧ Below w.heap.size w wr ∧ (L.take k).all rowB = true)
     (fun i _ => L.length - (intOf i).toNat)
  case atStart =>
    exact ⟨0, by omega, rfl, Below.refl _ _, rfl⟩
  case round =>
    obtain ⟨k, hk, rfl, hbel, hall⟩ := hrel
    by_cases hlt : k < L.length
    · obtain ⟨b, o, vr, rfl, hB, c1, hvr⟩ := (h.below (keeps_sl keeps_pair) (hbel.mono hB0)).sl_at hlt
      have htk : L.take (k + 1) = L.take k ++ [L[k]] := List.take_succ_eq_append_getElem hlt
      have hmem : L[k] ∈ L := List.getElem_mem hlt
      have hxl := hls _ hmem
      generalize hx : L[k] = x at *
      have hsz := hbel.size
      have Hhall := Lib.hid hall; clear hall; have Hhtk := Lib.hid htk; clear htk; have Hhmem := Lib.hid hmem; clear hmem; have Hhx := Lib.hid hx; clear hx; have Hh := Lib.hid h; clear h; have Hhls := Lib.hid hls; clear hls; have Hhvr := Lib.hid hvr; clear hvr
      cases hg : rowB x
      all_goals
        have Hg := Lib.hid hg
        go_wp2_with (go_at_call 41; refine (badrow_calls _ x _ (by omega) Hhvr.out hxl).mono ?_; rw [hg]; clear hg; rintro e w1 ⟨rfl, hb1⟩; have hbel1 := below_call hbel hb1 (by omega))
      · go_ret
        refine ⟨⟨k, rfl, ?_⟩, hbel1⟩
        have hf : L.all rowB = false := List.all_eq_false.2 ⟨x, Hhmem.out, by rw [Hg.out]; exact Bool.false_ne_true⟩
        rw [hf]
        simp
      · refine ⟨⟨k + 1, by omega, rfl, hbel1, ?_⟩, by simp [intOf]; omega⟩
        rw [Hhtk.out, List.all_append, Hhall.out]
        simp only [List.all_cons, List.all_nil, Hg.out, Bool.and_self]
    · have hk' : L.take k = L := List.take_of_length_le (by omega)
      rw [hk'] at hall
      have Hhall := Lib.hid hall; clear hall; have Hh := Lib.hid h; clear h; have Hhls := Lib.hid hls; clear hls
      go_wp2
      go_ret
      refine ⟨⟨-1, rfl, ?_⟩, hbel⟩
      rw [Hhall.out]
      rfl
set_option maxHeartbeats 400000 in
theorem rcontains_calls (v : Value) (L : List (List B2)) (w : World) {B : Nat} (hB0 : B ≤ w.heap.size) (h : Sl 1 (RSl 2 RPair) w B v L) (hl : L.length ≤ 256) (hls : ∀ l ∈ L, l.length ≤ 1024) :
    Calls Try.prog 40 #[v, .func (.func 41) #[] #[]] w fun e w' => e = .returned (.bool (!(L.all rowB))) ∧ Below w.heap.size w w' := by
  go_enter Try.func40, Try.ntmps40
  go_wp2_with (go_at_call 43; refine (rindex_calls v L _ hB0 h hl hls).mono ?_; rintro e w1 ⟨⟨i, rfl, hi⟩, hb1⟩; have Hhi := Lib.hid hi; clear hi)
  go_ret
  exact ⟨ret_bool Hhi.out, hb1⟩
set_option maxHeartbeats 400000 in
theorem right_calls (v : Value) (L : List (List B2)) (w : World) {B : Nat} (hB0 : B ≤ w.heap.size) (h : Sl 1 (RSl 2 RPair) w B v L) (hl : L.length ≤ 256) (hls : ∀ l ∈ L, l.length ≤ 1024) :
    Calls Try.prog 31 #[v] w fun e w' => e = .returned (.bool (L.all rowB)) ∧ Below w.heap.size w w' := by
  obtain ⟨A, cap, rfl, hcap⟩ := h.form
  have hl' : (L.length : Int) ≤ 256 := by omega
  go_enter Try.func31, Try.ntmps31
  go_wp2_with (go_at_call 40; refine (rcontains_calls _ L _ hB0 h hl hls).mono ?_; rintro e w1 ⟨rfl, hb1⟩)
  go_ret
  exact ⟨ret_bool (by simp), hb1⟩
end Go.Proofs.Ytbhdfljdfjadnaa
