/- What some functions come to: sums of batches. -/
import Derived.Test.YtbhdfljdfjadnaaProg
import Derived.Test.YtbhdfljdfjadnaaCanon
import Derived.Test.YtbhdfljdfjadnaaWords
import Derived.Test.YtbhdfljdfjadnaaPure
import Derived.WalkLawsBesides
import Derived.WalkSpells
import Derived.KernelRfl
import Derived.BigGuardPart
namespace Go.Proofs.Ytbhdfljdfjadnaa
open Go Go.RowKit Go.Words Go.StreamP

theorem mixed : Try.prog.follows .mixedOrders = true := by kernel_rfl

set_option maxHeartbeats 400000 in
theorem all_calls (v : Value) (l : List B2) (w : World) {B : Nat} (hB0 : B ≤ w.heap.size) (h : Sl 2 RPair w B v l) (hl : l.length ≤ 1024) (hg : ∀ b ∈ l, GoodB b) :
    Calls Try.prog 16 #[v] w fun e w' => e = .returned (.agg #[.int .i64 (tot l).1, .int .i64 (tot l).2]) ∧ Below w.heap.size w w' := by
  obtain ⟨A, cap, rfl, hcap⟩ := h.form
  go_enter Try.func16, Try.ntmps16
  go_wp2
  go_loopw [4] (fun i wr => ∃ k : Nat, k ≤ l.length ∧ i = .int .i64 k ∧ Below w.heap.size w wr ∧ Bk wr (w.heap.size + 1) 36 [.int .i64 (tot (l.take k)).1, .int .i64 (tot (l.take k)).2]
     ∧ Bk wr (w.heap.size) 36 [.int .i64 0, .int .i64 0])
     (fun i _ => l.length - (intOf i).toNat)
  case atStart =>
    exact ⟨0, by omega, rfl, ((Below.refl _ _).alloc (Nat.le_refl _) _).alloc (by simp) _, Bk.new' _ _ (by simp), (Bk.new w _ _).alloc _⟩
  case round =>
    obtain ⟨k, hk, rfl, hbel, hblk, hblk0⟩ := hrel
    by_cases hlt : k < l.length
    · obtain ⟨b, o, rfl, hB, c1, c2⟩ := (h.keep keeps_pair (hbel.mono hB0) (Nat.le_refl _)).pair_at hlt
      have hs := tot_take_succ l k hlt
      have hb1 := tot_take_bound l hg hl k
      have hb2 := tot_take_bound l hg hl (k + 1)
      rw [hs] at hb2
      generalize hsk : tot (l.take k) = s at *
      generalize hx : l[k] = x at *
      obtain ⟨sx, sy⟩ := s
      obtain ⟨x1, x2⟩ := x
      simp only [plus] at *
      have d1 : wr.cell? ⟨w.heap.size+1, 0, none⟩ = some (.int .i64 sx) := hblk.cell 0
      have d2 : wr.cell? ⟨w.heap.size+1, 1, none⟩ = some (.int .i64 sy) := hblk.cell 1
      have f1 := hblk.frozen
      have HH := Lib.hid hblk
      have HH0 := Lib.hid hblk0
      have Hs := Lib.hid hs
      clear hblk hblk0 hs hsk hx h
      go_wp2_with (first | (refine Go.Canon.wp_region_text mixed (by kernel_rfl) ?_) | (refine Go.Canon.chk (by rfl) ?_))
      refine ⟨⟨k + 1, by omega, rfl, ((hbel.setCell (by simp) _).setCell (by simp) _).drew, ?_, ((HH0.out.far (by simp) _).far (by simp) _).drew⟩, by simp [intOf]; omega⟩
      rw [Hs.out]
      exact ((HH.out.set 0 _).set 1 _).drew
    · have hk' : l.take k = l := List.take_of_length_le (by omega)
      rw [hk'] at hblk
      have HH := Lib.hid hblk
      have HH0 := Lib.hid hblk0
      have hge : l.length ≤ k := by omega
      have d1 : wr.cell? ⟨w.heap.size+1, 0, none⟩ = some (.int .i64 (tot l).1) := hblk.cell 0
      have d2 : wr.cell? ⟨w.heap.size+1, 1, none⟩ = some (.int .i64 (tot l).2) := hblk.cell 1
      have e1 : wr.cell? ⟨w.heap.size, 0, none⟩ = some (.int .i64 0) := hblk0.cell 0
      have e2 : wr.cell? ⟨w.heap.size, 1, none⟩ = some (.int .i64 0) := hblk0.cell 1
      have f1 := hblk0.frozen
      clear hblk hblk0 hk' h hg
      go_wp2
      exact ret_cell rfl rfl ((HH0.out.set 0 _).set 1 _) Try.underlying36 rfl (by kernel_rfl) rfl ⟨rfl, (hbel.setCell (by simp) _).setCell (by simp) _⟩
set_option maxHeartbeats 400000 in
theorem more_calls (x y : B2) (w : World) (hx : Mid x) (hy : Mid y) :
    Calls Try.prog 34 #[.agg #[.int .i64 x.1, .int .i64 x.2], .agg #[.int .i64 y.1, .int .i64 y.2]] w fun e w' => e = .returned (.bool (more x y)) ∧ Below w.heap.size w w' := by
  obtain ⟨a, b⟩ := x
  obtain ⟨c, d⟩ := y
  unfold Mid at hx hy
  simp only [] at hx hy
  have h1 := mul_bd (x := b) (y := c) (by omega) (by omega)
  have h2 := mul_bd (x := d) (y := a) (by omega) (by omega)
  go_enter Try.func34, Try.ntmps34
  go_wp2
  go_ret
  exact ⟨rfl, ((Below.refl _ _).alloc (Nat.le_refl _) _).alloc (by simp) _⟩

set_option maxHeartbeats 400000 in
theorem plus_calls (x y : B2) (w : World) (hx : Mid x) (hy : Mid y) :
    Calls Try.prog 29 #[.agg #[.int .i64 x.1, .int .i64 x.2], .agg #[.int .i64 y.1, .int .i64 y.2]] w fun e w' => e = .returned (.agg #[.int .i64 (plus x y).1, .int .i64 (plus x y).2]) ∧ Below w.heap.size w w' := by
  obtain ⟨a, b⟩ := x
  obtain ⟨c, d⟩ := y
  unfold Mid at hx hy
  simp only [] at hx hy
  go_enter Try.func29, Try.ntmps29
  go_wp2
  exact ret_cell rfl rfl (Bk.new' (w := ((w.alloc _).alloc _)) _ [.int .i64 (a + c), .int .i64 (b + d)] (by simp)) Try.underlying32 rfl (by kernel_rfl) rfl ⟨rfl, (by repeat (first | exact Below.refl _ _ | assumption | refine Below.drew ?_ | refine Below.setCell ?_ (by first | omega | (simp <;> omega)) _ | refine Below.alloc ?_ (by first | omega | (simp <;> omega)) _ | refine below_drewN ?_ _))⟩

set_option maxHeartbeats 400000 in
theorem better_true (x y : B2) (w : World) (hx : Mid x) (hy : Mid y) :
    Calls Try.prog 30 #[.agg #[.int .i64 x.1, .int .i64 x.2], .agg #[.int .i64 y.1, .int .i64 y.2], .bool true] w fun e w' => e = .returned (.bool (!more y x)) ∧ Below w.heap.size w w' := by
  obtain ⟨a, b⟩ := x
  obtain ⟨c, d⟩ := y
  unfold Mid at hx hy
  simp only [] at hx hy
  have h1 := mul_bd (x := b) (y := c) (by omega) (by omega)
  have h2 := mul_bd (x := d) (y := a) (by omega) (by omega)
  go_enter Try.func30, Try.ntmps30
  go_wp2_with (first | (refine Go.Canon.wp_region_text mixed (by kernel_rfl) ?_) | (refine Go.Canon.chk (by rfl) ?_))
  all_goals
    go_ret
    refine ⟨ret_bool ?_, (by repeat (first | exact Below.refl _ _ | assumption | refine Below.drew ?_ | refine Below.setCell ?_ (by first | omega | (simp <;> omega)) _ | refine Below.alloc ?_ (by first | omega | (simp <;> omega)) _ | refine below_drewN ?_ _))⟩
    rw [Bool.eq_iff_iff]
    simp [more]
    omega

set_option maxHeartbeats 400000 in
theorem better_false (x y : B2) (w : World) (hx : Mid x) (hy : Mid y) :
    Calls Try.prog 30 #[.agg #[.int .i64 x.1, .int .i64 x.2], .agg #[.int .i64 y.1, .int .i64 y.2], .bool false] w fun e w' => e = .returned (.bool (more x y)) ∧ Below w.heap.size w w' := by
  obtain ⟨a, b⟩ := x
  obtain ⟨c, d⟩ := y
  unfold Mid at hx hy
  simp only [] at hx hy
  have h1 := mul_bd (x := b) (y := c) (by omega) (by omega)
  have h2 := mul_bd (x := d) (y := a) (by omega) (by omega)
  go_enter Try.func30, Try.ntmps30
  go_wp2_with (first | (refine Go.Canon.wp_region_text mixed (by kernel_rfl) ?_) | (refine Go.Canon.chk (by rfl) ?_))
  all_goals
    go_ret
    refine ⟨ret_bool ?_, (by repeat (first | exact Below.refl _ _ | assumption | refine Below.drew ?_ | refine Below.setCell ?_ (by first | omega | (simp <;> omega)) _ | refine Below.alloc ?_ (by first | omega | (simp <;> omega)) _ | refine below_drewN ?_ _))⟩
    rw [Bool.eq_iff_iff]
    simp [more]
    omega

set_option maxHeartbeats 400000 in
theorem bad_calls (x : B2) (w : World) :
    Calls Try.prog 39 #[.agg #[.int .i64 x.1, .int .i64 x.2]] w fun e w' => e = .returned (.bool (!decide (GoodB x))) ∧ Below w.heap.size w w' := by
  obtain ⟨a, b⟩ := x
  go_enter Try.func39, Try.ntmps39
  go_wp2
  all_goals
    go_ret
    refine ⟨ret_bool ?_, (by repeat (first | exact Below.refl _ _ | assumption | refine Below.drew ?_ | refine Below.setCell ?_ (by first | omega | (simp <;> omega)) _ | refine Below.alloc ?_ (by first | omega | (simp <;> omega)) _ | refine below_drewN ?_ _))⟩
    rw [Bool.eq_iff_iff]
    simp only [Bool.not_eq_true', decide_eq_false_iff_not, decide_eq_true_eq, true_iff]
    unfold GoodB
    omega

/-- The row is as told. -/
def rowB (l : List B2) : Bool := decide (l.length ≤ 1024) && l.all fun b => decide (GoodB b)
set_option maxHeartbeats 400000 in
theorem index_calls (v : Value) (l : List B2) (w : World) {B : Nat} (hB0 : B ≤ w.heap.size) (h : Sl 2 RPair w B v l) (hl : l.length ≤ 1024) :
    Calls Try.prog 42 #[v, .func (.func 39) #[] #[]] w fun e w' => (∃ i : Int, e = .returned (.int .i64 i) ∧ decide (0 ≤ i) = !(l.all fun b => decide (GoodB b))) ∧ Below w.heap.size w w' := by
  obtain ⟨A, cap, rfl, hcap⟩ := h.form
  go_enter Try.func42, Try.ntmps42
  go_wp2
  go_loopw [8] (fun i wr => ∃ k : Nat, k ≤ l.length ∧ i = .int .i64 k ∧ Below w.heap.size w wr ∧ (l.take k).all (fun b => decide (GoodB b)) = true)
     (fun i _ => l.length - (intOf i).toNat)
  case atStart =>
    exact ⟨0, by omega, rfl, Below.refl _ _, rfl⟩
  case round =>
    obtain ⟨k, hk, rfl, hbel, hall⟩ := hrel
    by_cases hlt : k < l.length
    · obtain ⟨b, o, rfl, hB, c1, c2⟩ := (h.keep keeps_pair (hbel.mono hB0) (Nat.le_refl _)).pair_at hlt
      have htk : l.take (k + 1) = l.take k ++ [l[k]] := List.take_succ_eq_append_getElem hlt
      have hmem : l[k] ∈ l := List.getElem_mem hlt
      generalize hx : l[k] = x at *
      have hsz := hbel.size
      have Hhall := Lib.hid hall; clear hall; have Hhtk := Lib.hid htk; clear htk; have Hhmem := Lib.hid hmem; clear hmem; have Hhx := Lib.hid hx; clear hx; have Hh := Lib.hid h; clear h
      cases hg : decide (GoodB x)
      all_goals
        have Hg := Lib.hid hg
        go_wp2_with (go_at_call 39; refine (bad_calls x _).mono ?_; rw [hg]; clear hg; rintro e w1 ⟨rfl, hb1⟩; have hbel1 := below_call hbel hb1 (by omega))
      · go_ret
        refine ⟨⟨k, rfl, ?_⟩, hbel1⟩
        have hf : (l.all fun b => decide (GoodB b)) = false := List.all_eq_false.2 ⟨x, Hhmem.out, by rw [Hg.out]; exact Bool.false_ne_true⟩
        rw [hf]
        simp
      · refine ⟨⟨k + 1, by omega, rfl, hbel1, ?_⟩, by simp [intOf]; omega⟩
        rw [Hhtk.out, List.all_append, Hhall.out]
        simp only [List.all_cons, List.all_nil, Hg.out, Bool.and_self]
    · have hk' : l.take k = l := List.take_of_length_le (by omega)
      rw [hk'] at hall
      have Hhall := Lib.hid hall; clear hall; have Hh := Lib.hid h; clear h
      go_wp2
      go_ret
      refine ⟨⟨-1, rfl, ?_⟩, hbel⟩
      rw [Hhall.out]
      rfl

set_option maxHeartbeats 400000 in
theorem contains_calls (v : Value) (l : List B2) (w : World) {B : Nat} (hB0 : B ≤ w.heap.size) (h : Sl 2 RPair w B v l) (hl : l.length ≤ 1024) :
    Calls Try.prog 38 #[v, .func (.func 39) #[] #[]] w fun e w' => e = .returned (.bool (!(l.all fun b => decide (GoodB b)))) ∧ Below w.heap.size w w' := by
  go_enter Try.func38, Try.ntmps38
  go_wp2_with (go_at_call 42; refine (index_calls v l _ hB0 h hl).mono ?_; rintro e w1 ⟨⟨i, rfl, hi⟩, hb1⟩; have Hhi := Lib.hid hi; clear hi)
  go_ret
  exact ⟨ret_bool Hhi.out, hb1⟩

set_option maxHeartbeats 400000 in
theorem row_calls (v : Value) (l : List B2) (w : World) {B : Nat} (hB0 : B ≤ w.heap.size) (h : Sl 2 RPair w B v l) (hl : l.length ≤ 1024) :
    Calls Try.prog 28 #[v] w fun e w' => e = .returned (.bool (rowB l)) ∧ Below w.heap.size w w' := by
  have hr : rowB l = l.all fun b => decide (GoodB b) := by unfold rowB; rw [decide_eq_true hl, Bool.true_and]
  obtain ⟨A, cap, rfl, hcap⟩ := h.form
  have Hhr := Lib.hid hr; clear hr
  have hl' : (l.length : Int) ≤ 1024 := by omega
  go_enter Try.func28, Try.ntmps28
  go_wp2_with (go_at_call 38; refine (contains_calls _ l _ hB0 h hl).mono ?_; rintro e w1 ⟨rfl, hb1⟩)
  go_ret
  refine ⟨ret_bool ?_, hb1⟩
  rw [Hhr.out]
end Go.Proofs.Ytbhdfljdfjadnaa
