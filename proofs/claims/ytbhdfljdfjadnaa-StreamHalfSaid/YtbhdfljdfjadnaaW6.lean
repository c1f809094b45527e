/- Walks: the document's sum; rows made anew; rows as told. -/
import Derived.Test.YtbhdfljdfjadnaaW5
namespace Go.Proofs.Ytbhdfljdfjadnaa
open Go Go.RowKit Go.Words Go.StreamP

set_option maxHeartbeats 1000000 in
theorem refsum_calls (v1 v2 : Value) (L : List (List B2)) (T : List Nat) (w : World) {B : Nat} (hB0 : B ≤ w.heap.size) (h : Sl 1 (RSl 2 RPair) w B v1 L) (h2 : Sl 1 RInt w B v2 (T.map fun n : Nat => (n : Int))) (hf : Few L) (hg : ∀ l ∈ L, ∀ b ∈ l, GoodB b)
    (hlen : T.length = L.length) (hle : ∀ i (h : i < L.length) (h' : i < T.length), T[i] ≤ L[i].length) :
    Calls Try.prog 19 #[v1, v2] w fun e w' => e = .returned (.agg #[.int .i64 (sumAll L T).1, .int .i64 (sumAll L T).2]) ∧ Below w.heap.size w w' := by
  obtain ⟨A, cap, rfl, hcap⟩ := h.form
  obtain ⟨A2, cap2, rfl, hcap2⟩ := h2.form
  have hl := hf.1
  rw [List.length_map]
  have Hhf := Lib.hid hf; clear hf; have Hhg := Lib.hid hg; clear hg; have Hhlen := Lib.hid hlen; clear hlen; have Hhle := Lib.hid hle; clear hle; have Hh := Lib.hid h; clear h; have Hh2 := Lib.hid h2; clear h2
  go_enter Try.func19, Try.ntmps19
  go_wp2
  go_loopw [6] (fun i wr => ∃ k : Nat, k ≤ L.length ∧ i = .int .i64 k ∧ Bk wr (w.heap.size + 1) 36 [.int .i64 (sumAll (L.take k) (T.take k)).1, .int .i64 (sumAll (L.take k) (T.take k)).2] ∧
      Bk wr w.heap.size 36 [.int .i64 0, .int .i64 0] ∧ Below w.heap.size w wr)
    (fun i _ => L.length - (intOf i).toNat)
  case atStart => exact ⟨0, by omega, rfl, by simpa [sumAll] using Bk.new' (w := w.alloc _) _ [.int .i64 0, .int .i64 0] (by simp), (Bk.new w _ [.int .i64 0, .int .i64 0]).alloc _, (by repeat (first | exact Below.refl _ _ | assumption | refine Below.drew ?_ | refine Below.setCell ?_ (by first | omega | (simp <;> omega)) _ | refine Below.alloc ?_ (by first | omega | (simp <;> omega)) _ | refine below_drewN ?_ _))⟩
  case round =>
    obtain ⟨k, hk, rfl, hblk, hblk0, hbel⟩ := hrel
    have hz := hbel.size
    have hBr : B ≤ wr.heap.size := by omega
    by_cases hlt : k < L.length
    · have hltT : k < T.length := by rw [Hhlen.out]; exact hlt
      obtain ⟨b, o, vr, rfl, hb, c1, hvr⟩ := (Hh.out.below (keeps_sl keeps_pair) (hbel.mono hB0)).sl_at hlt
      obtain ⟨b', o', rfl, hb', c2⟩ := (Hh2.out.below keeps_int (hbel.mono hB0)).int_at (k := k) (by simpa using hltT)
      rw [List.getElem_map] at c2
      obtain ⟨A3, cap3, rfl, hcap3⟩ := hvr.form
      have hrl := Hhf.out.2 _ (List.getElem_mem hlt)
      have hrg := Hhg.out _ (List.getElem_mem hlt)
      have hyn := Hhle.out k hlt hltT
      have hsn := sumAll_snoc L T k hlt hltT
      generalize hx : L[k] = x at *
      generalize hy : T[k] = y at *
      have hsl := hvr.take (k := y) hyn
      have hmS := sumAll_mid Hhf.out Hhg.out (T.take k) k
      have hbS := sumAll_bound (L.take k) (T.take k) fun l hl => ⟨Hhf.out.2 l (List.mem_of_mem_take hl), Hhg.out l (List.mem_of_mem_take hl)⟩
      have hlS : (L.take k).length ≤ 5 := by rw [List.length_take]; omega
      have hbX := tot_bound (x.take y) (good_take hrg y)
      have hlX : (x.take y).length ≤ 8 := by rw [List.length_take]; omega
      generalize hS : sumAll (L.take k) (T.take k) = S at *
      generalize hX : tot (x.take y) = X at *
      obtain ⟨s1, s2⟩ := S
      obtain ⟨X1, X2⟩ := X
      simp only [] at hbS hbX
      have q1 : 0 ≤ s1 ∧ s1 ≤ 41943040 ∧ 0 ≤ s2 ∧ s2 ≤ 41943040 := by omega
      have q2 : 0 ≤ X1 ∧ X1 ≤ 8388608 ∧ 0 ≤ X2 ∧ X2 ≤ 8388608 := by omega
      have d1 : wr.cell? ⟨w.heap.size + 1, 0, none⟩ = some (.int .i64 s1) := hblk.cell 0
      have d2 : wr.cell? ⟨w.heap.size + 1, 1, none⟩ = some (.int .i64 s2) := hblk.cell 1
      have hltb := hblk.lt
      clear hbS hbX hlS
      have Hhsn := Lib.hid hsn; clear hsn; have Hhx := Lib.hid hx; clear hx; have Hhy := Lib.hid hy; clear hy; have HhS := Lib.hid hS; clear hS; have HhX := Lib.hid hX; clear hX; have HhmS := Lib.hid hmS; clear hmS; have Hhrg := Lib.hid hrg; clear hrg; have Hhvr := Lib.hid hvr; clear hvr; have Hhsl := Lib.hid hsl; clear hsl; have Hhblk := Lib.hid hblk; clear hblk; have Hhblk0 := Lib.hid hblk0; clear hblk0; have HhlX := Lib.hid hlX; clear hlX

      go_wp2_with (refine Go.Canon.wp_region_plan [3,7] (· < B) [0,1,2,3,4,5,6,7,8] [[[9],[10],[11]],[[10],[9],[11]]] mixed (by kernel_rfl) (List.forall_mem_cons.2 ⟨?_, List.forall_mem_cons.2 ⟨?_, fun _ h => by cases h⟩⟩))
      · refine Go.Canon.seg_begin ?_
        simp only [List.map_cons, List.map_nil, List.getD_cons_zero, List.getD_cons_succ]
        go_wp2_with fail
        refine (all_calls _ _ _ (by simpa using hBr) (Hhsl.out.drew keeps_pair) (by have := HhlX.out; omega) (good_take Hhrg.out y)).mono ?_
        rw [HhX.out]
        rintro e w1 ⟨rfl, hb1⟩
        have hb2 : Below wr.heap.size wr w1 := (Below.refl _ _).drew.trans hb1
        have hz1 := hb2.size
        have g1 := Hhblk.out.below hb2 (by omega)
        have g0 := Hhblk0.out.below hb2 (by omega)
        have kb := keep_below (hb1.mono (by simpa using hBr))
        have kb2 := keep_below (B := B) ((hb1.mono (by simpa using hBr)).alloc (by omega) (.cells #[.int .i64 0, .int .i64 0] 36))
        have kb3 := keep_below (B := B) ((hb1.mono (by simpa using hBr)).alloc (by omega) (.cells #[.int .i64 X1, .int .i64 X2] 36))
        have hfl : ∀ k ∈ [3, 7], k = 3 ∨ k = 7 := by simp
        have e1 : w1.cell? ⟨w.heap.size + 1, 0, none⟩ = some (.int .i64 s1) := g1.cell 0
        have e2 : w1.cell? ⟨w.heap.size + 1, 1, none⟩ = some (.int .i64 s2) := g1.cell 1
        have f1 := g1.frozen
        have hbelF : Below w.heap.size w w1 := below_call hbel hb2 (by omega)
        have hz3 := g1.lt
        clear d1 d2
        have Hg1 := Lib.hid g1; clear g1; have Hg0 := Lib.hid g0; clear g0; have Hkb := Lib.hid kb; clear kb; have Hkb2 := Lib.hid kb2; clear kb2; have Hkb3 := Lib.hid kb3; clear kb3
        go_wp2_with fail
        refine Go.Canon.seg_end Hkb.out (Go.Canon.seg_begin ?_)
        simp only [List.map_cons, List.map_nil, List.getD_cons_zero, List.getD_cons_succ]
        go_wp2_with fail
        refine Go.Canon.seg_end Hkb2.out (Go.Canon.seg_begin ?_)
        simp only [List.map_cons, List.map_nil, List.getD_cons_zero, List.getD_cons_succ]
        go_wp2_with fail
        refine Go.Canon.seg_end Hkb3.out (Go.Canon.seg_done (by rfl) (List.forall_mem_cons.2 ⟨.inl ⟨_, rfl, hb, by rw [World.cell?_drew, c1]; rfl⟩, List.forall_mem_cons.2 ⟨.inl ⟨_, rfl, hb', by rw [World.cell?_drew, c2]; rfl⟩, fun _ h => by cases h⟩⟩) ?_)
        go_wp2_with (first | (refine Go.Canon.wp_region_text mixed (by kernel_rfl) ?_) | (refine Go.Canon.chk (by rfl) ?_))
        refine ⟨⟨k + 1, by omega, by simp, ?_, ?_, (by repeat (first | exact Below.refl _ _ | assumption | refine Below.drew ?_ | refine Below.setCell ?_ (by first | omega | (simp <;> omega)) _ | refine Below.alloc ?_ (by first | omega | (simp <;> omega)) _ | refine below_drewN ?_ _))⟩, by simp [intOf]; omega⟩
        · rw [Hhsn.out]
          exact ((Hg1.out.set 0 _).set 1 _).alloc _
        · exact ((Hg0.out.far (p := ⟨w.heap.size + 1, 0, none⟩) (by simp) _).far (p := ⟨w.heap.size + 1, 1, none⟩) (by simp) _).alloc _
      · refine Go.Canon.seg_begin ?_
        simp only [List.map_cons, List.map_nil, List.getD_cons_zero, List.getD_cons_succ]
        have kb0 := keep_below (B := B) ((Below.refl B wr.drew).alloc (by simpa using hBr) (.cells #[.int .i64 0, .int .i64 0] 36))
        have Hkb0 := Lib.hid kb0; clear kb0
        go_wp2_with fail
        refine Go.Canon.seg_end Hkb0.out (Go.Canon.seg_begin ?_)
        simp only [List.map_cons, List.map_nil, List.getD_cons_zero, List.getD_cons_succ]
        go_wp2_with fail
        refine (all_calls _ _ _ (by simp; omega) (((Hhsl.out.drew keeps_pair).below keeps_pair ((Below.refl B wr.drew).alloc (by simpa using hBr) _))) (by have := HhlX.out; omega) (good_take Hhrg.out y)).mono ?_
        rw [HhX.out]
        rintro e w1 ⟨rfl, hb1⟩
        have hb2 : Below wr.heap.size wr w1 := below_call (((Below.refl _ _).alloc (Nat.le_refl _) _).drew) hb1 (by simp)
        have hz1 : wr.heap.size + 1 ≤ w1.heap.size := by simpa using hb1.size
        have g1 := Hhblk.out.below hb2 (by omega)
        have g0 := Hhblk0.out.below hb2 (by omega)
        have g7 : Bk w1 wr.heap.size 36 [.int .i64 0, .int .i64 0] := (Bk.new wr.drew _ [.int .i64 0, .int .i64 0]).below hb1 (by simp)
        have hbD : Below B wr.drew w1 := below_call ((Below.refl B wr.drew).alloc (by simpa using hBr) _) hb1 (by simp; omega)
        have kb := keep_below hbD
        have kb3 := keep_below (B := B) ((hbD.setCell (p := ⟨wr.heap.size, 0, none⟩) (by simp; omega) (.int .i64 X1)).setCell (p := ⟨wr.heap.size, 1, none⟩) (by simp; omega) (.int .i64 X2))
        have e1 : w1.cell? ⟨w.heap.size + 1, 0, none⟩ = some (.int .i64 s1) := g1.cell 0
        have e2 : w1.cell? ⟨w.heap.size + 1, 1, none⟩ = some (.int .i64 s2) := g1.cell 1
        have f1 := g1.frozen
        have e3 : w1.cell? ⟨wr.heap.size, 0, none⟩ = some (.int .i64 0) := g7.cell 0
        have e4 : w1.cell? ⟨wr.heap.size, 1, none⟩ = some (.int .i64 0) := g7.cell 1
        have f2 := g7.frozen
        have hbelF : Below w.heap.size w w1 := below_call hbel hb2 (by omega)
        have hz3 := g1.lt
        clear d1 d2
        have Hg1 := Lib.hid g1; clear g1; have Hg0 := Lib.hid g0; clear g0; have Hg7 := Lib.hid g7; clear g7; have Hkb := Lib.hid kb; clear kb; have Hkb3 := Lib.hid kb3; clear kb3
        go_wp2_with fail
        refine Go.Canon.seg_end Hkb.out (Go.Canon.seg_begin ?_)
        simp only [List.map_cons, List.map_nil, List.getD_cons_zero, List.getD_cons_succ]
        go_wp2_with fail
        refine Go.Canon.seg_end Hkb3.out (Go.Canon.seg_done (by rfl) (List.forall_mem_cons.2 ⟨.inl ⟨_, rfl, hb, by rw [World.cell?_drew, c1]; rfl⟩, List.forall_mem_cons.2 ⟨.inl ⟨_, rfl, hb', by rw [World.cell?_drew, c2]; rfl⟩, fun _ h => by cases h⟩⟩) ?_)
        go_wp2_with (first | (refine Go.Canon.wp_region_text mixed (by kernel_rfl) ?_) | (refine Go.Canon.chk (by rfl) ?_))
        refine ⟨⟨k + 1, by omega, by simp, ?_, ?_, (by repeat (first | exact Below.refl _ _ | assumption | refine Below.drew ?_ | refine Below.setCell ?_ (by first | omega | (simp <;> omega)) _ | refine Below.alloc ?_ (by first | omega | (simp <;> omega)) _ | refine below_drewN ?_ _))⟩, by simp [intOf]; omega⟩
        · rw [Hhsn.out]
          exact ((((Hg1.out.far (by simp; omega) _).far (by simp; omega) _).set 0 _).set 1 _).drew
        · exact ((((Hg0.out.far (by simp; omega) _).far (by simp; omega) _).far (by simp) _).far (by simp) _).drew
    · have hk1 : L.take k = L := List.take_of_length_le (by omega)
      have hk2 : T.take k = T := List.take_of_length_le (by have := Hhlen.out; omega)
      rw [hk1, hk2] at hblk
      generalize hS : sumAll L T = S at *
      obtain ⟨s1, s2⟩ := S
      have d1 : wr.cell? ⟨w.heap.size + 1, 0, none⟩ = some (.int .i64 s1) := hblk.cell 0
      have d2 : wr.cell? ⟨w.heap.size + 1, 1, none⟩ = some (.int .i64 s2) := hblk.cell 1
      have e1 : wr.cell? ⟨w.heap.size, 0, none⟩ = some (.int .i64 0) := hblk0.cell 0
      have e2 : wr.cell? ⟨w.heap.size, 1, none⟩ = some (.int .i64 0) := hblk0.cell 1
      have f1 := hblk0.frozen
      have Hhblk := Lib.hid hblk; clear hblk; have Hhblk0 := Lib.hid hblk0; clear hblk0; have Hhk1 := Lib.hid hk1; clear hk1; have Hhk2 := Lib.hid hk2; clear hk2; have HhS := Lib.hid hS; clear hS
      go_wp2
      exact ret_cell rfl rfl ((Hhblk0.out.set 0 _).set 1 _) Try.underlying36 rfl (by kernel_rfl) rfl ⟨by rw [HhS.out]; rfl, (hbel.setCell (by simp) _).setCell (by simp) _⟩

/-- Rows that were made. -/
def RowsOwn (w : World) (base : Nat) (vs : List Value) (L : List (List B2)) : Prop :=
  vs.length = L.length ∧ ∀ (i : Nat) (v : Value) (l : List B2), vs[i]? = some v → L[i]? = some l → w.ownsRow base 36 2 v l.length (flat l)
theorem RowsOwn.below {w w' : World} {base : Nat} {vs : List Value} {L : List (List B2)} (h : RowsOwn w base vs L) (hb : Below w.heap.size w w') : RowsOwn w' base vs L :=
  ⟨h.1, fun i v l h1 h2 => own_below (h.2 i v l h1 h2) hb (Nat.le_refl _)⟩
theorem RowsOwn.kept {w w' : World} {base n : Nat} {v : Value} {xs vs : List Value} {L : List (List B2)} (h : RowsOwn w base vs L) (hown : w.ownsRow base 25 1 v n xs) (hg : w.grownBy w' v.ownBlock) : RowsOwn w' base vs L :=
  ⟨h.1, fun i u l h1 h2 => (h.2 i u l h1 h2).kept hg (own_apart hown (h.2 i u l h1 h2) (by decide))⟩
theorem RowsOwn.snoc {w : World} {base : Nat} {vs : List Value} {L : List (List B2)} {v : Value} {l : List B2} (h : RowsOwn w base vs L) (hv : w.ownsRow base 36 2 v l.length (flat l)) : RowsOwn w base (vs ++ [v]) (L ++ [l]) := by
  refine ⟨by simp [h.1], fun i u m h1 h2 => ?_⟩
  rcases Nat.lt_trichotomy i vs.length with hi | hi | hi
  · rw [List.getElem?_append_left hi] at h1
    rw [List.getElem?_append_left (by rw [← h.1]; exact hi)] at h2
    exact h.2 i u m h1 h2
  · subst hi
    rw [List.getElem?_append_right (Nat.le_refl _)] at h1
    rw [h.1, List.getElem?_append_right (Nat.le_refl _)] at h2
    simp at h1 h2
    subst h1; subst h2
    exact hv
  · rw [List.getElem?_append_right (by omega), List.getElem?_eq_none (by simp; omega)] at h1
    cases h1
theorem rows_sl {w : World} {base : Nat} {e : TypeId} {v : Value} {vs : List Value} {L : List (List B2)} (h : w.ownsRow base e 1 v L.length vs) (hr : RowsOwn w base vs L) : Sl 1 (RSl 2 RPair) w w.heap.size v L := by
  refine Sl.of_own h fun i l hi => ?_
  have hlt : i < L.length := (List.getElem?_eq_some_iff.1 hi).1
  have hlt2 : i < vs.length := by rw [hr.1]; exact hlt
  refine ⟨vs[i], ?_, flat_sl (hr.2 i _ _ (List.getElem?_eq_getElem hlt2) hi)⟩
  rw [Nat.mul_one, List.drop_eq_getElem_cons hlt2]
  rfl

/-- What 'plain' comes to: rows that are few, read as they stand; or nil. -/
def plainOk (L : List (List B2)) : Bool := decide (L.length ≤ 5) && L.all fun l => decide (l.length ≤ 8)
theorem plainOk_few {L : List (List B2)} (h : plainOk L = true) : Few L := by
  unfold plainOk at h
  simp only [Bool.and_eq_true, decide_eq_true_eq, List.all_eq_true] at h
  exact h

theorem own_some {v : Value} (h : v.ownBlock ≠ none) : ∃ a n c, v = .slice (some a) n c := by
  cases v <;> simp [Value.ownBlock] at h
  case slice a n c =>
    cases a <;> simp at h
    exact ⟨_, _, _, rfl⟩

/-- What 'plain' hands back. -/
def PlainPost (L : List (List B2)) (w : World) (v : Value) : Prop :=
  (plainOk L = true → ∃ a n c, v = .slice (some a) n c ∧ Sl 1 (RSl 2 RPair) w w.heap.size v L) ∧ (plainOk L = false → v = .slice none 0 0)
set_option maxHeartbeats 1000000 in
theorem plain_calls (v : Value) (L : List (List B2)) (w : World) {B : Nat} (hB0 : B ≤ w.heap.size) (h : Sl 1 (RSl 2 RPair) w B v L) :
    Calls Try.prog 15 #[v] w fun e w' => (∃ v', e = .returned v' ∧ PlainPost L w' v') ∧ Below w.heap.size w w' := by
  obtain ⟨A, cap, rfl, hcap⟩ := h.form
  by_cases hl : L.length ≤ 5
  · have hl2 : (L.length : Int) ≤ 5 := by omega
    go_enter Try.func15, Try.ntmps15
    go_wp2
    go_loopw [3, 4] (fun out i wr => ∃ (k : Nat) (vs : List Value), k ≤ L.length ∧ i = .int .i64 k ∧ wr.ownsRow w.heap.size 25 1 out k vs ∧ out.ownBlock ≠ none ∧ RowsOwn wr w.heap.size vs (L.take k) ∧ (∀ l ∈ L.take k, l.length ≤ 8) ∧ Below w.heap.size w wr)
       (fun _ i _ => L.length - (intOf i).toNat)
    case atStart => exact ⟨0, [], by omega, rfl, World.ownsRow_made w #[] 0 (Nat.le_refl _) (by decide) rfl, by simp [Value.ownBlock], ⟨rfl, fun i v l h1 => by simp at h1⟩, by simp, (by repeat (first | exact Below.refl _ _ | assumption | refine Below.drew ?_ | refine Below.setCell ?_ (by first | omega | (simp <;> omega)) _ | refine Below.alloc ?_ (by first | omega | (simp <;> omega)) _ | refine below_drewN ?_ _))⟩
    case round =>
      obtain ⟨k, vs, hk, rfl, hown, hnn, hrows, hsm, hbel⟩ := hrel
      have hz := hbel.size
      by_cases hlt : k < L.length
      · obtain ⟨b, o, vr, rfl, hb, c1, hvr⟩ := (h.below (keeps_sl keeps_pair) (hbel.mono hB0)).sl_at hlt
        obtain ⟨A3, cap3, rfl, hcap3⟩ := hvr.form
        have htk : L.take (k + 1) = L.take k ++ [L[k]] := List.take_succ_eq_append_getElem hlt
        have hmem : L[k] ∈ L := List.getElem_mem hlt
        generalize hx : L[k] = x at *
        by_cases hx8 : x.length ≤ 8
        · have hx8' : (x.length : Int) ≤ 8 := by omega
          have Hh := Lib.hid h; clear h; have Hhx := Lib.hid hx; clear hx; have Hhtk := Lib.hid htk; clear htk; have Hhmem := Lib.hid hmem; clear hmem; have Hhown := Lib.hid hown; clear hown; have Hhnn := Lib.hid hnn; clear hnn; have Hhrows := Lib.hid hrows; clear hrows; have Hhsm := Lib.hid hsm; clear hsm; have Hhvr := Lib.hid hvr; clear hvr
          go_wp2_with fail
          refine (one_calls _ x _ (by omega) Hhvr.out (by omega)).mono ?_
          rintro e w1 ⟨⟨v', rfl, hv'⟩, hb1⟩
          obtain ⟨A4, cap4, rfl, hcap4⟩ := own_form hv'
          have hz1 := hb1.size
          have o1 := own_below Hhown.out hb1 (Nat.le_refl _)
          have hbel1 := below_call hbel hb1 (by omega)
          have hbA := hbel1.alloc (by omega) (.cells #[.slice A4 x.length cap4] 25)
          have Hhv' := Lib.hid hv'; clear hv'; have Ho1 := Lib.hid o1; clear o1
          go_wp2_with (at_builtin; refine append_block _ rfl (.tmp 21) (.tmp 27) 27 rfl w.heap.size info_row Try.underlying27 rfl (by omega) u3 k vs rfl (Ho1.out.alloc _) w1.heap.size [.slice A4 x.length cap4] rfl (Bk.new _ _ _) rfl (by simp [Value.oneCell']) (by omega) (by omega) (by simp; omega) ?_; intro v1 w2 hown1 hb2 hgr hat; have Hhown1 := Lib.hid hown1; clear hown1; have Hhgr := Lib.hid hgr; clear hgr; have Hhat := Lib.hid hat; clear hat; have hz2 : w1.heap.size + 1 ≤ w2.heap.size := by simpa using hb2.size)
          refine ⟨⟨k + 1, vs ++ [.slice A4 x.length cap4], by omega, rfl, Hhown1.out, ?_, ?_, ?_, hbA.trans hb2⟩, by simp [intOf]; omega⟩
          · rcases Hhat.out with h9 | h9 <;> rw [h9]
            · exact Hhnn.out
            · simp
          · rw [Hhtk.out]
            have r1 := Hhrows.out.below hb1
            have r2 := r1.snoc (own_base Hhv'.out hz)
            have r3 := r2.below (w' := w1.alloc (.cells #[.slice A4 x.length cap4] 25)) ((Below.refl _ _).alloc (Nat.le_refl _) _)
            exact r3.kept (Ho1.out.alloc _) Hhgr.out
          · rw [Hhtk.out]
            intro l hl
            rcases List.mem_append.1 hl with h9 | h9
            · exact Hhsm.out l h9
            · have : l = x := by simpa using h9
              rw [this]; exact hx8
        · have hbad : plainOk L = false := by
            unfold plainOk
            rw [Bool.and_eq_false_iff]
            exact .inr (List.all_eq_false.2 ⟨x, hmem, by simpa using hx8⟩)
          have hx8' : (8 : Int) < (x.length : Int) := by omega
          have Hhbad := Lib.hid hbad; clear hbad; have Hhx := Lib.hid hx; clear hx; have Hhtk := Lib.hid htk; clear htk; have Hhmem := Lib.hid hmem; clear hmem; have Hhown := Lib.hid hown; clear hown; have Hhnn := Lib.hid hnn; clear hnn; have Hhrows := Lib.hid hrows; clear hrows; have Hhsm := Lib.hid hsm; clear hsm; have Hhvr := Lib.hid hvr; clear hvr; have Hh := Lib.hid h; clear h
          go_wp2
          go_ret
          exact ⟨⟨_, rfl, ⟨fun h9 => absurd h9 (by rw [Hhbad.out]; exact Bool.false_ne_true), fun _ => rfl⟩⟩, hbel⟩
      · have hk1 : L.take k = L := List.take_of_length_le (by omega)
        have hkl : k = L.length := by omega
        rw [hk1] at hrows hsm
        have hok : plainOk L = true := by
          unfold plainOk
          simp only [Bool.and_eq_true, decide_eq_true_eq, List.all_eq_true]
          exact ⟨hl, hsm⟩
        rw [hkl] at hown
        have hsl := rows_sl hown hrows
        obtain ⟨a, n, c, hv⟩ := own_some hnn
        have Hhok := Lib.hid hok; clear hok; have Hhown := Lib.hid hown; clear hown; have Hhrows := Lib.hid hrows; clear hrows; have Hhsm := Lib.hid hsm; clear hsm; have Hh := Lib.hid h; clear h; have Hhnn := Lib.hid hnn; clear hnn; have Hhk1 := Lib.hid hk1; clear hk1; have Hhkl := Lib.hid hkl; clear hkl; have Hhsl := Lib.hid hsl; clear hsl; have Hhv := Lib.hid hv; clear hv
        go_wp2
        go_ret
        exact ⟨⟨_, rfl, ⟨fun _ => ⟨a, n, c, Hhv.out, Hhsl.out⟩, fun h9 => absurd h9 (by rw [Hhok.out]; simp)⟩⟩, hbel⟩
  · have hbad : plainOk L = false := by
      unfold plainOk
      rw [Bool.and_eq_false_iff]
      exact .inl (by simpa using hl)
    have hl2 : (5 : Int) < (L.length : Int) := by omega
    have Hhbad := Lib.hid hbad; clear hbad; have Hh := Lib.hid h; clear h
    go_enter Try.func15, Try.ntmps15
    go_wp2
    go_ret
    exact ⟨⟨_, rfl, ⟨fun h9 => absurd h9 (by rw [Hhbad.out]; exact Bool.false_ne_true), fun _ => rfl⟩⟩, (by repeat (first | exact Below.refl _ _ | assumption | refine Below.drew ?_ | refine Below.setCell ?_ (by first | omega | (simp <;> omega)) _ | refine Below.alloc ?_ (by first | omega | (simp <;> omega)) _ | refine below_drewN ?_ _))⟩
end Go.Proofs.Ytbhdfljdfjadnaa
