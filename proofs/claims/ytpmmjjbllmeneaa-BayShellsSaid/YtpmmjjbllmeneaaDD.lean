/- Walks: bay's search, the meeting of one triangle. -/
import Derived.Test.YtpmmjjbllmeneaaDC
namespace Go.Mesh
def rSt (st : List Int) (x : Nat) (step : Int) : List Int := if st.getD x 0 < 0 then st.set x step else st
def rNr (st nr : List Int) (x : Nat) (step seed : Int) : List Int := if st.getD x 0 < 0 then nr.set x seed else if st.getD x 0 = step then nr.set x (min (nr.getD x 0) seed) else nr
def rRow (st : List Int) (row : List Nat) (x : Nat) : List Nat := if st.getD x 0 < 0 then row ++ [x] else row
end Go.Mesh
namespace Go.Proofs.Ytpmmjjbllmeneaa
open Go Go.RowKit Go.Words Go.Mesh

/-- The memory of a search: the boxes of its three lists, and the lists. -/
structure FM (w : World) (b0 gs gn b7 n : Nat) (st nr : List Int) (row : List Nat) : Prop where
  b4 : Boxed w b0 28 (.slice (some ⟨gs, 0, none⟩) n n)
  b5 : Boxed w (b0 + 1) 28 (.slice (some ⟨gn, 0, none⟩) n n)
  s : Bk w gs 3 (ivals st)
  r : Bk w gn 3 (ivals nr)
  row : ∃ rv, Boxed w b7 28 rv ∧ w.ownsRow (b7 + 1) 3 1 rv row.length (nvals row)
  o1 : b0 + 1 < gs
  o2 : gs < gn
  o3 : gn < b7
  o4 : b7 < w.heap.size
theorem FM.below {w w' : World} {b0 gs gn b7 n : Nat} {st nr : List Int} {row : List Nat} (h : FM w b0 gs gn b7 n st nr row) (hb : Below w.heap.size w w') : FM w' b0 gs gn b7 n st nr row := by
  have h1 := h.o1; have h2 := h.o2; have h3 := h.o3; have h4 := h.o4
  obtain ⟨rv, r1, r2⟩ := h.row
  exact ⟨(hb.block _ (by omega)).trans h.b4, (hb.block _ (by omega)).trans h.b5, h.s.below hb (by omega), h.r.below hb (by omega), ⟨rv, (hb.block _ h4).trans r1, own_below r2 hb (Nat.le_refl _)⟩, h1, h2, h3, by have := hb.size; omega⟩
theorem ivals_at {l : List Int} {i : Nat} {x : Int} (h : l[i]? = some x) : (ivals l)[i]? = some (.int .i64 x) := by unfold ivals; rw [List.getElem?_map, h]; rfl
theorem ivals_set (l : List Int) (i : Nat) (x : Int) : (ivals l).set i (.int .i64 x) = ivals (l.set i x) := by unfold ivals; rw [List.map_set]
theorem own_setbox {w : World} {b7 base size n : Nat} {e : TypeId} {v u : Value} {xs : List Value} (h : w.ownsRow base e size v n xs) (hb : b7 < base) : (w.setCell ⟨b7, 0, none⟩ u).ownsRow base e size v n xs :=
  h.kept (row := some b7) ⟨rfl, rfl, rfl, (KeepsWalks.setCell w _ _).size, fun b _ hbb => Below.heap_setCell _ _ _ b (fun e => hbb (by rw [e]))⟩ (.inr fun e => by have := (h.lt _ e).1; omega)

theorem FM.drew {w : World} {b0 gs gn b7 n : Nat} {st nr : List Int} {row : List Nat} (h : FM w b0 gs gn b7 n st nr row) : FM w.drew b0 gs gn b7 n st nr row := h.below (Below.refl _ _).drew
theorem FM.setS {w : World} {b0 gs gn b7 n : Nat} {st nr : List Int} {row : List Nat} (h : FM w b0 gs gn b7 n st nr row) (x : Nat) (v : Int) : FM (w.setCell ⟨gs, x, none⟩ (.int .i64 v)) b0 gs gn b7 n (st.set x v) nr row := by
  have h1 := h.o1; have h2 := h.o2; have h3 := h.o3; have h4 := h.o4
  have hk : ∀ b, b ≠ gs → (w.setCell ⟨gs, x, none⟩ (.int .i64 v)).heap[b]? = w.heap[b]? := fun b hb => Below.heap_setCell _ _ _ b hb
  obtain ⟨rv, r1, r2⟩ := h.row
  refine ⟨(hk _ (by omega)).trans h.b4, (hk _ (by omega)).trans h.b5, by rw [← ivals_set]; exact h.s.set x _, (hk _ (by omega)).trans h.r, ⟨rv, (hk _ (by omega)).trans r1, ?_⟩, h1, h2, h3, Nat.lt_of_lt_of_le h4 (KeepsWalks.setCell w _ _).size⟩
  exact r2.kept (row := some gs) ⟨rfl, rfl, rfl, (KeepsWalks.setCell w _ _).size, fun b _ hbb => Below.heap_setCell _ _ _ b (fun e => hbb (by rw [e]))⟩ (.inr fun e => by have := (r2.lt _ e).1; omega)
theorem FM.setN {w : World} {b0 gs gn b7 n : Nat} {st nr : List Int} {row : List Nat} (h : FM w b0 gs gn b7 n st nr row) (x : Nat) (v : Int) : FM (w.setCell ⟨gn, x, none⟩ (.int .i64 v)) b0 gs gn b7 n st (nr.set x v) row := by
  have h1 := h.o1; have h2 := h.o2; have h3 := h.o3; have h4 := h.o4
  have hk : ∀ b, b ≠ gn → (w.setCell ⟨gn, x, none⟩ (.int .i64 v)).heap[b]? = w.heap[b]? := fun b hb => Below.heap_setCell _ _ _ b hb
  obtain ⟨rv, r1, r2⟩ := h.row
  refine ⟨(hk _ (by omega)).trans h.b4, (hk _ (by omega)).trans h.b5, (hk _ (by omega)).trans h.s, by rw [← ivals_set]; exact h.r.set x _, ⟨rv, (hk _ (by omega)).trans r1, ?_⟩, h1, h2, h3, Nat.lt_of_lt_of_le h4 (KeepsWalks.setCell w _ _).size⟩
  exact r2.kept (row := some gn) ⟨rfl, rfl, rfl, (KeepsWalks.setCell w _ _).size, fun b _ hbb => Below.heap_setCell _ _ _ b (fun e => hbb (by rw [e]))⟩ (.inr fun e => by have := (r2.lt _ e).1; omega)
/-- What is appended, and kept in its box. -/
theorem FM.setR {w w' : World} {b0 gs gn b7 n : Nat} {st nr : List Int} {row row' : List Nat} {v : Value} (h : FM w b0 gs gn b7 n st nr row) (hb : Below (b7 + 1) w w') (hown : w'.ownsRow (b7 + 1) 3 1 v row'.length (nvals row')) :
    FM (w'.setCell ⟨b7, 0, none⟩ v) b0 gs gn b7 n st nr row' := by
  have h1 := h.o1; have h2 := h.o2; have h3 := h.o3; have h4 := h.o4
  have hk : ∀ b, b < b7 → (w'.setCell ⟨b7, 0, none⟩ v).heap[b]? = w.heap[b]? := fun b hbb => (Below.heap_setCell _ _ _ b (by simp only; omega)).trans (hb.block b (by omega))
  obtain ⟨rv, r1, _⟩ := h.row
  have r3 : Boxed w' b7 28 rv := (hb.block _ (by omega)).trans r1
  refine ⟨(hk _ (by omega)).trans h.b4, (hk _ (by omega)).trans h.b5, (hk _ (by omega)).trans h.s, (hk _ (by omega)).trans h.r, ⟨v, r3.set v, own_setbox hown (by omega)⟩, h1, h2, h3, Nat.lt_of_lt_of_le (Nat.lt_of_lt_of_le h4 (by have := hb.size; exact this)) (KeepsWalks.setCell w' _ _).size⟩

set_option maxRecDepth 20000 in
set_option maxHeartbeats 1000000 in
theorem reach_calls {w : World} {b0 gs gn b7 n : Nat} {st nr : List Int} {row : List Nat} (h : FM w b0 gs gn b7 n st nr row) (hls : st.length = n) (hln : nr.length = n) (hr : row.length < 1000000) (x : Nat) (hx : x < n) (step seed : Int) :
    Calls Try.prog 35 #[.int .i64 (x : Int), .int .i64 step, .int .i64 seed, .pointer (some ⟨b0, 0, none⟩), .pointer (some ⟨b0 + 1, 0, none⟩), .pointer (some ⟨b7, 0, none⟩)] w fun e w' =>
      e = .returned (.tuple #[]) ∧ FM w' b0 gs gn b7 n (rSt st x step) (rNr st nr x step seed) (rRow st row x) ∧ Below b0 w w' := by
  have h1 := h.o1; have h2 := h.o2; have h3 := h.o3; have h4 := h.o4
  have c4 := h.b4.cell
  have c5 := h.b5.cell
  obtain ⟨sx, hsx⟩ : ∃ sx, st[x]? = some sx := ⟨_, List.getElem?_eq_getElem (by omega)⟩
  obtain ⟨nx, hnx⟩ : ∃ nx, nr[x]? = some nx := ⟨_, List.getElem?_eq_getElem (by omega)⟩
  have gsx : st.getD x 0 = sx := by rw [List.getD_eq_getElem?_getD, hsx]; rfl
  have gnx : nr.getD x 0 = nx := by rw [List.getD_eq_getElem?_getD, hnx]; rfl
  have cs : w.cell? ⟨gs, x, none⟩ = some (.int .i64 sx) := (h.s.cell x).trans (ivals_at hsx)
  have cn : w.cell? ⟨gn, x, none⟩ = some (.int .i64 nx) := (h.r.cell x).trans (ivals_at hnx)
  have fs := h.s.frozen x
  have fn := h.r.frozen x
  have hxi : (x : Int) < (n : Int) := by omega
  unfold rSt rNr rRow
  rw [gsx, gnx]
  have k5 : ∀ (wz : World) (g i : Nat) (u : Value), g ≠ b0 + 1 → (wz.setCell ⟨g, i, none⟩ u).heap[b0 + 1]? = wz.heap[b0 + 1]? := fun wz g i u hg => Below.heap_setCell _ _ _ _ (fun e => hg e.symm)
  by_cases hneg : sx < 0
  · rw [if_pos hneg, if_pos hneg, if_pos hneg]
    have hf2 := ((h.setS x step).setN x seed).drew
    have hbel : Below b0 w ((w.setCell ⟨gs, x, none⟩ (.int .i64 step)).setCell ⟨gn, x, none⟩ (.int .i64 seed)).drew := (((Below.refl b0 w).setCell (p := ⟨gs, x, none⟩) (by show b0 ≤ gs; omega) _).setCell (p := ⟨gn, x, none⟩) (by show b0 ≤ gn; omega) _).drew
    have Hhls := Lib.hid hls; clear hls; have Hhln := Lib.hid hln; clear hln; have Hhsx := Lib.hid hsx; clear hsx; have Hhnx := Lib.hid hnx; clear hnx; have Hgsx := Lib.hid gsx; clear gsx; have Hgnx := Lib.hid gnx; clear gnx; have Hh := Lib.hid h; clear h; have Hhf2 := Lib.hid hf2; clear hf2; have Hk5 := Lib.hid k5; clear k5; have Hhbel := Lib.hid hbel; clear hbel
    go_enter Try.func35, Try.ntmps35
    go_wp2_with fail
    refine Go.Canon.wp_region_tree [2] (fun b => b = b0 + 1) (.seg [0,1,2,3,4,5,6] (.alt 7 (.seg [8] (.alt 9 .fin .no)) .no)) mixed (by kernel_rfl) ?_
    refine Go.Canon.tr_seg ?_
    simp only [List.map_cons, List.map_nil, List.getD_cons_zero, List.getD_cons_succ]
    go_wp2_with fail
    refine Go.Canon.tr_to (Go.Canon.tr_one ?_)
    simp only [List.getD_cons_zero, List.getD_cons_succ]
    go_wp2_with fail
    refine Go.Canon.tr_end (fun b hb => by subst hb; exact Hk5.out _ _ _ _ (by omega)) (Go.Canon.tr_seg ?_)
    simp only [List.map_cons, List.map_nil, List.getD_cons_zero, List.getD_cons_succ]
    go_wp2_with fail
    refine Go.Canon.tr_to (Go.Canon.tr_one ?_)
    simp only [List.getD_cons_zero, List.getD_cons_succ]
    go_wp2_with fail
    refine Go.Canon.tr_end (fun b hb => by subst hb; exact (Hk5.out _ _ _ _ (by omega)).trans (Hk5.out _ _ _ _ (by omega))) (Go.Canon.tr_fin (by rfl) (List.forall_mem_cons.2 ⟨.inl ⟨_, rfl, rfl, by rw [World.cell?_drew, c5]; rfl⟩, fun _ h => by cases h⟩) ?_)
    have hf2 := Hhf2.out
    have hbel := Hhbel.out
    clear Hhf2 Hhbel c4 c5 cs cn fs fn
    generalize ((w.setCell ⟨gs, x, none⟩ (.int .i64 step)).setCell ⟨gn, x, none⟩ (.int .i64 seed)).drew = w2 at *
    have c4 := hf2.b4.cell
    have c5 := hf2.b5.cell
    obtain ⟨rv, r1, r2⟩ := hf2.row
    have c7 := r1.cell
    have f7 := r1.frozen
    obtain ⟨A7, cap7, rfl, hc7⟩ := own_form r2
    have hz2 := hf2.o4
    have hnv : nvals row ++ [.int .i64 (x : Int)] = nvals (row ++ [x]) := by unfold nvals; rw [List.map_append]; rfl
    have hnl : row.length + 1 = (row ++ [x]).length := by simp
    have hsx2 : (st.set x step)[x]? = some step := List.getElem?_set_self (by have := Hhls.out; omega)
    have hnx2 : (nr.set x seed)[x]? = some seed := List.getElem?_set_self (by have := Hhln.out; omega)
    have hend : (nr.set x seed).set x seed = nr.set x seed := by rw [List.set_set]
    have Hhf2 := Lib.hid hf2; clear hf2; have Hr2 := Lib.hid r2; clear r2; have Hr1 := Lib.hid r1; clear r1; have Hhbel := Lib.hid hbel; clear hbel; have Hhnv := Lib.hid hnv; clear hnv; have Hhnl := Lib.hid hnl; clear hnl; have Hhsx2 := Lib.hid hsx2; clear hsx2; have Hhnx2 := Lib.hid hnx2; clear hnx2; have Hhend := Lib.hid hend; clear hend
    go_wp2_with (at_builtin; refine append_block _ rfl (.tmp 22) (.tmp 24) 28 rfl (b7 + 1) info_int Try.underlying28 rfl (by decide) _ row.length (nvals row) rfl (Hr2.out.alloc _) w2.heap.size [.int .i64 (x : Int)] rfl (Bk.new _ _ _) rfl (by simp [Value.oneCell']) (by omega) (by omega) (by simp; omega) ?_; intro v1 w5 hown5 hb5 _ _; obtain ⟨g9, cap9, rfl⟩ := ownsRow_succ hown5; rw [Hhnv.out, Hhnl.out] at hown5; have hbb : Below (b7 + 1) w2 w5 := ((Below.refl (b7 + 1) w2).alloc hz2 _).trans hb5; have hf5 := Hhf2.out.setR hbb hown5; have hf6 := (hf5.setN x seed).drew; rw [Hhend.out] at hf6; have hbel6 : Below b0 w ((w5.setCell ⟨b7, 0, none⟩ (.slice (some ⟨g9, 0, none⟩) (row ++ [x]).length cap9)).setCell ⟨gn, x, none⟩ (.int .i64 seed)).drew := (((Hhbel.out.trans (hbb.mono (by omega))).setCell (p := ⟨b7, 0, none⟩) (by show b0 ≤ b7; omega) _).setCell (p := ⟨gn, x, none⟩) (by show b0 ≤ gn; omega) _).drew; have r5 : Boxed w5 b7 28 _ := (hbb.block b7 (by omega)).trans Hr1.out; have f7 := r5.frozen; have c7b := r5.cell; rw [← Hhnl.out] at *; have c4' := hf5.b4.cell; have c5' := hf5.b5.cell; have cs' := (hf5.s.cell x).trans (ivals_at Hhsx2.out); have cn' := (hf5.r.cell x).trans (ivals_at Hhnx2.out); have fn' := hf5.r.frozen x; have Hhown5 := Lib.hid hown5; clear hown5; have Hhf5 := Lib.hid hf5; clear hf5; have Hhf6 := Lib.hid hf6; clear hf6; have Hhbel6 := Lib.hid hbel6; clear hbel6; have Hhbb := Lib.hid hbb; clear hbb; have Hr5 := Lib.hid r5; clear r5)
    refine Go.Canon.wp_region_tree [0] (fun b => b = b0 + 1) (.seg [0,1,2,3,4,5,6] (.alt 7 (.seg [8] (.alt 9 .fin .no)) .no)) mixed (by kernel_rfl) ?_
    refine Go.Canon.tr_seg ?_
    simp only [List.map_cons, List.map_nil, List.getD_cons_zero, List.getD_cons_succ]
    go_wp2_with fail
    refine Go.Canon.tr_to (Go.Canon.tr_one ?_)
    simp only [List.getD_cons_zero, List.getD_cons_succ]
    go_wp2_with fail
    refine Go.Canon.tr_end (fun _ _ => rfl) (Go.Canon.tr_seg ?_)
    simp only [List.map_cons, List.map_nil, List.getD_cons_zero, List.getD_cons_succ]
    go_wp2_with fail
    refine Go.Canon.tr_to (Go.Canon.tr_one ?_)
    simp only [List.getD_cons_zero, List.getD_cons_succ]
    go_wp2_with fail
    refine Go.Canon.tr_end (fun b hb => by subst hb; exact Hk5.out _ _ _ _ (by omega)) (Go.Canon.tr_fin (by rfl) (List.forall_mem_cons.2 ⟨.inl ⟨_, rfl, rfl, by rw [World.cell?_drew, c5']; rfl⟩, fun _ h => by cases h⟩) ?_)
    go_wp2_with fail
    refine bodyPost_end (results_none rfl _ _ _) rfl ?_
    exact ⟨rfl, Hhf6.out, Hhbel6.out⟩
  · rw [if_neg hneg, if_neg hneg, if_neg hneg]
    by_cases hsp : sx = step
    · rw [if_pos hsp]
      subst hsp
      have hf6 := (h.setN x (min nx seed)).drew
      have hbel6 : Below b0 w (w.setCell ⟨gn, x, none⟩ (.int .i64 (min nx seed))).drew := ((Below.refl b0 w).setCell (p := ⟨gn, x, none⟩) (by show b0 ≤ gn; omega) _).drew
      have c5' := c5
      have Hhls := Lib.hid hls; clear hls; have Hhln := Lib.hid hln; clear hln; have Hhsx := Lib.hid hsx; clear hsx; have Hhnx := Lib.hid hnx; clear hnx; have Hgsx := Lib.hid gsx; clear gsx; have Hgnx := Lib.hid gnx; clear gnx; have Hh := Lib.hid h; clear h; have Hk5 := Lib.hid k5; clear k5; have Hhf6 := Lib.hid hf6; clear hf6; have Hhbel6 := Lib.hid hbel6; clear hbel6
      go_enter Try.func35, Try.ntmps35
      go_wp2_with fail
      refine Go.Canon.wp_region_tree [0] (fun b => b = b0 + 1) (.seg [0,1,2,3,4,5,6] (.alt 7 (.seg [8] (.alt 9 .fin .no)) .no)) mixed (by kernel_rfl) ?_
      refine Go.Canon.tr_seg ?_
      simp only [List.map_cons, List.map_nil, List.getD_cons_zero, List.getD_cons_succ]
      go_wp2_with fail
      refine Go.Canon.tr_to (Go.Canon.tr_one ?_)
      simp only [List.getD_cons_zero, List.getD_cons_succ]
      go_wp2_with fail
      refine Go.Canon.tr_end (fun _ _ => rfl) (Go.Canon.tr_seg ?_)
      simp only [List.map_cons, List.map_nil, List.getD_cons_zero, List.getD_cons_succ]
      go_wp2_with fail
      refine Go.Canon.tr_to (Go.Canon.tr_one ?_)
      simp only [List.getD_cons_zero, List.getD_cons_succ]
      go_wp2_with fail
      refine Go.Canon.tr_end (fun b hb => by subst hb; exact Hk5.out _ _ _ _ (by omega)) (Go.Canon.tr_fin (by rfl) (List.forall_mem_cons.2 ⟨.inl ⟨_, rfl, rfl, by rw [World.cell?_drew, c5']; rfl⟩, fun _ h => by cases h⟩) ?_)
      go_wp2_with fail
      refine bodyPost_end (results_none rfl _ _ _) rfl ?_
      exact ⟨rfl, Hhf6.out, Hhbel6.out⟩
    · rw [if_neg hsp]
      have hspb : (sx == step) = false := by simpa using hsp
      have Hhls := Lib.hid hls; clear hls; have Hhln := Lib.hid hln; clear hln; have Hhsx := Lib.hid hsx; clear hsx; have Hhnx := Lib.hid hnx; clear hnx; have Hgsx := Lib.hid gsx; clear gsx; have Hgnx := Lib.hid gnx; clear gnx; have Hh := Lib.hid h; clear h; have Hk5 := Lib.hid k5; clear k5
      go_enter Try.func35, Try.ntmps35
      go_wp2_with fail
      refine bodyPost_end (results_none rfl _ _ _) rfl ?_
      exact ⟨rfl, Hh.out, Below.refl _ _⟩
end Go.Proofs.Ytpmmjjbllmeneaa
