/- Walks: ring.Link. -/
import Derived.Test.YtckkpmjkajkkmaaGreatTJ
namespace Go.Mesh
def lastI (l : List Nat) : Int := match l.getLast? with
  | some c => c
  | none => -1
theorem lastI_snoc (l : List Nat) (c : Nat) : lastI (l ++ [c]) = c := by unfold lastI; simp
end Go.Mesh
namespace Go.Proofs.YtckkpmjkajkkmaaGreat
open Go Go.RowKit Go.Words Go.Mesh
attribute [local go_sem] Oper.semAt_some

def ivals (l : List Int) : List Value := l.map fun (x : Int) => .int .i64 x
theorem keepU_alloc {U : Nat → Prop} {w0 w : World} (h : Go.Canon.KeepU U w0 w) (hU : ∀ b, U b → b < w.heap.size) (o : Obj) : Go.Canon.KeepU U w0 (w.alloc o) := fun b hb => (Below.heap_alloc w o b (hU b hb)).trans (h b hb)
theorem keepU_grown {U : Nat → Prop} {w0 w w' : World} (h : Go.Canon.KeepU U w0 w) {row : Option Nat} (hg : w.grownBy w' row) (hU : ∀ b, U b → b < w.heap.size ∧ some b ≠ row) : Go.Canon.KeepU U w0 w' := fun b hb => (hg.block b (hU b hb).1 (hU b hb).2).trans (h b hb)

set_option maxRecDepth 20000 in
set_option maxHeartbeats 1000000 in
theorem link_calls {w : World} {B : Nat} {tv : Value} {N : Int} {T : List T3} (h : TabN w B tv N T) (hs : Surf N T) (v : Int) :
    Calls Tryz.prog 7 #[tv, .int .i64 v] w fun e w' => (∃ r, e = .returned r ∧ w'.ownsRow w.heap.size 3 1 r (linkAt T N v).length (ivals (linkAt T N v))) ∧ Below w.heap.size w w' := by
  refine (callsIn_wide (n := 6)).1 ?_
  refine callsIn_of_wp_marks Tryz.func7 rfl trivial ?_ rfl
  simp only [Tryz.ntmps7, List.size_toArray, List.length_cons, List.length_nil, Nat.reduceAdd, Nat.reduceSub, Array.replicate_succ, Array.replicate_zero, List.push_toArray, List.append_toArray, List.nil_append, List.cons_append]
  obtain ⟨t, rfl⟩ := h.form
  gi_wp2_with fail
  refine ⟨trivial, (callsIn_wide.2 (around_calls _ _ _ rfl)).mono ?_⟩
  rintro e w1 ⟨rfl, rfl⟩
  gi_wp2_with fail
  obtain ⟨gb, hgb⟩ : ∃ gb, gb = w.heap.size := ⟨_, rfl⟩
  rw [← hgb]
  obtain ⟨w0, hw0⟩ : ∃ w0, w0 = ((((w.alloc (.cells #[.pointer t] 26)).alloc (.cells #[.slice none 0 0] 30)).alloc (.cells #[.int .i64 (-1)] 3)).alloc (.cells #[.pointer t] 26)).alloc (.cells #[.int .i64 v] 3) := ⟨_, rfl⟩
  have hB1 : Below w.heap.size w w0 := by
    rw [hw0]; exact (((((Below.refl _ w).alloc (Nat.le_refl _) _).alloc (by simp) _).alloc (by simp; omega) _).alloc (by simp; omega) _).alloc (by simp; omega) _
  have b0 : Boxed w0 gb 26 (.pointer t) := by rw [hw0]; exact ((((boxed_new' hgb _ _).alloc _).alloc _).alloc _).alloc _
  have b1 : Boxed w0 (gb + 1) 30 (.slice none 0 0) := by rw [hw0]; exact (((boxed_new' (by simp [hgb]) _ _).alloc _).alloc _).alloc _
  have b2 : Boxed w0 (gb + 1 + 1) 3 (.int .i64 (-1)) := by rw [hw0]; exact ((boxed_new' (by simp [hgb]) _ _).alloc _).alloc _
  have b3 : Boxed w0 (gb + 1 + 1 + 1) 26 (.pointer t) := by rw [hw0]; exact (boxed_new' (by simp [hgb]) _ _).alloc _
  have b4 : Boxed w0 (gb + 1 + 1 + 1 + 1) 3 (.int .i64 v) := by rw [hw0]; exact boxed_new' (by simp [hgb]) _ _
  have hsz : w0.heap.size = gb + 5 := by rw [hw0]; simp [hgb]
  rw [← hw0]
  clear hw0
  have hle := h.le
  have hlt : gb ≤ w0.heap.size ∧ gb + 1 + 1 + 1 < w0.heap.size ∧ gb + 1 + 1 + 1 + 1 < w0.heap.size ∧ B ≤ gb ∧ gb + 5 ≤ w0.heap.size := by omega
  clear hsz hle
  have htab := h.below hB1 h.le
  have Hhgb := Lib.hid hgb; clear hgb; have Hh := Lib.hid h; clear h; have Hb4 := Lib.hid b4; clear b4
  refine wpIn_rangeFunc_ownF rfl (by decide) (gf := 37) (lb := #[.pointer (some ⟨gb + 1 + 1 + 1, 0, none⟩), .pointer (some ⟨gb + 1 + 1 + 1 + 1, 0, none⟩)]) rfl trivial (enters_of Tryz.func37 (by kernel_rfl) rfl)
    (around_stopsN 5 (by decide) (gb + 1 + 1 + 1) (gb + 1 + 1 + 1 + 1) gb B (.pointer t) N T v hs hlt.2.2.2.1 w0 hlt.2.1 hlt.2.2.1 hlt.1 b3.cell Hb4.out.cell htab) keepB_t (keepB_b hlt.1 hlt.2.1) (Below.refl _ _) (fun _ => rfl)
    (fun pre W => ((((∃ vv, Boxed W (gb + 1) 30 vv ∧ W.ownsRow (gb + 5) 3 1 vv pre.length (ivals (pre.map fun c => Mesh.vt T (nx c.1))) ∧ True) ∧ Boxed W gb 26 (.pointer t)) ∧ Boxed W (gb + 1 + 1) 3 (.int .i64 (lastI (pre.map (·.1))))) ∧ Boxed W (gb + 1 + 1 + 1) 26 (.pointer t)) ∧ Below gb w W ∧ gb + 5 ≤ W.heap.size)
    (fun _ _ _ => False)
    ?hI ?hIx ?h0
    (fun x => { tmps := #[.pointer t, .int .i64 v, .pointer (some ⟨gb, 0, none⟩), undef, .slice none 0 0, .pointer (some ⟨gb + 1, 0, none⟩), .pointer (some ⟨gb + 1 + 1, 0, none⟩), .int .i64 (x.1 : Int), .pointer t, .int .i64 v, .func (.func 37) #[] #[.pointer (some ⟨gb + 1 + 1 + 1, 0, none⟩), .pointer (some ⟨gb + 1 + 1 + 1 + 1, 0, none⟩)], .int .i64 (x.1 : Int), undef, undef, undef, undef, undef, undef, undef, undef, undef, undef, undef, undef, undef, undef, undef, undef, undef, undef, undef, undef, undef, undef, undef, undef, undef, undef], defers := [] }) ?assign ?body ?done ?stop
  case hI =>
    refine OwnFrom.and (OwnFrom.and (OwnFrom.and (OwnFrom.and (Own.from (holdsRow_own (gb + 5) (gb + 1) _ _ 1 (fun pre : List (Cor T) => pre.length) (fun pre : List (Cor T) => ivals (pre.map fun c => Mesh.vt T (nx c.1))) (fun _ _ => True)) _) (Own.from (boxed_own gb _ fun _ : List (Cor T) => Value.pointer t) _)) (Own.from (boxed_own (gb + 1 + 1) _ fun pre : List (Cor T) => Value.int .i64 (lastI (pre.map (·.1)))) _)) (Own.from (boxed_own (gb + 1 + 1 + 1) _ fun _ : List (Cor T) => Value.pointer t) _)) (OwnFrom.and (ownFrom_below (by rw [Hhgb.out]; exact Nat.le_refl _) hlt.1) ?_)
    exact fun _ A C row hs hg _ => Nat.le_trans hs hg.size
  case hIx => exact fun _ _ _ _ _ hs _ _ => hs
  case h0 =>
    exact ⟨⟨⟨⟨⟨_, b1, World.ownsRow_nil _ _ _ _, trivial⟩, b0⟩, b2⟩, b3⟩, by rw [Hhgb.out]; exact hB1, hlt.2.2.2.2⟩
  case assign =>
    intro l x W K hK
    gi_wp2
    exact hK
  case body =>
    rintro l pre x W ⟨⟨⟨⟨⟨vv, hv, hrow, -⟩, hb0⟩, hb2⟩, hb3⟩, hbl, hge⟩ hN
    have hc := hv.cell
    have hc0 := hb0.cell
    have hT : T ≠ [] := fun h9 => by have h8 := x.2; have h7 := congrArg List.length h9; simp only [List.length_nil] at h7; omega
    have htb : Tab W B (.pointer t) N T := (Hh.out.tab hT).below hbl hlt.2.2.2.1
    have hnx : Calls Tryz.prog 21 #[.pointer t, .int .i64 (x.1 : Int)] W.drew fun e w' => e = .returned (.int .i64 (nx x.1 : Int)) ∧ w' = W.drew := by
      have h9 := htb.below (Below.refl W.heap.size W).drew htb.le
      obtain ⟨g, vt, gm, vf, m, F, hg9, h8, _⟩ := h9
      rw [hg9]
      have := next_calls h8 (x.1 : Int)
      rw [tNext_at x.2] at this
      exact this
    have hvx : Calls Tryz.prog 20 #[.pointer t, .int .i64 (nx x.1 : Int)] W.drew fun e w' => e = .returned (.int .i64 (Mesh.vt T (nx x.1))) ∧ w' = W.drew := by
      have h9 := htb.below (Below.refl W.heap.size W).drew htb.le
      obtain ⟨g, vt, gm, vf, m, F, hg9, h8, _⟩ := h9
      rw [hg9]
      have := vertex_calls h8 (nx x.1 : Int)
      rw [tVert_at (nx_lt x.2)] at this
      exact this
    have hfew := hs.tmax
    have hsd : W.drew.heap.size = W.heap.size := rfl
    have Hhtb := Lib.hid htb; clear htb; have Hhnx := Lib.hid hnx; clear hnx; have Hhvx := Lib.hid hvx; clear hvx; have Hhrow := Lib.hid hrow; clear hrow
    gi_wp2_with fail
    refine (Go.Canon.wide_round l).region_last 8 [0, 1] (fun b => b = gb ∨ b = gb + 1) (.seg [0,1,2,3] (.alt 4 (.alt 5 (.alt 6 (.alt 7 (.alt 8 .fin .no) .no) .no) .no) .no)) (by kernel_rfl) mixed (by kernel_rfl) ?_
    refine Go.Canon.trm_seg ?_
    simp only [List.map_cons, List.map_nil, List.getD_cons_zero, List.getD_cons_succ]
    go_wp2_with fail
    refine Go.Canon.trm_to (Go.Canon.trm_one ?_)
    simp only [List.getD_cons_zero, List.getD_cons_succ]
    go_wp2_with fail
    refine Hhnx.out.mono ?_
    rintro e w' ⟨rfl, rfl⟩
    go_wp2_with fail
    refine Go.Canon.trm_end (fun _ _ => rfl) (Go.Canon.trm_one ?_)
    simp only [List.getD_cons_zero, List.getD_cons_succ]
    go_wp2_with fail
    refine Hhvx.out.mono ?_
    rintro e w' ⟨rfl, rfl⟩
    go_wp2_with fail
    refine Go.Canon.trm_end (fun _ _ => rfl) (Go.Canon.trm_one ?_)
    simp only [List.getD_cons_zero, List.getD_cons_succ]
    go_wp2_with fail
    refine Go.Canon.trm_end (fun b hb => Below.heap_alloc W _ b (by rcases hb with rfl | rfl <;> omega)) (Go.Canon.trm_one ?_)
    simp only [List.getD_cons_zero, List.getD_cons_succ]
    refine append_block _ rfl _ _ 30 rfl (gb + 5) infoInt Tryz.underlying30 rfl (by decide) vv pre.length _ rfl (own_below (Hhrow.out) (((Below.refl _ W).alloc (Nat.le_refl _) _).drew) (Nat.le_refl _)) W.heap.size [.int .i64 (Mesh.vt T (nx x.1))] rfl (Bk.new W 3 [.int .i64 (Mesh.vt T (nx x.1))]) rfl (by simp [Value.oneCell']) (by omega) (by decide) (by simp only [World.size_drew, World.size_alloc]; omega) ?_
    intro v' w1 hown' hb9 hgrow _
    obtain ⟨g', cap', rfl⟩ := ownsRow_succ hown'
    obtain ⟨hv1, hv2, hr2, hk2, hbb, hoth⟩ := own_append (W := W.drew) (tmp := .cells #[.int .i64 (Mesh.vt T (nx x.1))] 3) hv (by omega) Hhrow.out hge hown' hgrow
    have hc1 := hv1.cell
    have hf1 := hv1.frozen
    have hke : Go.Canon.KeepU (fun b => b = gb ∨ b = gb + 1) W.drew w1 := keepU_grown (w := (W.alloc (.cells #[.int .i64 (Mesh.vt T (nx x.1))] 3)).drew) (fun b hb => Below.heap_alloc W _ b (by rcases hb with rfl | rfl <;> omega)) hgrow (fun b hb => ⟨by simp only [World.size_drew, World.size_alloc]; rcases hb with rfl | rfl <;> omega, fun h9 => by have := (Hhrow.out.lt b h9.symm).1; rcases hb with rfl | rfl <;> omega⟩)
    have hb2' := hoth _ _ _ (by omega) (by omega) hb2
    have hb3' := hoth _ _ _ (by omega) (by omega) hb3
    have hb0' := hoth _ _ _ (by omega) (by omega) hb0
    refine Go.Canon.trm_end hke (Go.Canon.trm_one ?_)
    simp only [List.getD_cons_zero, List.getD_cons_succ]
    go_wp2_with fail
    refine Go.Canon.trm_last (Go.Canon.trm_fin (by rfl) (List.forall_mem_cons.2 ⟨.inl ⟨_, rfl, .inr rfl, by rw [World.cell?_drew, hc]; rfl⟩, List.forall_mem_cons.2 ⟨.inl ⟨_, rfl, .inl rfl, by rw [World.cell?_drew, hc0]; rfl⟩, fun _ h => by cases h⟩⟩) ?_)
    have hc2 := hb2'.cell
    have hf2 := hb2'.frozen
    gi_wp2_with fail
    have hr3 := hr2.kept (grownBy_setCell' _ (gb + 1 + 1) (.int .i64 (x.1 : Int))) (.inr fun h9 => by have := (hr2.lt _ h9).1; omega)
    have hb3'' := hb3'.other (B' := gb + 1 + 1) (by omega) (.int .i64 (x.1 : Int))
    refine ⟨((KeepsOthers.drew W).trans hk2).trans (KeepsOthers.setCell _ _ _), ⟨((Below.refl gb W).drew.trans (hbb gb (by omega))).setCell (p := ⟨gb + 1 + 1, 0, none⟩) (by show gb ≤ gb + 1 + 1; omega) _, hb3''.cell.trans hb3.cell.symm⟩, ⟨⟨⟨⟨_, hv2.other (by omega) _, ?_, trivial⟩, hb0'.other (by omega) _⟩, ?_⟩, hb3''⟩, ?_, ?_⟩
    · rw [List.length_append, List.map_append]
      simpa [ivals] using hr3
    · have := hb2'.set (.int .i64 (x.1 : Int))
      rw [List.map_append, List.map_cons, List.map_nil, lastI_snoc]
      exact this
    · exact hbl.trans (((Below.refl gb W).drew.trans (hbb gb (by omega))).setCell (p := ⟨gb + 1 + 1, 0, none⟩) (by show gb ≤ gb + 1 + 1; omega) _)
    · exact Nat.le_trans hge (((KeepsOthers.drew W).trans hk2).trans (KeepsOthers.setCell _ _ _)).size
  case done =>
    rintro D ys W hD hys ⟨⟨⟨⟨⟨vv, hv, hrow, -⟩, hb0⟩, hb2⟩, hb3⟩, hbl, hge⟩ hK
    have hc := hv.cell
    have hc0 := hb0.cell
    have hD' : gb + 5 ≤ D := by omega
    have hend : ∀ (W2 : World) (r : Value) (l : List Int), KeepsOthers W W2 → Below gb w W2 → W2.ownsRow (gb + 5) 3 1 r l.length (ivals l) → linkAt T N v = l →
        W2.heap[D]? = some (Obj.deferred (some [])) ∧ (W2.putObj D (.deferred none)).ownsRow w.heap.size 3 1 r (linkAt T N v).length (ivals (linkAt T N v)) ∧ Below w.heap.size w (W2.putObj D (.deferred none)) := by
      intro W2 r l hk hb ho he
      have hK2 := hk.same _ _ hK rfl
      rw [he]
      refine ⟨hK2, ?_, ?_⟩
      · rw [← Hhgb.out]
        exact ownsRow_putObj (own_base ho (by omega)) _ hK2 rfl
      · rw [← Hhgb.out]
        exact hb.trans (belowK_b (w := w0) hlt.1 W2 D _ _ hD hK2 rfl rfl)
    rcases List.eq_nil_or_concat ys with hy0 | ⟨pre, x, hy0⟩
    · subst hy0
      have hl : linkAt T N v = [] := by unfold linkAt; rw [← hys]; rfl
      obtain ⟨e1, e2, e3⟩ := hend W vv [] (KeepsOthers.refl W) hbl hrow hl
      have hc2 : W.cell? ⟨gb + 1 + 1, 0, none⟩ = some (.int .i64 (-1)) := hb2.cell
      have He1 := Lib.hid e1; clear e1; have He2 := Lib.hid e2; clear e2; have He3 := Lib.hid e3; clear e3; have Hhrow := Lib.hid hrow; clear hrow
      gi_wp2_with fail
      refine ⟨trivial, ?_⟩
      gi_wp2_with fail
      refine ⟨by simp, .inl ⟨_, _, rfl, run_takeDeferred hK, ?_⟩⟩
      refine ⟨_, results_tmp rfl _ _ _, ⟨_, rfl, ?_⟩, He3.out⟩
      exact He2.out
    · have hx : (ringAt T N v).getLast? = some x.1 := by rw [← hys, hy0]; simp
      clear hy0 pre
      have hlast : lastI (ys.map (·.1)) = (x.1 : Int) := by rw [hys]; unfold lastI; rw [hx]
      have hlk : linkAt T N v = ys.map (fun c => Mesh.vt T (nx c.1)) ++ (if aft T x.1 = none then [Mesh.vt T (pv x.1)] else []) := by
        unfold linkAt
        rw [hx, ← hys, List.map_map]
        rfl
      have hT : T ≠ [] := fun h9 => by have h8 := x.2; have h7 := congrArg List.length h9; simp only [List.length_nil] at h7; omega
      have htb : Tab W B (.pointer t) N T := (Hh.out.tab hT).below hbl hlt.2.2.2.1
      rw [hlast] at hb2
      have hc2 := hb2.cell
      have haf := after_calls htb hs x.1 x.2
      cases ha : aft T x.1 with
      | some d =>
        rw [ha] at haf hlk
        change Calls _ _ _ _ fun e w' => e = .returned (.int .i64 (d : Int)) ∧ _ at haf
        simp only [reduceCtorEq, if_false, List.append_nil] at hlk
        have Hhaf := Lib.hid haf; clear haf; have Hhrow := Lib.hid hrow; clear hrow; have Hhtb := Lib.hid htb; clear htb
        gi_wp2_with fail
        refine ⟨trivial, (callsIn_wide.2 Hhaf.out).mono ?_⟩
        rintro e W2 ⟨rfl, hb9⟩
        have hk9 := KeepsOthers.of_grownBy (grown_below hb9) (fun k o e => by cases e)
        have hrow2 := own_below Hhrow.out hb9 (Nat.le_refl _)
        have hbl2 := hbl.trans (hb9.mono (by omega))
        have hc9 : W2.cell? ⟨gb + 1, 0, none⟩ = some vv := (hb9.cell (p := ⟨gb + 1, 0, none⟩) (by show gb + 1 < _; omega)).trans hc
        obtain ⟨e1, e2, e3⟩ := hend W2 vv _ hk9 hbl2 (by rw [List.length_map]; exact hrow2) hlk
        have He2 := Lib.hid e2; clear e2; have He3 := Lib.hid e3; clear e3; have Hhrow2 := Lib.hid hrow2; clear hrow2; have Hhk9 := Lib.hid hk9; clear hk9; have Hhb9 := Lib.hid hb9; clear hb9
        gi_wp2_with fail
        refine ⟨by simp, .inl ⟨_, _, rfl, run_takeDeferred e1, ?_⟩⟩
        refine ⟨_, results_tmp rfl _ _ _, ⟨_, rfl, ?_⟩, He3.out⟩
        exact He2.out
      | none =>
        rw [ha] at haf hlk
        change Calls _ _ _ _ fun e w' => e = .returned (.int .i64 (-1)) ∧ _ at haf
        simp only [if_true] at hlk
        have Hhaf := Lib.hid haf; clear haf; have Hhrow := Lib.hid hrow; clear hrow; have Hhtb := Lib.hid htb; clear htb
        gi_wp2_with fail
        refine ⟨trivial, (callsIn_wide.2 Hhaf.out).mono ?_⟩
        rintro e W2 ⟨rfl, hb9⟩
        have hk9 := KeepsOthers.of_grownBy (grown_below hb9) (fun k o e => by cases e)
        have hrow2 := own_below Hhrow.out hb9 (Nat.le_refl _)
        have hbl2 := hbl.trans (hb9.mono (by omega))
        have hsz9 := hb9.size
        have hv9 : Boxed W2 (gb + 1) 30 vv := (hb9.block (gb + 1) (by omega)).trans hv
        have hb0_9 : Boxed W2 gb 26 (.pointer t) := (hb9.block gb (by omega)).trans hb0
        have hb2_9 : Boxed W2 (gb + 1 + 1) 3 (.int .i64 (x.1 : Int)) := (hb9.block (gb + 1 + 1) (by omega)).trans hb2
        have htb2 := Hhtb.out.below hb9 Hhtb.out.le
        have c1 := hv9.cell
        have c0 := hb0_9.cell
        have c2 := hb2_9.cell
        have hnx : Calls Tryz.prog 23 #[.pointer t, .int .i64 (x.1 : Int)] W2.drew fun e w' => e = .returned (.int .i64 (pv x.1 : Int)) ∧ w' = W2.drew := by
          have h9 := htb2.below (Below.refl W2.heap.size W2).drew htb2.le
          obtain ⟨g, vt, gm, vf, m, F, hg9, h8, _⟩ := h9
          rw [hg9]
          have := prev_calls h8 (x.1 : Int)
          rw [tPrev_at x.2] at this
          exact this
        have hvx : Calls Tryz.prog 20 #[.pointer t, .int .i64 (pv x.1 : Int)] W2.drew fun e w' => e = .returned (.int .i64 (Mesh.vt T (pv x.1))) ∧ w' = W2.drew := by
          have h9 := htb2.below (Below.refl W2.heap.size W2).drew htb2.le
          obtain ⟨g, vt, gm, vf, m, F, hg9, h8, _⟩ := h9
          rw [hg9]
          have := vertex_calls h8 (pv x.1 : Int)
          rw [tVert_at (pv_lt x.2)] at this
          exact this
        have hfew := hs.tmax
        have hlen9 : ys.length ≤ 8192 := by have := hs.ring_len v; rw [← hys, List.length_map] at this; omega
        have Hhtb2 := Lib.hid htb2; clear htb2; have Hhnx := Lib.hid hnx; clear hnx; have Hhvx := Lib.hid hvx; clear hvx; have Hhrow2 := Lib.hid hrow2; clear hrow2
        gi_wp2_with fail
        refine Go.Canon.wide_wide.region_last 8 [0, 1] (fun b => b = gb ∨ b = gb + 1) (.seg [0,1,2,3] (.alt 4 (.alt 5 (.alt 6 (.alt 7 (.alt 8 .fin .no) .no) .no) .no) .no)) (by kernel_rfl) mixed (by kernel_rfl) ?_
        refine Go.Canon.trm_seg ?_
        simp only [List.map_cons, List.map_nil, List.getD_cons_zero, List.getD_cons_succ]
        go_wp2_with fail
        refine Go.Canon.trm_to (Go.Canon.trm_one ?_)
        simp only [List.getD_cons_zero, List.getD_cons_succ]
        go_wp2_with fail
        refine Hhnx.out.mono ?_
        rintro e w' ⟨rfl, rfl⟩
        go_wp2_with fail
        refine Go.Canon.trm_end (fun _ _ => rfl) (Go.Canon.trm_one ?_)
        simp only [List.getD_cons_zero, List.getD_cons_succ]
        go_wp2_with fail
        refine Hhvx.out.mono ?_
        rintro e w' ⟨rfl, rfl⟩
        go_wp2_with fail
        refine Go.Canon.trm_end (fun _ _ => rfl) (Go.Canon.trm_one ?_)
        simp only [List.getD_cons_zero, List.getD_cons_succ]
        go_wp2_with fail
        refine Go.Canon.trm_end (fun b hb => Below.heap_alloc W2 _ b (by rcases hb with rfl | rfl <;> omega)) (Go.Canon.trm_one ?_)
        simp only [List.getD_cons_zero, List.getD_cons_succ]
        refine append_block _ rfl _ _ 30 rfl (gb + 5) infoInt Tryz.underlying30 rfl (by decide) vv ys.length _ rfl (own_below (Hhrow2.out) (((Below.refl _ W2).alloc (Nat.le_refl _) _).drew) (Nat.le_refl _)) W2.heap.size [.int .i64 (Mesh.vt T (pv x.1))] rfl (Bk.new W2 3 [.int .i64 (Mesh.vt T (pv x.1))]) rfl (by simp [Value.oneCell']) (by omega) (by decide) (by simp only [World.size_drew, World.size_alloc]; omega) ?_
        intro v' w1 hown' hb8 hgrow _
        obtain ⟨g', cap', rfl⟩ := ownsRow_succ hown'
        obtain ⟨hv1, hv2, hr2, hk2, hbb, hoth⟩ := own_append (W := W2.drew) (tmp := .cells #[.int .i64 (Mesh.vt T (pv x.1))] 3) hv9 (by omega) Hhrow2.out (by show gb + 5 ≤ W2.heap.size; omega) hown' hgrow
        have hc1 := hv1.cell
        have hf1 := hv1.frozen
        have hke : Go.Canon.KeepU (fun b => b = gb ∨ b = gb + 1) W2.drew w1 := keepU_grown (w := (W2.alloc (.cells #[.int .i64 (Mesh.vt T (pv x.1))] 3)).drew) (fun b hb => Below.heap_alloc W2 _ b (by rcases hb with rfl | rfl <;> omega)) hgrow (fun b hb => ⟨by simp only [World.size_drew, World.size_alloc]; rcases hb with rfl | rfl <;> omega, fun h9 => by have := (Hhrow2.out.lt b h9.symm).1; rcases hb with rfl | rfl <;> omega⟩)
        refine Go.Canon.trm_end hke (Go.Canon.trm_one ?_)
        simp only [List.getD_cons_zero, List.getD_cons_succ]
        go_wp2_with fail
        refine Go.Canon.trm_last (Go.Canon.trm_fin (by rfl) (List.forall_mem_cons.2 ⟨.inl ⟨_, rfl, .inr rfl, by rw [World.cell?_drew, c1]; rfl⟩, List.forall_mem_cons.2 ⟨.inl ⟨_, rfl, .inl rfl, by rw [World.cell?_drew, c0]; rfl⟩, fun _ h => by cases h⟩⟩) ?_)
        have c9 := hv2.cell
        obtain ⟨e1, e2, e3⟩ := hend (w1.setCell ⟨gb + 1, 0, none⟩ (.slice (some ⟨g', 0, none⟩) (ys.length + 1) cap')) (.slice (some ⟨g', 0, none⟩) (ys.length + 1) cap') _ (hk9.trans ((KeepsOthers.drew W2).trans hk2)) (hbl2.trans ((Below.refl gb W2).drew.trans (hbb gb (by omega)))) (by rw [List.length_append, List.length_map]; simpa [ivals] using hr2) hlk
        have He2 := Lib.hid e2; clear e2; have He3 := Lib.hid e3; clear e3; have Hhk9 := Lib.hid hk9; clear hk9; have Hhb9 := Lib.hid hb9; clear hb9; have Hhk2 := Lib.hid hk2; clear hk2; have Hhr2 := Lib.hid hr2; clear hr2; have Hhbb := Lib.hid hbb; clear hbb; have Hhoth := Lib.hid hoth; clear hoth; have Hhb8 := Lib.hid hb8; clear hb8; have Hhgrow := Lib.hid hgrow; clear hgrow; have Hhown' := Lib.hid hown'; clear hown'
        gi_wp2_with fail
        refine ⟨by simp, .inl ⟨_, _, rfl, run_takeDeferred e1, ?_⟩⟩
        refine ⟨_, results_tmp rfl _ _ _, ⟨_, rfl, ?_⟩, He3.out⟩
        exact He2.out
  case stop =>
    rintro D c pre W _ _ h _
    exact h.elim
end Go.Proofs.YtckkpmjkajkkmaaGreat
