/- Walks: ref12's V, Next, Prev, Facing, Opp. -/
import Derived.Test.YtckkpmjkajkkmaaBP
namespace Go.Proofs.Ytckkpmjkajkkmaa
open Go Go.RowKit Go.Words Go.Mesh

set_option maxRecDepth 20000 in
theorem v12_calls {w : World} {B : Nat} {sv : Value} {N : Int} {T : List T3} (hT : Sl 3 RTri w B sv T) (hB0 : B ≤ w.heap.size) (hfew : T.length ≤ 8192) (c : Nat) (hc : c < 3 * T.length) :
    Calls Try.prog 68 #[.agg #[.int .i64 N, sv], .int .i64 (c : Int)] w fun e w' => e = .returned (.int .i64 (Mesh.vt T c)) ∧ Below w.heap.size w w' := by
  obtain ⟨A, cap, rfl, hcap⟩ := hT.form
  obtain ⟨b, o, rfl, hb, hcell⟩ := tri_cells hT (i := c / 3) (by omega)
  have hcc := hcell (c % 3) (by omega)
  rw [vt_at] at hcc
  have hb1 := (Below.refl w.heap.size w).alloc (Nat.le_refl _) (.cells #[.int .i64 N, .slice (some ⟨b, o, none⟩) T.length cap] 24)
  have hbw : b < w.heap.size := by omega
  generalize Mesh.vt T c = x at *
  have HhT := Lib.hid hT; clear hT; have Hhcell := Lib.hid hcell; clear hcell
  go_enter Try.func68, Try.ntmps68
  go_wp2
  go_ret
  exact ⟨rfl, hb1⟩
set_option maxRecDepth 20000 in
theorem next12_calls (w : World) (c : Nat) (hc : c < 1000000) : Calls Try.prog 69 #[.int .i64 (c : Int)] w fun e w' => e = .returned (.int .i64 (nx c : Int)) ∧ w' = w := by
  have hn : (nx c : Int) = (c : Int) - (c : Int) % 3 + ((c : Int) + 1) % 3 := by unfold nx; omega
  rw [hn]
  clear hn
  go_enter Try.func69, Try.ntmps69
  go_wp2
  go_ret
  exact ⟨ret_int (by omega), rfl⟩
set_option maxRecDepth 20000 in
theorem prev12_calls (w : World) (c : Nat) (hc : c < 1000000) : Calls Try.prog 70 #[.int .i64 (c : Int)] w fun e w' => e = .returned (.int .i64 (pv c : Int)) ∧ w' = w := by
  have hn : (pv c : Int) = (c : Int) - (c : Int) % 3 + ((c : Int) + 2) % 3 := by unfold pv; omega
  rw [hn]
  clear hn
  go_enter Try.func70, Try.ntmps70
  go_wp2
  go_ret
  exact ⟨ret_int (by omega), rfl⟩
set_option maxRecDepth 20000 in
set_option maxHeartbeats 1000000 in
theorem facing12_calls {w : World} {B : Nat} {sv : Value} {N : Int} {T : List T3} (hT : Sl 3 RTri w B sv T) (hB0 : B ≤ w.heap.size) (hfew : T.length ≤ 8192) (a b : Int) :
    Calls Try.prog 88 #[.agg #[.int .i64 N, sv], .int .i64 a, .int .i64 b] w fun e w' => e = .returned (.int .i64 (oi (facing T (a, b)))) ∧ Below w.heap.size w w' := by
  obtain ⟨A, cap, rfl, hcap⟩ := hT.form
  have hbox := Bk.new w 24 [.int .i64 N, .slice A T.length cap]
  have hb1 := (Below.refl w.heap.size w).alloc (Nat.le_refl _) (.cells #[.int .i64 N, .slice A T.length cap] 24)
  have hTA := hT.below keeps_tri (hb1.mono hB0)
  have hle : B ≤ (w.alloc (.cells #[.int .i64 N, .slice A T.length cap] 24)).heap.size := by rw [World.size_alloc]; omega
  have c0 := hbox.cell 0
  have c1 := hbox.cell 1
  simp only [List.getElem?_cons_zero, List.getElem?_cons_succ] at c0 c1
  have hz0 : w.heap.size < (w.alloc (.cells #[.int .i64 N, .slice A T.length cap] 24)).heap.size := by rw [World.size_alloc]; omega
  generalize hw0 : w.alloc (.cells #[.int .i64 N, .slice A T.length cap] 24) = w0 at *
  have hv := fun wz (hz : Sl 3 RTri wz B (.slice A T.length cap) T) (hz2 : B ≤ wz.heap.size) c hc => v12_calls (N := N) hz hz2 hfew c hc
  have HhT := Lib.hid hT; clear hT; have HhTA := Lib.hid hTA; clear hTA; have Hhbox := Lib.hid hbox; clear hbox; have Hhv := Lib.hid hv; clear hv
  go_enter Try.func88, Try.ntmps88
  go_wp2_with fail
  clear hw0
  go_loopw [7] (fun i wr => ∃ k : Nat, k ≤ 3 * T.length ∧ i = .int .i64 k ∧ (∀ c, c < k → eg T c ≠ (a, b)) ∧ Below w0.heap.size w0 wr) (fun i _ => 3 * T.length - (intOf i).toNat)
  case atStart => exact ⟨0, by omega, rfl, fun c hc => by omega, Below.refl _ _⟩
  case round =>
    obtain ⟨k, hk, rfl, hno, hbel⟩ := hrel
    have c0r := (hbel.cell (p := ⟨w.heap.size, 0, none⟩) hz0).trans c0
    have c1r := (hbel.cell (p := ⟨w.heap.size, 1, none⟩) hz0).trans c1
    have hz := hbel.size
    have hgs : w.heap.size < wr.heap.size := by omega
    by_cases hkl : k < 3 * T.length
    · have hn := next12_calls wr.drew k (by omega)
      have hstep : ¬ (Mesh.vt T (nx k) = a ∧ Mesh.vt T (pv k) = b) → ∀ c, c < k + 1 → eg T c ≠ (a, b) := fun h9 c hc => by
        by_cases hck : c = k
        · rw [hck]; intro e; exact h9 (Prod.mk.inj e)
        · exact hno c (by omega)
      have hat : Mesh.vt T (nx k) = a ∧ Mesh.vt T (pv k) = b → oi (facing T (a, b)) = (k : Int) := fun h9 => by
        have : facing T (a, b) = some k := (leastFrom_some _ _ _ _).2 ⟨by omega, by omega, by unfold eg; rw [h9.1, h9.2]; simp, fun d _ hd => by simpa using hno d hd⟩
        rw [this]; rfl
      have Hhno := Lib.hid hno; clear hno; have Hhn := Lib.hid hn; clear hn; have Hhstep := Lib.hid hstep; clear hstep; have Hhat := Lib.hid hat; clear hat
      go_wp2_with fail
      refine Go.Canon.wp_region_tree [0, 7] (fun b => b = w.heap.size) (.seg [0,1,4] (.alt 2 (.alt 3 (.seg [5,6,7,8,11] (.alt 9 (.alt 10 (.seg [12,13] .fin) .no) .no)) .no) .no)) mixed (by kernel_rfl) ?_
      refine Go.Canon.tr_seg ?_
      simp only [List.map_cons, List.map_nil, List.getD_cons_zero, List.getD_cons_succ]
      go_wp2_with fail
      refine Go.Canon.tr_to (Go.Canon.tr_one ?_)
      simp only [List.getD_cons_zero, List.getD_cons_succ]
      go_wp2_with fail
      refine Hhn.out.mono ?_
      rintro e w1 ⟨rfl, rfl⟩
      go_wp2_with fail
      refine Go.Canon.tr_end (fun b h9 => rfl) (Go.Canon.tr_one ?_)
      simp only [List.getD_cons_zero, List.getD_cons_succ]
      go_wp2_with fail
      refine (Hhv.out _ (HhTA.out.below keeps_tri (hbel.drew.mono hle)) (by simp only [World.size_drew]; omega) (nx k) (nx_lt hkl)).mono ?_
      rintro e w2 ⟨rfl, hb8⟩
      go_wp2_with fail
      have hbel2 := hbel.drew.trans (hb8.mono hz)
      have hz2 := hb8.size
      refine Go.Canon.tr_end (fun b h9 => by subst h9; exact hb8.block _ (by show w.heap.size < wr.heap.size; omega)) (Go.Canon.tr_seg ?_)
      simp only [List.map_cons, List.map_nil, List.getD_cons_zero, List.getD_cons_succ]
      have c0z : w2.cell? ⟨w.heap.size, 0, none⟩ = some (.int .i64 N) := (hb8.cell (p := ⟨w.heap.size, 0, none⟩) (by show w.heap.size < wr.heap.size; omega)).trans c0r
      have c1z : w2.cell? ⟨w.heap.size, 1, none⟩ = some (.slice A T.length cap) := (hb8.cell (p := ⟨w.heap.size, 1, none⟩) (by show w.heap.size < wr.heap.size; omega)).trans c1r
      generalize hx : Mesh.vt T (nx k) = x at *
      by_cases hxa : x = a
      · subst hxa
        have hp := prev12_calls w2 k (by omega)
        have Hhx := Lib.hid hx; clear hx; have Hhp := Lib.hid hp; clear hp
        go_wp2_with fail
        refine Go.Canon.tr_to (Go.Canon.tr_one ?_)
        simp only [List.getD_cons_zero, List.getD_cons_succ]
        go_wp2_with fail
        refine Hhp.out.mono ?_
        rintro e w2 ⟨rfl, rfl⟩
        go_wp2_with fail
        refine Go.Canon.tr_end (fun b h9 => by subst h9; exact hb8.block _ (by show w.heap.size < wr.heap.size; omega)) (Go.Canon.tr_one ?_)
        simp only [List.getD_cons_zero, List.getD_cons_succ]
        go_wp2_with fail
        refine (Hhv.out _ (HhTA.out.below keeps_tri (hbel2.mono hle)) (by simp only [World.size_drew] at hz2; omega) (pv k) (pv_lt hkl)).mono ?_
        rintro e w3 ⟨rfl, hb9⟩
        go_wp2_with fail
        have hbel3 := hbel2.trans (hb9.mono hbel2.size)
        refine Go.Canon.tr_end (fun b h9 => by subst h9; exact (hb9.block _ (by simp only [World.size_drew] at hz2; omega)).trans (hb8.block _ (by show w.heap.size < wr.heap.size; omega))) (Go.Canon.tr_seg ?_)
        simp only [List.map_cons, List.map_nil, List.getD_cons_zero, List.getD_cons_succ]
        generalize hy : Mesh.vt T (pv k) = y at *
        by_cases hyb : y = b
        · subst hyb
          have hat2 := Hhat.out ⟨by first | trivial | exact Hhx.out, by first | trivial | exact hy⟩
          have hfin := hb1.trans (hbel3.mono hb1.size)
          have Hhy := Lib.hid hy; clear hy; have Hhat2 := Lib.hid hat2; clear hat2
          go_wp2_with fail
          refine Go.Canon.tr_to (Go.Canon.tr_fin (by rfl) (List.forall_mem_cons.2 ⟨.inl ⟨_, rfl, rfl, by rw [World.cell?_drew, c0r]; rfl⟩, List.forall_mem_cons.2 ⟨.inl ⟨_, rfl, rfl, by rw [World.cell?_drew, c0r]; rfl⟩, fun _ h => by cases h⟩⟩) ?_)
          go_wp2_with fail
          go_ret
          exact ⟨ret_int Hhat2.out.symm, hfin⟩
        · have hyb2 : (y == b) = false := by simpa using hyb
          have hstep := Hhstep.out (fun e => hyb (hy ▸ e.2))
          have Hhy := Lib.hid hy; clear hy; have Hhyb := Lib.hid hyb; clear hyb; have Hhstep := Lib.hid hstep; clear hstep
          go_wp2_with fail
          refine Go.Canon.tr_to (Go.Canon.tr_fin (by rfl) (List.forall_mem_cons.2 ⟨.inl ⟨_, rfl, rfl, by rw [World.cell?_drew, c0r]; rfl⟩, List.forall_mem_cons.2 ⟨.inl ⟨_, rfl, rfl, by rw [World.cell?_drew, c0r]; rfl⟩, fun _ h => by cases h⟩⟩) ?_)
          go_wp2_with fail
          exact ⟨⟨k + 1, by omega, by simp, Hhstep.out, hbel3⟩, by simp [intOf]; omega⟩
      · have hxb : (x == a) = false := by simpa using hxa
        have Hhx := Lib.hid hx; clear hx; have Hhxa := Lib.hid hxa; clear hxa
        go_wp2_with fail
        refine Go.Canon.tr_to (Go.Canon.tr_one ?_)
        simp only [List.getD_cons_zero, List.getD_cons_succ]
        go_wp2_with fail
        refine Go.Canon.tr_end (fun b h9 => by subst h9; exact hb8.block _ (by show w.heap.size < wr.heap.size; omega)) (Go.Canon.tr_one ?_)
        simp only [List.getD_cons_zero, List.getD_cons_succ]
        go_wp2_with fail
        refine Go.Canon.tr_end (fun b h9 => by subst h9; exact hb8.block _ (by show w.heap.size < wr.heap.size; omega)) (Go.Canon.tr_seg ?_)
        simp only [List.map_cons, List.map_nil, List.getD_cons_zero, List.getD_cons_succ]
        go_wp2_with fail
        refine Go.Canon.tr_to (Go.Canon.tr_fin (by rfl) (List.forall_mem_cons.2 ⟨.inl ⟨_, rfl, rfl, by rw [World.cell?_drew, c0r]; rfl⟩, List.forall_mem_cons.2 ⟨.inl ⟨_, rfl, rfl, by rw [World.cell?_drew, c0r]; rfl⟩, fun _ h => by cases h⟩⟩) ?_)
        go_wp2_with fail
        exact ⟨⟨k + 1, by omega, by simp, Hhstep.out (fun e => Hhxa.out e.1), hbel2⟩, by simp [intOf]; omega⟩
    · obtain rfl : k = 3 * T.length := by omega
      have hf : oi (facing T (a, b)) = -1 := by rw [facing_none.2 hno]; rfl
      have hfin := hb1.trans (hbel.mono hb1.size)
      have Hhno := Lib.hid hno; clear hno; have Hhf := Lib.hid hf; clear hf
      go_wp2_with fail
      go_ret
      exact ⟨ret_int Hhf.out.symm, hfin⟩
set_option maxRecDepth 20000 in
set_option maxHeartbeats 1000000 in
theorem opp12_calls {w : World} {B : Nat} {sv : Value} {N : Int} {T : List T3} (hT : Sl 3 RTri w B sv T) (hB0 : B ≤ w.heap.size) (hfew : T.length ≤ 8192) (c : Nat) (hc : c < 3 * T.length) :
    Calls Try.prog 67 #[.agg #[.int .i64 N, sv], .int .i64 (c : Int)] w fun e w' => e = .returned (.int .i64 (oi (opp T c))) ∧ Below w.heap.size w w' := by
  obtain ⟨A, cap, rfl, hcap⟩ := hT.form
  have hbox := Bk.new w 24 [.int .i64 N, .slice A T.length cap]
  have hb1 := (Below.refl w.heap.size w).alloc (Nat.le_refl _) (.cells #[.int .i64 N, .slice A T.length cap] 24)
  have hTA := hT.below keeps_tri (hb1.mono hB0)
  have hle : B ≤ (w.alloc (.cells #[.int .i64 N, .slice A T.length cap] 24)).heap.size := by rw [World.size_alloc]; omega
  have c0 := hbox.cell 0
  have c1 := hbox.cell 1
  simp only [List.getElem?_cons_zero, List.getElem?_cons_succ] at c0 c1
  have hz0 : w.heap.size < (w.alloc (.cells #[.int .i64 N, .slice A T.length cap] 24)).heap.size := by rw [World.size_alloc]; omega
  generalize hw0 : w.alloc (.cells #[.int .i64 N, .slice A T.length cap] 24) = w0 at *
  have hv := fun wz (h9 : Below w0.heap.size w0 wz) c hc => v12_calls (N := N) (hTA.below keeps_tri (h9.mono hle)) (by have := h9.size; omega) hfew c hc
  have hf := fun wz (h9 : Below w0.heap.size w0 wz) a b => facing12_calls (N := N) (hTA.below keeps_tri (h9.mono hle)) (by have := h9.size; omega) hfew a b
  have hn := fun wz => next12_calls wz c (by omega)
  have hp := fun wz => prev12_calls wz c (by omega)
  have hbe : ∀ wz, Below w0.heap.size w0 wz → Go.Canon.KeepU (fun b => b = w.heap.size) w0.drew wz := fun wz h b h9 => by subst h9; exact h.block _ hz0
  have ho : oi (opp T c) = oi (facing T (Mesh.vt T (pv c), Mesh.vt T (nx c))) := rfl
  rw [ho]
  clear ho
  have HhT := Lib.hid hT; clear hT; have HhTA := Lib.hid hTA; clear hTA; have Hhbox := Lib.hid hbox; clear hbox; have Hhv := Lib.hid hv; clear hv; have Hhf := Lib.hid hf; clear hf; have Hhn := Lib.hid hn; clear hn; have Hhp := Lib.hid hp; clear hp; have Hhbe := Lib.hid hbe; clear hbe
  go_enter Try.func67, Try.ntmps67
  go_wp2_with fail
  clear hw0
  refine Go.Canon.wp_region_tree [0, 1, 5] (fun b => b = w.heap.size) (.seg [0,1,2,5,6] (.alt 3 (.alt 4 (.alt 7 (.alt 8 (.alt 9 (.seg [10] .fin) .no) .no) .no) .no) .no)) mixed (by kernel_rfl) ?_
  have hd0 : Below w0.heap.size w0 w0.drew := (Below.refl _ w0).drew
  refine Go.Canon.tr_seg ?_
  simp only [List.map_cons, List.map_nil, List.getD_cons_zero, List.getD_cons_succ]
  go_wp2_with fail
  refine Go.Canon.tr_to (Go.Canon.tr_one ?_)
  simp only [List.getD_cons_zero, List.getD_cons_succ]
  go_wp2_with fail
  refine (Hhp.out _).mono ?_
  rintro e w1 ⟨rfl, rfl⟩
  go_wp2_with fail
  refine Go.Canon.tr_end (Hhbe.out _ hd0) (Go.Canon.tr_one ?_)
  simp only [List.getD_cons_zero, List.getD_cons_succ]
  go_wp2_with fail
  refine (Hhv.out _ hd0 (pv c) (pv_lt hc)).mono ?_
  rintro e w2 ⟨rfl, hb2⟩
  have hd2 := hd0.trans hb2
  go_wp2_with fail
  refine Go.Canon.tr_end (Hhbe.out _ hd2) (Go.Canon.tr_one ?_)
  simp only [List.getD_cons_zero, List.getD_cons_succ]
  go_wp2_with fail
  refine (Hhn.out _).mono ?_
  rintro e w3 ⟨rfl, hw3⟩
  rw [hw3]
  clear hw3 w3
  go_wp2_with fail
  refine Go.Canon.tr_end (Hhbe.out _ hd2) (Go.Canon.tr_one ?_)
  simp only [List.getD_cons_zero, List.getD_cons_succ]
  go_wp2_with fail
  refine (Hhv.out _ hd2 (nx c) (nx_lt hc)).mono ?_
  rintro e w3 ⟨rfl, hb3⟩
  have hd3 := hd2.trans (hb3.mono hd2.size)
  go_wp2_with fail
  refine Go.Canon.tr_end (Hhbe.out _ hd3) (Go.Canon.tr_one ?_)
  simp only [List.getD_cons_zero, List.getD_cons_succ]
  go_wp2_with fail
  refine (Hhf.out _ hd3 _ _).mono ?_
  rintro e w4 ⟨rfl, hb4⟩
  have hd4 := hd3.trans (hb4.mono hd3.size)
  go_wp2_with fail
  refine Go.Canon.tr_end (Hhbe.out _ hd4) (Go.Canon.tr_seg ?_)
  simp only [List.map_cons, List.map_nil, List.getD_cons_zero, List.getD_cons_succ]
  have hfin := hb1.trans (hd4.mono hb1.size)
  go_wp2_with fail
  refine Go.Canon.tr_to (Go.Canon.tr_fin (by rfl) (List.forall_mem_cons.2 ⟨.inl ⟨_, rfl, rfl, by rw [World.cell?_drew, c0]; rfl⟩, List.forall_mem_cons.2 ⟨.inl ⟨_, rfl, rfl, by rw [World.cell?_drew, c0]; rfl⟩, List.forall_mem_cons.2 ⟨.inl ⟨_, rfl, rfl, by rw [World.cell?_drew, c0]; rfl⟩, fun _ h => by cases h⟩⟩⟩) ?_)
  go_wp2_with fail
  go_ret
  exact ⟨rfl, hfin⟩
end Go.Proofs.Ytckkpmjkajkkmaa
