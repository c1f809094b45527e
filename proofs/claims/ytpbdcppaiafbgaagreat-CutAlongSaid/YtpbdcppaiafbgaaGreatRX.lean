/- Walks: ref19's now. -/
import Derived.Test.YtpbdcppaiafbgaaGreatRT
import Derived.Test.YtpbdcppaiafbgaaGreatIE
namespace Go.Proofs.YtpbdcppaiafbgaaGreat
open Go Go.RowKit Go.Words Go.Mesh
set_option maxRecDepth 20000 in
set_option maxHeartbeats 4000000 in
theorem now19_calls {w : World} {B : Nat} {sv xv : Value} {N M : Int} {T X : List T3} (hT : Sl 3 RTri w B sv T) (hX : Sl 3 RTri w B xv X) (hB0 : B ≤ w.heap.size) (hXl : X.length = T.length) (hs : Surf N T) (c : Nat) (hc : c < 3 * T.length) :
    Calls Tryz.prog 74 #[.agg #[.int .i64 N, sv], .agg #[.int .i64 M, xv], .int .i64 ((c / 3 : Nat) : Int), .int .i64 (vt T (nx c)), .int .i64 (vt T (pv c))] w fun e w' => e = .returned (.agg #[.int .i64 (vt X (nx c)), .int .i64 (vt X (pv c))]) ∧ Below w.heap.size w w' := by
  obtain ⟨A, cap, rfl, hcap⟩ := hT.form
  obtain ⟨Ax, capx, rfl, hcapx⟩ := hX.form
  obtain ⟨b, o, rfl, hb, hcell⟩ := tri_cells hX (i := c / 3) (by omega)
  have hsl := hs.tmax
  obtain ⟨p, hp, hp3⟩ : ∃ p : Nat, nx c = 3 * (c / 3) + p ∧ p < 3 := ⟨(c + 1) % 3, by unfold nx; omega, by omega⟩
  obtain ⟨q, hq, hq3⟩ : ∃ q : Nat, pv c = 3 * (c / 3) + q ∧ q < 3 := ⟨(c + 2) % 3, by unfold pv; omega, by omega⟩
  have hpm : ((nx c : Nat) : Int) % 3 = (p : Int) := by omega
  have hqm : ((pv c : Nat) : Int) % 3 = (q : Int) := by omega
  have x1 := hcell p hp3
  have x2 := hcell q hq3
  rw [← hp] at x1
  rw [← hq] at x2
  have hbA := ((Below.refl w.heap.size w).alloc (Nat.le_refl _) (.cells #[.int .i64 N, .slice A T.length cap] 24)).alloc (by simp) (.cells #[.int .i64 M, .slice (some ⟨b, o, none⟩) X.length capx] 24)
  have hbB := hbA.alloc (by simp only [World.size_alloc]; omega) (.cells #[.int .i64 0, .int .i64 0] 39)
  have k5 := ((Bk.new w 24 [.int .i64 N, .slice A T.length cap]).alloc (.cells #[.int .i64 M, .slice (some ⟨b, o, none⟩) X.length capx] 24)).alloc (.cells #[.int .i64 0, .int .i64 0] 39)
  have k6 := (Bk.new' (n := w.heap.size + 1) (w := w.alloc (.cells #[.int .i64 N, .slice A T.length cap] 24)) 24 [.int .i64 M, .slice (some ⟨b, o, none⟩) X.length capx] (by simp)).alloc (.cells #[.int .i64 0, .int .i64 0] 39)
  have k7 := Bk.new' (n := w.heap.size + 2) (w := (w.alloc (.cells #[.int .i64 N, .slice A T.length cap] 24)).alloc (.cells #[.int .i64 M, .slice (some ⟨b, o, none⟩) X.length capx] 24)) 39 [.int .i64 0, .int .i64 0] (by simp)
  obtain ⟨w0, hw0⟩ : ∃ w0, ((w.alloc (.cells #[.int .i64 N, .slice A T.length cap] 24)).alloc (.cells #[.int .i64 M, .slice (some ⟨b, o, none⟩) X.length capx] 24)).alloc (.cells #[.int .i64 0, .int .i64 0] 39) = w0 := ⟨_, rfl⟩
  rw [hw0] at hbB k5 k6 k7
  have hz0 := hbB.size
  have hz7 := k7.lt
  have hT0 := hT.below keeps_tri (hbB.mono hB0)
  have ha := fun wz (hz : Below w0.heap.size w0 wz) (d : Nat) (hd : d < 3 * T.length) => at_calls (w := wz) (N := N) (hT0.below keeps_tri (hz.mono (show B ≤ w0.heap.size by omega))) (show B ≤ wz.heap.size by have := hz.size; omega) hsl hs d hd
  have hd0 : Below w0.heap.size w0 w0.drew := (Below.refl _ w0).drew
  have ha1 := ha w0.drew hd0 (nx c) (nx_lt hc)
  rw [nx_div] at ha1
  have ha2 := fun wz hz => ha wz hz (pv c) (pv_lt hc)
  rw [show pv c / 3 = c / 3 by omega] at ha2
  have c50 : w0.cell? ⟨w.heap.size, 0, none⟩ = some (.int .i64 N) := k5.cell 0
  have c51 : w0.cell? ⟨w.heap.size, 1, none⟩ = some (.slice A T.length cap) := k5.cell 1
  have hcd : c / 3 < X.length := by omega
  have hnl : nx c < 30000 := by have := nx_lt hc; omega
  have hpl : pv c < 30000 := by have := pv_lt hc; omega
  have y1 := fun wz (hz : Below w0.heap.size w0 wz) => (hz.cell (p := ⟨b, o + c / 3 * 3 + p, none⟩) (by show b < _; omega)).trans ((hbB.cell (p := ⟨b, o + c / 3 * 3 + p, none⟩) (by show b < _; omega)).trans x1)
  have y2 := fun wz (hz : Below w0.heap.size w0 wz) => (hz.cell (p := ⟨b, o + c / 3 * 3 + q, none⟩) (by show b < _; omega)).trans ((hbB.cell (p := ⟨b, o + c / 3 * 3 + q, none⟩) (by show b < _; omega)).trans x2)
  generalize vt T (nx c) = va at *
  generalize vt T (pv c) = vb at *
  generalize vt X (nx c) = xa at *
  generalize vt X (pv c) = xb at *
  generalize nx c = n1 at *
  generalize pv c = n2 at *
  generalize c / 3 = d at *
  clear hcell x1 x2 hp hq
  have HhT := Lib.hid hT; clear hT; have HhX := Lib.hid hX; clear hX; have HhbA := Lib.hid hbA; clear hbA; have HhbB := Lib.hid hbB; clear hbB; have Hk5 := Lib.hid k5; clear k5; have Hk6 := Lib.hid k6; clear k6; have Hk7 := Lib.hid k7; clear k7; have HhT0 := Lib.hid hT0; clear hT0; have Hha := Lib.hid ha; clear ha; have Hha1 := Lib.hid ha1; clear ha1; have Hha2 := Lib.hid ha2; clear ha2; have Hy1 := Lib.hid y1; clear y1; have Hy2 := Lib.hid y2; clear y2; have HhXl := Lib.hid hXl; clear hXl
  go_enter Tryz.func74, Tryz.ntmps74
  go_wp2_with fail
  clear hw0
  refine Go.Canon.wp_region_tree [4] (fun b9 => b9 = w.heap.size) (.seg [0,1,2,4,5,6] (.alt 3 (.alt 7 (.seg [8,9] .fin) .no) .no)) mixed (by kernel_rfl) ?_
  refine Go.Canon.tr_seg ?_
  simp only [List.map_cons, List.map_nil, List.getD_cons_zero, List.getD_cons_succ]
  go_wp2_with fail
  refine Go.Canon.tr_to (Go.Canon.tr_one ?_)
  simp only [List.getD_cons_zero, List.getD_cons_succ]
  go_wp2_with fail
  refine Hha1.out.mono ?_
  rintro e w2 ⟨rfl, hb2⟩
  have hb2' := hd0.trans (hb2.mono hd0.size)
  go_wp2_with fail
  have ha2' := Hha2.out w2 hb2'
  have Hha2' := Lib.hid ha2'; clear ha2'
  refine Go.Canon.tr_end (fun b9 h9 => by subst h9; exact hb2'.block _ (by omega)) (Go.Canon.tr_one ?_)
  simp only [List.getD_cons_zero, List.getD_cons_succ]
  go_wp2_with fail
  refine Hha2'.out.mono ?_
  rintro e w3 ⟨rfl, hb3⟩
  have hb3' := hb2'.trans (hb3.mono hb2'.size)
  go_wp2_with fail
  refine Go.Canon.tr_end (fun b9 h9 => by subst h9; exact hb3'.block _ (by omega)) (Go.Canon.tr_seg ?_)
  simp only [List.map_cons, List.map_nil, List.getD_cons_zero, List.getD_cons_succ]
  go_wp2_with fail
  refine Go.Canon.tr_to (Go.Canon.tr_fin (by rfl) (List.forall_mem_cons.2 ⟨.inl ⟨_, rfl, rfl, by rw [World.cell?_drew, c50]; rfl⟩, fun _ h => by cases h⟩) ?_)
  have k6' := Hk6.out.below hb3' Hk6.out.lt
  have k7' := Hk7.out.below hb3' Hk7.out.lt
  have z0 : w3.cell? ⟨w.heap.size + 1, 0, none⟩ = some (.int .i64 M) := k6'.cell 0
  have z1 : w3.cell? ⟨w.heap.size + 1, 1, none⟩ = some (.slice (some ⟨b, o, none⟩) X.length capx) := k6'.cell 1
  have z2 : w3.cell? ⟨w.heap.size + 2, 0, none⟩ = some (.int .i64 0) := k7'.cell 0
  have z3 : w3.cell? ⟨w.heap.size + 2, 1, none⟩ = some (.int .i64 0) := k7'.cell 1
  have zf := k7'.frozen
  have l1 := Hy1.out w3 hb3'
  have l2 := Hy2.out w3 hb3'
  have hkF := (k7'.set 0 (.int .i64 xa)).set 1 (.int .i64 xb)
  have hbw := HhbB.out.trans (hb3'.mono hz0)
  have hbF := (hbw.setCell (p := ⟨w.heap.size + 2, 0, none⟩) (by show w.heap.size ≤ w.heap.size + 2; omega) (.int .i64 xa)).setCell (p := ⟨w.heap.size + 2, 1, none⟩) (by show w.heap.size ≤ w.heap.size + 2; omega) (.int .i64 xb)
  have hp9 : (p : Int) < 3 := by omega
  have hq9 : (q : Int) < 3 := by omega
  have Hk6' := Lib.hid k6'; clear k6'; have Hk7' := Lib.hid k7'; clear k7'; have HhkF := Lib.hid hkF; clear hkF; have HhbF := Lib.hid hbF; clear hbF
  go_wp2_with (first | (refine Go.Canon.wp_region_text mixed (by kernel_rfl) ?_) | (refine Go.Canon.chk (by rfl) ?_))
  exact ret_cell rfl rfl HhkF.out.drew Tryz.underlying39 rfl (by kernel_rfl) rfl ⟨rfl, HhbF.out.drew⟩
end Go.Proofs.YtpbdcppaiafbgaaGreat
