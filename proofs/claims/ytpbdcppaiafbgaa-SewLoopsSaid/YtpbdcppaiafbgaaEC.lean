/- Walk: certify.Is. -/
import Derived.Test.YtpbdcppaiafbgaaBM
namespace Go.Proofs.Ytpbdcppaiafbgaa
open Go Go.RowKit Go.Words Go.Mesh
set_option maxRecDepth 20000 in
set_option maxHeartbeats 1000000 in
theorem certis_calls (v : Value) (N : Int) (T : List T3) (w : World) {B : Nat} (hB0 : B ≤ w.heap.size) (h : Sl 3 RTri w B v T) (hN : I64 N) :
    Calls Try.prog 22 #[.agg #[.int .i64 N, v]] w fun e w' => SaysYes e (Surf N T) ∧ Below w.heap.size w w' := by
  obtain ⟨A, cap, rfl, hcap⟩ := h.form
  have hb1 := (Below.refl w.heap.size w).alloc (Nat.le_refl _) (.cells #[.int .i64 N, .slice A T.length cap] 24)
  have hc := check_calls _ N T (w.alloc (.cells #[.int .i64 N, .slice A T.length cap] 24)) (B := B) (by simp; omega) (h.below keeps_tri (hb1.mono hB0)) hN
  have hz := hb1.size
  have Hh := Lib.hid h; clear h; have Hhc := Lib.hid hc; clear hc; have Hhb1 := Lib.hid hb1; clear hb1
  go_enter Try.func22, Try.ntmps22
  go_wp2_with fail
  refine Hhc.out.mono ?_
  rintro e w1 ⟨⟨k, x, y, rfl, hk0, hk, hxy⟩, hb2⟩
  have hbel := below_call Hhb1.out hb2 hz
  have hk : k = 0 ↔ Surf N T := hk.trans cert_iff
  have Hhk := Lib.hid hk; clear hk
  by_cases hk1 : k = 0
  · subst hk1
    obtain ⟨rfl, rfl⟩ := hxy rfl
    have hq : ∀ W, Sem.run Try.prog (Op.equalIn 10000 53 (.agg #[.int .i64 0, .int .i64 0, .int .i64 0]) (.agg #[.int .i64 0, .int .i64 0, .int .i64 0])) W = .ok true W := fun _ => by kernel_rfl
    have hg : ∀ W, Sem.run Try.prog (eqGuard BinOp.eql 53 (Operand.tmp 4) (Operand.tmp 5) (.agg #[.int .i64 0, .int .i64 0, .int .i64 0]) (.agg #[.int .i64 0, .int .i64 0, .int .i64 0])) W = .ok () W := fun _ => by kernel_rfl
    go_wp2_with fail
    go_ret
    exact ⟨⟨true, rfl, ⟨fun _ => Hhk.out.1 (by simp), fun _ => rfl⟩⟩, hbel⟩
  · have hkb : (k == 0) = false := by rw [beq_eq_false_iff_ne]; exact hk1
    go_wp2_with fail
    all_goals first | (go_ret; exact ⟨⟨false, rfl, ⟨fun h9 => (by cases h9), fun h9 => absurd (Hhk.out.2 h9) hk1⟩⟩, hbel⟩) | (exfalso; simp_all)
end Go.Proofs.Ytpbdcppaiafbgaa
