/- Walk: ref15's Has. -/
import Derived.Test.YtpbdcppaiafbgaaGreatBM
namespace Go.Proofs.YtpbdcppaiafbgaaGreat
open Go Go.RowKit Go.Words Go.Mesh
set_option maxRecDepth 20000 in
set_option maxHeartbeats 1000000 in
theorem has15_calls (t : T3) (v : Int) (w : World) :
    Calls Tryz.prog 35 #[triV t, .int .i64 v] w fun e w' => e = .returned (.bool (haB t v)) ∧ Below w.heap.size w w' := by
  obtain ⟨x, y, z⟩ := t
  unfold haB
  simp only [triV]
  go_enter Tryz.func35, Tryz.ntmps35
  go_wp2_with fail
  all_goals
    go_ret
    refine ⟨ret_bool ?_, (Below.refl w.heap.size w).alloc (Nat.le_refl _) _⟩
    simp [*]
end Go.Proofs.YtpbdcppaiafbgaaGreat
