/- Edges, triangles told apart. -/
import Derived.Test.YtpbdcppaiafbgaaGreatBM
namespace Go.Proofs.YtpbdcppaiafbgaaGreat
open Go Go.RowKit Go.Words Go.Mesh
theorem edge_run20 (x1 x2 y1 y2 : Int) (w : World) : Sem.run Tryz.prog (Op.equalIn 10000 39 (.agg #[.int .i64 x1, .int .i64 x2]) (.agg #[.int .i64 y1, .int .i64 y2])) w = .ok (decide ((x1, x2) = (y1, y2))) w := by
  obtain ⟨i, hi, _⟩ := info_parts info_int
  have hp : Tryz.prog.plainKey 3 = true := by kernel_rfl
  have hc : Tryz.prog.cellsOf 3 = 1 := by kernel_rfl
  rw [show (10000 : Nat) = 9999 + 1 from rfl, run_equalIn_array w 9999 _ _ Tryz.underlying39 hi, hc, show List.range 2 = [0, 1] from rfl]
  have a0 : Sem.run Tryz.prog (part 3 #[.int .i64 x1, .int .i64 x2] (0 * 1)) w = .ok (.int .i64 x1) w := run_part_plain w hp rfl
  have a1 : Sem.run Tryz.prog (part 3 #[.int .i64 x1, .int .i64 x2] (1 * 1)) w = .ok (.int .i64 x2) w := run_part_plain w hp rfl
  have b0 : Sem.run Tryz.prog (part 3 #[.int .i64 y1, .int .i64 y2] (0 * 1)) w = .ok (.int .i64 y1) w := run_part_plain w hp rfl
  have b1 : Sem.run Tryz.prog (part 3 #[.int .i64 y1, .int .i64 y2] (1 * 1)) w = .ok (.int .i64 y2) w := run_part_plain w hp rfl
  have e0 : Sem.run Tryz.prog (Op.equalIn 9999 3 (.int .i64 x1) (.int .i64 y1)) w = .ok (x1 == y1) w := run_equalIn_int w 9998 3 .i64 .i64 x1 y1 Tryz.underlying3
  have e1 : Sem.run Tryz.prog (Op.equalIn 9999 3 (.int .i64 x2) (.int .i64 y2)) w = .ok (x2 == y2) w := run_equalIn_int w 9998 3 .i64 .i64 x2 y2 Tryz.underlying3
  simp only [Op.eqItems, Sem.run_bind, a0, b0, e0, Result.andThen_ok]
  by_cases h1 : x1 = y1
  · subst h1
    simp only [beq_self_eq_true, Bool.not_true, Bool.false_eq_true, if_false, Sem.run_bind, a1, b1, e1, Result.andThen_ok]
    by_cases h2 : x2 = y2
    · subst h2
      simp
    · have : (x2 == y2) = false := by simpa using h2
      simp [h2]
  · have : (x1 == y1) = false := by simpa using h1
    simp [h1]
theorem tri_run20 (x1 x2 x3 y1 y2 y3 : Int) (w : World) : Sem.run Tryz.prog (Op.equalIn 10000 57 (.agg #[.int .i64 x1, .int .i64 x2, .int .i64 x3]) (.agg #[.int .i64 y1, .int .i64 y2, .int .i64 y3])) w = .ok (decide ((x1, x2, x3) = (y1, y2, y3))) w := by
  obtain ⟨i, hi, _⟩ := info_parts info_int
  have hp : Tryz.prog.plainKey 3 = true := by kernel_rfl
  have hc : Tryz.prog.cellsOf 3 = 1 := by kernel_rfl
  rw [show (10000 : Nat) = 9999 + 1 from rfl, run_equalIn_array w 9999 _ _ Tryz.underlying57 hi, hc, show List.range 3 = [0, 1, 2] from rfl]
  have a0 : Sem.run Tryz.prog (part 3 #[.int .i64 x1, .int .i64 x2, .int .i64 x3] (0 * 1)) w = .ok (.int .i64 x1) w := run_part_plain w hp rfl
  have a1 : Sem.run Tryz.prog (part 3 #[.int .i64 x1, .int .i64 x2, .int .i64 x3] (1 * 1)) w = .ok (.int .i64 x2) w := run_part_plain w hp rfl
  have a2 : Sem.run Tryz.prog (part 3 #[.int .i64 x1, .int .i64 x2, .int .i64 x3] (2 * 1)) w = .ok (.int .i64 x3) w := run_part_plain w hp rfl
  have b0 : Sem.run Tryz.prog (part 3 #[.int .i64 y1, .int .i64 y2, .int .i64 y3] (0 * 1)) w = .ok (.int .i64 y1) w := run_part_plain w hp rfl
  have b1 : Sem.run Tryz.prog (part 3 #[.int .i64 y1, .int .i64 y2, .int .i64 y3] (1 * 1)) w = .ok (.int .i64 y2) w := run_part_plain w hp rfl
  have b2 : Sem.run Tryz.prog (part 3 #[.int .i64 y1, .int .i64 y2, .int .i64 y3] (2 * 1)) w = .ok (.int .i64 y3) w := run_part_plain w hp rfl
  have e : ∀ x y : Int, Sem.run Tryz.prog (Op.equalIn 9999 3 (.int .i64 x) (.int .i64 y)) w = .ok (x == y) w := fun x y => run_equalIn_int w 9998 3 .i64 .i64 x y Tryz.underlying3
  simp only [Op.eqItems, Sem.run_bind, a0, b0, e, Result.andThen_ok]
  by_cases h1 : x1 = y1
  · subst h1
    simp only [beq_self_eq_true, Bool.not_true, Bool.false_eq_true, if_false, Sem.run_bind, a1, b1, e, Result.andThen_ok]
    by_cases h2 : x2 = y2
    · subst h2
      simp only [beq_self_eq_true, Bool.not_true, Bool.false_eq_true, if_false, Sem.run_bind, a2, b2, e, Result.andThen_ok]
      by_cases h3 : x3 = y3
      · subst h3
        simp
      · have : (x3 == y3) = false := by simpa using h3
        simp [h3]
    · have : (x2 == y2) = false := by simpa using h2
      simp [h2]
  · have : (x1 == y1) = false := by simpa using h1
    simp [h1]
end Go.Proofs.YtpbdcppaiafbgaaGreat
