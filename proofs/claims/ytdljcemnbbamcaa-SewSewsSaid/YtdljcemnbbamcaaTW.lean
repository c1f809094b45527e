/- Walks: soup.Mirror. -/
import Derived.Test.YtdljcemnbbamcaaTV
import Derived.Test.YtdljcemnbbamcaaVC
namespace Go.Proofs.Ytdljcemnbbamcaa
open Go Go.RowKit Go.Words Go.Mesh

theorem infoTri : (Try.prog.info? 57).map (fun i => (i.zero, i.size, i.bytes)) = some (some (.agg #[.int .i64 0, .int .i64 0, .int .i64 0]), 3, 24) := by kernel_rfl
theorem triVals_len : ∀ T : List T3, (triVals T).length = T.length * 3
  | [] => rfl
  | _ :: T => by simp only [triVals, List.length_cons, triVals_len T]; omega
theorem triVals_snoc : ∀ (T : List T3) (t : T3), triVals (T ++ [t]) = triVals T ++ [.int .i64 t.1, .int .i64 t.2.1, .int .i64 t.2.2]
  | [], _ => rfl
  | x :: T, t => by simp only [List.cons_append, triVals, triVals_snoc T t]
theorem sl_own_tris {w : World} {base : Nat} {v : Value} {T : List T3} (h : w.ownsRow base 57 3 v T.length (triVals T)) : Sl 3 RTri w w.heap.size v T :=
  Sl.of_own h fun i a hi => (triVals_at T i a hi).2
end Go.Proofs.Ytdljcemnbbamcaa
