/- Walks: the law's table and its example. -/
import Derived.Test.YtdljcemnbbamcaaTN
import Derived.Test.YtdljcemnbbamcaaTO
namespace Go.Mesh
def ex0 : List T3 := [(0, 2, 1), (0, 1, 3), (1, 2, 3), (2, 0, 3)]
theorem surf_ex0 : Surf 4 ex0 := surf_check (by decide +kernel)
theorem ring_ex0 : ringAt ex0 4 0 = [0, 3, 10] := by decide +kernel
theorem link_ex0 : linkAt ex0 4 0 = [2, 1, 3] := by decide +kernel
theorem inner_ex0 : innerAt ex0 4 0 = true := by decide +kernel
end Go.Mesh
namespace Go.Proofs.Ytdljcemnbbamcaa
open Go Go.RowKit Go.Words Go.Mesh

/-- What is looked at. -/
def Small (N : Int) (T : List T3) : Prop := T.length ≤ 40 ∧ 0 ≤ N ∧ N ≤ 60
/-- What table hands back. -/
def Tabled (w : World) (N : Int) (T : List T3) (e : Ending) (w' : World) : Prop :=
  (∃ pv B', e = .returned pv ∧ ((Small N T ∧ Surf N T ∧ Tab w' B' pv N T) ∨ (¬ (Small N T ∧ Surf N T) ∧ pv = .pointer none))) ∧ Below w.heap.size w w'
def triVals : List T3 → List Value
  | [] => []
  | t :: T => .int .i64 t.1 :: .int .i64 t.2.1 :: .int .i64 t.2.2 :: triVals T
theorem triVals_at : ∀ (T : List T3) (i : Nat) (t : T3), T[i]? = some t → i * 3 + 3 ≤ (triVals T).length ∧ ((triVals T).drop (i * 3)).take 3 = [.int .i64 t.1, .int .i64 t.2.1, .int .i64 t.2.2]
  | [], i, t, h => by simp at h
  | x :: T, 0, t, h => by
    have : x = t := by simpa using h
    subst this
    exact ⟨by simp [triVals], by simp [triVals]⟩
  | x :: T, i + 1, t, h => by
    obtain ⟨h1, h2⟩ := triVals_at T i t (by simpa using h)
    refine ⟨by simp only [triVals, List.length_cons]; omega, ?_⟩
    rw [show (i + 1) * 3 = i * 3 + 1 + 1 + 1 by omega]
    simp only [triVals, List.drop_succ_cons]
    exact h2
theorem sl_tris {w : World} {g cap : Nat} {t : TypeId} {T : List T3} (h : Bk w g t (triVals T)) (hc : T.length ≤ cap) : Sl 3 RTri w w.heap.size (.slice (some ⟨g, 0, none⟩) T.length cap) T :=
  Sl.of_block h hc fun i a hi => triVals_at T i a hi
theorem sl_block {w : World} {g cap : Nat} {t : TypeId} {l : List Int} (h : Bk w g t (ivals l)) (hc : l.length ≤ cap) : Sl 1 RInt w w.heap.size (.slice (some ⟨g, 0, none⟩) l.length cap) l :=
  Sl.of_block h hc fun i a hi => by
    have hlt := (List.getElem?_eq_some_iff.1 hi).1
    refine ⟨by unfold ivals; rw [List.length_map]; omega, ?_⟩
    unfold RInt ivals
    rw [Nat.mul_one, List.drop_eq_getElem_cons (by simpa using hlt)]
    simp only [List.take_succ_cons, List.take_zero, List.getElem_map]
    rw [List.getElem?_eq_getElem hlt] at hi
    rw [Option.some.inj hi]
end Go.Proofs.Ytdljcemnbbamcaa
