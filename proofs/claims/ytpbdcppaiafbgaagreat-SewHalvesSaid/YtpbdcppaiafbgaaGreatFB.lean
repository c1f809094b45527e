/- Plain: runs of pairs of a loop's edges (sew, ref20); no program in sight. -/
import Derived.Test.YtpbdcppaiafbgaaGreatMesh
namespace Go.Mesh
/-- The pairs of places that a run tells. -/
def exR (r : T3) : List (Int × Int) := (List.range r.2.2.toNat).map fun i : Nat => (r.1 + (i : Int), r.2.1 - (i : Int))
/-- A pair more: it goes on with the last run, or begins one. -/
def addR (R : List T3) (a b : Int) : List T3 := match R.getLast? with
  | none => [(a, b, 1)]
  | some r => if a = r.1 + r.2.2 ∧ b = r.2.1 - r.2.2 then R.dropLast ++ [(r.1, r.2.1, r.2.2 + 1)] else R ++ [(a, b, 1)]
def runsL (P : List (Int × Int)) : List T3 := P.foldl (fun R p => addR R p.1 p.2) []
theorem runsL_snoc (P : List (Int × Int)) (p : Int × Int) : runsL (P ++ [p]) = addR (runsL P) p.1 p.2 := by unfold runsL; rw [List.foldl_append]; rfl
theorem last_split {R : List T3} {r : T3} (h : R.getLast? = some r) : R = R.dropLast ++ [r] := by
  have hne : R ≠ [] := fun e => by rw [e] at h; cases h
  have h1 := List.dropLast_concat_getLast hne
  rw [List.getLast?_eq_some_getLast hne] at h
  rw [Option.some.inj h] at h1
  exact h1.symm
/-- The pair of places that begins at a. -/
def toP (l : List (Int × Int)) (a : Int) : Option (Int × Int) := l.find? fun p => decide (min p.1 p.2 = a)
/-- The pairs by their lesser places, rising, the lesser first. -/
def sortP (l : List (Int × Int)) (n : Nat) : List (Int × Int) := (List.range n).filterMap fun a : Nat => (toP l (a : Int)).map fun p => (min p.1 p.2, max p.1 p.2)
theorem toP_some {l : List (Int × Int)} {a : Int} {p : Int × Int} (h : toP l a = some p) : p ∈ l ∧ min p.1 p.2 = a := by
  unfold toP at h
  exact ⟨List.mem_of_find?_eq_some h, by simpa using List.find?_some h⟩
end Go.Mesh
