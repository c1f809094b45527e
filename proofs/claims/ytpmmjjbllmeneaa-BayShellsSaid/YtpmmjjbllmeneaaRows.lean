/-
  No cell of these rows narrows 'for every input' (looked for: loops, veiled, ifaces, maps, wideKeys, modest, calm, conditions, laid).
  DERIVED. THE GIVEN ROWS OF THIS SEAT. 8 by the template 'for every input the law returns true; each argument reads behind the call as it read before'; 0 by the template 'total and deterministic' (their statements: YtpmmjjbllmeneaaTotals.lean).
  GIVEN WITH THE SEED: the statements are not yours to turn. If you find one false, say at which input.
  Laid BY PROGRAM, IN A SANDBOX (cutbox-rows.mjs): the forced cells as the released guide's own fill.sh prints them over the translation 5b3f39c2a9add89b… (all of the seat's roots in one cut). By AI agents, Wed Nov 11 2026. No macro, syntax, notation, axiom, sorry.
-/
import Derived.Test.YtpmmjjbllmeneaaChecked
import GoSem.Claim
import GoSem.ClaimJoined
import GoSem.ClaimMapViews
import Derived.JoinedTies
import Derived.KernelRfl
namespace Go.Proofs.Ytpmmjjbllmeneaa
/- THE CELL 'sum', in the pinned program and in every row, IS THE sha256 OF THE DUMP (.gsa) THAT YtpmmjjbllmeneaaProg.lean LOADS. Nothing in Lean hashes anything: it is a label: what it is worth is what the hold of that sum in a sandbox is worth. -/
noncomputable def Try.pinned : Pinned := { name := "ytpmmjjbllmeneaa", sum := "5b3f39c2a9add89bb1bb3919dde283aa794a4c169cbec99d7475b589dab16e6f", checked := Try.checked }
namespace Rows
def none {H : Type} : Left H := { results := [], args := [] }

/-- 'gypsumlaw39.BaySeeds': WHATEVER THE INPUT: true; the input reads as it did. -/
def baySeedsSpec : ChangeSpec := { name := "baySeeds", fn := fun _ => fun
  | [d1, d2] => { results := [.lit (.bool true)], args := [d1, d2] }
  | _ => none }
def baySeedsRow : OpenClaim := { program := "ytpmmjjbllmeneaa", sum := "5b3f39c2a9add89bb1bb3919dde283aa794a4c169cbec99d7475b589dab16e6f", func := "gypsum/gypsumlaw39.BaySeeds", spec := "baySeeds", unfollowed := true, recurses := true, plainKeys := false, apart := false }
def BaySeedsSaid : Prop := baySeedsRow.holds Try.pinned (OpenSpec.ofChange baySeedsSpec)

/-- ITS FALSE NEIGHBOUR: 'it returns false'. Refute it at one input. -/
def baySeedsWrong : ChangeSpec := { name := "baySeeds", fn := fun _ => fun
  | [d1, d2] => { results := [.lit (.bool false)], args := [d1, d2] }
  | _ => none }
def BaySeedsWrongFalsely : Prop := baySeedsRow.holds Try.pinned (OpenSpec.ofChange baySeedsWrong)

/-- 'gypsumlaw39.BayGrows': WHATEVER THE INPUT: true; the input reads as it did. -/
def bayGrowsSpec : ChangeSpec := { name := "bayGrows", fn := fun _ => fun
  | [d1, d2] => { results := [.lit (.bool true)], args := [d1, d2] }
  | _ => none }
def bayGrowsRow : OpenClaim := { program := "ytpmmjjbllmeneaa", sum := "5b3f39c2a9add89bb1bb3919dde283aa794a4c169cbec99d7475b589dab16e6f", func := "gypsum/gypsumlaw39.BayGrows", spec := "bayGrows", unfollowed := true, recurses := true, plainKeys := false, apart := false }
def BayGrowsSaid : Prop := bayGrowsRow.holds Try.pinned (OpenSpec.ofChange bayGrowsSpec)

/-- ITS FALSE NEIGHBOUR: 'it returns false'. Refute it at one input. -/
def bayGrowsWrong : ChangeSpec := { name := "bayGrows", fn := fun _ => fun
  | [d1, d2] => { results := [.lit (.bool false)], args := [d1, d2] }
  | _ => none }
def BayGrowsWrongFalsely : Prop := bayGrowsRow.holds Try.pinned (OpenSpec.ofChange bayGrowsWrong)

/-- 'gypsumlaw39.BayConnected': WHATEVER THE INPUT: true; the input reads as it did. -/
def bayConnectedSpec : ChangeSpec := { name := "bayConnected", fn := fun _ => fun
  | [d1, d2] => { results := [.lit (.bool true)], args := [d1, d2] }
  | _ => none }
def bayConnectedRow : OpenClaim := { program := "ytpmmjjbllmeneaa", sum := "5b3f39c2a9add89bb1bb3919dde283aa794a4c169cbec99d7475b589dab16e6f", func := "gypsum/gypsumlaw39.BayConnected", spec := "bayConnected", unfollowed := true, recurses := true, plainKeys := false, apart := false }
def BayConnectedSaid : Prop := bayConnectedRow.holds Try.pinned (OpenSpec.ofChange bayConnectedSpec)

/-- ITS FALSE NEIGHBOUR: 'it returns false'. Refute it at one input. -/
def bayConnectedWrong : ChangeSpec := { name := "bayConnected", fn := fun _ => fun
  | [d1, d2] => { results := [.lit (.bool false)], args := [d1, d2] }
  | _ => none }
def BayConnectedWrongFalsely : Prop := bayConnectedRow.holds Try.pinned (OpenSpec.ofChange bayConnectedWrong)

/-- 'gypsumlaw39.BaySpread': WHATEVER THE INPUT: true; the input reads as it did. -/
def baySpreadSpec : ChangeSpec := { name := "baySpread", fn := fun _ => fun
  | [d1, d2] => { results := [.lit (.bool true)], args := [d1, d2] }
  | _ => none }
def baySpreadRow : OpenClaim := { program := "ytpmmjjbllmeneaa", sum := "5b3f39c2a9add89bb1bb3919dde283aa794a4c169cbec99d7475b589dab16e6f", func := "gypsum/gypsumlaw39.BaySpread", spec := "baySpread", unfollowed := true, recurses := true, plainKeys := false, apart := false }
def BaySpreadSaid : Prop := baySpreadRow.holds Try.pinned (OpenSpec.ofChange baySpreadSpec)

/-- ITS FALSE NEIGHBOUR: 'it returns false'. Refute it at one input. -/
def baySpreadWrong : ChangeSpec := { name := "baySpread", fn := fun _ => fun
  | [d1, d2] => { results := [.lit (.bool false)], args := [d1, d2] }
  | _ => none }
def BaySpreadWrongFalsely : Prop := baySpreadRow.holds Try.pinned (OpenSpec.ofChange baySpreadWrong)

/-- 'gypsumlaw39.BayMore': WHATEVER THE INPUT: true; the input reads as it did. -/
def bayMoreSpec : ChangeSpec := { name := "bayMore", fn := fun _ => fun
  | [d1, d2, d3] => { results := [.lit (.bool true)], args := [d1, d2, d3] }
  | _ => none }
def bayMoreRow : OpenClaim := { program := "ytpmmjjbllmeneaa", sum := "5b3f39c2a9add89bb1bb3919dde283aa794a4c169cbec99d7475b589dab16e6f", func := "gypsum/gypsumlaw39.BayMore", spec := "bayMore", unfollowed := true, recurses := true, plainKeys := false, apart := false }
def BayMoreSaid : Prop := bayMoreRow.holds Try.pinned (OpenSpec.ofChange bayMoreSpec)

/-- ITS FALSE NEIGHBOUR: 'it returns false'. Refute it at one input. -/
def bayMoreWrong : ChangeSpec := { name := "bayMore", fn := fun _ => fun
  | [d1, d2, d3] => { results := [.lit (.bool false)], args := [d1, d2, d3] }
  | _ => none }
def BayMoreWrongFalsely : Prop := bayMoreRow.holds Try.pinned (OpenSpec.ofChange bayMoreWrong)

/-- 'gypsumlaw39.BayNear': WHATEVER THE INPUT: true; the input reads as it did. -/
def bayNearSpec : ChangeSpec := { name := "bayNear", fn := fun _ => fun
  | [d1, d2, d3] => { results := [.lit (.bool true)], args := [d1, d2, d3] }
  | _ => none }
def bayNearRow : OpenClaim := { program := "ytpmmjjbllmeneaa", sum := "5b3f39c2a9add89bb1bb3919dde283aa794a4c169cbec99d7475b589dab16e6f", func := "gypsum/gypsumlaw39.BayNear", spec := "bayNear", unfollowed := true, recurses := true, plainKeys := false, apart := false }
def BayNearSaid : Prop := bayNearRow.holds Try.pinned (OpenSpec.ofChange bayNearSpec)

/-- ITS FALSE NEIGHBOUR: 'it returns false'. Refute it at one input. -/
def bayNearWrong : ChangeSpec := { name := "bayNear", fn := fun _ => fun
  | [d1, d2, d3] => { results := [.lit (.bool false)], args := [d1, d2, d3] }
  | _ => none }
def BayNearWrongFalsely : Prop := bayNearRow.holds Try.pinned (OpenSpec.ofChange bayNearWrong)

/-- 'gypsumlaw39.BayTris': WHATEVER THE INPUT: true; the input reads as it did. -/
def bayTrisSpec : ChangeSpec := { name := "bayTris", fn := fun _ => fun
  | [d1, d2] => { results := [.lit (.bool true)], args := [d1, d2] }
  | _ => none }
def bayTrisRow : OpenClaim := { program := "ytpmmjjbllmeneaa", sum := "5b3f39c2a9add89bb1bb3919dde283aa794a4c169cbec99d7475b589dab16e6f", func := "gypsum/gypsumlaw39.BayTris", spec := "bayTris", unfollowed := true, recurses := true, plainKeys := false, apart := false }
def BayTrisSaid : Prop := bayTrisRow.holds Try.pinned (OpenSpec.ofChange bayTrisSpec)

/-- ITS FALSE NEIGHBOUR: 'it returns false'. Refute it at one input. -/
def bayTrisWrong : ChangeSpec := { name := "bayTris", fn := fun _ => fun
  | [d1, d2] => { results := [.lit (.bool false)], args := [d1, d2] }
  | _ => none }
def BayTrisWrongFalsely : Prop := bayTrisRow.holds Try.pinned (OpenSpec.ofChange bayTrisWrong)

/-- 'gypsumlaw39.BayShells': WHATEVER THE INPUT: true; the input reads as it did. -/
def bayShellsSpec : ChangeSpec := { name := "bayShells", fn := fun _ => fun
  | [d1, d2] => { results := [.lit (.bool true)], args := [d1, d2] }
  | _ => none }
def bayShellsRow : OpenClaim := { program := "ytpmmjjbllmeneaa", sum := "5b3f39c2a9add89bb1bb3919dde283aa794a4c169cbec99d7475b589dab16e6f", func := "gypsum/gypsumlaw39.BayShells", spec := "bayShells", unfollowed := true, recurses := true, plainKeys := false, apart := false }
def BayShellsSaid : Prop := bayShellsRow.holds Try.pinned (OpenSpec.ofChange bayShellsSpec)

/-- ITS FALSE NEIGHBOUR: 'it returns false'. Refute it at one input. -/
def bayShellsWrong : ChangeSpec := { name := "bayShells", fn := fun _ => fun
  | [d1, d2] => { results := [.lit (.bool false)], args := [d1, d2] }
  | _ => none }
def BayShellsWrongFalsely : Prop := bayShellsRow.holds Try.pinned (OpenSpec.ofChange bayShellsWrong)

/- THE SECOND FORM. 'bulk': how many values and letters a reading holds, each counted each time it is reached (what is shared counts as often as it is met; a slice's spare places count too). A statement '..UptoSaid' is the law's where the arguments, and the package variables that the reading takes, are together of bulk at most 1048576: NARROWER than '..Said'. Prove '..Said' where nothing that the law and all that it calls make is longer than what came in: it says more and counts as full. Else prove '..UptoSaid'. A law counts once. -/
mutual
def uptoBulk {H : Type} : DataW H → Nat
  | .lit (.string bytes) => bytes.length + 1
  | .lit _ => 1
  | .nil => 1
  | .ptr d => uptoBulk d + 1
  | .slice elems spare => uptoBulkAll elems + uptoBulkAll spare + 1
  | .agg parts => uptoBulkAll parts + 1
  | .iface _ d => uptoBulk d + 1
  | .map entries => uptoBulkEntries entries + 1
  | .held _ => 1
def uptoBulkAll {H : Type} : List (DataW H) → Nat
  | [] => 0
  | d :: r => uptoBulk d + uptoBulkAll r
def uptoBulkEntries {H : Type} : List (Lit × DataW H) → Nat
  | [] => 0
  | x :: r => uptoBulkEntry x + uptoBulkEntries r
def uptoBulkEntry {H : Type} : Lit × DataW H → Nat
  | (.string bytes, d) => bytes.length + uptoBulk d + 1
  | (_, d) => uptoBulk d + 1
 end
def uptoSmall : (H : Type) → List (DataW H) → Bool := fun _ ds => decide (uptoBulkAll ds ≤ 1048576)
def OpenSpec.upto (s : _root_.Go.ChangeSpec) : _root_.Go.OpenSpec := { _root_.Go.OpenSpec.ofChange s with cond := some uptoSmall }

/-- 'gypsumlaw39.BaySeeds', WHERE WHAT IT READS IS OF BULK AT MOST 1048576: true; the input reads as it did. -/
def baySeedsUptoRow : OpenClaim := { program := "ytpmmjjbllmeneaa", sum := "5b3f39c2a9add89bb1bb3919dde283aa794a4c169cbec99d7475b589dab16e6f", func := "gypsum/gypsumlaw39.BaySeeds", spec := "baySeeds", unfollowed := true, recurses := true, plainKeys := false, apart := false, narrowed := true }
def BaySeedsUptoSaid : Prop := baySeedsUptoRow.holds Try.pinned (OpenSpec.upto baySeedsSpec)

/-- 'gypsumlaw39.BayGrows', WHERE WHAT IT READS IS OF BULK AT MOST 1048576: true; the input reads as it did. -/
def bayGrowsUptoRow : OpenClaim := { program := "ytpmmjjbllmeneaa", sum := "5b3f39c2a9add89bb1bb3919dde283aa794a4c169cbec99d7475b589dab16e6f", func := "gypsum/gypsumlaw39.BayGrows", spec := "bayGrows", unfollowed := true, recurses := true, plainKeys := false, apart := false, narrowed := true }
def BayGrowsUptoSaid : Prop := bayGrowsUptoRow.holds Try.pinned (OpenSpec.upto bayGrowsSpec)

/-- 'gypsumlaw39.BayConnected', WHERE WHAT IT READS IS OF BULK AT MOST 1048576: true; the input reads as it did. -/
def bayConnectedUptoRow : OpenClaim := { program := "ytpmmjjbllmeneaa", sum := "5b3f39c2a9add89bb1bb3919dde283aa794a4c169cbec99d7475b589dab16e6f", func := "gypsum/gypsumlaw39.BayConnected", spec := "bayConnected", unfollowed := true, recurses := true, plainKeys := false, apart := false, narrowed := true }
def BayConnectedUptoSaid : Prop := bayConnectedUptoRow.holds Try.pinned (OpenSpec.upto bayConnectedSpec)

/-- 'gypsumlaw39.BaySpread', WHERE WHAT IT READS IS OF BULK AT MOST 1048576: true; the input reads as it did. -/
def baySpreadUptoRow : OpenClaim := { program := "ytpmmjjbllmeneaa", sum := "5b3f39c2a9add89bb1bb3919dde283aa794a4c169cbec99d7475b589dab16e6f", func := "gypsum/gypsumlaw39.BaySpread", spec := "baySpread", unfollowed := true, recurses := true, plainKeys := false, apart := false, narrowed := true }
def BaySpreadUptoSaid : Prop := baySpreadUptoRow.holds Try.pinned (OpenSpec.upto baySpreadSpec)

/-- 'gypsumlaw39.BayMore', WHERE WHAT IT READS IS OF BULK AT MOST 1048576: true; the input reads as it did. -/
def bayMoreUptoRow : OpenClaim := { program := "ytpmmjjbllmeneaa", sum := "5b3f39c2a9add89bb1bb3919dde283aa794a4c169cbec99d7475b589dab16e6f", func := "gypsum/gypsumlaw39.BayMore", spec := "bayMore", unfollowed := true, recurses := true, plainKeys := false, apart := false, narrowed := true }
def BayMoreUptoSaid : Prop := bayMoreUptoRow.holds Try.pinned (OpenSpec.upto bayMoreSpec)

/-- 'gypsumlaw39.BayNear', WHERE WHAT IT READS IS OF BULK AT MOST 1048576: true; the input reads as it did. -/
def bayNearUptoRow : OpenClaim := { program := "ytpmmjjbllmeneaa", sum := "5b3f39c2a9add89bb1bb3919dde283aa794a4c169cbec99d7475b589dab16e6f", func := "gypsum/gypsumlaw39.BayNear", spec := "bayNear", unfollowed := true, recurses := true, plainKeys := false, apart := false, narrowed := true }
def BayNearUptoSaid : Prop := bayNearUptoRow.holds Try.pinned (OpenSpec.upto bayNearSpec)

/-- 'gypsumlaw39.BayTris', WHERE WHAT IT READS IS OF BULK AT MOST 1048576: true; the input reads as it did. -/
def bayTrisUptoRow : OpenClaim := { program := "ytpmmjjbllmeneaa", sum := "5b3f39c2a9add89bb1bb3919dde283aa794a4c169cbec99d7475b589dab16e6f", func := "gypsum/gypsumlaw39.BayTris", spec := "bayTris", unfollowed := true, recurses := true, plainKeys := false, apart := false, narrowed := true }
def BayTrisUptoSaid : Prop := bayTrisUptoRow.holds Try.pinned (OpenSpec.upto bayTrisSpec)

/-- 'gypsumlaw39.BayShells', WHERE WHAT IT READS IS OF BULK AT MOST 1048576: true; the input reads as it did. -/
def bayShellsUptoRow : OpenClaim := { program := "ytpmmjjbllmeneaa", sum := "5b3f39c2a9add89bb1bb3919dde283aa794a4c169cbec99d7475b589dab16e6f", func := "gypsum/gypsumlaw39.BayShells", spec := "bayShells", unfollowed := true, recurses := true, plainKeys := false, apart := false, narrowed := true }
def BayShellsUptoSaid : Prop := bayShellsUptoRow.holds Try.pinned (OpenSpec.upto bayShellsSpec)

end Rows
end Go.Proofs.Ytpmmjjbllmeneaa
