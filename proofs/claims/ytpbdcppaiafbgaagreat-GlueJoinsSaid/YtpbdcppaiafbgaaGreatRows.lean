/-
  No cell of these rows narrows 'for every input' (looked for: loops, veiled, ifaces, maps, wideKeys, modest, calm, conditions, laid).
  DERIVED. THE GIVEN ROWS OF THIS SEAT. 16 by the template 'for every input the law returns true; each argument reads behind the call as it read before'; 0 by the template 'total and deterministic' (their statements: YtpbdcppaiafbgaaGreatTotals.lean).
  GIVEN WITH THE SEED: the statements are not yours to turn. If you find one false, say at which input.
  Laid BY PROGRAM, IN A SANDBOX (cutbox-rows.mjs): the forced cells as the released guide's own fill.sh prints them over the translation 3962999880c80070… (all of the seat's roots in one cut). By AI agents, Wed Nov 11 2026. No macro, syntax, notation, axiom, sorry.
-/
import Derived.Test.YtpbdcppaiafbgaaGreatChecked
import GoSem.Claim
import GoSem.ClaimJoined
import GoSem.ClaimMapViews
import Derived.JoinedTies
import Derived.KernelRfl
namespace Go.Proofs.YtpbdcppaiafbgaaGreat
/- THE CELL 'sum', in the pinned program and in every row, IS THE sha256 OF THE DUMP (.gsa) THAT YtpbdcppaiafbgaaGreatProg.lean LOADS. Nothing in Lean hashes anything: it is a label: what it is worth is what the hold of that sum in a sandbox is worth. -/
noncomputable def Tryz.pinned : Pinned := { name := "ytpbdcppaiafbgaagreat", sum := "3962999880c80070b476181e285d8e4f871b8a86dc02efe27fd52821aeeb861f", checked := Tryz.checked }
namespace Rows
def none {H : Type} : Left H := { results := [], args := [] }

/-- 'gypsumlaw19.CutAlong': WHATEVER THE INPUT: true; the input reads as it did. -/
def cutAlongSpec : ChangeSpec := { name := "cutAlong", fn := fun _ => fun
  | [d1, d2] => { results := [.lit (.bool true)], args := [d1, d2] }
  | _ => none }
def cutAlongRow : OpenClaim := { program := "ytpbdcppaiafbgaagreat", sum := "3962999880c80070b476181e285d8e4f871b8a86dc02efe27fd52821aeeb861f", func := "gypsum/gypsumlaw19.CutAlong", spec := "cutAlong", unfollowed := true, recurses := true, plainKeys := false, apart := false }
def CutAlongSaid : Prop := cutAlongRow.holds Tryz.pinned (OpenSpec.ofChange cutAlongSpec)

/-- ITS FALSE NEIGHBOUR: 'it returns false'. Refute it at one input. -/
def cutAlongWrong : ChangeSpec := { name := "cutAlong", fn := fun _ => fun
  | [d1, d2] => { results := [.lit (.bool false)], args := [d1, d2] }
  | _ => none }
def CutAlongWrongFalsely : Prop := cutAlongRow.holds Tryz.pinned (OpenSpec.ofChange cutAlongWrong)

/-- 'gypsumlaw19.CutOrder': WHATEVER THE INPUT: true; the input reads as it did. -/
def cutOrderSpec : ChangeSpec := { name := "cutOrder", fn := fun _ => fun
  | [d1, d2, d3] => { results := [.lit (.bool true)], args := [d1, d2, d3] }
  | _ => none }
def cutOrderRow : OpenClaim := { program := "ytpbdcppaiafbgaagreat", sum := "3962999880c80070b476181e285d8e4f871b8a86dc02efe27fd52821aeeb861f", func := "gypsum/gypsumlaw19.CutOrder", spec := "cutOrder", unfollowed := true, recurses := true, plainKeys := false, apart := false }
def CutOrderSaid : Prop := cutOrderRow.holds Tryz.pinned (OpenSpec.ofChange cutOrderSpec)

/-- ITS FALSE NEIGHBOUR: 'it returns false'. Refute it at one input. -/
def cutOrderWrong : ChangeSpec := { name := "cutOrder", fn := fun _ => fun
  | [d1, d2, d3] => { results := [.lit (.bool false)], args := [d1, d2, d3] }
  | _ => none }
def CutOrderWrongFalsely : Prop := cutOrderRow.holds Tryz.pinned (OpenSpec.ofChange cutOrderWrong)

/-- 'gypsumlaw19.CutWrong': WHATEVER THE INPUT: true; the input reads as it did. -/
def cutWrongSpec : ChangeSpec := { name := "cutWrong", fn := fun _ => fun
  | [d1, d2] => { results := [.lit (.bool true)], args := [d1, d2] }
  | _ => none }
def cutWrongRow : OpenClaim := { program := "ytpbdcppaiafbgaagreat", sum := "3962999880c80070b476181e285d8e4f871b8a86dc02efe27fd52821aeeb861f", func := "gypsum/gypsumlaw19.CutWrong", spec := "cutWrong", unfollowed := true, recurses := true, plainKeys := false, apart := false }
def CutWrongSaid : Prop := cutWrongRow.holds Tryz.pinned (OpenSpec.ofChange cutWrongSpec)

/-- ITS FALSE NEIGHBOUR: 'it returns false'. Refute it at one input. -/
def cutWrongWrong : ChangeSpec := { name := "cutWrong", fn := fun _ => fun
  | [d1, d2] => { results := [.lit (.bool false)], args := [d1, d2] }
  | _ => none }
def CutWrongWrongFalsely : Prop := cutWrongRow.holds Tryz.pinned (OpenSpec.ofChange cutWrongWrong)

/-- 'gypsumlaw19.CutSurface': WHATEVER THE INPUT: true; the input reads as it did. -/
def cutSurfaceSpec : ChangeSpec := { name := "cutSurface", fn := fun _ => fun
  | [d1, d2] => { results := [.lit (.bool true)], args := [d1, d2] }
  | _ => none }
def cutSurfaceRow : OpenClaim := { program := "ytpbdcppaiafbgaagreat", sum := "3962999880c80070b476181e285d8e4f871b8a86dc02efe27fd52821aeeb861f", func := "gypsum/gypsumlaw19.CutSurface", spec := "cutSurface", unfollowed := true, recurses := true, plainKeys := false, apart := false }
def CutSurfaceSaid : Prop := cutSurfaceRow.holds Tryz.pinned (OpenSpec.ofChange cutSurfaceSpec)

/-- ITS FALSE NEIGHBOUR: 'it returns false'. Refute it at one input. -/
def cutSurfaceWrong : ChangeSpec := { name := "cutSurface", fn := fun _ => fun
  | [d1, d2] => { results := [.lit (.bool false)], args := [d1, d2] }
  | _ => none }
def CutSurfaceWrongFalsely : Prop := cutSurfaceRow.holds Tryz.pinned (OpenSpec.ofChange cutSurfaceWrong)

/-- 'gypsumlaw19.CutCounts': WHATEVER THE INPUT: true; the input reads as it did. -/
def cutCountsSpec : ChangeSpec := { name := "cutCounts", fn := fun _ => fun
  | [d1, d2] => { results := [.lit (.bool true)], args := [d1, d2] }
  | _ => none }
def cutCountsRow : OpenClaim := { program := "ytpbdcppaiafbgaagreat", sum := "3962999880c80070b476181e285d8e4f871b8a86dc02efe27fd52821aeeb861f", func := "gypsum/gypsumlaw19.CutCounts", spec := "cutCounts", unfollowed := true, recurses := true, plainKeys := false, apart := false }
def CutCountsSaid : Prop := cutCountsRow.holds Tryz.pinned (OpenSpec.ofChange cutCountsSpec)

/-- ITS FALSE NEIGHBOUR: 'it returns false'. Refute it at one input. -/
def cutCountsWrong : ChangeSpec := { name := "cutCounts", fn := fun _ => fun
  | [d1, d2] => { results := [.lit (.bool false)], args := [d1, d2] }
  | _ => none }
def CutCountsWrongFalsely : Prop := cutCountsRow.holds Tryz.pinned (OpenSpec.ofChange cutCountsWrong)

/-- 'gypsumlaw19.CutBorders': WHATEVER THE INPUT: true; the input reads as it did. -/
def cutBordersSpec : ChangeSpec := { name := "cutBorders", fn := fun _ => fun
  | [d1, d2] => { results := [.lit (.bool true)], args := [d1, d2] }
  | _ => none }
def cutBordersRow : OpenClaim := { program := "ytpbdcppaiafbgaagreat", sum := "3962999880c80070b476181e285d8e4f871b8a86dc02efe27fd52821aeeb861f", func := "gypsum/gypsumlaw19.CutBorders", spec := "cutBorders", unfollowed := true, recurses := true, plainKeys := false, apart := false }
def CutBordersSaid : Prop := cutBordersRow.holds Tryz.pinned (OpenSpec.ofChange cutBordersSpec)

/-- ITS FALSE NEIGHBOUR: 'it returns false'. Refute it at one input. -/
def cutBordersWrong : ChangeSpec := { name := "cutBorders", fn := fun _ => fun
  | [d1, d2] => { results := [.lit (.bool false)], args := [d1, d2] }
  | _ => none }
def CutBordersWrongFalsely : Prop := cutBordersRow.holds Tryz.pinned (OpenSpec.ofChange cutBordersWrong)

/-- 'gypsumlaw19.CutStar': WHATEVER THE INPUT: true; the input reads as it did. -/
def cutStarSpec : ChangeSpec := { name := "cutStar", fn := fun _ => fun
  | [d1, d2] => { results := [.lit (.bool true)], args := [d1, d2] }
  | _ => none }
def cutStarRow : OpenClaim := { program := "ytpbdcppaiafbgaagreat", sum := "3962999880c80070b476181e285d8e4f871b8a86dc02efe27fd52821aeeb861f", func := "gypsum/gypsumlaw19.CutStar", spec := "cutStar", unfollowed := true, recurses := true, plainKeys := false, apart := false }
def CutStarSaid : Prop := cutStarRow.holds Tryz.pinned (OpenSpec.ofChange cutStarSpec)

/-- ITS FALSE NEIGHBOUR: 'it returns false'. Refute it at one input. -/
def cutStarWrong : ChangeSpec := { name := "cutStar", fn := fun _ => fun
  | [d1, d2] => { results := [.lit (.bool false)], args := [d1, d2] }
  | _ => none }
def CutStarWrongFalsely : Prop := cutStarRow.holds Tryz.pinned (OpenSpec.ofChange cutStarWrong)

/-- 'gypsumlaw45.GlueOpens': WHATEVER THE INPUT: true; the input reads as it did. -/
def glueOpensSpec : ChangeSpec := { name := "glueOpens", fn := fun _ => fun
  | [d1, d2] => { results := [.lit (.bool true)], args := [d1, d2] }
  | _ => none }
def glueOpensRow : OpenClaim := { program := "ytpbdcppaiafbgaagreat", sum := "3962999880c80070b476181e285d8e4f871b8a86dc02efe27fd52821aeeb861f", func := "gypsum/gypsumlaw45.GlueOpens", spec := "glueOpens", unfollowed := true, recurses := true, plainKeys := false, apart := false }
def GlueOpensSaid : Prop := glueOpensRow.holds Tryz.pinned (OpenSpec.ofChange glueOpensSpec)

/-- ITS FALSE NEIGHBOUR: 'it returns false'. Refute it at one input. -/
def glueOpensWrong : ChangeSpec := { name := "glueOpens", fn := fun _ => fun
  | [d1, d2] => { results := [.lit (.bool false)], args := [d1, d2] }
  | _ => none }
def GlueOpensWrongFalsely : Prop := glueOpensRow.holds Tryz.pinned (OpenSpec.ofChange glueOpensWrong)

/-- 'gypsumlaw45.GlueRefuses': WHATEVER THE INPUT: true; the input reads as it did. -/
def glueRefusesSpec : ChangeSpec := { name := "glueRefuses", fn := fun _ => fun
  | [d1, d2, d3, d4] => { results := [.lit (.bool true)], args := [d1, d2, d3, d4] }
  | _ => none }
def glueRefusesRow : OpenClaim := { program := "ytpbdcppaiafbgaagreat", sum := "3962999880c80070b476181e285d8e4f871b8a86dc02efe27fd52821aeeb861f", func := "gypsum/gypsumlaw45.GlueRefuses", spec := "glueRefuses", unfollowed := true, recurses := true, plainKeys := false, apart := false }
def GlueRefusesSaid : Prop := glueRefusesRow.holds Tryz.pinned (OpenSpec.ofChange glueRefusesSpec)

/-- ITS FALSE NEIGHBOUR: 'it returns false'. Refute it at one input. -/
def glueRefusesWrong : ChangeSpec := { name := "glueRefuses", fn := fun _ => fun
  | [d1, d2, d3, d4] => { results := [.lit (.bool false)], args := [d1, d2, d3, d4] }
  | _ => none }
def GlueRefusesWrongFalsely : Prop := glueRefusesRow.holds Tryz.pinned (OpenSpec.ofChange glueRefusesWrong)

/-- 'gypsumlaw45.GlueBack': WHATEVER THE INPUT: true; the input reads as it did. -/
def glueBackSpec : ChangeSpec := { name := "glueBack", fn := fun _ => fun
  | [d1, d2] => { results := [.lit (.bool true)], args := [d1, d2] }
  | _ => none }
def glueBackRow : OpenClaim := { program := "ytpbdcppaiafbgaagreat", sum := "3962999880c80070b476181e285d8e4f871b8a86dc02efe27fd52821aeeb861f", func := "gypsum/gypsumlaw45.GlueBack", spec := "glueBack", unfollowed := true, recurses := true, plainKeys := false, apart := false }
def GlueBackSaid : Prop := glueBackRow.holds Tryz.pinned (OpenSpec.ofChange glueBackSpec)

/-- ITS FALSE NEIGHBOUR: 'it returns false'. Refute it at one input. -/
def glueBackWrong : ChangeSpec := { name := "glueBack", fn := fun _ => fun
  | [d1, d2] => { results := [.lit (.bool false)], args := [d1, d2] }
  | _ => none }
def GlueBackWrongFalsely : Prop := glueBackRow.holds Tryz.pinned (OpenSpec.ofChange glueBackWrong)

/-- 'gypsumlaw45.GlueSides': WHATEVER THE INPUT: true; the input reads as it did. -/
def glueSidesSpec : ChangeSpec := { name := "glueSides", fn := fun _ => fun
  | [d1, d2] => { results := [.lit (.bool true)], args := [d1, d2] }
  | _ => none }
def glueSidesRow : OpenClaim := { program := "ytpbdcppaiafbgaagreat", sum := "3962999880c80070b476181e285d8e4f871b8a86dc02efe27fd52821aeeb861f", func := "gypsum/gypsumlaw45.GlueSides", spec := "glueSides", unfollowed := true, recurses := true, plainKeys := false, apart := false }
def GlueSidesSaid : Prop := glueSidesRow.holds Tryz.pinned (OpenSpec.ofChange glueSidesSpec)

/-- ITS FALSE NEIGHBOUR: 'it returns false'. Refute it at one input. -/
def glueSidesWrong : ChangeSpec := { name := "glueSides", fn := fun _ => fun
  | [d1, d2] => { results := [.lit (.bool false)], args := [d1, d2] }
  | _ => none }
def GlueSidesWrongFalsely : Prop := glueSidesRow.holds Tryz.pinned (OpenSpec.ofChange glueSidesWrong)

/-- 'gypsumlaw45.GlueJoins': WHATEVER THE INPUT: true; the input reads as it did. -/
def glueJoinsSpec : ChangeSpec := { name := "glueJoins", fn := fun _ => fun
  | [d1, d2, d3, d4, d5] => { results := [.lit (.bool true)], args := [d1, d2, d3, d4, d5] }
  | _ => none }
def glueJoinsRow : OpenClaim := { program := "ytpbdcppaiafbgaagreat", sum := "3962999880c80070b476181e285d8e4f871b8a86dc02efe27fd52821aeeb861f", func := "gypsum/gypsumlaw45.GlueJoins", spec := "glueJoins", unfollowed := true, recurses := true, plainKeys := false, apart := false }
def GlueJoinsSaid : Prop := glueJoinsRow.holds Tryz.pinned (OpenSpec.ofChange glueJoinsSpec)

/-- ITS FALSE NEIGHBOUR: 'it returns false'. Refute it at one input. -/
def glueJoinsWrong : ChangeSpec := { name := "glueJoins", fn := fun _ => fun
  | [d1, d2, d3, d4, d5] => { results := [.lit (.bool false)], args := [d1, d2, d3, d4, d5] }
  | _ => none }
def GlueJoinsWrongFalsely : Prop := glueJoinsRow.holds Tryz.pinned (OpenSpec.ofChange glueJoinsWrong)

/-- 'gypsumlaw45.GlueCounts': WHATEVER THE INPUT: true; the input reads as it did. -/
def glueCountsSpec : ChangeSpec := { name := "glueCounts", fn := fun _ => fun
  | [d1, d2] => { results := [.lit (.bool true)], args := [d1, d2] }
  | _ => none }
def glueCountsRow : OpenClaim := { program := "ytpbdcppaiafbgaagreat", sum := "3962999880c80070b476181e285d8e4f871b8a86dc02efe27fd52821aeeb861f", func := "gypsum/gypsumlaw45.GlueCounts", spec := "glueCounts", unfollowed := true, recurses := true, plainKeys := false, apart := false }
def GlueCountsSaid : Prop := glueCountsRow.holds Tryz.pinned (OpenSpec.ofChange glueCountsSpec)

/-- ITS FALSE NEIGHBOUR: 'it returns false'. Refute it at one input. -/
def glueCountsWrong : ChangeSpec := { name := "glueCounts", fn := fun _ => fun
  | [d1, d2] => { results := [.lit (.bool false)], args := [d1, d2] }
  | _ => none }
def GlueCountsWrongFalsely : Prop := glueCountsRow.holds Tryz.pinned (OpenSpec.ofChange glueCountsWrong)

/-- 'gypsumlaw45.GlueFills': WHATEVER THE INPUT: true; the input reads as it did. -/
def glueFillsSpec : ChangeSpec := { name := "glueFills", fn := fun _ => fun
  | [d1, d2] => { results := [.lit (.bool true)], args := [d1, d2] }
  | _ => none }
def glueFillsRow : OpenClaim := { program := "ytpbdcppaiafbgaagreat", sum := "3962999880c80070b476181e285d8e4f871b8a86dc02efe27fd52821aeeb861f", func := "gypsum/gypsumlaw45.GlueFills", spec := "glueFills", unfollowed := true, recurses := true, plainKeys := false, apart := false }
def GlueFillsSaid : Prop := glueFillsRow.holds Tryz.pinned (OpenSpec.ofChange glueFillsSpec)

/-- ITS FALSE NEIGHBOUR: 'it returns false'. Refute it at one input. -/
def glueFillsWrong : ChangeSpec := { name := "glueFills", fn := fun _ => fun
  | [d1, d2] => { results := [.lit (.bool false)], args := [d1, d2] }
  | _ => none }
def GlueFillsWrongFalsely : Prop := glueFillsRow.holds Tryz.pinned (OpenSpec.ofChange glueFillsWrong)

/-- 'gypsumlaw20.SewCut': WHATEVER THE INPUT: true; the input reads as it did. -/
def sewCutSpec : ChangeSpec := { name := "sewCut", fn := fun _ => fun
  | [d1, d2] => { results := [.lit (.bool true)], args := [d1, d2] }
  | _ => none }
def sewCutRow : OpenClaim := { program := "ytpbdcppaiafbgaagreat", sum := "3962999880c80070b476181e285d8e4f871b8a86dc02efe27fd52821aeeb861f", func := "gypsum/gypsumlaw20.SewCut", spec := "sewCut", unfollowed := true, recurses := true, plainKeys := false, apart := false }
def SewCutSaid : Prop := sewCutRow.holds Tryz.pinned (OpenSpec.ofChange sewCutSpec)

/-- ITS FALSE NEIGHBOUR: 'it returns false'. Refute it at one input. -/
def sewCutWrong : ChangeSpec := { name := "sewCut", fn := fun _ => fun
  | [d1, d2] => { results := [.lit (.bool false)], args := [d1, d2] }
  | _ => none }
def SewCutWrongFalsely : Prop := sewCutRow.holds Tryz.pinned (OpenSpec.ofChange sewCutWrong)

/-- 'gypsumlaw20.SewHalves': WHATEVER THE INPUT: true; the input reads as it did. -/
def sewHalvesSpec : ChangeSpec := { name := "sewHalves", fn := fun _ => fun
  | [d1, d2, d3] => { results := [.lit (.bool true)], args := [d1, d2, d3] }
  | _ => none }
def sewHalvesRow : OpenClaim := { program := "ytpbdcppaiafbgaagreat", sum := "3962999880c80070b476181e285d8e4f871b8a86dc02efe27fd52821aeeb861f", func := "gypsum/gypsumlaw20.SewHalves", spec := "sewHalves", unfollowed := true, recurses := true, plainKeys := false, apart := false }
def SewHalvesSaid : Prop := sewHalvesRow.holds Tryz.pinned (OpenSpec.ofChange sewHalvesSpec)

/-- ITS FALSE NEIGHBOUR: 'it returns false'. Refute it at one input. -/
def sewHalvesWrong : ChangeSpec := { name := "sewHalves", fn := fun _ => fun
  | [d1, d2, d3] => { results := [.lit (.bool false)], args := [d1, d2, d3] }
  | _ => none }
def SewHalvesWrongFalsely : Prop := sewHalvesRow.holds Tryz.pinned (OpenSpec.ofChange sewHalvesWrong)

/- THE SECOND FORM. 'bulk': how many values and letters a reading holds, each counted each time it is reached (what is shared counts as often as it is met; a slice's spare places count too). A statement '..UptoSaid' is the law's where the arguments, and the package variables that the reading takes, are together of bulk at most 1048576: NARROWER than '..Said'. Prove '..Said' where nothing that the law and all that it calls make is longer than what came in: it says more and counts as full. Else prove '..UptoSaid'. A law counts once. -/
mutual
def uptoBulk {H : Type} : DataW H → Nat
  | .lit (.string bytes) => bytes.length + 1
  | .lit _ => 1
  | .nil => 1
  | .ptr d => uptoBulk d + 1
  | .slice elems spare => uptoBulkAll elems + uptoBulkAll spare + 1
  | .agg parts => uptoBulkAll parts + 1
  | .iface _ d => uptoBulk d + 1
  | .map entries => uptoBulkEntries entries + 1
  | .held _ => 1
def uptoBulkAll {H : Type} : List (DataW H) → Nat
  | [] => 0
  | d :: r => uptoBulk d + uptoBulkAll r
def uptoBulkEntries {H : Type} : List (Lit × DataW H) → Nat
  | [] => 0
  | x :: r => uptoBulkEntry x + uptoBulkEntries r
def uptoBulkEntry {H : Type} : Lit × DataW H → Nat
  | (.string bytes, d) => bytes.length + uptoBulk d + 1
  | (_, d) => uptoBulk d + 1
 end
def uptoSmall : (H : Type) → List (DataW H) → Bool := fun _ ds => decide (uptoBulkAll ds ≤ 1048576)
def OpenSpec.upto (s : _root_.Go.ChangeSpec) : _root_.Go.OpenSpec := { _root_.Go.OpenSpec.ofChange s with cond := some uptoSmall }

/-- 'gypsumlaw19.CutAlong', WHERE WHAT IT READS IS OF BULK AT MOST 1048576: true; the input reads as it did. -/
def cutAlongUptoRow : OpenClaim := { program := "ytpbdcppaiafbgaagreat", sum := "3962999880c80070b476181e285d8e4f871b8a86dc02efe27fd52821aeeb861f", func := "gypsum/gypsumlaw19.CutAlong", spec := "cutAlong", unfollowed := true, recurses := true, plainKeys := false, apart := false, narrowed := true }
def CutAlongUptoSaid : Prop := cutAlongUptoRow.holds Tryz.pinned (OpenSpec.upto cutAlongSpec)

/-- 'gypsumlaw19.CutOrder', WHERE WHAT IT READS IS OF BULK AT MOST 1048576: true; the input reads as it did. -/
def cutOrderUptoRow : OpenClaim := { program := "ytpbdcppaiafbgaagreat", sum := "3962999880c80070b476181e285d8e4f871b8a86dc02efe27fd52821aeeb861f", func := "gypsum/gypsumlaw19.CutOrder", spec := "cutOrder", unfollowed := true, recurses := true, plainKeys := false, apart := false, narrowed := true }
def CutOrderUptoSaid : Prop := cutOrderUptoRow.holds Tryz.pinned (OpenSpec.upto cutOrderSpec)

/-- 'gypsumlaw19.CutWrong', WHERE WHAT IT READS IS OF BULK AT MOST 1048576: true; the input reads as it did. -/
def cutWrongUptoRow : OpenClaim := { program := "ytpbdcppaiafbgaagreat", sum := "3962999880c80070b476181e285d8e4f871b8a86dc02efe27fd52821aeeb861f", func := "gypsum/gypsumlaw19.CutWrong", spec := "cutWrong", unfollowed := true, recurses := true, plainKeys := false, apart := false, narrowed := true }
def CutWrongUptoSaid : Prop := cutWrongUptoRow.holds Tryz.pinned (OpenSpec.upto cutWrongSpec)

/-- 'gypsumlaw19.CutSurface', WHERE WHAT IT READS IS OF BULK AT MOST 1048576: true; the input reads as it did. -/
def cutSurfaceUptoRow : OpenClaim := { program := "ytpbdcppaiafbgaagreat", sum := "3962999880c80070b476181e285d8e4f871b8a86dc02efe27fd52821aeeb861f", func := "gypsum/gypsumlaw19.CutSurface", spec := "cutSurface", unfollowed := true, recurses := true, plainKeys := false, apart := false, narrowed := true }
def CutSurfaceUptoSaid : Prop := cutSurfaceUptoRow.holds Tryz.pinned (OpenSpec.upto cutSurfaceSpec)

/-- 'gypsumlaw19.CutCounts', WHERE WHAT IT READS IS OF BULK AT MOST 1048576: true; the input reads as it did. -/
def cutCountsUptoRow : OpenClaim := { program := "ytpbdcppaiafbgaagreat", sum := "3962999880c80070b476181e285d8e4f871b8a86dc02efe27fd52821aeeb861f", func := "gypsum/gypsumlaw19.CutCounts", spec := "cutCounts", unfollowed := true, recurses := true, plainKeys := false, apart := false, narrowed := true }
def CutCountsUptoSaid : Prop := cutCountsUptoRow.holds Tryz.pinned (OpenSpec.upto cutCountsSpec)

/-- 'gypsumlaw19.CutBorders', WHERE WHAT IT READS IS OF BULK AT MOST 1048576: true; the input reads as it did. -/
def cutBordersUptoRow : OpenClaim := { program := "ytpbdcppaiafbgaagreat", sum := "3962999880c80070b476181e285d8e4f871b8a86dc02efe27fd52821aeeb861f", func := "gypsum/gypsumlaw19.CutBorders", spec := "cutBorders", unfollowed := true, recurses := true, plainKeys := false, apart := false, narrowed := true }
def CutBordersUptoSaid : Prop := cutBordersUptoRow.holds Tryz.pinned (OpenSpec.upto cutBordersSpec)

/-- 'gypsumlaw19.CutStar', WHERE WHAT IT READS IS OF BULK AT MOST 1048576: true; the input reads as it did. -/
def cutStarUptoRow : OpenClaim := { program := "ytpbdcppaiafbgaagreat", sum := "3962999880c80070b476181e285d8e4f871b8a86dc02efe27fd52821aeeb861f", func := "gypsum/gypsumlaw19.CutStar", spec := "cutStar", unfollowed := true, recurses := true, plainKeys := false, apart := false, narrowed := true }
def CutStarUptoSaid : Prop := cutStarUptoRow.holds Tryz.pinned (OpenSpec.upto cutStarSpec)

/-- 'gypsumlaw45.GlueOpens', WHERE WHAT IT READS IS OF BULK AT MOST 1048576: true; the input reads as it did. -/
def glueOpensUptoRow : OpenClaim := { program := "ytpbdcppaiafbgaagreat", sum := "3962999880c80070b476181e285d8e4f871b8a86dc02efe27fd52821aeeb861f", func := "gypsum/gypsumlaw45.GlueOpens", spec := "glueOpens", unfollowed := true, recurses := true, plainKeys := false, apart := false, narrowed := true }
def GlueOpensUptoSaid : Prop := glueOpensUptoRow.holds Tryz.pinned (OpenSpec.upto glueOpensSpec)

/-- 'gypsumlaw45.GlueRefuses', WHERE WHAT IT READS IS OF BULK AT MOST 1048576: true; the input reads as it did. -/
def glueRefusesUptoRow : OpenClaim := { program := "ytpbdcppaiafbgaagreat", sum := "3962999880c80070b476181e285d8e4f871b8a86dc02efe27fd52821aeeb861f", func := "gypsum/gypsumlaw45.GlueRefuses", spec := "glueRefuses", unfollowed := true, recurses := true, plainKeys := false, apart := false, narrowed := true }
def GlueRefusesUptoSaid : Prop := glueRefusesUptoRow.holds Tryz.pinned (OpenSpec.upto glueRefusesSpec)

/-- 'gypsumlaw45.GlueBack', WHERE WHAT IT READS IS OF BULK AT MOST 1048576: true; the input reads as it did. -/
def glueBackUptoRow : OpenClaim := { program := "ytpbdcppaiafbgaagreat", sum := "3962999880c80070b476181e285d8e4f871b8a86dc02efe27fd52821aeeb861f", func := "gypsum/gypsumlaw45.GlueBack", spec := "glueBack", unfollowed := true, recurses := true, plainKeys := false, apart := false, narrowed := true }
def GlueBackUptoSaid : Prop := glueBackUptoRow.holds Tryz.pinned (OpenSpec.upto glueBackSpec)

/-- 'gypsumlaw45.GlueSides', WHERE WHAT IT READS IS OF BULK AT MOST 1048576: true; the input reads as it did. -/
def glueSidesUptoRow : OpenClaim := { program := "ytpbdcppaiafbgaagreat", sum := "3962999880c80070b476181e285d8e4f871b8a86dc02efe27fd52821aeeb861f", func := "gypsum/gypsumlaw45.GlueSides", spec := "glueSides", unfollowed := true, recurses := true, plainKeys := false, apart := false, narrowed := true }
def GlueSidesUptoSaid : Prop := glueSidesUptoRow.holds Tryz.pinned (OpenSpec.upto glueSidesSpec)

/-- 'gypsumlaw45.GlueJoins', WHERE WHAT IT READS IS OF BULK AT MOST 1048576: true; the input reads as it did. -/
def glueJoinsUptoRow : OpenClaim := { program := "ytpbdcppaiafbgaagreat", sum := "3962999880c80070b476181e285d8e4f871b8a86dc02efe27fd52821aeeb861f", func := "gypsum/gypsumlaw45.GlueJoins", spec := "glueJoins", unfollowed := true, recurses := true, plainKeys := false, apart := false, narrowed := true }
def GlueJoinsUptoSaid : Prop := glueJoinsUptoRow.holds Tryz.pinned (OpenSpec.upto glueJoinsSpec)

/-- 'gypsumlaw45.GlueCounts', WHERE WHAT IT READS IS OF BULK AT MOST 1048576: true; the input reads as it did. -/
def glueCountsUptoRow : OpenClaim := { program := "ytpbdcppaiafbgaagreat", sum := "3962999880c80070b476181e285d8e4f871b8a86dc02efe27fd52821aeeb861f", func := "gypsum/gypsumlaw45.GlueCounts", spec := "glueCounts", unfollowed := true, recurses := true, plainKeys := false, apart := false, narrowed := true }
def GlueCountsUptoSaid : Prop := glueCountsUptoRow.holds Tryz.pinned (OpenSpec.upto glueCountsSpec)

/-- 'gypsumlaw45.GlueFills', WHERE WHAT IT READS IS OF BULK AT MOST 1048576: true; the input reads as it did. -/
def glueFillsUptoRow : OpenClaim := { program := "ytpbdcppaiafbgaagreat", sum := "3962999880c80070b476181e285d8e4f871b8a86dc02efe27fd52821aeeb861f", func := "gypsum/gypsumlaw45.GlueFills", spec := "glueFills", unfollowed := true, recurses := true, plainKeys := false, apart := false, narrowed := true }
def GlueFillsUptoSaid : Prop := glueFillsUptoRow.holds Tryz.pinned (OpenSpec.upto glueFillsSpec)

/-- 'gypsumlaw20.SewCut', WHERE WHAT IT READS IS OF BULK AT MOST 1048576: true; the input reads as it did. -/
def sewCutUptoRow : OpenClaim := { program := "ytpbdcppaiafbgaagreat", sum := "3962999880c80070b476181e285d8e4f871b8a86dc02efe27fd52821aeeb861f", func := "gypsum/gypsumlaw20.SewCut", spec := "sewCut", unfollowed := true, recurses := true, plainKeys := false, apart := false, narrowed := true }
def SewCutUptoSaid : Prop := sewCutUptoRow.holds Tryz.pinned (OpenSpec.upto sewCutSpec)

/-- 'gypsumlaw20.SewHalves', WHERE WHAT IT READS IS OF BULK AT MOST 1048576: true; the input reads as it did. -/
def sewHalvesUptoRow : OpenClaim := { program := "ytpbdcppaiafbgaagreat", sum := "3962999880c80070b476181e285d8e4f871b8a86dc02efe27fd52821aeeb861f", func := "gypsum/gypsumlaw20.SewHalves", spec := "sewHalves", unfollowed := true, recurses := true, plainKeys := false, apart := false, narrowed := true }
def SewHalvesUptoSaid : Prop := sewHalvesUptoRow.holds Tryz.pinned (OpenSpec.upto sewHalvesSpec)

end Rows
end Go.Proofs.YtpbdcppaiafbgaaGreat
