/-
  No cell of these rows narrows 'for every input' (looked for: loops, veiled, ifaces, maps, wideKeys, modest, calm, conditions, laid).
  DERIVED. THE GIVEN ROWS OF THIS SEAT. 13 by the template 'for every input the law returns true; each argument reads behind the call as it read before'; 0 by the template 'total and deterministic' (their statements: YtckkpmjkajkkmaaTotals.lean).
  GIVEN WITH THE SEED: the statements are not yours to turn. If you find one false, say at which input.
  Laid BY PROGRAM, IN A SANDBOX (cutbox-rows.mjs): the forced cells as the released guide's own fill.sh prints them over the translation be9e101cd291082f… (all of the seat's roots in one cut). By AI agents, Wed Nov 11 2026. No macro, syntax, notation, axiom, sorry.
-/
import Derived.Test.YtckkpmjkajkkmaaChecked
import GoSem.Claim
import GoSem.ClaimJoined
import GoSem.ClaimMapViews
import Derived.JoinedTies
import Derived.KernelRfl
namespace Go.Proofs.Ytckkpmjkajkkmaa
/- THE CELL 'sum', in the pinned program and in every row, IS THE sha256 OF THE DUMP (.gsa) THAT YtckkpmjkajkkmaaProg.lean LOADS. Nothing in Lean hashes anything: it is a label: what it is worth is what the hold of that sum in a sandbox is worth. -/
noncomputable def Try.pinned : Pinned := { name := "ytckkpmjkajkkmaa", sum := "be9e101cd291082fc3b41b006d432427a84d19f2982a6ec5b2e189185958c0e5", checked := Try.checked }
namespace Rows
def none {H : Type} : Left H := { results := [], args := [] }

/-- 'gypsumlaw11.RingArounds': WHATEVER THE INPUT: true; the input reads as it did. -/
def ringAroundsSpec : ChangeSpec := { name := "ringArounds", fn := fun _ => fun
  | [d1, d2, d3] => { results := [.lit (.bool true)], args := [d1, d2, d3] }
  | _ => none }
def ringAroundsRow : OpenClaim := { program := "ytckkpmjkajkkmaa", sum := "be9e101cd291082fc3b41b006d432427a84d19f2982a6ec5b2e189185958c0e5", func := "gypsum/gypsumlaw11.RingArounds", spec := "ringArounds", unfollowed := true, recurses := true, plainKeys := false, apart := false }
def RingAroundsSaid : Prop := ringAroundsRow.holds Try.pinned (OpenSpec.ofChange ringAroundsSpec)

/-- ITS FALSE NEIGHBOUR: 'it returns false'. Refute it at one input. -/
def ringAroundsWrong : ChangeSpec := { name := "ringArounds", fn := fun _ => fun
  | [d1, d2, d3] => { results := [.lit (.bool false)], args := [d1, d2, d3] }
  | _ => none }
def RingAroundsWrongFalsely : Prop := ringAroundsRow.holds Try.pinned (OpenSpec.ofChange ringAroundsWrong)

/-- 'gypsumlaw11.RingTurns': WHATEVER THE INPUT: true; the input reads as it did. -/
def ringTurnsSpec : ChangeSpec := { name := "ringTurns", fn := fun _ => fun
  | [d1, d2] => { results := [.lit (.bool true)], args := [d1, d2] }
  | _ => none }
def ringTurnsRow : OpenClaim := { program := "ytckkpmjkajkkmaa", sum := "be9e101cd291082fc3b41b006d432427a84d19f2982a6ec5b2e189185958c0e5", func := "gypsum/gypsumlaw11.RingTurns", spec := "ringTurns", unfollowed := true, recurses := true, plainKeys := false, apart := false }
def RingTurnsSaid : Prop := ringTurnsRow.holds Try.pinned (OpenSpec.ofChange ringTurnsSpec)

/-- ITS FALSE NEIGHBOUR: 'it returns false'. Refute it at one input. -/
def ringTurnsWrong : ChangeSpec := { name := "ringTurns", fn := fun _ => fun
  | [d1, d2] => { results := [.lit (.bool false)], args := [d1, d2] }
  | _ => none }
def RingTurnsWrongFalsely : Prop := ringTurnsRow.holds Try.pinned (OpenSpec.ofChange ringTurnsWrong)

/-- 'gypsumlaw11.RingOnce': WHATEVER THE INPUT: true; the input reads as it did. -/
def ringOnceSpec : ChangeSpec := { name := "ringOnce", fn := fun _ => fun
  | [d] => { results := [.lit (.bool true)], args := [d] }
  | _ => none }
def ringOnceRow : OpenClaim := { program := "ytckkpmjkajkkmaa", sum := "be9e101cd291082fc3b41b006d432427a84d19f2982a6ec5b2e189185958c0e5", func := "gypsum/gypsumlaw11.RingOnce", spec := "ringOnce", unfollowed := true, recurses := true, plainKeys := false, apart := false }
def RingOnceSaid : Prop := ringOnceRow.holds Try.pinned (OpenSpec.ofChange ringOnceSpec)

/-- ITS FALSE NEIGHBOUR: 'it returns false'. Refute it at one input. -/
def ringOnceWrong : ChangeSpec := { name := "ringOnce", fn := fun _ => fun
  | [d] => { results := [.lit (.bool false)], args := [d] }
  | _ => none }
def RingOnceWrongFalsely : Prop := ringOnceRow.holds Try.pinned (OpenSpec.ofChange ringOnceWrong)

/-- 'gypsumlaw12.BorderEdges': WHATEVER THE INPUT: true; the input reads as it did. -/
def borderEdgesSpec : ChangeSpec := { name := "borderEdges", fn := fun _ => fun
  | [d1, d2] => { results := [.lit (.bool true)], args := [d1, d2] }
  | _ => none }
def borderEdgesRow : OpenClaim := { program := "ytckkpmjkajkkmaa", sum := "be9e101cd291082fc3b41b006d432427a84d19f2982a6ec5b2e189185958c0e5", func := "gypsum/gypsumlaw12.BorderEdges", spec := "borderEdges", unfollowed := true, recurses := true, plainKeys := false, apart := false }
def BorderEdgesSaid : Prop := borderEdgesRow.holds Try.pinned (OpenSpec.ofChange borderEdgesSpec)

/-- ITS FALSE NEIGHBOUR: 'it returns false'. Refute it at one input. -/
def borderEdgesWrong : ChangeSpec := { name := "borderEdges", fn := fun _ => fun
  | [d1, d2] => { results := [.lit (.bool false)], args := [d1, d2] }
  | _ => none }
def BorderEdgesWrongFalsely : Prop := borderEdgesRow.holds Try.pinned (OpenSpec.ofChange borderEdgesWrong)

/-- 'gypsumlaw12.BorderWalks': WHATEVER THE INPUT: true; the input reads as it did. -/
def borderWalksSpec : ChangeSpec := { name := "borderWalks", fn := fun _ => fun
  | [d1, d2, d3] => { results := [.lit (.bool true)], args := [d1, d2, d3] }
  | _ => none }
def borderWalksRow : OpenClaim := { program := "ytckkpmjkajkkmaa", sum := "be9e101cd291082fc3b41b006d432427a84d19f2982a6ec5b2e189185958c0e5", func := "gypsum/gypsumlaw12.BorderWalks", spec := "borderWalks", unfollowed := true, recurses := true, plainKeys := false, apart := false }
def BorderWalksSaid : Prop := borderWalksRow.holds Try.pinned (OpenSpec.ofChange borderWalksSpec)

/-- ITS FALSE NEIGHBOUR: 'it returns false'. Refute it at one input. -/
def borderWalksWrong : ChangeSpec := { name := "borderWalks", fn := fun _ => fun
  | [d1, d2, d3] => { results := [.lit (.bool false)], args := [d1, d2, d3] }
  | _ => none }
def BorderWalksWrongFalsely : Prop := borderWalksRow.holds Try.pinned (OpenSpec.ofChange borderWalksWrong)

/-- 'gypsumlaw12.BorderTurned': WHATEVER THE INPUT: true; the input reads as it did. -/
def borderTurnedSpec : ChangeSpec := { name := "borderTurned", fn := fun _ => fun
  | [d1, d2] => { results := [.lit (.bool true)], args := [d1, d2] }
  | _ => none }
def borderTurnedRow : OpenClaim := { program := "ytckkpmjkajkkmaa", sum := "be9e101cd291082fc3b41b006d432427a84d19f2982a6ec5b2e189185958c0e5", func := "gypsum/gypsumlaw12.BorderTurned", spec := "borderTurned", unfollowed := true, recurses := true, plainKeys := false, apart := false }
def BorderTurnedSaid : Prop := borderTurnedRow.holds Try.pinned (OpenSpec.ofChange borderTurnedSpec)

/-- ITS FALSE NEIGHBOUR: 'it returns false'. Refute it at one input. -/
def borderTurnedWrong : ChangeSpec := { name := "borderTurned", fn := fun _ => fun
  | [d1, d2] => { results := [.lit (.bool false)], args := [d1, d2] }
  | _ => none }
def BorderTurnedWrongFalsely : Prop := borderTurnedRow.holds Try.pinned (OpenSpec.ofChange borderTurnedWrong)

/-- 'gypsumlaw12.BorderCloses': WHATEVER THE INPUT: true; the input reads as it did. -/
def borderClosesSpec : ChangeSpec := { name := "borderCloses", fn := fun _ => fun
  | [d] => { results := [.lit (.bool true)], args := [d] }
  | _ => none }
def borderClosesRow : OpenClaim := { program := "ytckkpmjkajkkmaa", sum := "be9e101cd291082fc3b41b006d432427a84d19f2982a6ec5b2e189185958c0e5", func := "gypsum/gypsumlaw12.BorderCloses", spec := "borderCloses", unfollowed := true, recurses := true, plainKeys := false, apart := false }
def BorderClosesSaid : Prop := borderClosesRow.holds Try.pinned (OpenSpec.ofChange borderClosesSpec)

/-- ITS FALSE NEIGHBOUR: 'it returns false'. Refute it at one input. -/
def borderClosesWrong : ChangeSpec := { name := "borderCloses", fn := fun _ => fun
  | [d] => { results := [.lit (.bool false)], args := [d] }
  | _ => none }
def BorderClosesWrongFalsely : Prop := borderClosesRow.holds Try.pinned (OpenSpec.ofChange borderClosesWrong)

/-- 'gypsumlaw12.BorderNone': WHATEVER THE INPUT: true; the input reads as it did. -/
def borderNoneSpec : ChangeSpec := { name := "borderNone", fn := fun _ => fun
  | [d] => { results := [.lit (.bool true)], args := [d] }
  | _ => none }
def borderNoneRow : OpenClaim := { program := "ytckkpmjkajkkmaa", sum := "be9e101cd291082fc3b41b006d432427a84d19f2982a6ec5b2e189185958c0e5", func := "gypsum/gypsumlaw12.BorderNone", spec := "borderNone", unfollowed := true, recurses := true, plainKeys := false, apart := false }
def BorderNoneSaid : Prop := borderNoneRow.holds Try.pinned (OpenSpec.ofChange borderNoneSpec)

/-- ITS FALSE NEIGHBOUR: 'it returns false'. Refute it at one input. -/
def borderNoneWrong : ChangeSpec := { name := "borderNone", fn := fun _ => fun
  | [d] => { results := [.lit (.bool false)], args := [d] }
  | _ => none }
def BorderNoneWrongFalsely : Prop := borderNoneRow.holds Try.pinned (OpenSpec.ofChange borderNoneWrong)

/-- 'gypsumlaw11.RingTurned': WHATEVER THE INPUT: true; the input reads as it did. -/
def ringTurnedSpec : ChangeSpec := { name := "ringTurned", fn := fun _ => fun
  | [d1, d2] => { results := [.lit (.bool true)], args := [d1, d2] }
  | _ => none }
def ringTurnedRow : OpenClaim := { program := "ytckkpmjkajkkmaa", sum := "be9e101cd291082fc3b41b006d432427a84d19f2982a6ec5b2e189185958c0e5", func := "gypsum/gypsumlaw11.RingTurned", spec := "ringTurned", unfollowed := true, recurses := true, plainKeys := false, apart := false }
def RingTurnedSaid : Prop := ringTurnedRow.holds Try.pinned (OpenSpec.ofChange ringTurnedSpec)

/-- ITS FALSE NEIGHBOUR: 'it returns false'. Refute it at one input. -/
def ringTurnedWrong : ChangeSpec := { name := "ringTurned", fn := fun _ => fun
  | [d1, d2] => { results := [.lit (.bool false)], args := [d1, d2] }
  | _ => none }
def RingTurnedWrongFalsely : Prop := ringTurnedRow.holds Try.pinned (OpenSpec.ofChange ringTurnedWrong)

/-- 'gypsumlaw11.RingTells': WHATEVER THE INPUT: true; the input reads as it did. -/
def ringTellsSpec : ChangeSpec := { name := "ringTells", fn := fun _ => fun
  | [d1, d2, d3] => { results := [.lit (.bool true)], args := [d1, d2, d3] }
  | _ => none }
def ringTellsRow : OpenClaim := { program := "ytckkpmjkajkkmaa", sum := "be9e101cd291082fc3b41b006d432427a84d19f2982a6ec5b2e189185958c0e5", func := "gypsum/gypsumlaw11.RingTells", spec := "ringTells", unfollowed := true, recurses := true, plainKeys := false, apart := false }
def RingTellsSaid : Prop := ringTellsRow.holds Try.pinned (OpenSpec.ofChange ringTellsSpec)

/-- ITS FALSE NEIGHBOUR: 'it returns false'. Refute it at one input. -/
def ringTellsWrong : ChangeSpec := { name := "ringTells", fn := fun _ => fun
  | [d1, d2, d3] => { results := [.lit (.bool false)], args := [d1, d2, d3] }
  | _ => none }
def RingTellsWrongFalsely : Prop := ringTellsRow.holds Try.pinned (OpenSpec.ofChange ringTellsWrong)

/-- 'gypsumlaw11.RingLinks': WHATEVER THE INPUT: true; the input reads as it did. -/
def ringLinksSpec : ChangeSpec := { name := "ringLinks", fn := fun _ => fun
  | [d1, d2] => { results := [.lit (.bool true)], args := [d1, d2] }
  | _ => none }
def ringLinksRow : OpenClaim := { program := "ytckkpmjkajkkmaa", sum := "be9e101cd291082fc3b41b006d432427a84d19f2982a6ec5b2e189185958c0e5", func := "gypsum/gypsumlaw11.RingLinks", spec := "ringLinks", unfollowed := true, recurses := true, plainKeys := false, apart := false }
def RingLinksSaid : Prop := ringLinksRow.holds Try.pinned (OpenSpec.ofChange ringLinksSpec)

/-- ITS FALSE NEIGHBOUR: 'it returns false'. Refute it at one input. -/
def ringLinksWrong : ChangeSpec := { name := "ringLinks", fn := fun _ => fun
  | [d1, d2] => { results := [.lit (.bool false)], args := [d1, d2] }
  | _ => none }
def RingLinksWrongFalsely : Prop := ringLinksRow.holds Try.pinned (OpenSpec.ofChange ringLinksWrong)

/-- 'gypsumlaw12.BorderOnce': WHATEVER THE INPUT: true; the input reads as it did. -/
def borderOnceSpec : ChangeSpec := { name := "borderOnce", fn := fun _ => fun
  | [d] => { results := [.lit (.bool true)], args := [d] }
  | _ => none }
def borderOnceRow : OpenClaim := { program := "ytckkpmjkajkkmaa", sum := "be9e101cd291082fc3b41b006d432427a84d19f2982a6ec5b2e189185958c0e5", func := "gypsum/gypsumlaw12.BorderOnce", spec := "borderOnce", unfollowed := true, recurses := true, plainKeys := false, apart := false }
def BorderOnceSaid : Prop := borderOnceRow.holds Try.pinned (OpenSpec.ofChange borderOnceSpec)

/-- ITS FALSE NEIGHBOUR: 'it returns false'. Refute it at one input. -/
def borderOnceWrong : ChangeSpec := { name := "borderOnce", fn := fun _ => fun
  | [d] => { results := [.lit (.bool false)], args := [d] }
  | _ => none }
def BorderOnceWrongFalsely : Prop := borderOnceRow.holds Try.pinned (OpenSpec.ofChange borderOnceWrong)

/-- 'gypsumlaw12.BorderLinks': WHATEVER THE INPUT: true; the input reads as it did. -/
def borderLinksSpec : ChangeSpec := { name := "borderLinks", fn := fun _ => fun
  | [d1, d2] => { results := [.lit (.bool true)], args := [d1, d2] }
  | _ => none }
def borderLinksRow : OpenClaim := { program := "ytckkpmjkajkkmaa", sum := "be9e101cd291082fc3b41b006d432427a84d19f2982a6ec5b2e189185958c0e5", func := "gypsum/gypsumlaw12.BorderLinks", spec := "borderLinks", unfollowed := true, recurses := true, plainKeys := false, apart := false }
def BorderLinksSaid : Prop := borderLinksRow.holds Try.pinned (OpenSpec.ofChange borderLinksSpec)

/-- ITS FALSE NEIGHBOUR: 'it returns false'. Refute it at one input. -/
def borderLinksWrong : ChangeSpec := { name := "borderLinks", fn := fun _ => fun
  | [d1, d2] => { results := [.lit (.bool false)], args := [d1, d2] }
  | _ => none }
def BorderLinksWrongFalsely : Prop := borderLinksRow.holds Try.pinned (OpenSpec.ofChange borderLinksWrong)

/- THE SECOND FORM. 'bulk': how many values and letters a reading holds, each counted each time it is reached (what is shared counts as often as it is met; a slice's spare places count too). A statement '..UptoSaid' is the law's where the arguments, and the package variables that the reading takes, are together of bulk at most 1048576: NARROWER than '..Said'. Prove '..Said' where nothing that the law and all that it calls make is longer than what came in: it says more and counts as full. Else prove '..UptoSaid'. A law counts once. -/
mutual
def uptoBulk {H : Type} : DataW H → Nat
  | .lit (.string bytes) => bytes.length + 1
  | .lit _ => 1
  | .nil => 1
  | .ptr d => uptoBulk d + 1
  | .slice elems spare => uptoBulkAll elems + uptoBulkAll spare + 1
  | .agg parts => uptoBulkAll parts + 1
  | .iface _ d => uptoBulk d + 1
  | .map entries => uptoBulkEntries entries + 1
  | .held _ => 1
def uptoBulkAll {H : Type} : List (DataW H) → Nat
  | [] => 0
  | d :: r => uptoBulk d + uptoBulkAll r
def uptoBulkEntries {H : Type} : List (Lit × DataW H) → Nat
  | [] => 0
  | x :: r => uptoBulkEntry x + uptoBulkEntries r
def uptoBulkEntry {H : Type} : Lit × DataW H → Nat
  | (.string bytes, d) => bytes.length + uptoBulk d + 1
  | (_, d) => uptoBulk d + 1
 end
def uptoSmall : (H : Type) → List (DataW H) → Bool := fun _ ds => decide (uptoBulkAll ds ≤ 1048576)
def OpenSpec.upto (s : _root_.Go.ChangeSpec) : _root_.Go.OpenSpec := { _root_.Go.OpenSpec.ofChange s with cond := some uptoSmall }

/-- 'gypsumlaw11.RingArounds', WHERE WHAT IT READS IS OF BULK AT MOST 1048576: true; the input reads as it did. -/
def ringAroundsUptoRow : OpenClaim := { program := "ytckkpmjkajkkmaa", sum := "be9e101cd291082fc3b41b006d432427a84d19f2982a6ec5b2e189185958c0e5", func := "gypsum/gypsumlaw11.RingArounds", spec := "ringArounds", unfollowed := true, recurses := true, plainKeys := false, apart := false, narrowed := true }
def RingAroundsUptoSaid : Prop := ringAroundsUptoRow.holds Try.pinned (OpenSpec.upto ringAroundsSpec)

/-- 'gypsumlaw11.RingTurns', WHERE WHAT IT READS IS OF BULK AT MOST 1048576: true; the input reads as it did. -/
def ringTurnsUptoRow : OpenClaim := { program := "ytckkpmjkajkkmaa", sum := "be9e101cd291082fc3b41b006d432427a84d19f2982a6ec5b2e189185958c0e5", func := "gypsum/gypsumlaw11.RingTurns", spec := "ringTurns", unfollowed := true, recurses := true, plainKeys := false, apart := false, narrowed := true }
def RingTurnsUptoSaid : Prop := ringTurnsUptoRow.holds Try.pinned (OpenSpec.upto ringTurnsSpec)

/-- 'gypsumlaw11.RingOnce', WHERE WHAT IT READS IS OF BULK AT MOST 1048576: true; the input reads as it did. -/
def ringOnceUptoRow : OpenClaim := { program := "ytckkpmjkajkkmaa", sum := "be9e101cd291082fc3b41b006d432427a84d19f2982a6ec5b2e189185958c0e5", func := "gypsum/gypsumlaw11.RingOnce", spec := "ringOnce", unfollowed := true, recurses := true, plainKeys := false, apart := false, narrowed := true }
def RingOnceUptoSaid : Prop := ringOnceUptoRow.holds Try.pinned (OpenSpec.upto ringOnceSpec)

/-- 'gypsumlaw12.BorderEdges', WHERE WHAT IT READS IS OF BULK AT MOST 1048576: true; the input reads as it did. -/
def borderEdgesUptoRow : OpenClaim := { program := "ytckkpmjkajkkmaa", sum := "be9e101cd291082fc3b41b006d432427a84d19f2982a6ec5b2e189185958c0e5", func := "gypsum/gypsumlaw12.BorderEdges", spec := "borderEdges", unfollowed := true, recurses := true, plainKeys := false, apart := false, narrowed := true }
def BorderEdgesUptoSaid : Prop := borderEdgesUptoRow.holds Try.pinned (OpenSpec.upto borderEdgesSpec)

/-- 'gypsumlaw12.BorderWalks', WHERE WHAT IT READS IS OF BULK AT MOST 1048576: true; the input reads as it did. -/
def borderWalksUptoRow : OpenClaim := { program := "ytckkpmjkajkkmaa", sum := "be9e101cd291082fc3b41b006d432427a84d19f2982a6ec5b2e189185958c0e5", func := "gypsum/gypsumlaw12.BorderWalks", spec := "borderWalks", unfollowed := true, recurses := true, plainKeys := false, apart := false, narrowed := true }
def BorderWalksUptoSaid : Prop := borderWalksUptoRow.holds Try.pinned (OpenSpec.upto borderWalksSpec)

/-- 'gypsumlaw12.BorderTurned', WHERE WHAT IT READS IS OF BULK AT MOST 1048576: true; the input reads as it did. -/
def borderTurnedUptoRow : OpenClaim := { program := "ytckkpmjkajkkmaa", sum := "be9e101cd291082fc3b41b006d432427a84d19f2982a6ec5b2e189185958c0e5", func := "gypsum/gypsumlaw12.BorderTurned", spec := "borderTurned", unfollowed := true, recurses := true, plainKeys := false, apart := false, narrowed := true }
def BorderTurnedUptoSaid : Prop := borderTurnedUptoRow.holds Try.pinned (OpenSpec.upto borderTurnedSpec)

/-- 'gypsumlaw12.BorderCloses', WHERE WHAT IT READS IS OF BULK AT MOST 1048576: true; the input reads as it did. -/
def borderClosesUptoRow : OpenClaim := { program := "ytckkpmjkajkkmaa", sum := "be9e101cd291082fc3b41b006d432427a84d19f2982a6ec5b2e189185958c0e5", func := "gypsum/gypsumlaw12.BorderCloses", spec := "borderCloses", unfollowed := true, recurses := true, plainKeys := false, apart := false, narrowed := true }
def BorderClosesUptoSaid : Prop := borderClosesUptoRow.holds Try.pinned (OpenSpec.upto borderClosesSpec)

/-- 'gypsumlaw12.BorderNone', WHERE WHAT IT READS IS OF BULK AT MOST 1048576: true; the input reads as it did. -/
def borderNoneUptoRow : OpenClaim := { program := "ytckkpmjkajkkmaa", sum := "be9e101cd291082fc3b41b006d432427a84d19f2982a6ec5b2e189185958c0e5", func := "gypsum/gypsumlaw12.BorderNone", spec := "borderNone", unfollowed := true, recurses := true, plainKeys := false, apart := false, narrowed := true }
def BorderNoneUptoSaid : Prop := borderNoneUptoRow.holds Try.pinned (OpenSpec.upto borderNoneSpec)

/-- 'gypsumlaw11.RingTurned', WHERE WHAT IT READS IS OF BULK AT MOST 1048576: true; the input reads as it did. -/
def ringTurnedUptoRow : OpenClaim := { program := "ytckkpmjkajkkmaa", sum := "be9e101cd291082fc3b41b006d432427a84d19f2982a6ec5b2e189185958c0e5", func := "gypsum/gypsumlaw11.RingTurned", spec := "ringTurned", unfollowed := true, recurses := true, plainKeys := false, apart := false, narrowed := true }
def RingTurnedUptoSaid : Prop := ringTurnedUptoRow.holds Try.pinned (OpenSpec.upto ringTurnedSpec)

/-- 'gypsumlaw11.RingTells', WHERE WHAT IT READS IS OF BULK AT MOST 1048576: true; the input reads as it did. -/
def ringTellsUptoRow : OpenClaim := { program := "ytckkpmjkajkkmaa", sum := "be9e101cd291082fc3b41b006d432427a84d19f2982a6ec5b2e189185958c0e5", func := "gypsum/gypsumlaw11.RingTells", spec := "ringTells", unfollowed := true, recurses := true, plainKeys := false, apart := false, narrowed := true }
def RingTellsUptoSaid : Prop := ringTellsUptoRow.holds Try.pinned (OpenSpec.upto ringTellsSpec)

/-- 'gypsumlaw11.RingLinks', WHERE WHAT IT READS IS OF BULK AT MOST 1048576: true; the input reads as it did. -/
def ringLinksUptoRow : OpenClaim := { program := "ytckkpmjkajkkmaa", sum := "be9e101cd291082fc3b41b006d432427a84d19f2982a6ec5b2e189185958c0e5", func := "gypsum/gypsumlaw11.RingLinks", spec := "ringLinks", unfollowed := true, recurses := true, plainKeys := false, apart := false, narrowed := true }
def RingLinksUptoSaid : Prop := ringLinksUptoRow.holds Try.pinned (OpenSpec.upto ringLinksSpec)

/-- 'gypsumlaw12.BorderOnce', WHERE WHAT IT READS IS OF BULK AT MOST 1048576: true; the input reads as it did. -/
def borderOnceUptoRow : OpenClaim := { program := "ytckkpmjkajkkmaa", sum := "be9e101cd291082fc3b41b006d432427a84d19f2982a6ec5b2e189185958c0e5", func := "gypsum/gypsumlaw12.BorderOnce", spec := "borderOnce", unfollowed := true, recurses := true, plainKeys := false, apart := false, narrowed := true }
def BorderOnceUptoSaid : Prop := borderOnceUptoRow.holds Try.pinned (OpenSpec.upto borderOnceSpec)

/-- 'gypsumlaw12.BorderLinks', WHERE WHAT IT READS IS OF BULK AT MOST 1048576: true; the input reads as it did. -/
def borderLinksUptoRow : OpenClaim := { program := "ytckkpmjkajkkmaa", sum := "be9e101cd291082fc3b41b006d432427a84d19f2982a6ec5b2e189185958c0e5", func := "gypsum/gypsumlaw12.BorderLinks", spec := "borderLinks", unfollowed := true, recurses := true, plainKeys := false, apart := false, narrowed := true }
def BorderLinksUptoSaid : Prop := borderLinksUptoRow.holds Try.pinned (OpenSpec.upto borderLinksSpec)

end Rows
end Go.Proofs.Ytckkpmjkajkkmaa
