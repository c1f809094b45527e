/-
  No cell of these rows narrows 'for every input' (looked for: loops, veiled, ifaces, maps, wideKeys, modest, calm, conditions, laid).
  DERIVED. THE GIVEN ROWS OF THIS SEAT. 8 by the template 'for every input the law returns true; each argument reads behind the call as it read before'; 0 by the template 'total and deterministic' (their statements: YtbhdfljdfjadnaaTotals.lean).
  GIVEN WITH THE SEED: the statements are not yours to turn. If you find one false, say at which input.
  Laid BY PROGRAM, IN A SANDBOX (cutbox-rows.mjs): the forced cells as the released guide's own fill.sh prints them over the translation 089bbcba68c1bc96… (all of the seat's roots in one cut). By AI agents, Wed Nov 11 2026. No macro, syntax, notation, axiom, sorry.
-/
import Derived.Test.YtbhdfljdfjadnaaChecked
import GoSem.Claim
import GoSem.ClaimJoined
import GoSem.ClaimMapViews
import Derived.JoinedTies
import Derived.KernelRfl
namespace Go.Proofs.Ytbhdfljdfjadnaa
/- THE CELL 'sum', in the pinned program and in every row, IS THE sha256 OF THE DUMP (.gsa) THAT YtbhdfljdfjadnaaProg.lean LOADS. Nothing in Lean hashes anything: it is a label: what it is worth is what the hold of that sum in a sandbox is worth. -/
noncomputable def Try.pinned : Pinned := { name := "ytbhdfljdfjadnaa", sum := "089bbcba68c1bc963e129856729cf17fe79f944b1ba3eb9a329755937a656460", checked := Try.checked }
namespace Rows
def none {H : Type} : Left H := { results := [], args := [] }

/-- 'gypsumlaw51.StreamFalls': WHATEVER THE INPUT: true; the input reads as it did. -/
def streamFallsSpec : ChangeSpec := { name := "streamFalls", fn := fun _ => fun
  | [d] => { results := [.lit (.bool true)], args := [d] }
  | _ => none }
def streamFallsRow : OpenClaim := { program := "ytbhdfljdfjadnaa", sum := "089bbcba68c1bc963e129856729cf17fe79f944b1ba3eb9a329755937a656460", func := "gypsum/gypsumlaw51.StreamFalls", spec := "streamFalls", unfollowed := true, recurses := true, apart := false }
def StreamFallsSaid : Prop := streamFallsRow.holds Try.pinned (OpenSpec.ofChange streamFallsSpec)

/-- ITS FALSE NEIGHBOUR: 'it returns false'. Refute it at one input. -/
def streamFallsWrong : ChangeSpec := { name := "streamFalls", fn := fun _ => fun
  | [d] => { results := [.lit (.bool false)], args := [d] }
  | _ => none }
def StreamFallsWrongFalsely : Prop := streamFallsRow.holds Try.pinned (OpenSpec.ofChange streamFallsWrong)

/-- 'gypsumlaw51.StreamMore': WHATEVER THE INPUT: true; the input reads as it did. -/
def streamMoreSpec : ChangeSpec := { name := "streamMore", fn := fun _ => fun
  | [d1, d2, d3] => { results := [.lit (.bool true)], args := [d1, d2, d3] }
  | _ => none }
def streamMoreRow : OpenClaim := { program := "ytbhdfljdfjadnaa", sum := "089bbcba68c1bc963e129856729cf17fe79f944b1ba3eb9a329755937a656460", func := "gypsum/gypsumlaw51.StreamMore", spec := "streamMore", unfollowed := true, recurses := true, apart := false }
def StreamMoreSaid : Prop := streamMoreRow.holds Try.pinned (OpenSpec.ofChange streamMoreSpec)

/-- ITS FALSE NEIGHBOUR: 'it returns false'. Refute it at one input. -/
def streamMoreWrong : ChangeSpec := { name := "streamMore", fn := fun _ => fun
  | [d1, d2, d3] => { results := [.lit (.bool false)], args := [d1, d2, d3] }
  | _ => none }
def StreamMoreWrongFalsely : Prop := streamMoreRow.holds Try.pinned (OpenSpec.ofChange streamMoreWrong)

/-- 'gypsumlaw51.StreamSum': WHATEVER THE INPUT: true; the input reads as it did. -/
def streamSumSpec : ChangeSpec := { name := "streamSum", fn := fun _ => fun
  | [d1, d2] => { results := [.lit (.bool true)], args := [d1, d2] }
  | _ => none }
def streamSumRow : OpenClaim := { program := "ytbhdfljdfjadnaa", sum := "089bbcba68c1bc963e129856729cf17fe79f944b1ba3eb9a329755937a656460", func := "gypsum/gypsumlaw51.StreamSum", spec := "streamSum", unfollowed := true, recurses := true, apart := false }
def StreamSumSaid : Prop := streamSumRow.holds Try.pinned (OpenSpec.ofChange streamSumSpec)

/-- ITS FALSE NEIGHBOUR: 'it returns false'. Refute it at one input. -/
def streamSumWrong : ChangeSpec := { name := "streamSum", fn := fun _ => fun
  | [d1, d2] => { results := [.lit (.bool false)], args := [d1, d2] }
  | _ => none }
def StreamSumWrongFalsely : Prop := streamSumRow.holds Try.pinned (OpenSpec.ofChange streamSumWrong)

/-- 'gypsumlaw51.StreamNext': WHATEVER THE INPUT: true; the input reads as it did. -/
def streamNextSpec : ChangeSpec := { name := "streamNext", fn := fun _ => fun
  | [d1, d2] => { results := [.lit (.bool true)], args := [d1, d2] }
  | _ => none }
def streamNextRow : OpenClaim := { program := "ytbhdfljdfjadnaa", sum := "089bbcba68c1bc963e129856729cf17fe79f944b1ba3eb9a329755937a656460", func := "gypsum/gypsumlaw51.StreamNext", spec := "streamNext", unfollowed := true, recurses := true, apart := false }
def StreamNextSaid : Prop := streamNextRow.holds Try.pinned (OpenSpec.ofChange streamNextSpec)

/-- ITS FALSE NEIGHBOUR: 'it returns false'. Refute it at one input. -/
def streamNextWrong : ChangeSpec := { name := "streamNext", fn := fun _ => fun
  | [d1, d2] => { results := [.lit (.bool false)], args := [d1, d2] }
  | _ => none }
def StreamNextWrongFalsely : Prop := streamNextRow.holds Try.pinned (OpenSpec.ofChange streamNextWrong)

/-- 'gypsumlaw51.StreamSteps': WHATEVER THE INPUT: true; the input reads as it did. -/
def streamStepsSpec : ChangeSpec := { name := "streamSteps", fn := fun _ => fun
  | [d1, d2] => { results := [.lit (.bool true)], args := [d1, d2] }
  | _ => none }
def streamStepsRow : OpenClaim := { program := "ytbhdfljdfjadnaa", sum := "089bbcba68c1bc963e129856729cf17fe79f944b1ba3eb9a329755937a656460", func := "gypsum/gypsumlaw51.StreamSteps", spec := "streamSteps", unfollowed := true, recurses := true, apart := false }
def StreamStepsSaid : Prop := streamStepsRow.holds Try.pinned (OpenSpec.ofChange streamStepsSpec)

/-- ITS FALSE NEIGHBOUR: 'it returns false'. Refute it at one input. -/
def streamStepsWrong : ChangeSpec := { name := "streamSteps", fn := fun _ => fun
  | [d1, d2] => { results := [.lit (.bool false)], args := [d1, d2] }
  | _ => none }
def StreamStepsWrongFalsely : Prop := streamStepsRow.holds Try.pinned (OpenSpec.ofChange streamStepsWrong)

/-- 'gypsumlaw51.StreamTakes': WHATEVER THE INPUT: true; the input reads as it did. -/
def streamTakesSpec : ChangeSpec := { name := "streamTakes", fn := fun _ => fun
  | [d1, d2] => { results := [.lit (.bool true)], args := [d1, d2] }
  | _ => none }
def streamTakesRow : OpenClaim := { program := "ytbhdfljdfjadnaa", sum := "089bbcba68c1bc963e129856729cf17fe79f944b1ba3eb9a329755937a656460", func := "gypsum/gypsumlaw51.StreamTakes", spec := "streamTakes", unfollowed := true, recurses := true, apart := false }
def StreamTakesSaid : Prop := streamTakesRow.holds Try.pinned (OpenSpec.ofChange streamTakesSpec)

/-- ITS FALSE NEIGHBOUR: 'it returns false'. Refute it at one input. -/
def streamTakesWrong : ChangeSpec := { name := "streamTakes", fn := fun _ => fun
  | [d1, d2] => { results := [.lit (.bool false)], args := [d1, d2] }
  | _ => none }
def StreamTakesWrongFalsely : Prop := streamTakesRow.holds Try.pinned (OpenSpec.ofChange streamTakesWrong)

/-- 'gypsumlaw51.StreamHalf': WHATEVER THE INPUT: true; the input reads as it did. -/
def streamHalfSpec : ChangeSpec := { name := "streamHalf", fn := fun _ => fun
  | [d1, d2] => { results := [.lit (.bool true)], args := [d1, d2] }
  | _ => none }
def streamHalfRow : OpenClaim := { program := "ytbhdfljdfjadnaa", sum := "089bbcba68c1bc963e129856729cf17fe79f944b1ba3eb9a329755937a656460", func := "gypsum/gypsumlaw51.StreamHalf", spec := "streamHalf", unfollowed := true, recurses := true, apart := false }
def StreamHalfSaid : Prop := streamHalfRow.holds Try.pinned (OpenSpec.ofChange streamHalfSpec)

/-- ITS FALSE NEIGHBOUR: 'it returns false'. Refute it at one input. -/
def streamHalfWrong : ChangeSpec := { name := "streamHalf", fn := fun _ => fun
  | [d1, d2] => { results := [.lit (.bool false)], args := [d1, d2] }
  | _ => none }
def StreamHalfWrongFalsely : Prop := streamHalfRow.holds Try.pinned (OpenSpec.ofChange streamHalfWrong)

/-- 'gypsumlaw51.StreamAlone': WHATEVER THE INPUT: true; the input reads as it did. -/
def streamAloneSpec : ChangeSpec := { name := "streamAlone", fn := fun _ => fun
  | [d1, d2] => { results := [.lit (.bool true)], args := [d1, d2] }
  | _ => none }
def streamAloneRow : OpenClaim := { program := "ytbhdfljdfjadnaa", sum := "089bbcba68c1bc963e129856729cf17fe79f944b1ba3eb9a329755937a656460", func := "gypsum/gypsumlaw51.StreamAlone", spec := "streamAlone", unfollowed := true, recurses := true, apart := false }
def StreamAloneSaid : Prop := streamAloneRow.holds Try.pinned (OpenSpec.ofChange streamAloneSpec)

/-- ITS FALSE NEIGHBOUR: 'it returns false'. Refute it at one input. -/
def streamAloneWrong : ChangeSpec := { name := "streamAlone", fn := fun _ => fun
  | [d1, d2] => { results := [.lit (.bool false)], args := [d1, d2] }
  | _ => none }
def StreamAloneWrongFalsely : Prop := streamAloneRow.holds Try.pinned (OpenSpec.ofChange streamAloneWrong)

/- THE SECOND FORM. 'bulk': how many values and letters a reading holds, each counted each time it is reached (what is shared counts as often as it is met; a slice's spare places count too). A statement '..UptoSaid' is the law's where the arguments, and the package variables that the reading takes, are together of bulk at most 1048576: NARROWER than '..Said'. Prove '..Said' where nothing that the law and all that it calls make is longer than what came in: it says more and counts as full. Else prove '..UptoSaid'. A law counts once. -/
mutual
def uptoBulk {H : Type} : DataW H → Nat
  | .lit (.string bytes) => bytes.length + 1
  | .lit _ => 1
  | .nil => 1
  | .ptr d => uptoBulk d + 1
  | .slice elems spare => uptoBulkAll elems + uptoBulkAll spare + 1
  | .agg parts => uptoBulkAll parts + 1
  | .iface _ d => uptoBulk d + 1
  | .map entries => uptoBulkEntries entries + 1
  | .held _ => 1
def uptoBulkAll {H : Type} : List (DataW H) → Nat
  | [] => 0
  | d :: r => uptoBulk d + uptoBulkAll r
def uptoBulkEntries {H : Type} : List (Lit × DataW H) → Nat
  | [] => 0
  | x :: r => uptoBulkEntry x + uptoBulkEntries r
def uptoBulkEntry {H : Type} : Lit × DataW H → Nat
  | (.string bytes, d) => bytes.length + uptoBulk d + 1
  | (_, d) => uptoBulk d + 1
 end
def uptoSmall : (H : Type) → List (DataW H) → Bool := fun _ ds => decide (uptoBulkAll ds ≤ 1048576)
def OpenSpec.upto (s : _root_.Go.ChangeSpec) : _root_.Go.OpenSpec := { _root_.Go.OpenSpec.ofChange s with cond := some uptoSmall }

/-- 'gypsumlaw51.StreamFalls', WHERE WHAT IT READS IS OF BULK AT MOST 1048576: true; the input reads as it did. -/
def streamFallsUptoRow : OpenClaim := { program := "ytbhdfljdfjadnaa", sum := "089bbcba68c1bc963e129856729cf17fe79f944b1ba3eb9a329755937a656460", func := "gypsum/gypsumlaw51.StreamFalls", spec := "streamFalls", unfollowed := true, recurses := true, apart := false, narrowed := true }
def StreamFallsUptoSaid : Prop := streamFallsUptoRow.holds Try.pinned (OpenSpec.upto streamFallsSpec)

/-- 'gypsumlaw51.StreamMore', WHERE WHAT IT READS IS OF BULK AT MOST 1048576: true; the input reads as it did. -/
def streamMoreUptoRow : OpenClaim := { program := "ytbhdfljdfjadnaa", sum := "089bbcba68c1bc963e129856729cf17fe79f944b1ba3eb9a329755937a656460", func := "gypsum/gypsumlaw51.StreamMore", spec := "streamMore", unfollowed := true, recurses := true, apart := false, narrowed := true }
def StreamMoreUptoSaid : Prop := streamMoreUptoRow.holds Try.pinned (OpenSpec.upto streamMoreSpec)

/-- 'gypsumlaw51.StreamSum', WHERE WHAT IT READS IS OF BULK AT MOST 1048576: true; the input reads as it did. -/
def streamSumUptoRow : OpenClaim := { program := "ytbhdfljdfjadnaa", sum := "089bbcba68c1bc963e129856729cf17fe79f944b1ba3eb9a329755937a656460", func := "gypsum/gypsumlaw51.StreamSum", spec := "streamSum", unfollowed := true, recurses := true, apart := false, narrowed := true }
def StreamSumUptoSaid : Prop := streamSumUptoRow.holds Try.pinned (OpenSpec.upto streamSumSpec)

/-- 'gypsumlaw51.StreamNext', WHERE WHAT IT READS IS OF BULK AT MOST 1048576: true; the input reads as it did. -/
def streamNextUptoRow : OpenClaim := { program := "ytbhdfljdfjadnaa", sum := "089bbcba68c1bc963e129856729cf17fe79f944b1ba3eb9a329755937a656460", func := "gypsum/gypsumlaw51.StreamNext", spec := "streamNext", unfollowed := true, recurses := true, apart := false, narrowed := true }
def StreamNextUptoSaid : Prop := streamNextUptoRow.holds Try.pinned (OpenSpec.upto streamNextSpec)

/-- 'gypsumlaw51.StreamSteps', WHERE WHAT IT READS IS OF BULK AT MOST 1048576: true; the input reads as it did. -/
def streamStepsUptoRow : OpenClaim := { program := "ytbhdfljdfjadnaa", sum := "089bbcba68c1bc963e129856729cf17fe79f944b1ba3eb9a329755937a656460", func := "gypsum/gypsumlaw51.StreamSteps", spec := "streamSteps", unfollowed := true, recurses := true, apart := false, narrowed := true }
def StreamStepsUptoSaid : Prop := streamStepsUptoRow.holds Try.pinned (OpenSpec.upto streamStepsSpec)

/-- 'gypsumlaw51.StreamTakes', WHERE WHAT IT READS IS OF BULK AT MOST 1048576: true; the input reads as it did. -/
def streamTakesUptoRow : OpenClaim := { program := "ytbhdfljdfjadnaa", sum := "089bbcba68c1bc963e129856729cf17fe79f944b1ba3eb9a329755937a656460", func := "gypsum/gypsumlaw51.StreamTakes", spec := "streamTakes", unfollowed := true, recurses := true, apart := false, narrowed := true }
def StreamTakesUptoSaid : Prop := streamTakesUptoRow.holds Try.pinned (OpenSpec.upto streamTakesSpec)

/-- 'gypsumlaw51.StreamHalf', WHERE WHAT IT READS IS OF BULK AT MOST 1048576: true; the input reads as it did. -/
def streamHalfUptoRow : OpenClaim := { program := "ytbhdfljdfjadnaa", sum := "089bbcba68c1bc963e129856729cf17fe79f944b1ba3eb9a329755937a656460", func := "gypsum/gypsumlaw51.StreamHalf", spec := "streamHalf", unfollowed := true, recurses := true, apart := false, narrowed := true }
def StreamHalfUptoSaid : Prop := streamHalfUptoRow.holds Try.pinned (OpenSpec.upto streamHalfSpec)

/-- 'gypsumlaw51.StreamAlone', WHERE WHAT IT READS IS OF BULK AT MOST 1048576: true; the input reads as it did. -/
def streamAloneUptoRow : OpenClaim := { program := "ytbhdfljdfjadnaa", sum := "089bbcba68c1bc963e129856729cf17fe79f944b1ba3eb9a329755937a656460", func := "gypsum/gypsumlaw51.StreamAlone", spec := "streamAlone", unfollowed := true, recurses := true, apart := false, narrowed := true }
def StreamAloneUptoSaid : Prop := streamAloneUptoRow.holds Try.pinned (OpenSpec.upto streamAloneSpec)

end Rows
end Go.Proofs.Ytbhdfljdfjadnaa
