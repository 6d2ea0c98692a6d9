/-
  No cell of these rows narrows 'for every input' (looked for: loops, veiled, ifaces, maps, wideKeys, modest, calm, conditions, laid).
  DERIVED. THE GIVEN ROWS OF THIS SEAT. 12 by the template 'for every input the law returns true; each argument reads behind the call as it read before'; 0 by the template 'total and deterministic' (their statements: YtfkfmcdclflhjaaTotals.lean).
  GIVEN WITH THE SEED: the statements are not yours to turn. If you find one false, say at which input.
  Laid BY PROGRAM, IN A SANDBOX (cutbox-rows.mjs): the forced cells as the released guide's own fill.sh prints them over the translation 4108f64edcf6afdd… (all of the seat's roots in one cut). By AI agents, Wed Nov 11 2026. No macro, syntax, notation, axiom, sorry.
-/
import Derived.Test.YtfkfmcdclflhjaaChecked
import GoSem.Claim
import GoSem.ClaimJoined
import GoSem.ClaimMapViews
import Derived.JoinedTies
import Derived.KernelRfl
namespace Go.Proofs.Ytfkfmcdclflhjaa
/- THE CELL 'sum', in the pinned program and in every row, IS THE sha256 OF THE DUMP (.gsa) THAT YtfkfmcdclflhjaaProg.lean LOADS. Nothing in Lean hashes anything: it is a label: what it is worth is what the hold of that sum in a sandbox is worth. -/
noncomputable def Try.pinned : Pinned := { name := "ytfkfmcdclflhjaa", sum := "4108f64edcf6afdd848988df32f88a58f70cb27167005a57c6ed57bad3c02d73", checked := Try.checked }
namespace Rows
def none {H : Type} : Left H := { results := [], args := [] }

/-- 'haulierlaw17.BelowUnder': WHATEVER THE INPUT: true; the input reads as it did. -/
def belowUnderSpec : ChangeSpec := { name := "belowUnder", fn := fun _ => fun
  | [d1, d2, d3] => { results := [.lit (.bool true)], args := [d1, d2, d3] }
  | _ => none }
def belowUnderRow : OpenClaim := { program := "ytfkfmcdclflhjaa", sum := "4108f64edcf6afdd848988df32f88a58f70cb27167005a57c6ed57bad3c02d73", func := "haulier/haulierlaw17.BelowUnder", spec := "belowUnder", plainKeys := false, apart := false }
def BelowUnderSaid : Prop := belowUnderRow.holds Try.pinned (OpenSpec.ofChange belowUnderSpec)

/-- ITS FALSE NEIGHBOUR: 'it returns false'. Refute it at one input. -/
def belowUnderWrong : ChangeSpec := { name := "belowUnder", fn := fun _ => fun
  | [d1, d2, d3] => { results := [.lit (.bool false)], args := [d1, d2, d3] }
  | _ => none }
def BelowUnderWrongFalsely : Prop := belowUnderRow.holds Try.pinned (OpenSpec.ofChange belowUnderWrong)

/-- 'haulierlaw17.BelowOrder': WHATEVER THE INPUT: true; the input reads as it did. -/
def belowOrderSpec : ChangeSpec := { name := "belowOrder", fn := fun _ => fun
  | [d1, d2, d3] => { results := [.lit (.bool true)], args := [d1, d2, d3] }
  | _ => none }
def belowOrderRow : OpenClaim := { program := "ytfkfmcdclflhjaa", sum := "4108f64edcf6afdd848988df32f88a58f70cb27167005a57c6ed57bad3c02d73", func := "haulier/haulierlaw17.BelowOrder", spec := "belowOrder", plainKeys := false, apart := false }
def BelowOrderSaid : Prop := belowOrderRow.holds Try.pinned (OpenSpec.ofChange belowOrderSpec)

/-- ITS FALSE NEIGHBOUR: 'it returns false'. Refute it at one input. -/
def belowOrderWrong : ChangeSpec := { name := "belowOrder", fn := fun _ => fun
  | [d1, d2, d3] => { results := [.lit (.bool false)], args := [d1, d2, d3] }
  | _ => none }
def BelowOrderWrongFalsely : Prop := belowOrderRow.holds Try.pinned (OpenSpec.ofChange belowOrderWrong)

/-- 'haulierlaw24.FrontKeeps': WHATEVER THE INPUT: true; the input reads as it did. -/
def frontKeepsSpec : ChangeSpec := { name := "frontKeeps", fn := fun _ => fun
  | [d1, d2, d3] => { results := [.lit (.bool true)], args := [d1, d2, d3] }
  | _ => none }
def frontKeepsRow : OpenClaim := { program := "ytfkfmcdclflhjaa", sum := "4108f64edcf6afdd848988df32f88a58f70cb27167005a57c6ed57bad3c02d73", func := "haulier/haulierlaw24.FrontKeeps", spec := "frontKeeps", plainKeys := false, apart := false }
def FrontKeepsSaid : Prop := frontKeepsRow.holds Try.pinned (OpenSpec.ofChange frontKeepsSpec)

/-- ITS FALSE NEIGHBOUR: 'it returns false'. Refute it at one input. -/
def frontKeepsWrong : ChangeSpec := { name := "frontKeeps", fn := fun _ => fun
  | [d1, d2, d3] => { results := [.lit (.bool false)], args := [d1, d2, d3] }
  | _ => none }
def FrontKeepsWrongFalsely : Prop := frontKeepsRow.holds Try.pinned (OpenSpec.ofChange frontKeepsWrong)

/-- 'haulierlaw19.ErrandSteps': WHATEVER THE INPUT: true; the input reads as it did. -/
def errandStepsSpec : ChangeSpec := { name := "errandSteps", fn := fun _ => fun
  | [d1, d2, d3] => { results := [.lit (.bool true)], args := [d1, d2, d3] }
  | _ => none }
def errandStepsRow : OpenClaim := { program := "ytfkfmcdclflhjaa", sum := "4108f64edcf6afdd848988df32f88a58f70cb27167005a57c6ed57bad3c02d73", func := "haulier/haulierlaw19.ErrandSteps", spec := "errandSteps", unfollowed := true, recurses := true, plainKeys := false, apart := false }
def ErrandStepsSaid : Prop := errandStepsRow.holds Try.pinned (OpenSpec.ofChange errandStepsSpec)

/-- ITS FALSE NEIGHBOUR: 'it returns false'. Refute it at one input. -/
def errandStepsWrong : ChangeSpec := { name := "errandSteps", fn := fun _ => fun
  | [d1, d2, d3] => { results := [.lit (.bool false)], args := [d1, d2, d3] }
  | _ => none }
def ErrandStepsWrongFalsely : Prop := errandStepsRow.holds Try.pinned (OpenSpec.ofChange errandStepsWrong)

/-- 'haulierlaw19.ErrandChecks': WHATEVER THE INPUT: true; the input reads as it did. -/
def errandChecksSpec : ChangeSpec := { name := "errandChecks", fn := fun _ => fun
  | [d1, d2] => { results := [.lit (.bool true)], args := [d1, d2] }
  | _ => none }
def errandChecksRow : OpenClaim := { program := "ytfkfmcdclflhjaa", sum := "4108f64edcf6afdd848988df32f88a58f70cb27167005a57c6ed57bad3c02d73", func := "haulier/haulierlaw19.ErrandChecks", spec := "errandChecks", unfollowed := true, recurses := true, plainKeys := false, apart := false }
def ErrandChecksSaid : Prop := errandChecksRow.holds Try.pinned (OpenSpec.ofChange errandChecksSpec)

/-- ITS FALSE NEIGHBOUR: 'it returns false'. Refute it at one input. -/
def errandChecksWrong : ChangeSpec := { name := "errandChecks", fn := fun _ => fun
  | [d1, d2] => { results := [.lit (.bool false)], args := [d1, d2] }
  | _ => none }
def ErrandChecksWrongFalsely : Prop := errandChecksRow.holds Try.pinned (OpenSpec.ofChange errandChecksWrong)

/-- 'haulierlaw19.ErrandLeft': WHATEVER THE INPUT: true; the input reads as it did. -/
def errandLeftSpec : ChangeSpec := { name := "errandLeft", fn := fun _ => fun
  | [d1, d2, d3] => { results := [.lit (.bool true)], args := [d1, d2, d3] }
  | _ => none }
def errandLeftRow : OpenClaim := { program := "ytfkfmcdclflhjaa", sum := "4108f64edcf6afdd848988df32f88a58f70cb27167005a57c6ed57bad3c02d73", func := "haulier/haulierlaw19.ErrandLeft", spec := "errandLeft", unfollowed := true, recurses := true, plainKeys := false, apart := false }
def ErrandLeftSaid : Prop := errandLeftRow.holds Try.pinned (OpenSpec.ofChange errandLeftSpec)

/-- ITS FALSE NEIGHBOUR: 'it returns false'. Refute it at one input. -/
def errandLeftWrong : ChangeSpec := { name := "errandLeft", fn := fun _ => fun
  | [d1, d2, d3] => { results := [.lit (.bool false)], args := [d1, d2, d3] }
  | _ => none }
def ErrandLeftWrongFalsely : Prop := errandLeftRow.holds Try.pinned (OpenSpec.ofChange errandLeftWrong)

/-- 'haulierlaw13.MeterSteps': WHATEVER THE INPUT: true; the input reads as it did. -/
def meterStepsSpec : ChangeSpec := { name := "meterSteps", fn := fun _ => fun
  | [d1, d2, d3] => { results := [.lit (.bool true)], args := [d1, d2, d3] }
  | _ => none }
def meterStepsRow : OpenClaim := { program := "ytfkfmcdclflhjaa", sum := "4108f64edcf6afdd848988df32f88a58f70cb27167005a57c6ed57bad3c02d73", func := "haulier/haulierlaw13.MeterSteps", spec := "meterSteps", unfollowed := true, recurses := true, plainKeys := false, apart := false }
def MeterStepsSaid : Prop := meterStepsRow.holds Try.pinned (OpenSpec.ofChange meterStepsSpec)

/-- ITS FALSE NEIGHBOUR: 'it returns false'. Refute it at one input. -/
def meterStepsWrong : ChangeSpec := { name := "meterSteps", fn := fun _ => fun
  | [d1, d2, d3] => { results := [.lit (.bool false)], args := [d1, d2, d3] }
  | _ => none }
def MeterStepsWrongFalsely : Prop := meterStepsRow.holds Try.pinned (OpenSpec.ofChange meterStepsWrong)

/-- 'haulierlaw13.MeterRuns': WHATEVER THE INPUT: true; the input reads as it did. -/
def meterRunsSpec : ChangeSpec := { name := "meterRuns", fn := fun _ => fun
  | [d1, d2, d3] => { results := [.lit (.bool true)], args := [d1, d2, d3] }
  | _ => none }
def meterRunsRow : OpenClaim := { program := "ytfkfmcdclflhjaa", sum := "4108f64edcf6afdd848988df32f88a58f70cb27167005a57c6ed57bad3c02d73", func := "haulier/haulierlaw13.MeterRuns", spec := "meterRuns", unfollowed := true, recurses := true, plainKeys := false, apart := false }
def MeterRunsSaid : Prop := meterRunsRow.holds Try.pinned (OpenSpec.ofChange meterRunsSpec)

/-- ITS FALSE NEIGHBOUR: 'it returns false'. Refute it at one input. -/
def meterRunsWrong : ChangeSpec := { name := "meterRuns", fn := fun _ => fun
  | [d1, d2, d3] => { results := [.lit (.bool false)], args := [d1, d2, d3] }
  | _ => none }
def MeterRunsWrongFalsely : Prop := meterRunsRow.holds Try.pinned (OpenSpec.ofChange meterRunsWrong)

/-- 'haulierlaw13.MeterParts': WHATEVER THE INPUT: true; the input reads as it did. -/
def meterPartsSpec : ChangeSpec := { name := "meterParts", fn := fun _ => fun
  | [d1, d2, d3] => { results := [.lit (.bool true)], args := [d1, d2, d3] }
  | _ => none }
def meterPartsRow : OpenClaim := { program := "ytfkfmcdclflhjaa", sum := "4108f64edcf6afdd848988df32f88a58f70cb27167005a57c6ed57bad3c02d73", func := "haulier/haulierlaw13.MeterParts", spec := "meterParts", unfollowed := true, recurses := true, plainKeys := false, apart := false }
def MeterPartsSaid : Prop := meterPartsRow.holds Try.pinned (OpenSpec.ofChange meterPartsSpec)

/-- ITS FALSE NEIGHBOUR: 'it returns false'. Refute it at one input. -/
def meterPartsWrong : ChangeSpec := { name := "meterParts", fn := fun _ => fun
  | [d1, d2, d3] => { results := [.lit (.bool false)], args := [d1, d2, d3] }
  | _ => none }
def MeterPartsWrongFalsely : Prop := meterPartsRow.holds Try.pinned (OpenSpec.ofChange meterPartsWrong)

/-- 'haulierlaw19.ErrandOver': WHATEVER THE INPUT: true; the input reads as it did. -/
def errandOverSpec : ChangeSpec := { name := "errandOver", fn := fun _ => fun
  | [d1, d2, d3] => { results := [.lit (.bool true)], args := [d1, d2, d3] }
  | _ => none }
def errandOverRow : OpenClaim := { program := "ytfkfmcdclflhjaa", sum := "4108f64edcf6afdd848988df32f88a58f70cb27167005a57c6ed57bad3c02d73", func := "haulier/haulierlaw19.ErrandOver", spec := "errandOver", unfollowed := true, recurses := true, plainKeys := false, apart := false }
def ErrandOverSaid : Prop := errandOverRow.holds Try.pinned (OpenSpec.ofChange errandOverSpec)

/-- ITS FALSE NEIGHBOUR: 'it returns false'. Refute it at one input. -/
def errandOverWrong : ChangeSpec := { name := "errandOver", fn := fun _ => fun
  | [d1, d2, d3] => { results := [.lit (.bool false)], args := [d1, d2, d3] }
  | _ => none }
def ErrandOverWrongFalsely : Prop := errandOverRow.holds Try.pinned (OpenSpec.ofChange errandOverWrong)

/-- 'haulierlaw17.BelowKeeps': WHATEVER THE INPUT: true; the input reads as it did. -/
def belowKeepsSpec : ChangeSpec := { name := "belowKeeps", fn := fun _ => fun
  | [d1, d2, d3] => { results := [.lit (.bool true)], args := [d1, d2, d3] }
  | _ => none }
def belowKeepsRow : OpenClaim := { program := "ytfkfmcdclflhjaa", sum := "4108f64edcf6afdd848988df32f88a58f70cb27167005a57c6ed57bad3c02d73", func := "haulier/haulierlaw17.BelowKeeps", spec := "belowKeeps", unfollowed := true, recurses := true, plainKeys := false, apart := false }
def BelowKeepsSaid : Prop := belowKeepsRow.holds Try.pinned (OpenSpec.ofChange belowKeepsSpec)

/-- ITS FALSE NEIGHBOUR: 'it returns false'. Refute it at one input. -/
def belowKeepsWrong : ChangeSpec := { name := "belowKeeps", fn := fun _ => fun
  | [d1, d2, d3] => { results := [.lit (.bool false)], args := [d1, d2, d3] }
  | _ => none }
def BelowKeepsWrongFalsely : Prop := belowKeepsRow.holds Try.pinned (OpenSpec.ofChange belowKeepsWrong)

/-- 'haulierlaw13.MeterOf': WHATEVER THE INPUT: true; the input reads as it did. -/
def meterOfSpec : ChangeSpec := { name := "meterOf", fn := fun _ => fun
  | [d1, d2] => { results := [.lit (.bool true)], args := [d1, d2] }
  | _ => none }
def meterOfRow : OpenClaim := { program := "ytfkfmcdclflhjaa", sum := "4108f64edcf6afdd848988df32f88a58f70cb27167005a57c6ed57bad3c02d73", func := "haulier/haulierlaw13.MeterOf", spec := "meterOf", unfollowed := true, recurses := true, plainKeys := false, apart := false }
def MeterOfSaid : Prop := meterOfRow.holds Try.pinned (OpenSpec.ofChange meterOfSpec)

/-- ITS FALSE NEIGHBOUR: 'it returns false'. Refute it at one input. -/
def meterOfWrong : ChangeSpec := { name := "meterOf", fn := fun _ => fun
  | [d1, d2] => { results := [.lit (.bool false)], args := [d1, d2] }
  | _ => none }
def MeterOfWrongFalsely : Prop := meterOfRow.holds Try.pinned (OpenSpec.ofChange meterOfWrong)

/- THE SECOND FORM. 'bulk': how many values and letters a reading holds, each counted each time it is reached (what is shared counts as often as it is met; a slice's spare places count too). A statement '..UptoSaid' is the law's where the arguments, and the package variables that the reading takes, are together of bulk at most 1048576: NARROWER than '..Said'. Prove '..Said' where nothing that the law and all that it calls make is longer than what came in: it says more and counts as full. Else prove '..UptoSaid'. A law counts once. -/
mutual
def uptoBulk {H : Type} : DataW H → Nat
  | .lit (.string bytes) => bytes.length + 1
  | .lit _ => 1
  | .nil => 1
  | .ptr d => uptoBulk d + 1
  | .slice elems spare => uptoBulkAll elems + uptoBulkAll spare + 1
  | .agg parts => uptoBulkAll parts + 1
  | .iface _ d => uptoBulk d + 1
  | .map entries => uptoBulkEntries entries + 1
  | .held _ => 1
def uptoBulkAll {H : Type} : List (DataW H) → Nat
  | [] => 0
  | d :: r => uptoBulk d + uptoBulkAll r
def uptoBulkEntries {H : Type} : List (Lit × DataW H) → Nat
  | [] => 0
  | x :: r => uptoBulkEntry x + uptoBulkEntries r
def uptoBulkEntry {H : Type} : Lit × DataW H → Nat
  | (.string bytes, d) => bytes.length + uptoBulk d + 1
  | (_, d) => uptoBulk d + 1
 end
def uptoSmall : (H : Type) → List (DataW H) → Bool := fun _ ds => decide (uptoBulkAll ds ≤ 1048576)
def OpenSpec.upto (s : _root_.Go.ChangeSpec) : _root_.Go.OpenSpec := { _root_.Go.OpenSpec.ofChange s with cond := some uptoSmall }

/-- 'haulierlaw17.BelowUnder', WHERE WHAT IT READS IS OF BULK AT MOST 1048576: true; the input reads as it did. -/
def belowUnderUptoRow : OpenClaim := { program := "ytfkfmcdclflhjaa", sum := "4108f64edcf6afdd848988df32f88a58f70cb27167005a57c6ed57bad3c02d73", func := "haulier/haulierlaw17.BelowUnder", spec := "belowUnder", plainKeys := false, apart := false, narrowed := true }
def BelowUnderUptoSaid : Prop := belowUnderUptoRow.holds Try.pinned (OpenSpec.upto belowUnderSpec)

/-- 'haulierlaw17.BelowOrder', WHERE WHAT IT READS IS OF BULK AT MOST 1048576: true; the input reads as it did. -/
def belowOrderUptoRow : OpenClaim := { program := "ytfkfmcdclflhjaa", sum := "4108f64edcf6afdd848988df32f88a58f70cb27167005a57c6ed57bad3c02d73", func := "haulier/haulierlaw17.BelowOrder", spec := "belowOrder", plainKeys := false, apart := false, narrowed := true }
def BelowOrderUptoSaid : Prop := belowOrderUptoRow.holds Try.pinned (OpenSpec.upto belowOrderSpec)

/-- 'haulierlaw24.FrontKeeps', WHERE WHAT IT READS IS OF BULK AT MOST 1048576: true; the input reads as it did. -/
def frontKeepsUptoRow : OpenClaim := { program := "ytfkfmcdclflhjaa", sum := "4108f64edcf6afdd848988df32f88a58f70cb27167005a57c6ed57bad3c02d73", func := "haulier/haulierlaw24.FrontKeeps", spec := "frontKeeps", plainKeys := false, apart := false, narrowed := true }
def FrontKeepsUptoSaid : Prop := frontKeepsUptoRow.holds Try.pinned (OpenSpec.upto frontKeepsSpec)

/-- 'haulierlaw19.ErrandSteps', WHERE WHAT IT READS IS OF BULK AT MOST 1048576: true; the input reads as it did. -/
def errandStepsUptoRow : OpenClaim := { program := "ytfkfmcdclflhjaa", sum := "4108f64edcf6afdd848988df32f88a58f70cb27167005a57c6ed57bad3c02d73", func := "haulier/haulierlaw19.ErrandSteps", spec := "errandSteps", unfollowed := true, recurses := true, plainKeys := false, apart := false, narrowed := true }
def ErrandStepsUptoSaid : Prop := errandStepsUptoRow.holds Try.pinned (OpenSpec.upto errandStepsSpec)

/-- 'haulierlaw19.ErrandChecks', WHERE WHAT IT READS IS OF BULK AT MOST 1048576: true; the input reads as it did. -/
def errandChecksUptoRow : OpenClaim := { program := "ytfkfmcdclflhjaa", sum := "4108f64edcf6afdd848988df32f88a58f70cb27167005a57c6ed57bad3c02d73", func := "haulier/haulierlaw19.ErrandChecks", spec := "errandChecks", unfollowed := true, recurses := true, plainKeys := false, apart := false, narrowed := true }
def ErrandChecksUptoSaid : Prop := errandChecksUptoRow.holds Try.pinned (OpenSpec.upto errandChecksSpec)

/-- 'haulierlaw19.ErrandLeft', WHERE WHAT IT READS IS OF BULK AT MOST 1048576: true; the input reads as it did. -/
def errandLeftUptoRow : OpenClaim := { program := "ytfkfmcdclflhjaa", sum := "4108f64edcf6afdd848988df32f88a58f70cb27167005a57c6ed57bad3c02d73", func := "haulier/haulierlaw19.ErrandLeft", spec := "errandLeft", unfollowed := true, recurses := true, plainKeys := false, apart := false, narrowed := true }
def ErrandLeftUptoSaid : Prop := errandLeftUptoRow.holds Try.pinned (OpenSpec.upto errandLeftSpec)

/-- 'haulierlaw13.MeterSteps', WHERE WHAT IT READS IS OF BULK AT MOST 1048576: true; the input reads as it did. -/
def meterStepsUptoRow : OpenClaim := { program := "ytfkfmcdclflhjaa", sum := "4108f64edcf6afdd848988df32f88a58f70cb27167005a57c6ed57bad3c02d73", func := "haulier/haulierlaw13.MeterSteps", spec := "meterSteps", unfollowed := true, recurses := true, plainKeys := false, apart := false, narrowed := true }
def MeterStepsUptoSaid : Prop := meterStepsUptoRow.holds Try.pinned (OpenSpec.upto meterStepsSpec)

/-- 'haulierlaw13.MeterRuns', WHERE WHAT IT READS IS OF BULK AT MOST 1048576: true; the input reads as it did. -/
def meterRunsUptoRow : OpenClaim := { program := "ytfkfmcdclflhjaa", sum := "4108f64edcf6afdd848988df32f88a58f70cb27167005a57c6ed57bad3c02d73", func := "haulier/haulierlaw13.MeterRuns", spec := "meterRuns", unfollowed := true, recurses := true, plainKeys := false, apart := false, narrowed := true }
def MeterRunsUptoSaid : Prop := meterRunsUptoRow.holds Try.pinned (OpenSpec.upto meterRunsSpec)

/-- 'haulierlaw13.MeterParts', WHERE WHAT IT READS IS OF BULK AT MOST 1048576: true; the input reads as it did. -/
def meterPartsUptoRow : OpenClaim := { program := "ytfkfmcdclflhjaa", sum := "4108f64edcf6afdd848988df32f88a58f70cb27167005a57c6ed57bad3c02d73", func := "haulier/haulierlaw13.MeterParts", spec := "meterParts", unfollowed := true, recurses := true, plainKeys := false, apart := false, narrowed := true }
def MeterPartsUptoSaid : Prop := meterPartsUptoRow.holds Try.pinned (OpenSpec.upto meterPartsSpec)

/-- 'haulierlaw19.ErrandOver', WHERE WHAT IT READS IS OF BULK AT MOST 1048576: true; the input reads as it did. -/
def errandOverUptoRow : OpenClaim := { program := "ytfkfmcdclflhjaa", sum := "4108f64edcf6afdd848988df32f88a58f70cb27167005a57c6ed57bad3c02d73", func := "haulier/haulierlaw19.ErrandOver", spec := "errandOver", unfollowed := true, recurses := true, plainKeys := false, apart := false, narrowed := true }
def ErrandOverUptoSaid : Prop := errandOverUptoRow.holds Try.pinned (OpenSpec.upto errandOverSpec)

/-- 'haulierlaw17.BelowKeeps', WHERE WHAT IT READS IS OF BULK AT MOST 1048576: true; the input reads as it did. -/
def belowKeepsUptoRow : OpenClaim := { program := "ytfkfmcdclflhjaa", sum := "4108f64edcf6afdd848988df32f88a58f70cb27167005a57c6ed57bad3c02d73", func := "haulier/haulierlaw17.BelowKeeps", spec := "belowKeeps", unfollowed := true, recurses := true, plainKeys := false, apart := false, narrowed := true }
def BelowKeepsUptoSaid : Prop := belowKeepsUptoRow.holds Try.pinned (OpenSpec.upto belowKeepsSpec)

/-- 'haulierlaw13.MeterOf', WHERE WHAT IT READS IS OF BULK AT MOST 1048576: true; the input reads as it did. -/
def meterOfUptoRow : OpenClaim := { program := "ytfkfmcdclflhjaa", sum := "4108f64edcf6afdd848988df32f88a58f70cb27167005a57c6ed57bad3c02d73", func := "haulier/haulierlaw13.MeterOf", spec := "meterOf", unfollowed := true, recurses := true, plainKeys := false, apart := false, narrowed := true }
def MeterOfUptoSaid : Prop := meterOfUptoRow.holds Try.pinned (OpenSpec.upto meterOfSpec)

end Rows
end Go.Proofs.Ytfkfmcdclflhjaa
