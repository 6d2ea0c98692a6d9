/-
  No cell of these rows narrows 'for every input' (looked for: loops, veiled, ifaces, maps, wideKeys, modest, calm, conditions, laid).
  DERIVED. THE GIVEN ROWS OF THIS SEAT. 12 by the template 'for every input the law returns true; each argument reads behind the call as it read before'; 0 by the template 'total and deterministic' (their statements: YtncklikpkliilaaTotals.lean).
  GIVEN WITH THE SEED: the statements are not yours to turn. If you find one false, say at which input.
  Laid BY PROGRAM, IN A SANDBOX (cutbox-rows.mjs): the forced cells as the released guide's own fill.sh prints them over the translation bf9a2e3c1e942014… (all of the seat's roots in one cut). By AI agents, Wed Nov 11 2026. No macro, syntax, notation, axiom, sorry.
-/
import Derived.Test.YtncklikpkliilaaChecked
import GoSem.Claim
import GoSem.ClaimJoined
import GoSem.ClaimMapViews
import Derived.JoinedTies
import Derived.KernelRfl
namespace Go.Proofs.Ytncklikpkliilaa
/- THE CELL 'sum', in the pinned program and in every row, IS THE sha256 OF THE DUMP (.gsa) THAT YtncklikpkliilaaProg.lean LOADS. Nothing in Lean hashes anything: it is a label: what it is worth is what the hold of that sum in a sandbox is worth. -/
noncomputable def Try.pinned : Pinned := { name := "ytncklikpkliilaa", sum := "bf9a2e3c1e9420142250241edf0da8fdbca0d9dcdba1229f8b9b34fa9522092a", checked := Try.checked }
namespace Rows
def none {H : Type} : Left H := { results := [], args := [] }

/-- 'haulierlaw03.IvalsEach': WHATEVER THE INPUT: true; the input reads as it did. -/
def ivalsEachSpec : ChangeSpec := { name := "ivalsEach", fn := fun _ => fun
  | [d1, d2] => { results := [.lit (.bool true)], args := [d1, d2] }
  | _ => none }
def ivalsEachRow : OpenClaim := { program := "ytncklikpkliilaa", sum := "bf9a2e3c1e9420142250241edf0da8fdbca0d9dcdba1229f8b9b34fa9522092a", func := "haulier/haulierlaw03.IvalsEach", spec := "ivalsEach", unfollowed := true, recurses := true, apart := false }
def IvalsEachSaid : Prop := ivalsEachRow.holds Try.pinned (OpenSpec.ofChange ivalsEachSpec)

/-- ITS FALSE NEIGHBOUR: 'it returns false'. Refute it at one input. -/
def ivalsEachWrong : ChangeSpec := { name := "ivalsEach", fn := fun _ => fun
  | [d1, d2] => { results := [.lit (.bool false)], args := [d1, d2] }
  | _ => none }
def IvalsEachWrongFalsely : Prop := ivalsEachRow.holds Try.pinned (OpenSpec.ofChange ivalsEachWrong)

/-- 'haulierlaw03.IvalsMake': WHATEVER THE INPUT: true; the input reads as it did. -/
def ivalsMakeSpec : ChangeSpec := { name := "ivalsMake", fn := fun _ => fun
  | [d1, d2] => { results := [.lit (.bool true)], args := [d1, d2] }
  | _ => none }
def ivalsMakeRow : OpenClaim := { program := "ytncklikpkliilaa", sum := "bf9a2e3c1e9420142250241edf0da8fdbca0d9dcdba1229f8b9b34fa9522092a", func := "haulier/haulierlaw03.IvalsMake", spec := "ivalsMake", unfollowed := true, recurses := true, apart := false }
def IvalsMakeSaid : Prop := ivalsMakeRow.holds Try.pinned (OpenSpec.ofChange ivalsMakeSpec)

/-- ITS FALSE NEIGHBOUR: 'it returns false'. Refute it at one input. -/
def ivalsMakeWrong : ChangeSpec := { name := "ivalsMake", fn := fun _ => fun
  | [d1, d2] => { results := [.lit (.bool false)], args := [d1, d2] }
  | _ => none }
def IvalsMakeWrongFalsely : Prop := ivalsMakeRow.holds Try.pinned (OpenSpec.ofChange ivalsMakeWrong)

/-- 'haulierlaw03.IvalsNext': WHATEVER THE INPUT: true; the input reads as it did. -/
def ivalsNextSpec : ChangeSpec := { name := "ivalsNext", fn := fun _ => fun
  | [d1, d2] => { results := [.lit (.bool true)], args := [d1, d2] }
  | _ => none }
def ivalsNextRow : OpenClaim := { program := "ytncklikpkliilaa", sum := "bf9a2e3c1e9420142250241edf0da8fdbca0d9dcdba1229f8b9b34fa9522092a", func := "haulier/haulierlaw03.IvalsNext", spec := "ivalsNext", unfollowed := true, recurses := true, apart := false }
def IvalsNextSaid : Prop := ivalsNextRow.holds Try.pinned (OpenSpec.ofChange ivalsNextSpec)

/-- ITS FALSE NEIGHBOUR: 'it returns false'. Refute it at one input. -/
def ivalsNextWrong : ChangeSpec := { name := "ivalsNext", fn := fun _ => fun
  | [d1, d2] => { results := [.lit (.bool false)], args := [d1, d2] }
  | _ => none }
def IvalsNextWrongFalsely : Prop := ivalsNextRow.holds Try.pinned (OpenSpec.ofChange ivalsNextWrong)

/-- 'haulierlaw03.IvalsMinutes': WHATEVER THE INPUT: true; the input reads as it did. -/
def ivalsMinutesSpec : ChangeSpec := { name := "ivalsMinutes", fn := fun _ => fun
  | [d1, d2, d3] => { results := [.lit (.bool true)], args := [d1, d2, d3] }
  | _ => none }
def ivalsMinutesRow : OpenClaim := { program := "ytncklikpkliilaa", sum := "bf9a2e3c1e9420142250241edf0da8fdbca0d9dcdba1229f8b9b34fa9522092a", func := "haulier/haulierlaw03.IvalsMinutes", spec := "ivalsMinutes", unfollowed := true, recurses := true, apart := false }
def IvalsMinutesSaid : Prop := ivalsMinutesRow.holds Try.pinned (OpenSpec.ofChange ivalsMinutesSpec)

/-- ITS FALSE NEIGHBOUR: 'it returns false'. Refute it at one input. -/
def ivalsMinutesWrong : ChangeSpec := { name := "ivalsMinutes", fn := fun _ => fun
  | [d1, d2, d3] => { results := [.lit (.bool false)], args := [d1, d2, d3] }
  | _ => none }
def IvalsMinutesWrongFalsely : Prop := ivalsMinutesRow.holds Try.pinned (OpenSpec.ofChange ivalsMinutesWrong)

/-- 'haulierlaw03.IvalsParts': WHATEVER THE INPUT: true; the input reads as it did. -/
def ivalsPartsSpec : ChangeSpec := { name := "ivalsParts", fn := fun _ => fun
  | [d1, d2] => { results := [.lit (.bool true)], args := [d1, d2] }
  | _ => none }
def ivalsPartsRow : OpenClaim := { program := "ytncklikpkliilaa", sum := "bf9a2e3c1e9420142250241edf0da8fdbca0d9dcdba1229f8b9b34fa9522092a", func := "haulier/haulierlaw03.IvalsParts", spec := "ivalsParts", unfollowed := true, recurses := true, apart := false }
def IvalsPartsSaid : Prop := ivalsPartsRow.holds Try.pinned (OpenSpec.ofChange ivalsPartsSpec)

/-- ITS FALSE NEIGHBOUR: 'it returns false'. Refute it at one input. -/
def ivalsPartsWrong : ChangeSpec := { name := "ivalsParts", fn := fun _ => fun
  | [d1, d2] => { results := [.lit (.bool false)], args := [d1, d2] }
  | _ => none }
def IvalsPartsWrongFalsely : Prop := ivalsPartsRow.holds Try.pinned (OpenSpec.ofChange ivalsPartsWrong)

/-- 'haulierlaw18.WindowNext': WHATEVER THE INPUT: true; the input reads as it did. -/
def windowNextSpec : ChangeSpec := { name := "windowNext", fn := fun _ => fun
  | [d1, d2, d3] => { results := [.lit (.bool true)], args := [d1, d2, d3] }
  | _ => none }
def windowNextRow : OpenClaim := { program := "ytncklikpkliilaa", sum := "bf9a2e3c1e9420142250241edf0da8fdbca0d9dcdba1229f8b9b34fa9522092a", func := "haulier/haulierlaw18.WindowNext", spec := "windowNext", unfollowed := true, recurses := true, apart := false }
def WindowNextSaid : Prop := windowNextRow.holds Try.pinned (OpenSpec.ofChange windowNextSpec)

/-- ITS FALSE NEIGHBOUR: 'it returns false'. Refute it at one input. -/
def windowNextWrong : ChangeSpec := { name := "windowNext", fn := fun _ => fun
  | [d1, d2, d3] => { results := [.lit (.bool false)], args := [d1, d2, d3] }
  | _ => none }
def WindowNextWrongFalsely : Prop := windowNextRow.holds Try.pinned (OpenSpec.ofChange windowNextWrong)

/-- 'haulierlaw18.WindowShut': WHATEVER THE INPUT: true; the input reads as it did. -/
def windowShutSpec : ChangeSpec := { name := "windowShut", fn := fun _ => fun
  | [d1, d2, d3] => { results := [.lit (.bool true)], args := [d1, d2, d3] }
  | _ => none }
def windowShutRow : OpenClaim := { program := "ytncklikpkliilaa", sum := "bf9a2e3c1e9420142250241edf0da8fdbca0d9dcdba1229f8b9b34fa9522092a", func := "haulier/haulierlaw18.WindowShut", spec := "windowShut", unfollowed := true, recurses := true, apart := false }
def WindowShutSaid : Prop := windowShutRow.holds Try.pinned (OpenSpec.ofChange windowShutSpec)

/-- ITS FALSE NEIGHBOUR: 'it returns false'. Refute it at one input. -/
def windowShutWrong : ChangeSpec := { name := "windowShut", fn := fun _ => fun
  | [d1, d2, d3] => { results := [.lit (.bool false)], args := [d1, d2, d3] }
  | _ => none }
def WindowShutWrongFalsely : Prop := windowShutRow.holds Try.pinned (OpenSpec.ofChange windowShutWrong)

/-- 'haulierlaw18.WindowChecks': WHATEVER THE INPUT: true; the input reads as it did. -/
def windowChecksSpec : ChangeSpec := { name := "windowChecks", fn := fun _ => fun
  | [d1, d2] => { results := [.lit (.bool true)], args := [d1, d2] }
  | _ => none }
def windowChecksRow : OpenClaim := { program := "ytncklikpkliilaa", sum := "bf9a2e3c1e9420142250241edf0da8fdbca0d9dcdba1229f8b9b34fa9522092a", func := "haulier/haulierlaw18.WindowChecks", spec := "windowChecks", unfollowed := true, recurses := true, apart := false }
def WindowChecksSaid : Prop := windowChecksRow.holds Try.pinned (OpenSpec.ofChange windowChecksSpec)

/-- ITS FALSE NEIGHBOUR: 'it returns false'. Refute it at one input. -/
def windowChecksWrong : ChangeSpec := { name := "windowChecks", fn := fun _ => fun
  | [d1, d2] => { results := [.lit (.bool false)], args := [d1, d2] }
  | _ => none }
def WindowChecksWrongFalsely : Prop := windowChecksRow.holds Try.pinned (OpenSpec.ofChange windowChecksWrong)

/-- 'haulierlaw20.TrailAudits': WHATEVER THE INPUT: true; the input reads as it did. -/
def trailAuditsSpec : ChangeSpec := { name := "trailAudits", fn := fun _ => fun
  | [d1, d2, d3] => { results := [.lit (.bool true)], args := [d1, d2, d3] }
  | _ => none }
def trailAuditsRow : OpenClaim := { program := "ytncklikpkliilaa", sum := "bf9a2e3c1e9420142250241edf0da8fdbca0d9dcdba1229f8b9b34fa9522092a", func := "haulier/haulierlaw20.TrailAudits", spec := "trailAudits", unfollowed := true, recurses := true, apart := false }
def TrailAuditsSaid : Prop := trailAuditsRow.holds Try.pinned (OpenSpec.ofChange trailAuditsSpec)

/-- ITS FALSE NEIGHBOUR: 'it returns false'. Refute it at one input. -/
def trailAuditsWrong : ChangeSpec := { name := "trailAudits", fn := fun _ => fun
  | [d1, d2, d3] => { results := [.lit (.bool false)], args := [d1, d2, d3] }
  | _ => none }
def TrailAuditsWrongFalsely : Prop := trailAuditsRow.holds Try.pinned (OpenSpec.ofChange trailAuditsWrong)

/-- 'haulierlaw16.DutySets': WHATEVER THE INPUT: true; the input reads as it did. -/
def dutySetsSpec : ChangeSpec := { name := "dutySets", fn := fun _ => fun
  | [d] => { results := [.lit (.bool true)], args := [d] }
  | _ => none }
def dutySetsRow : OpenClaim := { program := "ytncklikpkliilaa", sum := "bf9a2e3c1e9420142250241edf0da8fdbca0d9dcdba1229f8b9b34fa9522092a", func := "haulier/haulierlaw16.DutySets", spec := "dutySets", unfollowed := true, recurses := true, apart := false }
def DutySetsSaid : Prop := dutySetsRow.holds Try.pinned (OpenSpec.ofChange dutySetsSpec)

/-- ITS FALSE NEIGHBOUR: 'it returns false'. Refute it at one input. -/
def dutySetsWrong : ChangeSpec := { name := "dutySets", fn := fun _ => fun
  | [d] => { results := [.lit (.bool false)], args := [d] }
  | _ => none }
def DutySetsWrongFalsely : Prop := dutySetsRow.holds Try.pinned (OpenSpec.ofChange dutySetsWrong)

/-- 'haulierlaw16.DutyMeter': WHATEVER THE INPUT: true; the input reads as it did. -/
def dutyMeterSpec : ChangeSpec := { name := "dutyMeter", fn := fun _ => fun
  | [d1, d2] => { results := [.lit (.bool true)], args := [d1, d2] }
  | _ => none }
def dutyMeterRow : OpenClaim := { program := "ytncklikpkliilaa", sum := "bf9a2e3c1e9420142250241edf0da8fdbca0d9dcdba1229f8b9b34fa9522092a", func := "haulier/haulierlaw16.DutyMeter", spec := "dutyMeter", unfollowed := true, recurses := true, apart := false }
def DutyMeterSaid : Prop := dutyMeterRow.holds Try.pinned (OpenSpec.ofChange dutyMeterSpec)

/-- ITS FALSE NEIGHBOUR: 'it returns false'. Refute it at one input. -/
def dutyMeterWrong : ChangeSpec := { name := "dutyMeter", fn := fun _ => fun
  | [d1, d2] => { results := [.lit (.bool false)], args := [d1, d2] }
  | _ => none }
def DutyMeterWrongFalsely : Prop := dutyMeterRow.holds Try.pinned (OpenSpec.ofChange dutyMeterWrong)

/-- 'haulierlaw16.DutyWitness': WHATEVER THE INPUT: true; the input reads as it did. -/
def dutyWitnessSpec : ChangeSpec := { name := "dutyWitness", fn := fun _ => fun
  | [d1, d2] => { results := [.lit (.bool true)], args := [d1, d2] }
  | _ => none }
def dutyWitnessRow : OpenClaim := { program := "ytncklikpkliilaa", sum := "bf9a2e3c1e9420142250241edf0da8fdbca0d9dcdba1229f8b9b34fa9522092a", func := "haulier/haulierlaw16.DutyWitness", spec := "dutyWitness", unfollowed := true, recurses := true, apart := false }
def DutyWitnessSaid : Prop := dutyWitnessRow.holds Try.pinned (OpenSpec.ofChange dutyWitnessSpec)

/-- ITS FALSE NEIGHBOUR: 'it returns false'. Refute it at one input. -/
def dutyWitnessWrong : ChangeSpec := { name := "dutyWitness", fn := fun _ => fun
  | [d1, d2] => { results := [.lit (.bool false)], args := [d1, d2] }
  | _ => none }
def DutyWitnessWrongFalsely : Prop := dutyWitnessRow.holds Try.pinned (OpenSpec.ofChange dutyWitnessWrong)

/- THE SECOND FORM. 'bulk': how many values and letters a reading holds, each counted each time it is reached (what is shared counts as often as it is met; a slice's spare places count too). A statement '..UptoSaid' is the law's where the arguments, and the package variables that the reading takes, are together of bulk at most 1048576: NARROWER than '..Said'. Prove '..Said' where nothing that the law and all that it calls make is longer than what came in: it says more and counts as full. Else prove '..UptoSaid'. A law counts once. -/
mutual
def uptoBulk {H : Type} : DataW H → Nat
  | .lit (.string bytes) => bytes.length + 1
  | .lit _ => 1
  | .nil => 1
  | .ptr d => uptoBulk d + 1
  | .slice elems spare => uptoBulkAll elems + uptoBulkAll spare + 1
  | .agg parts => uptoBulkAll parts + 1
  | .iface _ d => uptoBulk d + 1
  | .map entries => uptoBulkEntries entries + 1
  | .held _ => 1
def uptoBulkAll {H : Type} : List (DataW H) → Nat
  | [] => 0
  | d :: r => uptoBulk d + uptoBulkAll r
def uptoBulkEntries {H : Type} : List (Lit × DataW H) → Nat
  | [] => 0
  | x :: r => uptoBulkEntry x + uptoBulkEntries r
def uptoBulkEntry {H : Type} : Lit × DataW H → Nat
  | (.string bytes, d) => bytes.length + uptoBulk d + 1
  | (_, d) => uptoBulk d + 1
 end
def uptoSmall : (H : Type) → List (DataW H) → Bool := fun _ ds => decide (uptoBulkAll ds ≤ 1048576)
def OpenSpec.upto (s : _root_.Go.ChangeSpec) : _root_.Go.OpenSpec := { _root_.Go.OpenSpec.ofChange s with cond := some uptoSmall }

/-- 'haulierlaw03.IvalsEach', WHERE WHAT IT READS IS OF BULK AT MOST 1048576: true; the input reads as it did. -/
def ivalsEachUptoRow : OpenClaim := { program := "ytncklikpkliilaa", sum := "bf9a2e3c1e9420142250241edf0da8fdbca0d9dcdba1229f8b9b34fa9522092a", func := "haulier/haulierlaw03.IvalsEach", spec := "ivalsEach", unfollowed := true, recurses := true, apart := false, narrowed := true }
def IvalsEachUptoSaid : Prop := ivalsEachUptoRow.holds Try.pinned (OpenSpec.upto ivalsEachSpec)

/-- 'haulierlaw03.IvalsMake', WHERE WHAT IT READS IS OF BULK AT MOST 1048576: true; the input reads as it did. -/
def ivalsMakeUptoRow : OpenClaim := { program := "ytncklikpkliilaa", sum := "bf9a2e3c1e9420142250241edf0da8fdbca0d9dcdba1229f8b9b34fa9522092a", func := "haulier/haulierlaw03.IvalsMake", spec := "ivalsMake", unfollowed := true, recurses := true, apart := false, narrowed := true }
def IvalsMakeUptoSaid : Prop := ivalsMakeUptoRow.holds Try.pinned (OpenSpec.upto ivalsMakeSpec)

/-- 'haulierlaw03.IvalsNext', WHERE WHAT IT READS IS OF BULK AT MOST 1048576: true; the input reads as it did. -/
def ivalsNextUptoRow : OpenClaim := { program := "ytncklikpkliilaa", sum := "bf9a2e3c1e9420142250241edf0da8fdbca0d9dcdba1229f8b9b34fa9522092a", func := "haulier/haulierlaw03.IvalsNext", spec := "ivalsNext", unfollowed := true, recurses := true, apart := false, narrowed := true }
def IvalsNextUptoSaid : Prop := ivalsNextUptoRow.holds Try.pinned (OpenSpec.upto ivalsNextSpec)

/-- 'haulierlaw03.IvalsMinutes', WHERE WHAT IT READS IS OF BULK AT MOST 1048576: true; the input reads as it did. -/
def ivalsMinutesUptoRow : OpenClaim := { program := "ytncklikpkliilaa", sum := "bf9a2e3c1e9420142250241edf0da8fdbca0d9dcdba1229f8b9b34fa9522092a", func := "haulier/haulierlaw03.IvalsMinutes", spec := "ivalsMinutes", unfollowed := true, recurses := true, apart := false, narrowed := true }
def IvalsMinutesUptoSaid : Prop := ivalsMinutesUptoRow.holds Try.pinned (OpenSpec.upto ivalsMinutesSpec)

/-- 'haulierlaw03.IvalsParts', WHERE WHAT IT READS IS OF BULK AT MOST 1048576: true; the input reads as it did. -/
def ivalsPartsUptoRow : OpenClaim := { program := "ytncklikpkliilaa", sum := "bf9a2e3c1e9420142250241edf0da8fdbca0d9dcdba1229f8b9b34fa9522092a", func := "haulier/haulierlaw03.IvalsParts", spec := "ivalsParts", unfollowed := true, recurses := true, apart := false, narrowed := true }
def IvalsPartsUptoSaid : Prop := ivalsPartsUptoRow.holds Try.pinned (OpenSpec.upto ivalsPartsSpec)

/-- 'haulierlaw18.WindowNext', WHERE WHAT IT READS IS OF BULK AT MOST 1048576: true; the input reads as it did. -/
def windowNextUptoRow : OpenClaim := { program := "ytncklikpkliilaa", sum := "bf9a2e3c1e9420142250241edf0da8fdbca0d9dcdba1229f8b9b34fa9522092a", func := "haulier/haulierlaw18.WindowNext", spec := "windowNext", unfollowed := true, recurses := true, apart := false, narrowed := true }
def WindowNextUptoSaid : Prop := windowNextUptoRow.holds Try.pinned (OpenSpec.upto windowNextSpec)

/-- 'haulierlaw18.WindowShut', WHERE WHAT IT READS IS OF BULK AT MOST 1048576: true; the input reads as it did. -/
def windowShutUptoRow : OpenClaim := { program := "ytncklikpkliilaa", sum := "bf9a2e3c1e9420142250241edf0da8fdbca0d9dcdba1229f8b9b34fa9522092a", func := "haulier/haulierlaw18.WindowShut", spec := "windowShut", unfollowed := true, recurses := true, apart := false, narrowed := true }
def WindowShutUptoSaid : Prop := windowShutUptoRow.holds Try.pinned (OpenSpec.upto windowShutSpec)

/-- 'haulierlaw18.WindowChecks', WHERE WHAT IT READS IS OF BULK AT MOST 1048576: true; the input reads as it did. -/
def windowChecksUptoRow : OpenClaim := { program := "ytncklikpkliilaa", sum := "bf9a2e3c1e9420142250241edf0da8fdbca0d9dcdba1229f8b9b34fa9522092a", func := "haulier/haulierlaw18.WindowChecks", spec := "windowChecks", unfollowed := true, recurses := true, apart := false, narrowed := true }
def WindowChecksUptoSaid : Prop := windowChecksUptoRow.holds Try.pinned (OpenSpec.upto windowChecksSpec)

/-- 'haulierlaw20.TrailAudits', WHERE WHAT IT READS IS OF BULK AT MOST 1048576: true; the input reads as it did. -/
def trailAuditsUptoRow : OpenClaim := { program := "ytncklikpkliilaa", sum := "bf9a2e3c1e9420142250241edf0da8fdbca0d9dcdba1229f8b9b34fa9522092a", func := "haulier/haulierlaw20.TrailAudits", spec := "trailAudits", unfollowed := true, recurses := true, apart := false, narrowed := true }
def TrailAuditsUptoSaid : Prop := trailAuditsUptoRow.holds Try.pinned (OpenSpec.upto trailAuditsSpec)

/-- 'haulierlaw16.DutySets', WHERE WHAT IT READS IS OF BULK AT MOST 1048576: true; the input reads as it did. -/
def dutySetsUptoRow : OpenClaim := { program := "ytncklikpkliilaa", sum := "bf9a2e3c1e9420142250241edf0da8fdbca0d9dcdba1229f8b9b34fa9522092a", func := "haulier/haulierlaw16.DutySets", spec := "dutySets", unfollowed := true, recurses := true, apart := false, narrowed := true }
def DutySetsUptoSaid : Prop := dutySetsUptoRow.holds Try.pinned (OpenSpec.upto dutySetsSpec)

/-- 'haulierlaw16.DutyMeter', WHERE WHAT IT READS IS OF BULK AT MOST 1048576: true; the input reads as it did. -/
def dutyMeterUptoRow : OpenClaim := { program := "ytncklikpkliilaa", sum := "bf9a2e3c1e9420142250241edf0da8fdbca0d9dcdba1229f8b9b34fa9522092a", func := "haulier/haulierlaw16.DutyMeter", spec := "dutyMeter", unfollowed := true, recurses := true, apart := false, narrowed := true }
def DutyMeterUptoSaid : Prop := dutyMeterUptoRow.holds Try.pinned (OpenSpec.upto dutyMeterSpec)

/-- 'haulierlaw16.DutyWitness', WHERE WHAT IT READS IS OF BULK AT MOST 1048576: true; the input reads as it did. -/
def dutyWitnessUptoRow : OpenClaim := { program := "ytncklikpkliilaa", sum := "bf9a2e3c1e9420142250241edf0da8fdbca0d9dcdba1229f8b9b34fa9522092a", func := "haulier/haulierlaw16.DutyWitness", spec := "dutyWitness", unfollowed := true, recurses := true, apart := false, narrowed := true }
def DutyWitnessUptoSaid : Prop := dutyWitnessUptoRow.holds Try.pinned (OpenSpec.upto dutyWitnessSpec)

end Rows
end Go.Proofs.Ytncklikpkliilaa
