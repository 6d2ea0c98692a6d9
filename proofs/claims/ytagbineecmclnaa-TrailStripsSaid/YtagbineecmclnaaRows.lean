/-
  No cell of these rows narrows 'for every input' (looked for: loops, veiled, ifaces, maps, wideKeys, modest, calm, conditions, laid).
  DERIVED. THE GIVEN ROWS OF THIS SEAT. 5 by the template 'for every input the law returns true; each argument reads behind the call as it read before'; 0 by the template 'total and deterministic' (their statements: YtagbineecmclnaaTotals.lean).
  GIVEN WITH THE SEED: the statements are not yours to turn. If you find one false, say at which input.
  Laid BY PROGRAM, IN A SANDBOX (cutbox-rows.mjs): the forced cells as the released guide's own fill.sh prints them over the translation 0fb89d2039d090d6… (all of the seat's roots in one cut). By AI agents, Wed Nov 11 2026. No macro, syntax, notation, axiom, sorry.
-/
import Derived.Test.YtagbineecmclnaaChecked
import GoSem.Claim
import GoSem.ClaimJoined
import GoSem.ClaimMapViews
import Derived.JoinedTies
import Derived.KernelRfl
namespace Go.Proofs.Ytagbineecmclnaa
/- THE CELL 'sum', in the pinned program and in every row, IS THE sha256 OF THE DUMP (.gsa) THAT YtagbineecmclnaaProg.lean LOADS. Nothing in Lean hashes anything: it is a label: what it is worth is what the hold of that sum in a sandbox is worth. -/
noncomputable def Try.pinned : Pinned := { name := "ytagbineecmclnaa", sum := "0fb89d2039d090d68d6e71ff0aa25ef05b81a76b5bfa0b5731183a1c1d6a53ff", checked := Try.checked }
namespace Rows
def none {H : Type} : Left H := { results := [], args := [] }

/-- 'haulierlaw16.DutyLaxer': WHATEVER THE INPUT: true; the input reads as it did. -/
def dutyLaxerSpec : ChangeSpec := { name := "dutyLaxer", fn := fun _ => fun
  | [d1, d2, d3] => { results := [.lit (.bool true)], args := [d1, d2, d3] }
  | _ => none }
def dutyLaxerRow : OpenClaim := { program := "ytagbineecmclnaa", sum := "0fb89d2039d090d68d6e71ff0aa25ef05b81a76b5bfa0b5731183a1c1d6a53ff", func := "haulier/haulierlaw16.DutyLaxer", spec := "dutyLaxer", unfollowed := true, recurses := true, apart := false }
def DutyLaxerSaid : Prop := dutyLaxerRow.holds Try.pinned (OpenSpec.ofChange dutyLaxerSpec)

/-- ITS FALSE NEIGHBOUR: 'it returns false'. Refute it at one input. -/
def dutyLaxerWrong : ChangeSpec := { name := "dutyLaxer", fn := fun _ => fun
  | [d1, d2, d3] => { results := [.lit (.bool false)], args := [d1, d2, d3] }
  | _ => none }
def DutyLaxerWrongFalsely : Prop := dutyLaxerRow.holds Try.pinned (OpenSpec.ofChange dutyLaxerWrong)

/-- 'haulierlaw16.DutyAudits': WHATEVER THE INPUT: true; the input reads as it did. -/
def dutyAuditsSpec : ChangeSpec := { name := "dutyAudits", fn := fun _ => fun
  | [d1, d2] => { results := [.lit (.bool true)], args := [d1, d2] }
  | _ => none }
def dutyAuditsRow : OpenClaim := { program := "ytagbineecmclnaa", sum := "0fb89d2039d090d68d6e71ff0aa25ef05b81a76b5bfa0b5731183a1c1d6a53ff", func := "haulier/haulierlaw16.DutyAudits", spec := "dutyAudits", unfollowed := true, recurses := true, apart := false }
def DutyAuditsSaid : Prop := dutyAuditsRow.holds Try.pinned (OpenSpec.ofChange dutyAuditsSpec)

/-- ITS FALSE NEIGHBOUR: 'it returns false'. Refute it at one input. -/
def dutyAuditsWrong : ChangeSpec := { name := "dutyAudits", fn := fun _ => fun
  | [d1, d2] => { results := [.lit (.bool false)], args := [d1, d2] }
  | _ => none }
def DutyAuditsWrongFalsely : Prop := dutyAuditsRow.holds Try.pinned (OpenSpec.ofChange dutyAuditsWrong)

/-- 'haulierlaw20.TrailAudits': WHATEVER THE INPUT: true; the input reads as it did. -/
def trailAuditsSpec : ChangeSpec := { name := "trailAudits", fn := fun _ => fun
  | [d1, d2, d3] => { results := [.lit (.bool true)], args := [d1, d2, d3] }
  | _ => none }
def trailAuditsRow : OpenClaim := { program := "ytagbineecmclnaa", sum := "0fb89d2039d090d68d6e71ff0aa25ef05b81a76b5bfa0b5731183a1c1d6a53ff", func := "haulier/haulierlaw20.TrailAudits", spec := "trailAudits", unfollowed := true, recurses := true, apart := false }
def TrailAuditsSaid : Prop := trailAuditsRow.holds Try.pinned (OpenSpec.ofChange trailAuditsSpec)

/-- ITS FALSE NEIGHBOUR: 'it returns false'. Refute it at one input. -/
def trailAuditsWrong : ChangeSpec := { name := "trailAudits", fn := fun _ => fun
  | [d1, d2, d3] => { results := [.lit (.bool false)], args := [d1, d2, d3] }
  | _ => none }
def TrailAuditsWrongFalsely : Prop := trailAuditsRow.holds Try.pinned (OpenSpec.ofChange trailAuditsWrong)

/-- 'haulierlaw20.TrailVisits': WHATEVER THE INPUT: true; the input reads as it did. -/
def trailVisitsSpec : ChangeSpec := { name := "trailVisits", fn := fun _ => fun
  | [d1, d2, d3] => { results := [.lit (.bool true)], args := [d1, d2, d3] }
  | _ => none }
def trailVisitsRow : OpenClaim := { program := "ytagbineecmclnaa", sum := "0fb89d2039d090d68d6e71ff0aa25ef05b81a76b5bfa0b5731183a1c1d6a53ff", func := "haulier/haulierlaw20.TrailVisits", spec := "trailVisits", unfollowed := true, recurses := true, apart := false }
def TrailVisitsSaid : Prop := trailVisitsRow.holds Try.pinned (OpenSpec.ofChange trailVisitsSpec)

/-- ITS FALSE NEIGHBOUR: 'it returns false'. Refute it at one input. -/
def trailVisitsWrong : ChangeSpec := { name := "trailVisits", fn := fun _ => fun
  | [d1, d2, d3] => { results := [.lit (.bool false)], args := [d1, d2, d3] }
  | _ => none }
def TrailVisitsWrongFalsely : Prop := trailVisitsRow.holds Try.pinned (OpenSpec.ofChange trailVisitsWrong)

/-- 'haulierlaw20.TrailStrips': WHATEVER THE INPUT: true; the input reads as it did. -/
def trailStripsSpec : ChangeSpec := { name := "trailStrips", fn := fun _ => fun
  | [d1, d2, d3] => { results := [.lit (.bool true)], args := [d1, d2, d3] }
  | _ => none }
def trailStripsRow : OpenClaim := { program := "ytagbineecmclnaa", sum := "0fb89d2039d090d68d6e71ff0aa25ef05b81a76b5bfa0b5731183a1c1d6a53ff", func := "haulier/haulierlaw20.TrailStrips", spec := "trailStrips", unfollowed := true, recurses := true, apart := false }
def TrailStripsSaid : Prop := trailStripsRow.holds Try.pinned (OpenSpec.ofChange trailStripsSpec)

/-- ITS FALSE NEIGHBOUR: 'it returns false'. Refute it at one input. -/
def trailStripsWrong : ChangeSpec := { name := "trailStrips", fn := fun _ => fun
  | [d1, d2, d3] => { results := [.lit (.bool false)], args := [d1, d2, d3] }
  | _ => none }
def TrailStripsWrongFalsely : Prop := trailStripsRow.holds Try.pinned (OpenSpec.ofChange trailStripsWrong)

/- THE SECOND FORM. 'bulk': how many values and letters a reading holds, each counted each time it is reached (what is shared counts as often as it is met; a slice's spare places count too). A statement '..UptoSaid' is the law's where the arguments, and the package variables that the reading takes, are together of bulk at most 1048576: NARROWER than '..Said'. Prove '..Said' where nothing that the law and all that it calls make is longer than what came in: it says more and counts as full. Else prove '..UptoSaid'. A law counts once. -/
mutual
def uptoBulk {H : Type} : DataW H → Nat
  | .lit (.string bytes) => bytes.length + 1
  | .lit _ => 1
  | .nil => 1
  | .ptr d => uptoBulk d + 1
  | .slice elems spare => uptoBulkAll elems + uptoBulkAll spare + 1
  | .agg parts => uptoBulkAll parts + 1
  | .iface _ d => uptoBulk d + 1
  | .map entries => uptoBulkEntries entries + 1
  | .held _ => 1
def uptoBulkAll {H : Type} : List (DataW H) → Nat
  | [] => 0
  | d :: r => uptoBulk d + uptoBulkAll r
def uptoBulkEntries {H : Type} : List (Lit × DataW H) → Nat
  | [] => 0
  | x :: r => uptoBulkEntry x + uptoBulkEntries r
def uptoBulkEntry {H : Type} : Lit × DataW H → Nat
  | (.string bytes, d) => bytes.length + uptoBulk d + 1
  | (_, d) => uptoBulk d + 1
 end
def uptoSmall : (H : Type) → List (DataW H) → Bool := fun _ ds => decide (uptoBulkAll ds ≤ 1048576)
def OpenSpec.upto (s : _root_.Go.ChangeSpec) : _root_.Go.OpenSpec := { _root_.Go.OpenSpec.ofChange s with cond := some uptoSmall }

/-- 'haulierlaw16.DutyLaxer', WHERE WHAT IT READS IS OF BULK AT MOST 1048576: true; the input reads as it did. -/
def dutyLaxerUptoRow : OpenClaim := { program := "ytagbineecmclnaa", sum := "0fb89d2039d090d68d6e71ff0aa25ef05b81a76b5bfa0b5731183a1c1d6a53ff", func := "haulier/haulierlaw16.DutyLaxer", spec := "dutyLaxer", unfollowed := true, recurses := true, apart := false, narrowed := true }
def DutyLaxerUptoSaid : Prop := dutyLaxerUptoRow.holds Try.pinned (OpenSpec.upto dutyLaxerSpec)

/-- 'haulierlaw16.DutyAudits', WHERE WHAT IT READS IS OF BULK AT MOST 1048576: true; the input reads as it did. -/
def dutyAuditsUptoRow : OpenClaim := { program := "ytagbineecmclnaa", sum := "0fb89d2039d090d68d6e71ff0aa25ef05b81a76b5bfa0b5731183a1c1d6a53ff", func := "haulier/haulierlaw16.DutyAudits", spec := "dutyAudits", unfollowed := true, recurses := true, apart := false, narrowed := true }
def DutyAuditsUptoSaid : Prop := dutyAuditsUptoRow.holds Try.pinned (OpenSpec.upto dutyAuditsSpec)

/-- 'haulierlaw20.TrailAudits', WHERE WHAT IT READS IS OF BULK AT MOST 1048576: true; the input reads as it did. -/
def trailAuditsUptoRow : OpenClaim := { program := "ytagbineecmclnaa", sum := "0fb89d2039d090d68d6e71ff0aa25ef05b81a76b5bfa0b5731183a1c1d6a53ff", func := "haulier/haulierlaw20.TrailAudits", spec := "trailAudits", unfollowed := true, recurses := true, apart := false, narrowed := true }
def TrailAuditsUptoSaid : Prop := trailAuditsUptoRow.holds Try.pinned (OpenSpec.upto trailAuditsSpec)

/-- 'haulierlaw20.TrailVisits', WHERE WHAT IT READS IS OF BULK AT MOST 1048576: true; the input reads as it did. -/
def trailVisitsUptoRow : OpenClaim := { program := "ytagbineecmclnaa", sum := "0fb89d2039d090d68d6e71ff0aa25ef05b81a76b5bfa0b5731183a1c1d6a53ff", func := "haulier/haulierlaw20.TrailVisits", spec := "trailVisits", unfollowed := true, recurses := true, apart := false, narrowed := true }
def TrailVisitsUptoSaid : Prop := trailVisitsUptoRow.holds Try.pinned (OpenSpec.upto trailVisitsSpec)

/-- 'haulierlaw20.TrailStrips', WHERE WHAT IT READS IS OF BULK AT MOST 1048576: true; the input reads as it did. -/
def trailStripsUptoRow : OpenClaim := { program := "ytagbineecmclnaa", sum := "0fb89d2039d090d68d6e71ff0aa25ef05b81a76b5bfa0b5731183a1c1d6a53ff", func := "haulier/haulierlaw20.TrailStrips", spec := "trailStrips", unfollowed := true, recurses := true, apart := false, narrowed := true }
def TrailStripsUptoSaid : Prop := trailStripsUptoRow.holds Try.pinned (OpenSpec.upto trailStripsSpec)

end Rows
end Go.Proofs.Ytagbineecmclnaa
