/-
  No cell of these rows narrows 'for every input' (looked for: loops, veiled, ifaces, maps, wideKeys, modest, calm, conditions, laid).
  DERIVED. THE GIVEN ROWS OF THIS SEAT. 12 by the template 'for every input the law returns true; each argument reads behind the call as it read before'; 0 by the template 'total and deterministic' (their statements: YthpdmbnakkaliaaTotals.lean).
  GIVEN WITH THE SEED: the statements are not yours to turn. If you find one false, say at which input.
  Laid BY PROGRAM, IN A SANDBOX (cutbox-rows.mjs): the forced cells as the released guide's own fill.sh prints them over the translation a0038aad9718d921… (all of the seat's roots in one cut). By AI agents, Wed Nov 11 2026. No macro, syntax, notation, axiom, sorry.
-/
import Derived.Test.YthpdmbnakkaliaaChecked
import GoSem.Claim
import GoSem.ClaimJoined
import GoSem.ClaimMapViews
import Derived.JoinedTies
import Derived.KernelRfl
namespace Go.Proofs.Ythpdmbnakkaliaa
/- THE CELL 'sum', in the pinned program and in every row, IS THE sha256 OF THE DUMP (.gsa) THAT YthpdmbnakkaliaaProg.lean LOADS. Nothing in Lean hashes anything: it is a label: what it is worth is what the hold of that sum in a sandbox is worth. -/
noncomputable def Try.pinned : Pinned := { name := "ythpdmbnakkaliaa", sum := "a0038aad9718d9219780d659cb22485ea38a9100dc122626c417cd85763042af", checked := Try.checked }
namespace Rows
def none {H : Type} : Left H := { results := [], args := [] }

/-- 'haulierlaw14.StretchOver': WHATEVER THE INPUT: true; the input reads as it did. -/
def stretchOverSpec : ChangeSpec := { name := "stretchOver", fn := fun _ => fun
  | [d1, d2, d3] => { results := [.lit (.bool true)], args := [d1, d2, d3] }
  | _ => none }
def stretchOverRow : OpenClaim := { program := "ythpdmbnakkaliaa", sum := "a0038aad9718d9219780d659cb22485ea38a9100dc122626c417cd85763042af", func := "haulier/haulierlaw14.StretchOver", spec := "stretchOver", unfollowed := true, recurses := true, apart := false }
def StretchOverSaid : Prop := stretchOverRow.holds Try.pinned (OpenSpec.ofChange stretchOverSpec)

/-- ITS FALSE NEIGHBOUR: 'it returns false'. Refute it at one input. -/
def stretchOverWrong : ChangeSpec := { name := "stretchOver", fn := fun _ => fun
  | [d1, d2, d3] => { results := [.lit (.bool false)], args := [d1, d2, d3] }
  | _ => none }
def StretchOverWrongFalsely : Prop := stretchOverRow.holds Try.pinned (OpenSpec.ofChange stretchOverWrong)

/-- 'haulierlaw14.StretchFar': WHATEVER THE INPUT: true; the input reads as it did. -/
def stretchFarSpec : ChangeSpec := { name := "stretchFar", fn := fun _ => fun
  | [d1, d2, d3] => { results := [.lit (.bool true)], args := [d1, d2, d3] }
  | _ => none }
def stretchFarRow : OpenClaim := { program := "ythpdmbnakkaliaa", sum := "a0038aad9718d9219780d659cb22485ea38a9100dc122626c417cd85763042af", func := "haulier/haulierlaw14.StretchFar", spec := "stretchFar", unfollowed := true, recurses := true, apart := false }
def StretchFarSaid : Prop := stretchFarRow.holds Try.pinned (OpenSpec.ofChange stretchFarSpec)

/-- ITS FALSE NEIGHBOUR: 'it returns false'. Refute it at one input. -/
def stretchFarWrong : ChangeSpec := { name := "stretchFar", fn := fun _ => fun
  | [d1, d2, d3] => { results := [.lit (.bool false)], args := [d1, d2, d3] }
  | _ => none }
def StretchFarWrongFalsely : Prop := stretchFarRow.holds Try.pinned (OpenSpec.ofChange stretchFarWrong)

/-- 'haulierlaw14.StretchParts': WHATEVER THE INPUT: true; the input reads as it did. -/
def stretchPartsSpec : ChangeSpec := { name := "stretchParts", fn := fun _ => fun
  | [d1, d2, d3] => { results := [.lit (.bool true)], args := [d1, d2, d3] }
  | _ => none }
def stretchPartsRow : OpenClaim := { program := "ythpdmbnakkaliaa", sum := "a0038aad9718d9219780d659cb22485ea38a9100dc122626c417cd85763042af", func := "haulier/haulierlaw14.StretchParts", spec := "stretchParts", unfollowed := true, recurses := true, apart := false }
def StretchPartsSaid : Prop := stretchPartsRow.holds Try.pinned (OpenSpec.ofChange stretchPartsSpec)

/-- ITS FALSE NEIGHBOUR: 'it returns false'. Refute it at one input. -/
def stretchPartsWrong : ChangeSpec := { name := "stretchParts", fn := fun _ => fun
  | [d1, d2, d3] => { results := [.lit (.bool false)], args := [d1, d2, d3] }
  | _ => none }
def StretchPartsWrongFalsely : Prop := stretchPartsRow.holds Try.pinned (OpenSpec.ofChange stretchPartsWrong)

/-- 'haulierlaw14.StretchEnough': WHATEVER THE INPUT: true; the input reads as it did. -/
def stretchEnoughSpec : ChangeSpec := { name := "stretchEnough", fn := fun _ => fun
  | [d1, d2, d3] => { results := [.lit (.bool true)], args := [d1, d2, d3] }
  | _ => none }
def stretchEnoughRow : OpenClaim := { program := "ythpdmbnakkaliaa", sum := "a0038aad9718d9219780d659cb22485ea38a9100dc122626c417cd85763042af", func := "haulier/haulierlaw14.StretchEnough", spec := "stretchEnough", unfollowed := true, recurses := true, apart := false }
def StretchEnoughSaid : Prop := stretchEnoughRow.holds Try.pinned (OpenSpec.ofChange stretchEnoughSpec)

/-- ITS FALSE NEIGHBOUR: 'it returns false'. Refute it at one input. -/
def stretchEnoughWrong : ChangeSpec := { name := "stretchEnough", fn := fun _ => fun
  | [d1, d2, d3] => { results := [.lit (.bool false)], args := [d1, d2, d3] }
  | _ => none }
def StretchEnoughWrongFalsely : Prop := stretchEnoughRow.holds Try.pinned (OpenSpec.ofChange stretchEnoughWrong)

/-- 'haulierlaw29.TruckMeters': WHATEVER THE INPUT: true; the input reads as it did. -/
def truckMetersSpec : ChangeSpec := { name := "truckMeters", fn := fun _ => fun
  | [d1, d2] => { results := [.lit (.bool true)], args := [d1, d2] }
  | _ => none }
def truckMetersRow : OpenClaim := { program := "ythpdmbnakkaliaa", sum := "a0038aad9718d9219780d659cb22485ea38a9100dc122626c417cd85763042af", func := "haulier/haulierlaw29.TruckMeters", spec := "truckMeters", unfollowed := true, recurses := true, apart := false }
def TruckMetersSaid : Prop := truckMetersRow.holds Try.pinned (OpenSpec.ofChange truckMetersSpec)

/-- ITS FALSE NEIGHBOUR: 'it returns false'. Refute it at one input. -/
def truckMetersWrong : ChangeSpec := { name := "truckMeters", fn := fun _ => fun
  | [d1, d2] => { results := [.lit (.bool false)], args := [d1, d2] }
  | _ => none }
def TruckMetersWrongFalsely : Prop := truckMetersRow.holds Try.pinned (OpenSpec.ofChange truckMetersWrong)

/-- 'haulierlaw25.LabelWays': WHATEVER THE INPUT: true; the input reads as it did. -/
def labelWaysSpec : ChangeSpec := { name := "labelWays", fn := fun _ => fun
  | [d1, d2, d3] => { results := [.lit (.bool true)], args := [d1, d2, d3] }
  | _ => none }
def labelWaysRow : OpenClaim := { program := "ythpdmbnakkaliaa", sum := "a0038aad9718d9219780d659cb22485ea38a9100dc122626c417cd85763042af", func := "haulier/haulierlaw25.LabelWays", spec := "labelWays", unfollowed := true, recurses := true, apart := false }
def LabelWaysSaid : Prop := labelWaysRow.holds Try.pinned (OpenSpec.ofChange labelWaysSpec)

/-- ITS FALSE NEIGHBOUR: 'it returns false'. Refute it at one input. -/
def labelWaysWrong : ChangeSpec := { name := "labelWays", fn := fun _ => fun
  | [d1, d2, d3] => { results := [.lit (.bool false)], args := [d1, d2, d3] }
  | _ => none }
def LabelWaysWrongFalsely : Prop := labelWaysRow.holds Try.pinned (OpenSpec.ofChange labelWaysWrong)

/-- 'haulierlaw25.LabelPlays': WHATEVER THE INPUT: true; the input reads as it did. -/
def labelPlaysSpec : ChangeSpec := { name := "labelPlays", fn := fun _ => fun
  | [d1, d2, d3] => { results := [.lit (.bool true)], args := [d1, d2, d3] }
  | _ => none }
def labelPlaysRow : OpenClaim := { program := "ythpdmbnakkaliaa", sum := "a0038aad9718d9219780d659cb22485ea38a9100dc122626c417cd85763042af", func := "haulier/haulierlaw25.LabelPlays", spec := "labelPlays", unfollowed := true, recurses := true, apart := false }
def LabelPlaysSaid : Prop := labelPlaysRow.holds Try.pinned (OpenSpec.ofChange labelPlaysSpec)

/-- ITS FALSE NEIGHBOUR: 'it returns false'. Refute it at one input. -/
def labelPlaysWrong : ChangeSpec := { name := "labelPlays", fn := fun _ => fun
  | [d1, d2, d3] => { results := [.lit (.bool false)], args := [d1, d2, d3] }
  | _ => none }
def LabelPlaysWrongFalsely : Prop := labelPlaysRow.holds Try.pinned (OpenSpec.ofChange labelPlaysWrong)

/-- 'haulierlaw25.LabelBounds': WHATEVER THE INPUT: true; the input reads as it did. -/
def labelBoundsSpec : ChangeSpec := { name := "labelBounds", fn := fun _ => fun
  | [d1, d2, d3] => { results := [.lit (.bool true)], args := [d1, d2, d3] }
  | _ => none }
def labelBoundsRow : OpenClaim := { program := "ythpdmbnakkaliaa", sum := "a0038aad9718d9219780d659cb22485ea38a9100dc122626c417cd85763042af", func := "haulier/haulierlaw25.LabelBounds", spec := "labelBounds", unfollowed := true, recurses := true, apart := false }
def LabelBoundsSaid : Prop := labelBoundsRow.holds Try.pinned (OpenSpec.ofChange labelBoundsSpec)

/-- ITS FALSE NEIGHBOUR: 'it returns false'. Refute it at one input. -/
def labelBoundsWrong : ChangeSpec := { name := "labelBounds", fn := fun _ => fun
  | [d1, d2, d3] => { results := [.lit (.bool false)], args := [d1, d2, d3] }
  | _ => none }
def LabelBoundsWrongFalsely : Prop := labelBoundsRow.holds Try.pinned (OpenSpec.ofChange labelBoundsWrong)

/-- 'haulierlaw29.TruckRests': WHATEVER THE INPUT: true; the input reads as it did. -/
def truckRestsSpec : ChangeSpec := { name := "truckRests", fn := fun _ => fun
  | [d1, d2, d3] => { results := [.lit (.bool true)], args := [d1, d2, d3] }
  | _ => none }
def truckRestsRow : OpenClaim := { program := "ythpdmbnakkaliaa", sum := "a0038aad9718d9219780d659cb22485ea38a9100dc122626c417cd85763042af", func := "haulier/haulierlaw29.TruckRests", spec := "truckRests", apart := false }
def TruckRestsSaid : Prop := truckRestsRow.holds Try.pinned (OpenSpec.ofChange truckRestsSpec)

/-- ITS FALSE NEIGHBOUR: 'it returns false'. Refute it at one input. -/
def truckRestsWrong : ChangeSpec := { name := "truckRests", fn := fun _ => fun
  | [d1, d2, d3] => { results := [.lit (.bool false)], args := [d1, d2, d3] }
  | _ => none }
def TruckRestsWrongFalsely : Prop := truckRestsRow.holds Try.pinned (OpenSpec.ofChange truckRestsWrong)

/-- 'haulierlaw29.TruckChecks': WHATEVER THE INPUT: true; the input reads as it did. -/
def truckChecksSpec : ChangeSpec := { name := "truckChecks", fn := fun _ => fun
  | [d1, d2, d3] => { results := [.lit (.bool true)], args := [d1, d2, d3] }
  | _ => none }
def truckChecksRow : OpenClaim := { program := "ythpdmbnakkaliaa", sum := "a0038aad9718d9219780d659cb22485ea38a9100dc122626c417cd85763042af", func := "haulier/haulierlaw29.TruckChecks", spec := "truckChecks", apart := false }
def TruckChecksSaid : Prop := truckChecksRow.holds Try.pinned (OpenSpec.ofChange truckChecksSpec)

/-- ITS FALSE NEIGHBOUR: 'it returns false'. Refute it at one input. -/
def truckChecksWrong : ChangeSpec := { name := "truckChecks", fn := fun _ => fun
  | [d1, d2, d3] => { results := [.lit (.bool false)], args := [d1, d2, d3] }
  | _ => none }
def TruckChecksWrongFalsely : Prop := truckChecksRow.holds Try.pinned (OpenSpec.ofChange truckChecksWrong)

/-- 'haulierlaw29.TruckRights': WHATEVER THE INPUT: true; the input reads as it did. -/
def truckRightsSpec : ChangeSpec := { name := "truckRights", fn := fun _ => fun
  | [d1, d2, d3] => { results := [.lit (.bool true)], args := [d1, d2, d3] }
  | _ => none }
def truckRightsRow : OpenClaim := { program := "ythpdmbnakkaliaa", sum := "a0038aad9718d9219780d659cb22485ea38a9100dc122626c417cd85763042af", func := "haulier/haulierlaw29.TruckRights", spec := "truckRights", unfollowed := true, recurses := true, apart := false }
def TruckRightsSaid : Prop := truckRightsRow.holds Try.pinned (OpenSpec.ofChange truckRightsSpec)

/-- ITS FALSE NEIGHBOUR: 'it returns false'. Refute it at one input. -/
def truckRightsWrong : ChangeSpec := { name := "truckRights", fn := fun _ => fun
  | [d1, d2, d3] => { results := [.lit (.bool false)], args := [d1, d2, d3] }
  | _ => none }
def TruckRightsWrongFalsely : Prop := truckRightsRow.holds Try.pinned (OpenSpec.ofChange truckRightsWrong)

/-- 'haulierlaw29.TruckRestful': WHATEVER THE INPUT: true; the input reads as it did. -/
def truckRestfulSpec : ChangeSpec := { name := "truckRestful", fn := fun _ => fun
  | [d1, d2, d3] => { results := [.lit (.bool true)], args := [d1, d2, d3] }
  | _ => none }
def truckRestfulRow : OpenClaim := { program := "ythpdmbnakkaliaa", sum := "a0038aad9718d9219780d659cb22485ea38a9100dc122626c417cd85763042af", func := "haulier/haulierlaw29.TruckRestful", spec := "truckRestful", unfollowed := true, recurses := true, apart := false }
def TruckRestfulSaid : Prop := truckRestfulRow.holds Try.pinned (OpenSpec.ofChange truckRestfulSpec)

/-- ITS FALSE NEIGHBOUR: 'it returns false'. Refute it at one input. -/
def truckRestfulWrong : ChangeSpec := { name := "truckRestful", fn := fun _ => fun
  | [d1, d2, d3] => { results := [.lit (.bool false)], args := [d1, d2, d3] }
  | _ => none }
def TruckRestfulWrongFalsely : Prop := truckRestfulRow.holds Try.pinned (OpenSpec.ofChange truckRestfulWrong)

/- THE SECOND FORM. 'bulk': how many values and letters a reading holds, each counted each time it is reached (what is shared counts as often as it is met; a slice's spare places count too). A statement '..UptoSaid' is the law's where the arguments, and the package variables that the reading takes, are together of bulk at most 1048576: NARROWER than '..Said'. Prove '..Said' where nothing that the law and all that it calls make is longer than what came in: it says more and counts as full. Else prove '..UptoSaid'. A law counts once. -/
mutual
def uptoBulk {H : Type} : DataW H → Nat
  | .lit (.string bytes) => bytes.length + 1
  | .lit _ => 1
  | .nil => 1
  | .ptr d => uptoBulk d + 1
  | .slice elems spare => uptoBulkAll elems + uptoBulkAll spare + 1
  | .agg parts => uptoBulkAll parts + 1
  | .iface _ d => uptoBulk d + 1
  | .map entries => uptoBulkEntries entries + 1
  | .held _ => 1
def uptoBulkAll {H : Type} : List (DataW H) → Nat
  | [] => 0
  | d :: r => uptoBulk d + uptoBulkAll r
def uptoBulkEntries {H : Type} : List (Lit × DataW H) → Nat
  | [] => 0
  | x :: r => uptoBulkEntry x + uptoBulkEntries r
def uptoBulkEntry {H : Type} : Lit × DataW H → Nat
  | (.string bytes, d) => bytes.length + uptoBulk d + 1
  | (_, d) => uptoBulk d + 1
 end
def uptoSmall : (H : Type) → List (DataW H) → Bool := fun _ ds => decide (uptoBulkAll ds ≤ 1048576)
def OpenSpec.upto (s : _root_.Go.ChangeSpec) : _root_.Go.OpenSpec := { _root_.Go.OpenSpec.ofChange s with cond := some uptoSmall }

/-- 'haulierlaw14.StretchOver', WHERE WHAT IT READS IS OF BULK AT MOST 1048576: true; the input reads as it did. -/
def stretchOverUptoRow : OpenClaim := { program := "ythpdmbnakkaliaa", sum := "a0038aad9718d9219780d659cb22485ea38a9100dc122626c417cd85763042af", func := "haulier/haulierlaw14.StretchOver", spec := "stretchOver", unfollowed := true, recurses := true, apart := false, narrowed := true }
def StretchOverUptoSaid : Prop := stretchOverUptoRow.holds Try.pinned (OpenSpec.upto stretchOverSpec)

/-- 'haulierlaw14.StretchFar', WHERE WHAT IT READS IS OF BULK AT MOST 1048576: true; the input reads as it did. -/
def stretchFarUptoRow : OpenClaim := { program := "ythpdmbnakkaliaa", sum := "a0038aad9718d9219780d659cb22485ea38a9100dc122626c417cd85763042af", func := "haulier/haulierlaw14.StretchFar", spec := "stretchFar", unfollowed := true, recurses := true, apart := false, narrowed := true }
def StretchFarUptoSaid : Prop := stretchFarUptoRow.holds Try.pinned (OpenSpec.upto stretchFarSpec)

/-- 'haulierlaw14.StretchParts', WHERE WHAT IT READS IS OF BULK AT MOST 1048576: true; the input reads as it did. -/
def stretchPartsUptoRow : OpenClaim := { program := "ythpdmbnakkaliaa", sum := "a0038aad9718d9219780d659cb22485ea38a9100dc122626c417cd85763042af", func := "haulier/haulierlaw14.StretchParts", spec := "stretchParts", unfollowed := true, recurses := true, apart := false, narrowed := true }
def StretchPartsUptoSaid : Prop := stretchPartsUptoRow.holds Try.pinned (OpenSpec.upto stretchPartsSpec)

/-- 'haulierlaw14.StretchEnough', WHERE WHAT IT READS IS OF BULK AT MOST 1048576: true; the input reads as it did. -/
def stretchEnoughUptoRow : OpenClaim := { program := "ythpdmbnakkaliaa", sum := "a0038aad9718d9219780d659cb22485ea38a9100dc122626c417cd85763042af", func := "haulier/haulierlaw14.StretchEnough", spec := "stretchEnough", unfollowed := true, recurses := true, apart := false, narrowed := true }
def StretchEnoughUptoSaid : Prop := stretchEnoughUptoRow.holds Try.pinned (OpenSpec.upto stretchEnoughSpec)

/-- 'haulierlaw29.TruckMeters', WHERE WHAT IT READS IS OF BULK AT MOST 1048576: true; the input reads as it did. -/
def truckMetersUptoRow : OpenClaim := { program := "ythpdmbnakkaliaa", sum := "a0038aad9718d9219780d659cb22485ea38a9100dc122626c417cd85763042af", func := "haulier/haulierlaw29.TruckMeters", spec := "truckMeters", unfollowed := true, recurses := true, apart := false, narrowed := true }
def TruckMetersUptoSaid : Prop := truckMetersUptoRow.holds Try.pinned (OpenSpec.upto truckMetersSpec)

/-- 'haulierlaw25.LabelWays', WHERE WHAT IT READS IS OF BULK AT MOST 1048576: true; the input reads as it did. -/
def labelWaysUptoRow : OpenClaim := { program := "ythpdmbnakkaliaa", sum := "a0038aad9718d9219780d659cb22485ea38a9100dc122626c417cd85763042af", func := "haulier/haulierlaw25.LabelWays", spec := "labelWays", unfollowed := true, recurses := true, apart := false, narrowed := true }
def LabelWaysUptoSaid : Prop := labelWaysUptoRow.holds Try.pinned (OpenSpec.upto labelWaysSpec)

/-- 'haulierlaw25.LabelPlays', WHERE WHAT IT READS IS OF BULK AT MOST 1048576: true; the input reads as it did. -/
def labelPlaysUptoRow : OpenClaim := { program := "ythpdmbnakkaliaa", sum := "a0038aad9718d9219780d659cb22485ea38a9100dc122626c417cd85763042af", func := "haulier/haulierlaw25.LabelPlays", spec := "labelPlays", unfollowed := true, recurses := true, apart := false, narrowed := true }
def LabelPlaysUptoSaid : Prop := labelPlaysUptoRow.holds Try.pinned (OpenSpec.upto labelPlaysSpec)

/-- 'haulierlaw25.LabelBounds', WHERE WHAT IT READS IS OF BULK AT MOST 1048576: true; the input reads as it did. -/
def labelBoundsUptoRow : OpenClaim := { program := "ythpdmbnakkaliaa", sum := "a0038aad9718d9219780d659cb22485ea38a9100dc122626c417cd85763042af", func := "haulier/haulierlaw25.LabelBounds", spec := "labelBounds", unfollowed := true, recurses := true, apart := false, narrowed := true }
def LabelBoundsUptoSaid : Prop := labelBoundsUptoRow.holds Try.pinned (OpenSpec.upto labelBoundsSpec)

/-- 'haulierlaw29.TruckRests', WHERE WHAT IT READS IS OF BULK AT MOST 1048576: true; the input reads as it did. -/
def truckRestsUptoRow : OpenClaim := { program := "ythpdmbnakkaliaa", sum := "a0038aad9718d9219780d659cb22485ea38a9100dc122626c417cd85763042af", func := "haulier/haulierlaw29.TruckRests", spec := "truckRests", apart := false, narrowed := true }
def TruckRestsUptoSaid : Prop := truckRestsUptoRow.holds Try.pinned (OpenSpec.upto truckRestsSpec)

/-- 'haulierlaw29.TruckChecks', WHERE WHAT IT READS IS OF BULK AT MOST 1048576: true; the input reads as it did. -/
def truckChecksUptoRow : OpenClaim := { program := "ythpdmbnakkaliaa", sum := "a0038aad9718d9219780d659cb22485ea38a9100dc122626c417cd85763042af", func := "haulier/haulierlaw29.TruckChecks", spec := "truckChecks", apart := false, narrowed := true }
def TruckChecksUptoSaid : Prop := truckChecksUptoRow.holds Try.pinned (OpenSpec.upto truckChecksSpec)

/-- 'haulierlaw29.TruckRights', WHERE WHAT IT READS IS OF BULK AT MOST 1048576: true; the input reads as it did. -/
def truckRightsUptoRow : OpenClaim := { program := "ythpdmbnakkaliaa", sum := "a0038aad9718d9219780d659cb22485ea38a9100dc122626c417cd85763042af", func := "haulier/haulierlaw29.TruckRights", spec := "truckRights", unfollowed := true, recurses := true, apart := false, narrowed := true }
def TruckRightsUptoSaid : Prop := truckRightsUptoRow.holds Try.pinned (OpenSpec.upto truckRightsSpec)

/-- 'haulierlaw29.TruckRestful', WHERE WHAT IT READS IS OF BULK AT MOST 1048576: true; the input reads as it did. -/
def truckRestfulUptoRow : OpenClaim := { program := "ythpdmbnakkaliaa", sum := "a0038aad9718d9219780d659cb22485ea38a9100dc122626c417cd85763042af", func := "haulier/haulierlaw29.TruckRestful", spec := "truckRestful", unfollowed := true, recurses := true, apart := false, narrowed := true }
def TruckRestfulUptoSaid : Prop := truckRestfulUptoRow.holds Try.pinned (OpenSpec.upto truckRestfulSpec)

end Rows
end Go.Proofs.Ythpdmbnakkaliaa
