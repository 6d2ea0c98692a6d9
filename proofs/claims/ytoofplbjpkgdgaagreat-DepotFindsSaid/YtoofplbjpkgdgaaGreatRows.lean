/-
  No cell of these rows narrows 'for every input' (looked for: loops, veiled, ifaces, maps, wideKeys, modest, calm, conditions, laid).
  DERIVED. THE GIVEN ROWS OF THIS SEAT. 3 by the template 'for every input the law returns true; each argument reads behind the call as it read before'; 0 by the template 'total and deterministic' (their statements: YtoofplbjpkgdgaaGreatTotals.lean).
  GIVEN WITH THE SEED: the statements are not yours to turn. If you find one false, say at which input.
  Laid BY PROGRAM, IN A SANDBOX (cutbox-rows.mjs): the forced cells as the released guide's own fill.sh prints them over the translation 35c681c9df68a728… (all of the seat's roots in one cut). By AI agents, Wed Nov 11 2026. No macro, syntax, notation, axiom, sorry.
-/
import Derived.Test.YtoofplbjpkgdgaaGreatChecked
import GoSem.Claim
import GoSem.ClaimJoined
import GoSem.ClaimMapViews
import Derived.JoinedTies
import Derived.KernelRfl
namespace Go.Proofs.YtoofplbjpkgdgaaGreat
/- THE CELL 'sum', in the pinned program and in every row, IS THE sha256 OF THE DUMP (.gsa) THAT YtoofplbjpkgdgaaGreatProg.lean LOADS. Nothing in Lean hashes anything: it is a label: what it is worth is what the hold of that sum in a sandbox is worth. -/
noncomputable def Tryz.pinned : Pinned := { name := "ytoofplbjpkgdgaagreat", sum := "35c681c9df68a7284a9975d73d402fb64569fa7dade4f48f58c94919ae702902", checked := Tryz.checked }
namespace Rows
def none {H : Type} : Left H := { results := [], args := [] }

/-- 'haulierlaw30.DepotChecks': WHATEVER THE INPUT: true; the input reads as it did. -/
def depotChecksSpec : ChangeSpec := { name := "depotChecks", fn := fun _ => fun
  | [d1, d2] => { results := [.lit (.bool true)], args := [d1, d2] }
  | _ => none }
def depotChecksRow : OpenClaim := { program := "ytoofplbjpkgdgaagreat", sum := "35c681c9df68a7284a9975d73d402fb64569fa7dade4f48f58c94919ae702902", func := "haulier/haulierlaw30.DepotChecks", spec := "depotChecks", unfollowed := true, recurses := true, apart := false }
def DepotChecksSaid : Prop := depotChecksRow.holds Tryz.pinned (OpenSpec.ofChange depotChecksSpec)

/-- ITS FALSE NEIGHBOUR: 'it returns false'. Refute it at one input. -/
def depotChecksWrong : ChangeSpec := { name := "depotChecks", fn := fun _ => fun
  | [d1, d2] => { results := [.lit (.bool false)], args := [d1, d2] }
  | _ => none }
def DepotChecksWrongFalsely : Prop := depotChecksRow.holds Tryz.pinned (OpenSpec.ofChange depotChecksWrong)

/-- 'haulierlaw30.DepotFinds': WHATEVER THE INPUT: true; the input reads as it did. -/
def depotFindsSpec : ChangeSpec := { name := "depotFinds", fn := fun _ => fun
  | [d1, d2] => { results := [.lit (.bool true)], args := [d1, d2] }
  | _ => none }
def depotFindsRow : OpenClaim := { program := "ytoofplbjpkgdgaagreat", sum := "35c681c9df68a7284a9975d73d402fb64569fa7dade4f48f58c94919ae702902", func := "haulier/haulierlaw30.DepotFinds", spec := "depotFinds", unfollowed := true, recurses := true, apart := false }
def DepotFindsSaid : Prop := depotFindsRow.holds Tryz.pinned (OpenSpec.ofChange depotFindsSpec)

/-- ITS FALSE NEIGHBOUR: 'it returns false'. Refute it at one input. -/
def depotFindsWrong : ChangeSpec := { name := "depotFinds", fn := fun _ => fun
  | [d1, d2] => { results := [.lit (.bool false)], args := [d1, d2] }
  | _ => none }
def DepotFindsWrongFalsely : Prop := depotFindsRow.holds Tryz.pinned (OpenSpec.ofChange depotFindsWrong)

/-- 'haulierlaw30.DepotTurns': WHATEVER THE INPUT: true; the input reads as it did. -/
def depotTurnsSpec : ChangeSpec := { name := "depotTurns", fn := fun _ => fun
  | [d1, d2] => { results := [.lit (.bool true)], args := [d1, d2] }
  | _ => none }
def depotTurnsRow : OpenClaim := { program := "ytoofplbjpkgdgaagreat", sum := "35c681c9df68a7284a9975d73d402fb64569fa7dade4f48f58c94919ae702902", func := "haulier/haulierlaw30.DepotTurns", spec := "depotTurns", unfollowed := true, recurses := true, apart := false }
def DepotTurnsSaid : Prop := depotTurnsRow.holds Tryz.pinned (OpenSpec.ofChange depotTurnsSpec)

/-- ITS FALSE NEIGHBOUR: 'it returns false'. Refute it at one input. -/
def depotTurnsWrong : ChangeSpec := { name := "depotTurns", fn := fun _ => fun
  | [d1, d2] => { results := [.lit (.bool false)], args := [d1, d2] }
  | _ => none }
def DepotTurnsWrongFalsely : Prop := depotTurnsRow.holds Tryz.pinned (OpenSpec.ofChange depotTurnsWrong)

/- THE SECOND FORM. 'bulk': how many values and letters a reading holds, each counted each time it is reached (what is shared counts as often as it is met; a slice's spare places count too). A statement '..UptoSaid' is the law's where the arguments, and the package variables that the reading takes, are together of bulk at most 1048576: NARROWER than '..Said'. Prove '..Said' where nothing that the law and all that it calls make is longer than what came in: it says more and counts as full. Else prove '..UptoSaid'. A law counts once. -/
mutual
def uptoBulk {H : Type} : DataW H → Nat
  | .lit (.string bytes) => bytes.length + 1
  | .lit _ => 1
  | .nil => 1
  | .ptr d => uptoBulk d + 1
  | .slice elems spare => uptoBulkAll elems + uptoBulkAll spare + 1
  | .agg parts => uptoBulkAll parts + 1
  | .iface _ d => uptoBulk d + 1
  | .map entries => uptoBulkEntries entries + 1
  | .held _ => 1
def uptoBulkAll {H : Type} : List (DataW H) → Nat
  | [] => 0
  | d :: r => uptoBulk d + uptoBulkAll r
def uptoBulkEntries {H : Type} : List (Lit × DataW H) → Nat
  | [] => 0
  | x :: r => uptoBulkEntry x + uptoBulkEntries r
def uptoBulkEntry {H : Type} : Lit × DataW H → Nat
  | (.string bytes, d) => bytes.length + uptoBulk d + 1
  | (_, d) => uptoBulk d + 1
 end
def uptoSmall : (H : Type) → List (DataW H) → Bool := fun _ ds => decide (uptoBulkAll ds ≤ 1048576)
def OpenSpec.upto (s : _root_.Go.ChangeSpec) : _root_.Go.OpenSpec := { _root_.Go.OpenSpec.ofChange s with cond := some uptoSmall }

/-- 'haulierlaw30.DepotChecks', WHERE WHAT IT READS IS OF BULK AT MOST 1048576: true; the input reads as it did. -/
def depotChecksUptoRow : OpenClaim := { program := "ytoofplbjpkgdgaagreat", sum := "35c681c9df68a7284a9975d73d402fb64569fa7dade4f48f58c94919ae702902", func := "haulier/haulierlaw30.DepotChecks", spec := "depotChecks", unfollowed := true, recurses := true, apart := false, narrowed := true }
def DepotChecksUptoSaid : Prop := depotChecksUptoRow.holds Tryz.pinned (OpenSpec.upto depotChecksSpec)

/-- 'haulierlaw30.DepotFinds', WHERE WHAT IT READS IS OF BULK AT MOST 1048576: true; the input reads as it did. -/
def depotFindsUptoRow : OpenClaim := { program := "ytoofplbjpkgdgaagreat", sum := "35c681c9df68a7284a9975d73d402fb64569fa7dade4f48f58c94919ae702902", func := "haulier/haulierlaw30.DepotFinds", spec := "depotFinds", unfollowed := true, recurses := true, apart := false, narrowed := true }
def DepotFindsUptoSaid : Prop := depotFindsUptoRow.holds Tryz.pinned (OpenSpec.upto depotFindsSpec)

/-- 'haulierlaw30.DepotTurns', WHERE WHAT IT READS IS OF BULK AT MOST 1048576: true; the input reads as it did. -/
def depotTurnsUptoRow : OpenClaim := { program := "ytoofplbjpkgdgaagreat", sum := "35c681c9df68a7284a9975d73d402fb64569fa7dade4f48f58c94919ae702902", func := "haulier/haulierlaw30.DepotTurns", spec := "depotTurns", unfollowed := true, recurses := true, apart := false, narrowed := true }
def DepotTurnsUptoSaid : Prop := depotTurnsUptoRow.holds Tryz.pinned (OpenSpec.upto depotTurnsSpec)

end Rows
end Go.Proofs.YtoofplbjpkgdgaaGreat
