/-
  No cell of these rows narrows 'for every input' (looked for: loops, veiled, ifaces, maps, wideKeys, modest, calm, conditions, laid).
  DERIVED. THE GIVEN ROWS OF THIS SEAT. 4 by the template 'for every input the law returns true; each argument reads behind the call as it read before'; 0 by the template 'total and deterministic' (their statements: YtoofplbjpkgdgaaTotals.lean).
  GIVEN WITH THE SEED: the statements are not yours to turn. If you find one false, say at which input.
  Laid BY PROGRAM, IN A SANDBOX (cutbox-rows.mjs): the forced cells as the released guide's own fill.sh prints them over the translation 8c344d64381eba94… (all of the seat's roots in one cut). By AI agents, Wed Nov 11 2026. No macro, syntax, notation, axiom, sorry.
-/
import Derived.Test.YtoofplbjpkgdgaaChecked
import GoSem.Claim
import GoSem.ClaimJoined
import GoSem.ClaimMapViews
import Derived.JoinedTies
import Derived.KernelRfl
namespace Go.Proofs.Ytoofplbjpkgdgaa
/- THE CELL 'sum', in the pinned program and in every row, IS THE sha256 OF THE DUMP (.gsa) THAT YtoofplbjpkgdgaaProg.lean LOADS. Nothing in Lean hashes anything: it is a label: what it is worth is what the hold of that sum in a sandbox is worth. -/
noncomputable def Try.pinned : Pinned := { name := "ytoofplbjpkgdgaa", sum := "8c344d64381eba9436f5c424086c1cc8ea4e301464371b704ee89ddabd952a94", checked := Try.checked }
namespace Rows
def none {H : Type} : Left H := { results := [], args := [] }

/-- 'haulierlaw24.FrontKeeps': WHATEVER THE INPUT: true; the input reads as it did. -/
def frontKeepsSpec : ChangeSpec := { name := "frontKeeps", fn := fun _ => fun
  | [d1, d2, d3] => { results := [.lit (.bool true)], args := [d1, d2, d3] }
  | _ => none }
def frontKeepsRow : OpenClaim := { program := "ytoofplbjpkgdgaa", sum := "8c344d64381eba9436f5c424086c1cc8ea4e301464371b704ee89ddabd952a94", func := "haulier/haulierlaw24.FrontKeeps", spec := "frontKeeps", plainKeys := false, apart := false }
def FrontKeepsSaid : Prop := frontKeepsRow.holds Try.pinned (OpenSpec.ofChange frontKeepsSpec)

/-- ITS FALSE NEIGHBOUR: 'it returns false'. Refute it at one input. -/
def frontKeepsWrong : ChangeSpec := { name := "frontKeeps", fn := fun _ => fun
  | [d1, d2, d3] => { results := [.lit (.bool false)], args := [d1, d2, d3] }
  | _ => none }
def FrontKeepsWrongFalsely : Prop := frontKeepsRow.holds Try.pinned (OpenSpec.ofChange frontKeepsWrong)

/-- 'haulierlaw24.FrontPuts': WHATEVER THE INPUT: true; the input reads as it did. -/
def frontPutsSpec : ChangeSpec := { name := "frontPuts", fn := fun _ => fun
  | [d1, d2, d3] => { results := [.lit (.bool true)], args := [d1, d2, d3] }
  | _ => none }
def frontPutsRow : OpenClaim := { program := "ytoofplbjpkgdgaa", sum := "8c344d64381eba9436f5c424086c1cc8ea4e301464371b704ee89ddabd952a94", func := "haulier/haulierlaw24.FrontPuts", spec := "frontPuts", unfollowed := true, recurses := true, plainKeys := false, apart := false }
def FrontPutsSaid : Prop := frontPutsRow.holds Try.pinned (OpenSpec.ofChange frontPutsSpec)

/-- ITS FALSE NEIGHBOUR: 'it returns false'. Refute it at one input. -/
def frontPutsWrong : ChangeSpec := { name := "frontPuts", fn := fun _ => fun
  | [d1, d2, d3] => { results := [.lit (.bool false)], args := [d1, d2, d3] }
  | _ => none }
def FrontPutsWrongFalsely : Prop := frontPutsRow.holds Try.pinned (OpenSpec.ofChange frontPutsWrong)

/-- 'haulierlaw30.DepotBack': WHATEVER THE INPUT: true; the input reads as it did. -/
def depotBackSpec : ChangeSpec := { name := "depotBack", fn := fun _ => fun
  | [d1, d2, d3] => { results := [.lit (.bool true)], args := [d1, d2, d3] }
  | _ => none }
def depotBackRow : OpenClaim := { program := "ytoofplbjpkgdgaa", sum := "8c344d64381eba9436f5c424086c1cc8ea4e301464371b704ee89ddabd952a94", func := "haulier/haulierlaw30.DepotBack", spec := "depotBack", unfollowed := true, recurses := true, plainKeys := false, apart := false }
def DepotBackSaid : Prop := depotBackRow.holds Try.pinned (OpenSpec.ofChange depotBackSpec)

/-- ITS FALSE NEIGHBOUR: 'it returns false'. Refute it at one input. -/
def depotBackWrong : ChangeSpec := { name := "depotBack", fn := fun _ => fun
  | [d1, d2, d3] => { results := [.lit (.bool false)], args := [d1, d2, d3] }
  | _ => none }
def DepotBackWrongFalsely : Prop := depotBackRow.holds Try.pinned (OpenSpec.ofChange depotBackWrong)

/-- 'haulierlaw30.DepotStays': WHATEVER THE INPUT: true; the input reads as it did. -/
def depotStaysSpec : ChangeSpec := { name := "depotStays", fn := fun _ => fun
  | [d1, d2] => { results := [.lit (.bool true)], args := [d1, d2] }
  | _ => none }
def depotStaysRow : OpenClaim := { program := "ytoofplbjpkgdgaa", sum := "8c344d64381eba9436f5c424086c1cc8ea4e301464371b704ee89ddabd952a94", func := "haulier/haulierlaw30.DepotStays", spec := "depotStays", unfollowed := true, recurses := true, plainKeys := false, apart := false }
def DepotStaysSaid : Prop := depotStaysRow.holds Try.pinned (OpenSpec.ofChange depotStaysSpec)

/-- ITS FALSE NEIGHBOUR: 'it returns false'. Refute it at one input. -/
def depotStaysWrong : ChangeSpec := { name := "depotStays", fn := fun _ => fun
  | [d1, d2] => { results := [.lit (.bool false)], args := [d1, d2] }
  | _ => none }
def DepotStaysWrongFalsely : Prop := depotStaysRow.holds Try.pinned (OpenSpec.ofChange depotStaysWrong)

/- THE SECOND FORM. 'bulk': how many values and letters a reading holds, each counted each time it is reached (what is shared counts as often as it is met; a slice's spare places count too). A statement '..UptoSaid' is the law's where the arguments, and the package variables that the reading takes, are together of bulk at most 1048576: NARROWER than '..Said'. Prove '..Said' where nothing that the law and all that it calls make is longer than what came in: it says more and counts as full. Else prove '..UptoSaid'. A law counts once. -/
mutual
def uptoBulk {H : Type} : DataW H → Nat
  | .lit (.string bytes) => bytes.length + 1
  | .lit _ => 1
  | .nil => 1
  | .ptr d => uptoBulk d + 1
  | .slice elems spare => uptoBulkAll elems + uptoBulkAll spare + 1
  | .agg parts => uptoBulkAll parts + 1
  | .iface _ d => uptoBulk d + 1
  | .map entries => uptoBulkEntries entries + 1
  | .held _ => 1
def uptoBulkAll {H : Type} : List (DataW H) → Nat
  | [] => 0
  | d :: r => uptoBulk d + uptoBulkAll r
def uptoBulkEntries {H : Type} : List (Lit × DataW H) → Nat
  | [] => 0
  | x :: r => uptoBulkEntry x + uptoBulkEntries r
def uptoBulkEntry {H : Type} : Lit × DataW H → Nat
  | (.string bytes, d) => bytes.length + uptoBulk d + 1
  | (_, d) => uptoBulk d + 1
 end
def uptoSmall : (H : Type) → List (DataW H) → Bool := fun _ ds => decide (uptoBulkAll ds ≤ 1048576)
def OpenSpec.upto (s : _root_.Go.ChangeSpec) : _root_.Go.OpenSpec := { _root_.Go.OpenSpec.ofChange s with cond := some uptoSmall }

/-- 'haulierlaw24.FrontKeeps', WHERE WHAT IT READS IS OF BULK AT MOST 1048576: true; the input reads as it did. -/
def frontKeepsUptoRow : OpenClaim := { program := "ytoofplbjpkgdgaa", sum := "8c344d64381eba9436f5c424086c1cc8ea4e301464371b704ee89ddabd952a94", func := "haulier/haulierlaw24.FrontKeeps", spec := "frontKeeps", plainKeys := false, apart := false, narrowed := true }
def FrontKeepsUptoSaid : Prop := frontKeepsUptoRow.holds Try.pinned (OpenSpec.upto frontKeepsSpec)

/-- 'haulierlaw24.FrontPuts', WHERE WHAT IT READS IS OF BULK AT MOST 1048576: true; the input reads as it did. -/
def frontPutsUptoRow : OpenClaim := { program := "ytoofplbjpkgdgaa", sum := "8c344d64381eba9436f5c424086c1cc8ea4e301464371b704ee89ddabd952a94", func := "haulier/haulierlaw24.FrontPuts", spec := "frontPuts", unfollowed := true, recurses := true, plainKeys := false, apart := false, narrowed := true }
def FrontPutsUptoSaid : Prop := frontPutsUptoRow.holds Try.pinned (OpenSpec.upto frontPutsSpec)

/-- 'haulierlaw30.DepotBack', WHERE WHAT IT READS IS OF BULK AT MOST 1048576: true; the input reads as it did. -/
def depotBackUptoRow : OpenClaim := { program := "ytoofplbjpkgdgaa", sum := "8c344d64381eba9436f5c424086c1cc8ea4e301464371b704ee89ddabd952a94", func := "haulier/haulierlaw30.DepotBack", spec := "depotBack", unfollowed := true, recurses := true, plainKeys := false, apart := false, narrowed := true }
def DepotBackUptoSaid : Prop := depotBackUptoRow.holds Try.pinned (OpenSpec.upto depotBackSpec)

/-- 'haulierlaw30.DepotStays', WHERE WHAT IT READS IS OF BULK AT MOST 1048576: true; the input reads as it did. -/
def depotStaysUptoRow : OpenClaim := { program := "ytoofplbjpkgdgaa", sum := "8c344d64381eba9436f5c424086c1cc8ea4e301464371b704ee89ddabd952a94", func := "haulier/haulierlaw30.DepotStays", spec := "depotStays", unfollowed := true, recurses := true, plainKeys := false, apart := false, narrowed := true }
def DepotStaysUptoSaid : Prop := depotStaysUptoRow.holds Try.pinned (OpenSpec.upto depotStaysSpec)

end Rows
end Go.Proofs.Ytoofplbjpkgdgaa
