/-
  DERIVED. GIVEN WITH THE SEED: THE CARDS: each row of YtfbiaihhdbkefaaGreatDoorRows.lean that lists a variable, with what it lists TIED to the program's text (the seventh form; the later family's looks); each row that meets fmt, with fmt's text TOLD by the authors' own Lean function (tested against real Go, not proved from fmt's source: count such statements apart). THE CARD IS WHAT COUNTS. Prove the row's statement (the work); the ties are given (YtfbiaihhdbkefaaGreatDoorTie.lean); close each card by the builder's one call (the guide's Derived/Test/ToyasCard.lean, 'card_holds'). Laid BY PROGRAM, IN A SANDBOX (cutbox-door.mjs). By AI agents, Wed Nov 11 2026. No macro, syntax, notation, axiom, sorry.
-/
import Derived.Test.YtfbiaihhdbkefaaGreatDoorRows
import GoSem.ClaimSeven
namespace Go.Proofs.YtfbiaihhdbkefaaGreatDoor
namespace Rows

/-- THE TIED CARD OF 'haulierlaw22.VerdictAll'. -/
def verdictAllCard : Claim7 := { stood := { row := verdictAllRow, standIns := [], harness := (true, "579d71410252c7be991693bc85c706bb23e1b87b5db6a315ade6151ab493300c"), looks := false }, kinds := [], alts := [], laidByText := true, laidKinds := [.data, .data, .data, .data, .data], laidTests := true, laidLooks := .later }
def VerdictAllCardSaid : Prop := Claim7.holds Tryz.pinned (.plain (OpenSpec.ofChange verdictAllSpec)) verdictAllCard

/-- THE TIED CARD OF 'haulierlaw22.VerdictRising'. -/
def verdictRisingCard : Claim7 := { stood := { row := verdictRisingRow, standIns := [], harness := (true, "579d71410252c7be991693bc85c706bb23e1b87b5db6a315ade6151ab493300c"), looks := false }, kinds := [], alts := [], laidByText := true, laidKinds := [.data, .data, .data, .data, .data], laidTests := true, laidLooks := .later }
def VerdictRisingCardSaid : Prop := Claim7.holds Tryz.pinned (.plain (OpenSpec.ofChange verdictRisingSpec)) verdictRisingCard

/-- THE SECOND FORM's CARD OF 'haulierlaw22.VerdictAll'. -/
def verdictAllUptoCard : Claim7 := { stood := { row := verdictAllUptoRow, standIns := [], harness := (true, "579d71410252c7be991693bc85c706bb23e1b87b5db6a315ade6151ab493300c"), looks := false }, kinds := [], alts := [], laidByText := true, laidKinds := [.data, .data, .data, .data, .data], laidTests := true, laidLooks := .later }
def VerdictAllUptoCardSaid : Prop := Claim7.holds Tryz.pinned (.plain (OpenSpec.upto verdictAllSpec)) verdictAllUptoCard

/-- THE SECOND FORM's CARD OF 'haulierlaw22.VerdictRising'. -/
def verdictRisingUptoCard : Claim7 := { stood := { row := verdictRisingUptoRow, standIns := [], harness := (true, "579d71410252c7be991693bc85c706bb23e1b87b5db6a315ade6151ab493300c"), looks := false }, kinds := [], alts := [], laidByText := true, laidKinds := [.data, .data, .data, .data, .data], laidTests := true, laidLooks := .later }
def VerdictRisingUptoCardSaid : Prop := Claim7.holds Tryz.pinned (.plain (OpenSpec.upto verdictRisingSpec)) verdictRisingUptoCard
end Rows
end Go.Proofs.YtfbiaihhdbkefaaGreatDoor
