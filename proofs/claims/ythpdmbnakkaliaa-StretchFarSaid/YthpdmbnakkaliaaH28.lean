/- Contracts of functions, bundle H28; proved for whatever the arguments' types allow, as each theorem says. -/
import Derived.Test.YthpdmbnakkaliaaH27
import Derived.Test.YthpdmbnakkaliaaH1

/- Laws Over and Far of chapter 14, as contracts over all arguments. -/
set_option linter.unusedVariables false
namespace Go.Hl
open Go.Gh Go.Proofs

theorem stretchOver_law (g0 : GV) (h0 : ArgOk bookTy g0) (g1 : GV) (h1 : ArgOk meterTy g1) (g2 : GV) (h2 : ArgOk (.agg [.int, .int]) g2) :
    ICalls Try.prog 3 [g0, g1, g2] [] (Done (gb true) []) := by
  obtain ⟨b, rfl, _⟩ := book_of h0
  obtain ⟨m, rfl, _⟩ := meter_of h1
  obtain ⟨cs, rfl, hw⟩ := h2.1 rfl
  obtain ⟨k, r, rfl, _, hw⟩ := WTs.int (show WTs _ cs from hw)
  obtain ⟨n, r, rfl, _, hw⟩ := WTs.int hw
  cases WTs.nil hw
  exact stretchOver_ok b m k n

theorem stretchFar_law (g0 : GV) (h0 : ArgOk bookTy g0) (g1 : GV) (h1 : ArgOk meterTy g1) (g2 : GV) (h2 : ArgOk (.agg [.int, .agg [.int, .int, .int, .int, .int, .int, .int, .int, .int, .int]]) g2) :
    ICalls Try.prog 4 [g0, g1, g2] [] (Done (gb true) []) := by
  obtain ⟨b, rfl, _⟩ := book_of h0
  obtain ⟨m, rfl, _⟩ := meter_of h1
  obtain ⟨cs, rfl, hw⟩ := h2.1 rfl
  obtain ⟨k, r, rfl, _, hw⟩ := WTs.int (show WTs _ cs from hw)
  obtain ⟨av, r, rfl, ha, hw⟩ := WTs.agg hw
  cases WTs.nil hw
  obtain ⟨a0, r, rfl, _, ha⟩ := WTs.int ha
  obtain ⟨a1, r, rfl, _, ha⟩ := WTs.int ha
  obtain ⟨a2, r, rfl, _, ha⟩ := WTs.int ha
  obtain ⟨a3, r, rfl, _, ha⟩ := WTs.int ha
  obtain ⟨a4, r, rfl, _, ha⟩ := WTs.int ha
  obtain ⟨a5, r, rfl, _, ha⟩ := WTs.int ha
  obtain ⟨a6, r, rfl, _, ha⟩ := WTs.int ha
  obtain ⟨a7, r, rfl, _, ha⟩ := WTs.int ha
  obtain ⟨a8, r, rfl, _, ha⟩ := WTs.int ha
  obtain ⟨a9, r, rfl, _, ha⟩ := WTs.int ha
  cases WTs.nil ha
  exact stretchFar_ok b m k ⟨a0, a1, a2, a3, a4, a5, a6, a7, a8, a9⟩

end Go.Hl
