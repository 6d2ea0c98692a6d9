/- Contracts of functions, bundle H30; proved for whatever the arguments' types allow, as each theorem says. -/
import Derived.Test.YthpdmbnakkaliaaH29
import Derived.Test.YthpdmbnakkaliaaH1

/- Law Enough of chapter 14, as a contract over all arguments. -/
set_option linter.unusedVariables false
namespace Go.Hl
open Go.Gh Go.Proofs

theorem stretchEnough_law (g0 : GV) (h0 : ArgOk bookTy g0) (g1 : GV) (h1 : ArgOk meterTy g1) (g2 : GV) (h2 : ArgOk .int g2) :
    ICalls Try.prog 6 [g0, g1, g2] [] (Done (gb true) []) := by
  obtain ⟨b, rfl, _⟩ := book_of h0
  obtain ⟨m, rfl, _⟩ := meter_of h1
  obtain ⟨k, rfl, _⟩ := int_of h2
  exact stretchEnough_ok b m k

end Go.Hl
