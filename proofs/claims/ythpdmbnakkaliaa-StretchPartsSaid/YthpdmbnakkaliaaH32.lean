/- Contracts of functions, bundle H32; proved for whatever the arguments' types allow, as each theorem says. -/
import Derived.Test.YthpdmbnakkaliaaH31
import Derived.Test.YthpdmbnakkaliaaH1

/- Law Parts of chapter 14, as a contract over all arguments. -/
set_option linter.unusedVariables false
namespace Go.Hl
open Go.Gh Go.Proofs

theorem stretchParts_law (g0 : GV) (h0 : ArgOk bookTy g0) (g1 : GV) (h1 : ArgOk meterTy g1) (g2 : GV) (h2 : ArgOk (.agg [.int, .int, .int]) g2) :
    ICalls Try.prog 5 [g0, g1, g2] [] (Done (gb true) []) := by
  obtain ⟨b, rfl, _⟩ := book_of h0
  obtain ⟨m, rfl, _⟩ := meter_of h1
  obtain ⟨cs, rfl, hw⟩ := h2.1 rfl
  obtain ⟨k, r, rfl, _, hw⟩ := WTs.int (show WTs _ cs from hw)
  obtain ⟨x, r, rfl, _, hw⟩ := WTs.int hw
  obtain ⟨y, r, rfl, _, hw⟩ := WTs.int hw
  cases WTs.nil hw
  exact stretchParts_ok b m k x y

end Go.Hl
