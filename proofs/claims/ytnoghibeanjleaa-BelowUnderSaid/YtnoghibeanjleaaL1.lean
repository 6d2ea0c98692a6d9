/- Laws of chapter 17, as contracts over all arguments. -/
import Derived.Test.YtnoghibeanjleaaC4
import Derived.Test.YtnoghibeanjleaaS2
set_option linter.unusedVariables false
namespace Go.Hl
open Go.Gh Go.Proofs

theorem belowUnder_law (g0 : GV) (h0 : ArgOk bookTy g0) (g1 : GV) (h1 : ArgOk meterTy g1) (g2 : GV) (h2 : ArgOk meterTy g2) :
    ICalls Try.prog 3 [g0, g1, g2] [] (Done (gb true) []) := by
  obtain ⟨b, rfl, _⟩ := book_of h0
  obtain ⟨x, rfl, _⟩ := meter_of h1
  obtain ⟨y, rfl, _⟩ := meter_of h2
  exact belowUnder_ok b x y

end Go.Hl
