/- Contracts of functions, bundle I4; proved for whatever the arguments' types allow, as each theorem says. -/
import Derived.Test.YtncklikpkliilaaI3
import Derived.Test.YtncklikpkliilaaH1

/- Law Make of chapter 3, as a contract over all arguments. -/
set_option linter.unusedVariables false
namespace Go.Hl
open Go.Gh Go.Proofs

theorem ivalsMake_law (g0 : GV) (h0 : ArgOk (.list spanTy) g0) (g1 : GV) (h1 : ArgOk .int g1) :
    ICalls Try.prog 4 [g0, g1] [] (Done (gb true) []) := by
  obtain ⟨l, rfl, _⟩ := list_of el_span h0
  obtain ⟨m, rfl, _⟩ := int_of h1
  exact ivalsMake_ok l m

end Go.Hl
