/- Contracts of functions, bundle H21; proved for whatever the arguments' types allow, as each theorem says. -/
import Derived.Test.YteckhahneieicaaH20
import Derived.Test.YteckhahneieicaaH17

/- The law TruckRestful of chapter 29, as a contract over all arguments. -/
set_option linter.unusedVariables false
namespace Go.Hl
open Go.Gh Go.Proofs

theorem truckRestful_law (g0 : GV) (h0 : ArgOk bookTy g0) (g1 : GV) (h1 : ArgOk truckTy g1) (g2 : GV) (h2 : ArgOk .int g2) :
    ICalls Try.prog 14 [g0, g1, g2] [] (Done (gb true) []) := by
  obtain ⟨b, rfl, _⟩ := book_of h0
  obtain ⟨t, rfl, _⟩ := truck_of h1
  obtain ⟨m, rfl, hm⟩ := int_of h2
  exact truckRestful_ok b t m hm

end Go.Hl
