/- Contracts of functions, bundle H19; proved for whatever the arguments' types allow, as each theorem says. -/
import Derived.Test.YteckhahneieicaaH18
import Derived.Test.YteckhahneieicaaH17

/- The law TruckRights of chapter 29, as a contract over all arguments. -/
set_option linter.unusedVariables false
namespace Go.Hl
open Go.Gh Go.Proofs

theorem truckRights_law (g0 : GV) (h0 : ArgOk (.list truckTy) g0) (g1 : GV) (h1 : ArgOk .int g1) (g2 : GV) (h2 : ArgOk .int g2) :
    ICalls Try.prog 13 [g0, g1, g2] [] (Done (gb true) []) := by
  obtain ⟨l, rfl, _⟩ := list_of el_truck h0
  obtain ⟨p, rfl, _⟩ := int_of h1
  obtain ⟨m, rfl, _⟩ := int_of h2
  exact truckRights_ok l p m

end Go.Hl
