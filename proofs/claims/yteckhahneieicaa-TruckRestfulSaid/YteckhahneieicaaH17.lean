/- Contracts of functions, bundle H17; proved for whatever the arguments' types allow, as each theorem says. -/
import Derived.Test.YteckhahneieicaaH16

/- Laws of chapter 29, as contracts over all arguments. -/
set_option linter.unusedVariables false
namespace Go.Hl
open Go.Gh Go.Proofs

theorem truck_of {g : GV} (h : ArgOk truckTy g) : ∃ t : Truck, g = t.g ∧ t.Fits := agg_of truck_wt h

theorem truckMeters_law (g0 : GV) (h0 : ArgOk bookTy g0) (g1 : GV) (h1 : ArgOk truckTy g1) :
    ICalls Try.prog 7 [g0, g1] [] (Done (gb true) []) := by
  obtain ⟨b, rfl, _⟩ := book_of h0
  obtain ⟨t, rfl, _⟩ := truck_of h1
  exact truckMeters_ok b t

theorem truckChecks_law (g0 : GV) (h0 : ArgOk truckTy g0) (g1 : GV) (h1 : ArgOk truckTy g1) (g2 : GV) (h2 : ArgOk .int g2) :
    ICalls Try.prog 12 [g0, g1, g2] [] (Done (gb true) []) := by
  obtain ⟨s, rfl, _⟩ := truck_of h0
  obtain ⟨t, rfl, _⟩ := truck_of h1
  obtain ⟨p, rfl, _⟩ := int_of h2
  exact truckChecks_ok s t p

theorem truckRests_law (g0 : GV) (h0 : ArgOk truckTy g0) (g1 : GV) (h1 : ArgOk (.list recTy) g1) (g2 : GV) (h2 : ArgOk .int g2) :
    ICalls Try.prog 11 [g0, g1, g2] [] (Done (gb true) []) := by
  obtain ⟨t, rfl, _⟩ := truck_of h0
  obtain ⟨r, rfl, _⟩ := list_of el_rec h1
  obtain ⟨m, rfl, _⟩ := int_of h2
  exact truckRests_ok t r m

end Go.Hl
