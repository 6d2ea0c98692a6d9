/- Contracts of functions, bundle I6; proved for whatever the arguments' types allow, as each theorem says. -/
import Derived.Test.YtncklikpkliilaaI5
import Derived.Test.YtncklikpkliilaaH1

/- Laws Next and Each of chapter 3, as contracts over all arguments. -/
set_option linter.unusedVariables false
namespace Go.Hl
open Go.Gh Go.Proofs

theorem ivalsNext_law (g0 : GV) (h0 : ArgOk (.list spanTy) g0) (g1 : GV) (h1 : ArgOk .int g1) :
    ICalls Try.prog 5 [g0, g1] [] (Done (gb true) []) := by
  obtain ⟨l, rfl, _⟩ := list_of el_span h0
  obtain ⟨m, rfl, _⟩ := int_of h1
  exact ivalsNext_ok l m

theorem ivalsEach_law (g0 : GV) (h0 : ArgOk (.list spanTy) g0) (g1 : GV) (h1 : ArgOk .int g1) :
    ICalls Try.prog 3 [g0, g1] [] (Done (gb true) []) := by
  obtain ⟨l, rfl, _⟩ := list_of el_span h0
  obtain ⟨m, rfl, _⟩ := int_of h1
  exact ivalsEach_ok l m

end Go.Hl
