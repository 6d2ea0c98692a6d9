/- Laws of chapter 17, as contracts over all arguments. -/
import Derived.Test.YtnoghibeanjleaaC5
import Derived.Test.YtnoghibeanjleaaS2
set_option linter.unusedVariables false
namespace Go.Hl
open Go.Gh Go.Proofs


theorem belowUnder_law (g0 : GV) (h0 : ArgOk bookTy g0) (g1 : GV) (h1 : ArgOk meterTy g1) (g2 : GV) (h2 : ArgOk meterTy g2) :
    ICalls Try.prog 3 [g0, g1, g2] [] (Done (gb true) []) := by
  obtain ⟨b, rfl, _⟩ := book_of h0
  obtain ⟨x, rfl, _⟩ := meter_of h1
  obtain ⟨y, rfl, _⟩ := meter_of h2
  exact belowUnder_ok b x y

theorem both_of {g : GV} (h : ArgOk (.agg [meterTy, meterTy]) g) : ∃ x y : Meter, g = .agg (x.c ++ y.c) ∧ x.Fits ∧ y.Fits := by
  obtain ⟨cs, rfl, hw⟩ := h.1 rfl
  obtain ⟨a, r, rfl, ha, hr⟩ := hw
  obtain ⟨c, r, rfl, hc, hr⟩ := hr
  cases WTs.nil hr
  obtain ⟨x, rfl, hx⟩ := meter_wt ha
  obtain ⟨y, rfl, hy⟩ := meter_wt hc
  exact ⟨x, y, by simp, hx, hy⟩

theorem belowOrder_law (g0 : GV) (h0 : ArgOk bookTy g0) (g1 : GV) (h1 : ArgOk (.agg [meterTy, meterTy]) g1) (g2 : GV) (h2 : ArgOk meterTy g2) :
    ICalls Try.prog 4 [g0, g1, g2] [] (Done (gb true) []) := by
  obtain ⟨b, rfl, _⟩ := book_of h0
  obtain ⟨x, y, rfl, _, _⟩ := both_of h1
  obtain ⟨z, rfl, _⟩ := meter_of h2
  exact belowOrder_ok b x y z

end Go.Hl
