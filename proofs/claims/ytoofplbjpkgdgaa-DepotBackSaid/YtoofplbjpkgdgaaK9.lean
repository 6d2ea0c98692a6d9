/- Contracts of functions, bundle K9; proved for whatever the arguments' types allow, as each theorem says. -/
import Derived.Test.YtoofplbjpkgdgaaK6

/- Chapter 30: the laws Checks and Finds.  -/
set_option linter.unusedVariables false
set_option linter.unusedSimpArgs false
namespace Go.Hl
open Go.Gh Go.Proofs

theorem el_row (x : GV) (h : ElOk (.list .int) x) : ∃ l : List Int, x = rowG l ∧ ∀ n, n ∈ l → I64 n := by
  obtain ⟨_, _, h1, h2⟩ := h
  obtain ⟨l, h3, h4⟩ := listWT_of el_int h2
  rw [h1 rfl] at h3
  simp at h3
  exact ⟨l, h3, h4⟩
def depotTy : Ty := .agg [bookTy, .list (.list .int), .list orderTy, .list truckTy]
theorem depot_wt (gs : List GV) (h : WTs [bookTy, .list (.list .int), .list orderTy, .list truckTy] gs) : ∃ d : Depot, gs = d.c ∧ True := by
  obtain ⟨a, r, rfl, ha, h⟩ := h
  obtain ⟨b, rfl, hb⟩ := book_wt ha
  obtain ⟨w, r, rfl, hw, h⟩ := WTs.list el_row h
  obtain ⟨o, r, rfl, ho, h⟩ := WTs.list el_order h
  obtain ⟨t, r, rfl, ht, h⟩ := WTs.list el_truck h
  cases WTs.nil h
  exact ⟨⟨b, w, o, t⟩, rfl, trivial⟩
theorem depot_of {g : GV} (h : ArgOk depotTy g) : ∃ d : Depot, g = d.g := by
  obtain ⟨d, h1, _⟩ := agg_of depot_wt h
  exact ⟨d, h1⟩
end Go.Hl
