/- Contracts of functions, bundle K10; proved for whatever the arguments' types allow, as each theorem says. -/
import Derived.Test.YtoofplbjpkgdgaaK9

/- Chapter 30: the law Finds.  -/
set_option linter.unusedVariables false
set_option linter.unusedSimpArgs false
namespace Go.Hl
open Go.Gh Go.Proofs

theorem meterL_ok {b : Book} : ∀ (l : List Truck) (i : Int) (acc : List Meter), (meterL b i l acc).2.2 = 0 → (meterL b i l acc).1 = acc ++ l.map (fun t => (truckMeter b t.Past).1) ∧ ∀ t, t ∈ l → (truckMeter b t.Past).2 = 0
  | [], _, acc, _ => ⟨by simp [meterL], fun t h => by cases h⟩
  | x :: r, i, acc, h => by
    rw [meterL] at h ⊢
    by_cases h1 : (truckMeter b x.Past).2 ≠ 0
    · rw [if_pos h1] at h; exact absurd h h1
    · rw [if_neg h1] at h ⊢
      obtain ⟨h2, h3⟩ := meterL_ok r _ _ h
      refine ⟨by rw [h2]; simp, fun t ht => ?_⟩
      rcases List.mem_cons.1 ht with e | e
      · subst e; simpa using h1
      · exact h3 t e
/-- A law's ID of an order, of a truck, and two places. -/
def namedTy : Ty := .agg [.int, .int, .int, .int]
end Go.Hl
