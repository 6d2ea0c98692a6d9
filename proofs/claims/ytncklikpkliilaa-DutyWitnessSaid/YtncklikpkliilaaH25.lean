/- Contracts of functions, bundle H25; proved for whatever the arguments' types allow, as each theorem says. -/
import Derived.Test.YtncklikpkliilaaH24

/- Contracts: the least of first minutes; the reference's block of minutes.  -/
set_option linter.unusedVariables false
set_option linter.unusedSimpArgs false
namespace Go.Hl
open Go.Gh Go.Proofs

def pickI (best x : Int) : Int := if 0 ≤ x ∧ (best < 0 ∨ x < best) then x else best
def F10.at (f : F10) : Nat → Int
  | 0 => f.a0
  | 1 => f.a1
  | 2 => f.a2
  | 3 => f.a3
  | 4 => f.a4
  | 5 => f.a5
  | 6 => f.a6
  | 7 => f.a7
  | 8 => f.a8
  | _ => f.a9
def F10.fst (f : F10) : Nat → Int
  | 0 => -1
  | n + 1 => pickI (f.fst n) (f.at n)
theorem pickY {best x y : Int} (h : best = y) (h1 : 0 ≤ x ∧ (best < 0 ∨ x < best)) : x = pickI y x := by subst h; unfold pickI; rw [if_pos h1]
theorem pickN {best x y : Int} (h : best = y) (h1 : ¬ (0 ≤ x ∧ (best < 0 ∨ x < best))) : best = pickI y x := by subst h; unfold pickI; rw [if_neg h1]

end Go.Hl
