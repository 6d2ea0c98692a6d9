/- Contracts of functions, bundle F0; proved for whatever the arguments' types allow, as each theorem says. -/
import Derived.Test.YtoofplbjpkgdgaaH7

/- The end of a timeline.  -/
set_option linter.unusedVariables false
set_option linter.unusedSimpArgs false
namespace Go.Hl
open Go.Gh Go.Proofs

def endOf (l : List Rec) : Int := match l.getLast? with
  | none => 0
  | some r => r.To
theorem endOf_nil : endOf [] = 0 := rfl
theorem endOf_get {l : List Rec} {i : Int} {x : Rec} (hi : i = (l.length : Int) - 1) (hx : l[i.toNat]? = some x) : x.To = endOf l := by
  unfold endOf
  rw [List.getLast?_eq_getElem?]
  have : i.toNat = l.length - 1 := by omega
  rw [← this, hx]

end Go.Hl
