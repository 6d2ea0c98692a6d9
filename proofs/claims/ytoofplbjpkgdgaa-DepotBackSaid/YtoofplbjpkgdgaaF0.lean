/- Contracts of functions, bundle F0; proved for whatever the arguments' types allow, as each theorem says. -/
import Derived.Test.YtoofplbjpkgdgaaH7

/- The end of a timeline.  -/
set_option linter.unusedVariables false
set_option linter.unusedSimpArgs false
namespace Go.Hl
open Go.Gh Go.Proofs

def endOf (l : List Rec) : Int := match l.getLast? with
  | none => 0
  | some r => r.To
end Go.Hl
