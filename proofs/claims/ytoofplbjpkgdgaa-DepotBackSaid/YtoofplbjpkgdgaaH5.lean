/- Contracts of functions, bundle H5; proved for whatever the arguments' types allow, as each theorem says. -/
import Derived.Test.YtoofplbjpkgdgaaH4

/- The reference's run of minutes.  -/
set_option linter.unusedVariables false
set_option linter.unusedSimpArgs false
namespace Go.Hl
open Go.Gh Go.Proofs

def al13 : Meter := ⟨300, 270, false, 0, 30, 270, 0, false, 0, 30, false, 270, 0, 270⟩
theorem runM_cons (b : Book) (k : Int) (r : List Int) (m : Meter) (bits : Int) : runM b (k :: r) m bits = if k < 0 ∨ 4 ≤ k then (Meter.zero, 0, 2) else if m.Now = 40320 then (Meter.zero, 0, 4) else runM b r (m.step b k) (stepBits b m k bits) := rfl
end Go.Hl
