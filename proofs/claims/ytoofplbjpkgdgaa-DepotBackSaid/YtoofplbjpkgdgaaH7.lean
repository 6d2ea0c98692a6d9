/- Contracts of functions, bundle H7; proved for whatever the arguments' types allow, as each theorem says. -/
import Derived.Test.YtoofplbjpkgdgaaH6

/- Contracts: a minute of tasks.  #prune -/
set_option linter.unusedVariables false
set_option linter.unusedSimpArgs false
namespace Go.Hl
open Go.Gh Go.Proofs

end Go.Hl

/- Contracts: a minute of tasks, checked; a record of minutes.  #prune -/
set_option linter.unusedVariables false
set_option linter.unusedSimpArgs false
namespace Go.Hl
open Go.Gh Go.Proofs

def rbit (p : Int) (w : Bool) : Int := if w then p else 0
def setB (b : B4) : Int := rbit 1024 b.b0 + rbit 2048 b.b1 + rbit 4096 b.b2 + rbit 8192 b.b3
def stepErr (l : List Task) (s : Spot) (m k : Int) : Int := if errCheck l s ≠ 0 then errCheck l s else if k < 0 ∨ 4 ≤ k then 2 else if m < 0 ∨ 40320 ≤ m then 4 else 0
def stepSpot (l : List Task) (s : Spot) (m k : Int) : Spot := if stepErr l s m k = 0 then (minuteS l s m k).1 else zeroSpot
def stepSet (l : List Task) (s : Spot) (m k : Int) : Int := if stepErr l s m k = 0 then setB (minuteS l s m k).2 else 0

def recErr (r : Rec) : Int := if r.Kind < 0 ∨ 4 ≤ r.Kind then 2 else if (r.From < 0 ∨ 40320 < r.From) ∨ r.To < 0 ∨ 40320 < r.To then 4 else if r.To ≤ r.From then 3 else 0
def lightB (l : List Task) : Bool := decide (l.length ≤ 40) && l.all fun t => decide (t.Open.length ≤ 20)
def alTasks : List Task := [⟨2, 1, [⟨5, 7⟩]⟩]
def tup2 (r : Spot × Int) : GV := .tup [r.1.g, gi r.2]
def tup3 (r : Spot × Int × Int) : GV := .tup [r.1.g, gi r.2.1, gi r.2.2]
end Go.Hl
