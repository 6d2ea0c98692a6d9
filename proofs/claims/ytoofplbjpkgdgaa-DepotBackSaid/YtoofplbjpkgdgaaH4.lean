/- Contracts of functions, bundle H4; proved for whatever the arguments' types allow, as each theorem says. -/
import Derived.Test.YtoofplbjpkgdgaaH3

/- Sets of clauses as numbers: the reference's bit and Or.  -/
set_option linter.unusedVariables false
set_option linter.unusedSimpArgs false
namespace Go.Hl
open Go.Gh Go.Proofs

end Go.Hl

/- The reference's minute.  -/
set_option linter.unusedVariables false
set_option linter.unusedSimpArgs false
namespace Go.Hl
open Go.Gh Go.Proofs

def rb (p : Int) (w : Bool) : Int := if w then p else 0
def endsR (b : Book) (m : Meter) : Int := (if (m.worth b).Weekly then rb 256 ((m.worth b).Brief && m.Brief) else 0) + (if (m.worth b).Reduced then rb 64 (decide (b.Reduces < (m.rise1 (m.worth b)).Reduces + 1)) else 0)

end Go.Hl

/- The reference's minute, whole.  -/
set_option linter.unusedVariables false
set_option linter.unusedSimpArgs false
namespace Go.Hl
open Go.Gh Go.Proofs

def upR (b : Book) (m : Meter) : Int := if 0 < m.Lie then endsR b m else 0
def lateR (b : Book) (m : Meter) (x : Int) : Int := x + rb 32 (decide (b.Round - b.Reduced ≤ m.Now - m.Dawn)) + rb 128 (decide (b.Rounds ≤ m.Now - m.Sabbath))
def droveR (b : Book) (m : Meter) (x : Int) : Int :=
  (if m.Day + 1 = b.Day + 1 then x + rb 1 (decide (b.Drive < m.Acc + 1)) + rb 4 (decide (b.Longers < m.Longers + 1)) else x + rb 1 (decide (b.Drive < m.Acc + 1))) + rb 2 (decide (b.Longer < m.Day + 1)) + rb 8 (decide (b.Week < m.Week + 1)) + rb 16 (decide (b.Fortnight < m.Week + 1 + m.Last))
def drivenR (b : Book) (m : Meter) (k x : Int) : Int := if k = 3 then droveR b m x else x
def workedR (b : Book) (m : Meter) (k x : Int) : Int := if k ≠ 1 then x + rb 512 (decide (b.Labour < m.Labour + 1)) else x
def stepR (b : Book) (m : Meter) (k : Int) : Int :=
  if k = 0 then 0 else workedR b (((m.turn b).up b).driven b k) k (drivenR b ((m.turn b).up b) k (lateR b ((m.turn b).up b) (upR b (m.turn b))))

end Go.Hl

/- The program's set of clauses is the reference's; the reference's run.  -/
set_option linter.unusedVariables false
set_option linter.unusedSimpArgs false
namespace Go.Hl
open Go.Gh Go.Proofs

def rbN (p : Nat) (w : Bool) : Nat := if w then p else 0
def stepN (b : Book) (m : Meter) (k : Int) : Nat := (stepR b m k).toNat
end Go.Hl
