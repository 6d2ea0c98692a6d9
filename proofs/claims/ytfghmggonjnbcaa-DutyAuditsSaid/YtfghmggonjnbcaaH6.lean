/- Contracts of functions, bundle H6; proved for whatever the arguments' types allow, as each theorem says. -/
import Derived.Test.YtfghmggonjnbcaaH1
import Derived.Test.YtfghmggonjnbcaaGh16

/- Tasks, and how far they are done: plain Lean. -/
set_option linter.unusedVariables false
set_option linter.unusedSimpArgs false
namespace Go.Hl
open Go.Gh

def firstErr {α : Type} (f : α → Int) : List α → Int
  | [] => 0
  | x :: r => if f x ≠ 0 then f x else firstErr f r
def taskErr (t : Task) : Int := if t.Drive < 0 ∨ 10080 < t.Drive ∨ t.Serve < 0 ∨ 1440 < t.Serve then 4 else if 0 < t.Serve then winCheck t.Open else if 0 < t.Open.length then 1 else 0
def tasksErr (l : List Task) : Int := if 2001 < l.length then 12 else firstErr taskErr l

structure Task.May (t : Task) : Prop where
  drive : 0 ≤ t.Drive ∧ t.Drive ≤ 10080
  serve : 0 ≤ t.Serve ∧ t.Serve ≤ 1440
  len : t.Open.length ≤ 8
def tAt (l : List Task) (i : Int) : Task := (l[i.toNat]?).getD ⟨0, 0, []⟩
def overT (t : Task) (s : Spot) : Bool := decide (s.Driven = t.Drive) && decide (s.Served = t.Serve)
def fitsS (l : List Task) (s : Spot) : Bool :=
  if s.Task < 0 ∨ (l.length : Int) ≤ s.Task then decide (s.Task = l.length ∧ s.Driven = 0 ∧ s.Served = 0)
  else decide (0 ≤ s.Driven ∧ s.Driven ≤ (tAt l s.Task).Drive ∧ 0 ≤ s.Served ∧ s.Served ≤ (tAt l s.Task).Serve ∧ (s.Served = 0 ∨ s.Driven = (tAt l s.Task).Drive) ∧ ¬ (s.Driven = (tAt l s.Task).Drive ∧ s.Served = (tAt l s.Task).Serve))
def pastN (l : List Task) : Nat → Spot → Spot
  | 0, s => s
  | n + 1, s => if s.Task < l.length ∧ s.Driven = (tAt l s.Task).Drive ∧ s.Served = (tAt l s.Task).Serve then pastN l n ⟨s.Task + 1, 0, 0⟩ else s
def pastS (l : List Task) (s : Spot) : Spot := pastN l (l.length - s.Task.toNat) s
def errCheck (l : List Task) (s : Spot) : Int := if tasksErr l ≠ 0 then tasksErr l else if fitsS l s then 0 else 1

def sumDrive : List Task → Int
  | [] => 0
  | t :: r => t.Drive + sumDrive r
def sumServe : List Task → Int
  | [] => 0
  | t :: r => t.Serve + sumServe r
def leftD (l : List Task) (s : Spot) : Int := sumDrive (l.drop s.Task.toNat) - s.Driven
def leftS (l : List Task) (s : Spot) : Int := sumServe (l.drop s.Task.toNat) - s.Served

structure B4 where
  b0 : Bool
  b1 : Bool
  b2 : Bool
  b3 : Bool
  deriving DecidableEq
def B4.c (b : B4) : List GV := [gb b.b0, gb b.b1, gb b.b2, gb b.b3]
def minuteS (l : List Task) (s : Spot) (m k : Int) : Spot × B4 :=
  if k = 3 then (if s.Driven < (tAt l s.Task).Drive then (pastS l ⟨s.Task, s.Driven + 1, s.Served⟩, ⟨false, false, false, decide (0 < s.Served)⟩) else (pastS l s, ⟨true, false, false, decide (0 < s.Served)⟩))
  else if k = 2 then (if s.Driven = (tAt l s.Task).Drive ∧ s.Served < (tAt l s.Task).Serve then (pastS l ⟨s.Task, s.Driven, s.Served + 1⟩, ⟨false, false, decide (s.Served = 0) && !hasL (tAt l s.Task).Open m, false⟩) else (pastS l s, ⟨false, true, false, false⟩))
  else (pastS l s, ⟨false, false, false, decide (0 < s.Served)⟩)
def minG' (r : Spot × B4) : GV := .tup [r.1.g, .agg r.2.c]

/-- A spot that may be, though all of its task may be done. -/
structure Mid (l : List Task) (s : Spot) : Prop where
  task : 0 ≤ s.Task ∧ s.Task ≤ l.length
  driven : 0 ≤ s.Driven ∧ s.Driven ≤ (tAt l s.Task).Drive
  served : 0 ≤ s.Served ∧ s.Served ≤ (tAt l s.Task).Serve
  order : s.Served = 0 ∨ s.Driven = (tAt l s.Task).Drive
end Go.Hl

/- Contracts: spans, and lists of them.  -/
set_option linter.unusedVariables false
set_option linter.unusedSimpArgs false
namespace Go.Hl
open Go.Gh Go.Proofs

end Go.Hl

/- Contracts: sets of spans, windows.  -/
set_option linter.unusedVariables false
set_option linter.unusedSimpArgs false
namespace Go.Hl
open Go.Gh Go.Proofs

/-- Where the span ahead of the i-th one ends. -/
def prevTo (l : List Span) (i : Nat) : Option Int := if i = 0 then none else (l[i - 1]?).map (·.To)
end Go.Hl

/- Contracts: tasks, spots.  -/
set_option linter.unusedVariables false
set_option linter.unusedSimpArgs false
namespace Go.Hl
open Go.Gh Go.Proofs

end Go.Hl

/- Contracts: how far tasks are done; a minute more.  -/
set_option linter.unusedVariables false
set_option linter.unusedSimpArgs false
namespace Go.Hl
open Go.Gh Go.Proofs

def zeroSpot : Spot := ⟨0, 0, 0⟩
def startS (l : List Task) : Spot := if tasksErr l = 0 then pastS l zeroSpot else zeroSpot
end Go.Hl
