/- Contracts of functions, bundle K22p; proved for whatever the arguments' types allow, as each theorem says. -/
import Derived.Test.YtoofplbjpkgdgaaK18
import Derived.Test.YtoofplbjpkgdgaaH1

/- Chapter 30: a law's steps, and what they come to: plain Lean.  -/
set_option linter.unusedVariables false
set_option linter.unusedSimpArgs false
namespace Go.Hl
open Go.Gh Go.Proofs

structure StepS where
  Kind : Int
  Order : Order
  IDs : List Int
  ID : Int
  Past : List Rec
  M : Int
def StepS.c (s : StepS) : List GV := gi s.Kind :: (s.Order.c ++ [.list 1 (ints s.IDs) none, gi s.ID, .list 3 (recs s.Past) none, gi s.M])
def StepS.g (s : StepS) : GV := .agg s.c
def stepTy : Ty := .agg [.int, orderTy, .list .int, .int, .list recTy, .int]
def fewS (s : StepS) : Bool := decide (s.Order.Open.length ≤ 20) && (decide (s.IDs.length ≤ 60) && decide (s.Past.length ≤ 60))
def stepE (d : Depot) (s : StepS) : Int := if s.Kind = 0 then addE d s.Order else if s.Kind = 1 then (dropsO d.Orders s.IDs).2 else if s.Kind = 2 then moreE d s.ID s.Past else if 0 ≤ s.M ∧ s.M ≤ 40320 then 0 else 4
def stepD (d : Depot) (s : StepS) : Depot := if s.Kind = 0 then addD d s.Order else if s.Kind = 1 then dropD d s.IDs else if s.Kind = 2 then moreD d s.ID s.Past else restD d s.M
def yardB (d : Depot) : GB := .cells (yardC d (metersV d).1)
structure StepS.Fit (s : StepS) : Prop where
  o : (s.Order.Open.length : Int) ≤ 1000000
  i : (s.IDs.length : Int) ≤ 1000000
  p : (s.Past.length : Int) ≤ 100000

theorem addD_Ok {d : Depot} {o : Order} (hd : d.Ok) (ho : (o.Open.length : Int) ≤ 1000000) : (addD d o).Ok := by
  refine ⟨hd.rows, hd.wl, ?_, ?_, hd.tl, hd.tp⟩
  · show (((addO d.Orders o).1.length : Nat) : Int) ≤ _
    unfold addO
    split
    · decide
    split
    · decide
    · rename_i h; simp only; rw [insO_len]; push_cast; omega
  · show Opens (addO d.Orders o).1
    unfold addO
    split
    · intro x h; cases h
    split
    · intro x h; cases h
    · intro x h
      simp only at h
      unfold insO at h
      rcases List.mem_append.1 h with h | h
      · exact hd.op x (List.mem_of_mem_take h)
      · rcases List.mem_cons.1 h with e | h
        · rw [e]; exact ho
        · exact hd.op x (List.mem_of_mem_drop h)
end Go.Hl
