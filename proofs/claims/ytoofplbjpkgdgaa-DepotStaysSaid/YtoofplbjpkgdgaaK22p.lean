/- Contracts of functions, bundle K22p; proved for whatever the arguments' types allow, as each theorem says. -/
import Derived.Test.YtoofplbjpkgdgaaK18
import Derived.Test.YtoofplbjpkgdgaaH1

/- Chapter 30: a law's steps, and what they come to: plain Lean.  -/
set_option linter.unusedVariables false
set_option linter.unusedSimpArgs false
namespace Go.Hl
open Go.Gh Go.Proofs

structure StepS where
  Kind : Int
  Order : Order
  IDs : List Int
  ID : Int
  Past : List Rec
  M : Int
def StepS.c (s : StepS) : List GV := gi s.Kind :: (s.Order.c ++ [.list 1 (ints s.IDs) none, gi s.ID, .list 3 (recs s.Past) none, gi s.M])
def StepS.g (s : StepS) : GV := .agg s.c
def stepTy : Ty := .agg [.int, orderTy, .list .int, .int, .list recTy, .int]
theorem step_wt (gs : List GV) (h : WTs [.int, orderTy, .list .int, .int, .list recTy, .int] gs) : ∃ s : StepS, gs = s.c ∧ True := by
  obtain ⟨k, r, rfl, hk, h⟩ := WTs.int h
  obtain ⟨a, r2, rfl, ha, h2⟩ := h
  obtain ⟨o, rfl, _⟩ := order_wt a ha
  obtain ⟨l, r, rfl, hl, h⟩ := WTs.list el_int h2
  obtain ⟨i, r, rfl, hi, h⟩ := WTs.int h
  obtain ⟨p, r, rfl, hp, h⟩ := WTs.list el_rec h
  obtain ⟨m, r, rfl, hm, h⟩ := WTs.int h
  cases WTs.nil h
  exact ⟨⟨k, o, l, i, p, m⟩, rfl, trivial⟩
def fewS (s : StepS) : Bool := decide (s.Order.Open.length ≤ 20) && (decide (s.IDs.length ≤ 60) && decide (s.Past.length ≤ 60))
def stepE (d : Depot) (s : StepS) : Int := if s.Kind = 0 then addE d s.Order else if s.Kind = 1 then (dropsO d.Orders s.IDs).2 else if s.Kind = 2 then moreE d s.ID s.Past else if 0 ≤ s.M ∧ s.M ≤ 40320 then 0 else 4
def stepD (d : Depot) (s : StepS) : Depot := if s.Kind = 0 then addD d s.Order else if s.Kind = 1 then dropD d s.IDs else if s.Kind = 2 then moreD d s.ID s.Past else restD d s.M
def yardB (d : Depot) : GB := .cells (yardC d (metersV d).1)
theorem metersV_add (d : Depot) (o : Order) : metersV (addD d o) = metersV d := rfl
theorem metersV_drop (d : Depot) (ids : List Int) : metersV (dropD d ids) = metersV d := rfl
structure StepS.Fit (s : StepS) : Prop where
  o : (s.Order.Open.length : Int) ≤ 1000000
  i : (s.IDs.length : Int) ≤ 1000000
  p : (s.Past.length : Int) ≤ 100000

theorem addD_Ok {d : Depot} {o : Order} (hd : d.Ok) (ho : (o.Open.length : Int) ≤ 1000000) : (addD d o).Ok := by
  refine ⟨hd.rows, hd.wl, ?_, ?_, hd.tl, hd.tp⟩
  · show (((addO d.Orders o).1.length : Nat) : Int) ≤ _
    unfold addO
    split
    · decide
    split
    · decide
    · rename_i h; simp only; rw [insO_len]; push_cast; omega
  · show Opens (addO d.Orders o).1
    unfold addO
    split
    · intro x h; cases h
    split
    · intro x h; cases h
    · intro x h
      simp only at h
      unfold insO at h
      rcases List.mem_append.1 h with h | h
      · exact hd.op x (List.mem_of_mem_take h)
      · rcases List.mem_cons.1 h with e | h
        · rw [e]; exact ho
        · exact hd.op x (List.mem_of_mem_drop h)
theorem dropsO_fits : ∀ (ids : List Int) {l : List Order}, (l.length : Int) ≤ 1000000 → Opens l → ((dropsO l ids).1.length : Int) ≤ 1000000 ∧ Opens (dropsO l ids).1
  | [], l, h1, h2 => ⟨h1, h2⟩
  | id :: t, l, h1, h2 => by
    rw [dropsO]
    split
    · exact ⟨by decide, fun o h => by cases h⟩
    · have := dropO_fits (id := id) h1 h2
      exact dropsO_fits t this.1 this.2
theorem dropD_Ok {d : Depot} {ids : List Int} (hd : d.Ok) : (dropD d ids).Ok :=
  ⟨hd.rows, hd.wl, (dropsO_fits ids hd.ol hd.op).1, (dropsO_fits ids hd.ol hd.op).2, hd.tl, hd.tp⟩
theorem stepD_Ok {d : Depot} {s : StepS} (hd : d.Ok) (hM : d.May) (hs : s.Fit) (he : stepE d s = 0) : (stepD d s).Ok := by
  unfold stepE at he
  unfold stepD
  split
  · exact addD_Ok hd hs.o
  rename_i h0
  rw [if_neg h0] at he
  split
  · exact dropD_Ok hd
  rename_i h1
  rw [if_neg h1] at he
  split
  · exact more_Ok hd hM _ hs.p
  rename_i h2
  rw [if_neg h2] at he
  by_cases hm : 0 ≤ s.M ∧ s.M ≤ 40320
  · exact rest_Ok hd hM hm
  · rw [if_neg hm] at he; cases he
theorem fewS_Fit {s : StepS} (h : fewS s = true) : s.Fit := by
  unfold fewS at h
  simp only [Bool.and_eq_true, decide_eq_true_eq] at h
  exact ⟨by omega, by omega, by omega⟩

end Go.Hl
