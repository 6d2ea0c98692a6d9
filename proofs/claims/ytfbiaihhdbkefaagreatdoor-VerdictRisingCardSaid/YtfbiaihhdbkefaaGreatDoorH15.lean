/- Contracts of functions, bundle H15; proved for whatever the arguments' types allow, as each theorem says. -/
import Derived.Test.YtfbiaihhdbkefaaGreatDoorH14

/- Contracts: trucks.  -/
set_option linter.unusedVariables false
set_option linter.unusedSimpArgs false
namespace Go.Hl
open Go.Gh Go.Proofs

structure Truck where
  ID : Int
  Home : Int
  Room : Int
  Fixed : Int
  Rate : Int
  Past : List Rec
  deriving DecidableEq
def Truck.c (t : Truck) : List GV := [gi t.ID, gi t.Home, gi t.Room, gi t.Fixed, gi t.Rate, .list 3 (recs t.Past) none]
def Truck.g (t : Truck) : GV := .agg t.c
abbrev trucks (l : List Truck) : List GV := l.map Truck.g
def truckTy : Ty := .agg [.int, .int, .int, .int, .int, .list recTy]
def Truck.Fits (t : Truck) : Prop := (I64 t.ID ∧ I64 t.Home ∧ I64 t.Room ∧ I64 t.Fixed ∧ I64 t.Rate) ∧ ∀ r, r ∈ t.Past → r.Fits
def Truck.zero : Truck := ⟨0, 0, 0, 0, 0, []⟩
/-- The truck that no text names. -/
def zeroT : GV := .agg [gi 0, gi 0, gi 0, gi 0, gi 0, .v (.slice none 0 0)]
def within (n lo hi : Int) : Bool := decide (lo ≤ n) && decide (n ≤ hi)
/-- What is wrong with a truck. -/
def truckErr (t : Truck) (p : Int) : Int :=
  if ¬ (1 ≤ t.ID ∧ t.ID ≤ 999999) then 1 else if ¬ (0 ≤ t.Home ∧ t.Home < p) then 10 else
  if ¬ ((0 ≤ t.Room ∧ t.Room ≤ 1000000000) ∧ (0 ≤ t.Fixed ∧ t.Fixed ≤ 1000000) ∧ 0 ≤ t.Rate ∧ t.Rate ≤ 1000000) then 4 else
  if pastErr t.Past ≠ 0 then pastErr t.Past else if isNormal t.Past then 0 else 18
end Go.Hl

/- Contracts: trucks that are the same; when a past ends; what it is with more behind it.  -/
set_option linter.unusedVariables false
set_option linter.unusedSimpArgs false
namespace Go.Hl
open Go.Gh Go.Proofs

end Go.Hl

/- Contracts: when a past ends; what a truck is with more behind its past.  -/
set_option linter.unusedVariables false
set_option linter.unusedSimpArgs false
namespace Go.Hl
open Go.Gh Go.Proofs

def spanOk (l : List Rec) : Bool := decide (codeR l = 0) && decide (l.length ≠ 0)
def spanG (l : List Rec) : GV := .tup [(if spanOk l then (⟨beginOf l, endOf l⟩ : Span) else ⟨0, 0⟩).g, gb (spanOk l)]
theorem begin_get {l : List Rec} {x : Rec} (h : l[0]? = some x) : x.From = beginOf l := by
  cases l with
  | nil => simp at h
  | cons r t => simp at h; subst h; rfl

set_option maxRecDepth 100000 in
set_option maxHeartbeats 1000000 in
theorem recSpan_ok (l : List Rec) (hl : (l.length : Int) ≤ 1000000000) : ICalls Tryz.prog 47 [.list 3 (recs l) none] [] (Done (spanG l) []) := by
  have hc := (recCheck_ok l hl).to (congrArg pairG (codeR_pair l))
  by_cases h0 : codeR l = 0
  {
  rw [h0] at hc
  generalize (recsErr 0 none l).1 = j at *
  by_cases h1 : l.length = 0
  {
  have e : l = [] := List.eq_nil_of_length_eq_zero h1
  subst e
  refine ICalls.of_body Tryz.func47 rfl Tryz.call47 rfl (Nat.le_of_ble_eq_true rfl) (fun _ => none) rfl ?_
  repeat' ((conv => whnf); first
    | refine Br.yes rfl ?_
    | refine Br.no rfl ?_
    | refine Br.yes (beq_self_eq_true _) ?_
    | refine Br.not ?_
    | refine Br.yes (decide_eq_true (by assumption)) ?_
    | refine Br.no (decide_eq_false (by assumption)) ?_
    | refine Br.yes (beq_iff_eq.2 (by assumption)) ?_
    | refine Br.no (beq_eq_false_iff_ne.2 (by assumption)) ?_
    | refine Br.yes (bne_iff_ne.2 (by assumption)) ?_
    | (refine Br.dec (fun h => ?_) (fun h => ?_) <;> try dsimp only at h)
    | (refine Br.beqI (fun h => ?_) (fun h => ?_) <;> try dsimp only at h)
    | (refine Br.bneI (fun h => ?_) (fun h => ?_) <;> try dsimp only at h)
    | refine Br.mk (fun h => ?_) (fun h => ?_)
    | refine Need.mk (by first | kernel_rfl | exact ⟨of_decide_eq_true rfl, of_decide_eq_true rfl⟩ | omega) ?_
    | refine Len.mk ⟨_, by simp only [List.length_cons, List.length_nil, Nat.reduceAdd, Int.cast_ofNat_Int]; rfl, ?_⟩
    | refine Wr.lit _ (by simp only [Int.reduceAdd, Int.reduceSub, Int.reduceMul]; rfl) (by decide) ?_
    | refine Wr.fit (by omega) ?_
    | refine Wr.fit (by dsimp only; omega) ?_
    | refine Elem.mk ⟨_, ⟨of_decide_eq_true rfl, rfl⟩, ?_⟩
    | refine Len.map ?_
    | refine Len.dropM ?_
    | refine Elem.dropM ?_
    | refine Len.takeM ?_
    | refine Elem.takeM ?_
    | refine Elem.mapK (by assumption) ?_
    | refine Elem.mapI (by omega) (by assumption) ?_
    | refine Elem.mapN (by omega) (fun x hx => ?_)
    | refine Elem.map (by omega) (by omega) (fun x hx => ?_)
    | refine (hc).use ⟨rfl, ?_⟩
    | refine CallX.mk ⟨_, _, (hc).x, rfl, ?_⟩
    | refine Done.mk ⟨rfl, rfl⟩
    | refine Done.mk ⟨congrArg gb ?_, rfl⟩
    | refine Done.mk ⟨?_, rfl⟩
    | refine Done.mk ⟨?_, ?_⟩)
  }
  {
  have hs : spanOk l = true := by unfold spanOk; simp only [h0, decide_true, Bool.true_and]; exact decide_eq_true h1
  rw [show spanG l = .tup [(⟨beginOf l, endOf l⟩ : Span).g, gb true] by unfold spanG; rw [hs]; rfl]
  refine ICalls.of_body Tryz.func47 rfl Tryz.call47 rfl (Nat.le_of_ble_eq_true rfl) (fun _ => none) rfl ?_
  repeat' ((conv => whnf); first
    | refine Br.yes rfl ?_
    | refine Br.no rfl ?_
    | (refine Elem.map (by omega) (by omega) (fun y hy => ?_))
    | refine Br.yes (beq_self_eq_true _) ?_
    | refine Br.not ?_
    | refine Br.yes (decide_eq_true (by assumption)) ?_
    | refine Br.no (decide_eq_false (by assumption)) ?_
    | refine Br.yes (beq_iff_eq.2 (by assumption)) ?_
    | refine Br.no (beq_eq_false_iff_ne.2 (by assumption)) ?_
    | refine Br.yes (bne_iff_ne.2 (by assumption)) ?_
    | (refine Br.dec (fun h => ?_) (fun h => ?_) <;> try dsimp only at h)
    | (refine Br.beqI (fun h => ?_) (fun h => ?_) <;> try dsimp only at h)
    | (refine Br.bneI (fun h => ?_) (fun h => ?_) <;> try dsimp only at h)
    | refine Br.mk (fun h => ?_) (fun h => ?_)
    | refine Need.mk (by first | kernel_rfl | exact ⟨of_decide_eq_true rfl, of_decide_eq_true rfl⟩ | omega) ?_
    | refine Len.mk ⟨_, by simp only [List.length_cons, List.length_nil, Nat.reduceAdd, Int.cast_ofNat_Int]; rfl, ?_⟩
    | refine Wr.lit _ (by simp only [Int.reduceAdd, Int.reduceSub, Int.reduceMul]; rfl) (by decide) ?_
    | refine Wr.fit (by omega) ?_
    | refine Wr.fit (by dsimp only; omega) ?_
    | refine Elem.mk ⟨_, ⟨of_decide_eq_true rfl, rfl⟩, ?_⟩
    | refine Len.map ?_
    | refine Len.dropM ?_
    | refine Elem.dropM ?_
    | refine Len.takeM ?_
    | refine Elem.takeM ?_
    | refine Elem.mapK (by assumption) ?_
    | refine Elem.mapI (by omega) (by assumption) ?_
    | refine Elem.mapN (by omega) (fun x hx => ?_)
    | refine Elem.map (by omega) (by omega) (fun x hx => ?_)
    | refine (hc).use ⟨rfl, ?_⟩
    | refine CallX.mk ⟨_, _, (hc).x, rfl, ?_⟩
    | refine Done.mk ⟨rfl, rfl⟩
    | refine Done.mk ⟨congrArg gb ?_, rfl⟩
    | refine Done.mk ⟨?_, rfl⟩
    | refine Done.mk ⟨?_, ?_⟩)
  all_goals first
    | (exfalso; omega)
    | (have e1 := begin_get (l := l) (by assumption); have e2 := endOf_get rfl hy; rw [← e1, ← e2]; rfl)
  }
  }
  {
  have hs : spanOk l = false := by unfold spanOk; simp [h0]
  rw [show spanG l = .tup [(⟨0, 0⟩ : Span).g, gb false] by unfold spanG; rw [hs]; rfl]
  generalize (recsErr 0 none l).1 = j at *
  generalize codeR l = e at *
  refine ICalls.of_body Tryz.func47 rfl Tryz.call47 rfl (Nat.le_of_ble_eq_true rfl) (fun _ => none) rfl ?_
  repeat' ((conv => whnf); first
    | refine Br.yes rfl ?_
    | refine Br.no rfl ?_
    | refine Br.yes (beq_self_eq_true _) ?_
    | refine Br.not ?_
    | refine Br.yes (decide_eq_true (by assumption)) ?_
    | refine Br.no (decide_eq_false (by assumption)) ?_
    | refine Br.yes (beq_iff_eq.2 (by assumption)) ?_
    | refine Br.no (beq_eq_false_iff_ne.2 (by assumption)) ?_
    | refine Br.yes (bne_iff_ne.2 (by assumption)) ?_
    | (refine Br.dec (fun h => ?_) (fun h => ?_) <;> try dsimp only at h)
    | (refine Br.beqI (fun h => ?_) (fun h => ?_) <;> try dsimp only at h)
    | (refine Br.bneI (fun h => ?_) (fun h => ?_) <;> try dsimp only at h)
    | refine Br.mk (fun h => ?_) (fun h => ?_)
    | refine Need.mk (by first | kernel_rfl | exact ⟨of_decide_eq_true rfl, of_decide_eq_true rfl⟩ | omega) ?_
    | refine Len.mk ⟨_, by simp only [List.length_cons, List.length_nil, Nat.reduceAdd, Int.cast_ofNat_Int]; rfl, ?_⟩
    | refine Wr.lit _ (by simp only [Int.reduceAdd, Int.reduceSub, Int.reduceMul]; rfl) (by decide) ?_
    | refine Wr.fit (by omega) ?_
    | refine Wr.fit (by dsimp only; omega) ?_
    | refine Elem.mk ⟨_, ⟨of_decide_eq_true rfl, rfl⟩, ?_⟩
    | refine Len.map ?_
    | refine Len.dropM ?_
    | refine Elem.dropM ?_
    | refine Len.takeM ?_
    | refine Elem.takeM ?_
    | refine Elem.mapK (by assumption) ?_
    | refine Elem.mapI (by omega) (by assumption) ?_
    | refine Elem.mapN (by omega) (fun x hx => ?_)
    | refine Elem.map (by omega) (by omega) (fun x hx => ?_)
    | refine (hc).use ⟨rfl, ?_⟩
    | refine CallX.mk ⟨_, _, (hc).x, rfl, ?_⟩
    | refine Done.mk ⟨rfl, rfl⟩
    | refine Done.mk ⟨congrArg gb ?_, rfl⟩
    | refine Done.mk ⟨?_, rfl⟩
    | refine Done.mk ⟨?_, ?_⟩)
  all_goals first
    | omega
    | rfl
  }

def endV (l : List Rec) : Int := if pastErr l = 0 then endOf l else 0
def moreV (t : Truck) (l : List Rec) : Truck × Int := if pastErr l = 0 then (⟨t.ID, t.Home, t.Room, t.Fixed, t.Rate, normL l⟩, 0) else (Truck.zero, pastErr l)
def truckV (x : Truck × Int) : GV := .tup [x.1.g, gi x.2]
end Go.Hl
