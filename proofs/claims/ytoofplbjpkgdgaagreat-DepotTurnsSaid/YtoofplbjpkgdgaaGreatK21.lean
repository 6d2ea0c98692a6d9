/- Contracts of functions, bundle K21; proved for whatever the arguments' types allow, as each theorem says. -/
import Derived.Test.YtoofplbjpkgdgaaGreatK18
import Derived.Test.YtoofplbjpkgdgaaGreatK9

/- Chapter 30: a law's steps: turn, want.  -/
set_option linter.unusedVariables false
set_option linter.unusedSimpArgs false
namespace Go.Hl
open Go.Gh Go.Proofs

structure StepS where
  Kind : Int
  Order : Order
  IDs : List Int
  ID : Int
  Past : List Rec
  M : Int
def StepS.c (s : StepS) : List GV := gi s.Kind :: (s.Order.c ++ [.list 1 (ints s.IDs) none, gi s.ID, .list 3 (recs s.Past) none, gi s.M])
def StepS.g (s : StepS) : GV := .agg s.c
def stepTy : Ty := .agg [.int, orderTy, .list .int, .int, .list recTy, .int]
theorem step_wt (gs : List GV) (h : WTs [.int, orderTy, .list .int, .int, .list recTy, .int] gs) : ∃ s : StepS, gs = s.c ∧ True := by
  obtain ⟨k, r, rfl, hk, h⟩ := WTs.int h
  obtain ⟨a, r2, rfl, ha, h2⟩ := h
  obtain ⟨o, rfl, _⟩ := order_wt a ha
  obtain ⟨l, r, rfl, hl, h⟩ := WTs.list el_int h2
  obtain ⟨i, r, rfl, hi, h⟩ := WTs.int h
  obtain ⟨p, r, rfl, hp, h⟩ := WTs.list el_rec h
  obtain ⟨m, r, rfl, hm, h⟩ := WTs.int h
  cases WTs.nil h
  exact ⟨⟨k, o, l, i, p, m⟩, rfl, trivial⟩
def fewS (s : StepS) : Bool := decide (s.Order.Open.length ≤ 20) && (decide (s.IDs.length ≤ 60) && decide (s.Past.length ≤ 60))
set_option maxRecDepth 100000 in
set_option maxHeartbeats 1000000 in
theorem few_ok (s : StepS) : ICalls Tryz.prog 25 [s.g] [] (Done (gb (fewS s)) []) := by
  unfold fewS
  obtain ⟨k, ⟨oa, ob, oc, od, ol⟩, ids, id, p, m⟩ := s
  simp only
  show ICalls _ _ [.agg [gi k, gi oa, gi ob, gi oc, gi od, .list 2 (ol.map Span.g) none, .list 1 (ids.map gi) none, gi id, .list 3 (p.map Rec.g) none, gi m]] _ _
  refine ICalls.of_body Tryz.func25 rfl Tryz.call25 rfl (Nat.le_of_ble_eq_true rfl) (fun _ => none) rfl ?_
  repeat' ((conv => whnf); first
    | refine Br.yes rfl ?_
    | refine Br.no rfl ?_
    | (refine Len.map ?_)
    | refine Br.yes (beq_self_eq_true _) ?_
    | refine Br.not ?_
    | refine Br.yes (decide_eq_true (by assumption)) ?_
    | refine Br.no (decide_eq_false (by assumption)) ?_
    | refine Br.yes (beq_iff_eq.2 (by assumption)) ?_
    | refine Br.no (beq_eq_false_iff_ne.2 (by assumption)) ?_
    | refine Br.yes (bne_iff_ne.2 (by assumption)) ?_
    | (refine Br.dec (fun h => ?_) (fun h => ?_) <;> try dsimp only at h)
    | (refine Br.beqI (fun h => ?_) (fun h => ?_) <;> try dsimp only at h)
    | (refine Br.bneI (fun h => ?_) (fun h => ?_) <;> try dsimp only at h)
    | refine Br.mk (fun h => ?_) (fun h => ?_)
    | refine Need.mk (by first | kernel_rfl | exact ⟨of_decide_eq_true rfl, of_decide_eq_true rfl⟩ | omega) ?_
    | refine Len.mk ⟨_, by simp only [List.length_cons, List.length_nil, Nat.reduceAdd, Int.cast_ofNat_Int]; rfl, ?_⟩
    | refine Wr.lit _ (by simp only [Int.reduceAdd, Int.reduceSub, Int.reduceMul]; rfl) (by decide) ?_
    | refine Wr.fit (by omega) ?_
    | refine Wr.fit (by dsimp only; omega) ?_
    | refine Elem.mk ⟨_, ⟨of_decide_eq_true rfl, rfl⟩, ?_⟩
    | refine Len.map ?_
    | refine Len.dropM ?_
    | refine Elem.dropM ?_
    | refine Len.takeM ?_
    | refine Elem.takeM ?_
    | refine Elem.mapK (by assumption) ?_
    | refine Elem.mapI (by omega) (by assumption) ?_
    | refine Elem.mapN (by omega) (fun x hx => ?_)
    | refine Elem.map (by omega) (by omega) (fun x hx => ?_)
    | refine Done.mk ⟨rfl, rfl⟩
    | refine Done.mk ⟨congrArg gb ?_, rfl⟩
    | refine Done.mk ⟨?_, rfl⟩
    | refine Done.mk ⟨?_, ?_⟩)
  all_goals first
    | (rw [decide_eq_true (by omega : ol.length ≤ 20), decide_eq_true (by omega : ids.length ≤ 60), Bool.true_and, Bool.true_and]; exact decide_eq_decide.2 (by omega))
    | (rw [decide_eq_true (by omega : ol.length ≤ 20), decide_eq_false (by omega : ¬ ids.length ≤ 60)]; rfl)
    | (rw [decide_eq_false (by omega : ¬ ol.length ≤ 20)]; rfl)

def stepE (d : Depot) (s : StepS) : Int := if s.Kind = 0 then addE d s.Order else if s.Kind = 1 then (dropsO d.Orders s.IDs).2 else if s.Kind = 2 then moreE d s.ID s.Past else if 0 ≤ s.M ∧ s.M ≤ 40320 then 0 else 4
def stepD (d : Depot) (s : StepS) : Depot := if s.Kind = 0 then addD d s.Order else if s.Kind = 1 then dropD d s.IDs else if s.Kind = 2 then moreD d s.ID s.Past else restD d s.M
def yardB (d : Depot) : GB := .cells (yardC d (metersV d).1)
theorem metersV_add (d : Depot) (o : Order) : metersV (addD d o) = metersV d := rfl
theorem metersV_drop (d : Depot) (ids : List Int) : metersV (dropD d ids) = metersV d := rfl
structure StepS.Fit (s : StepS) : Prop where
  o : (s.Order.Open.length : Int) ≤ 1000000
  i : (s.IDs.length : Int) ≤ 1000000
  p : (s.Past.length : Int) ≤ 100000

def pl_K21_1 : Nat → Option (List Nat × List Nat) := (fun k => bif Nat.beq k 4000000 then some ([113], []) else none)
def pl_K21_2 : Nat → Option (List Nat × List Nat) := (fun k => bif Nat.beq k 4000000 then some ([121], []) else none)
def pl_K21_3 : Nat → Option (List Nat × List Nat) := (fun k => bif Nat.beq k 4000000 then some ([131], []) else none)
def pl_K21_4 : Nat → Option (List Nat × List Nat) := (fun k => bif Nat.beq k 4000000 then some ([137], []) else none)
set_option maxRecDepth 100000 in
set_option maxHeartbeats 4000000 in
theorem lawTurn_ok (d : Depot) (s : StepS) (hd : d.Ok) (hM : d.May) (hs : s.Fit) (he : stepE d s = 0) : ICalls Tryz.prog 26 [.ptr 0 0, s.g] [yardB d] (Done (.tup [.ptr 1 0, gi 0]) [yardB d, yardB (stepD d s)]) := by
  unfold stepE at he
  unfold stepD
  obtain ⟨so, si, sp⟩ := hs
  obtain ⟨k, o, ids, id, p, m⟩ := s
  simp only at *
  by_cases h0 : k = 0
  case pos =>
    rw [if_pos h0] at he
    rw [if_pos h0]
    have h1 := yardAdd_ok d (metersV d).1 o hd so he
    unfold yardB
    rw [metersV_add]
    generalize addD d o = D at *
    generalize (metersV d).1 = ms at *
    subst h0
    clear he hd hM
    obtain ⟨b, w, oo, l⟩ := d
    obtain ⟨b', w', oo', l'⟩ := D
    obtain ⟨oa, ob, oc, od, ol⟩ := o
    refine ICalls.of_body Tryz.func26 rfl Tryz.call26 rfl (Nat.le_of_ble_eq_true rfl) pl_K21_1 rfl ?_
    repeat' ((conv => whnf); first
      | refine Br.yes rfl ?_
      | refine Br.no rfl ?_
      | refine Br.yes (beq_self_eq_true _) ?_
      | refine Br.not ?_
      | refine Br.yes (decide_eq_true (by assumption)) ?_
      | refine Br.no (decide_eq_false (by assumption)) ?_
      | refine Br.yes (beq_iff_eq.2 (by assumption)) ?_
      | refine Br.no (beq_eq_false_iff_ne.2 (by assumption)) ?_
      | refine Br.yes (bne_iff_ne.2 (by assumption)) ?_
      | (refine Br.dec (fun h => ?_) (fun h => ?_) <;> try dsimp only at h)
      | (refine Br.beqI (fun h => ?_) (fun h => ?_) <;> try dsimp only at h)
      | (refine Br.bneI (fun h => ?_) (fun h => ?_) <;> try dsimp only at h)
      | refine Br.mk (fun h => ?_) (fun h => ?_)
      | refine Need.mk (by first | kernel_rfl | exact ⟨of_decide_eq_true rfl, of_decide_eq_true rfl⟩ | omega) ?_
      | refine Len.mk ⟨_, by simp only [List.length_cons, List.length_nil, Nat.reduceAdd, Int.cast_ofNat_Int]; rfl, ?_⟩
      | refine Wr.lit _ (by simp only [Int.reduceAdd, Int.reduceSub, Int.reduceMul]; rfl) (by decide) ?_
      | refine Wr.fit (by omega) ?_
      | refine Wr.fit (by dsimp only; omega) ?_
      | refine Elem.mk ⟨_, ⟨of_decide_eq_true rfl, rfl⟩, ?_⟩
      | refine Len.map ?_
      | refine Len.dropM ?_
      | refine Elem.dropM ?_
      | refine Len.takeM ?_
      | refine Elem.takeM ?_
      | refine Elem.mapK (by assumption) ?_
      | refine Elem.mapI (by omega) (by assumption) ?_
      | refine Elem.mapN (by omega) (fun x hx => ?_)
      | refine Elem.map (by omega) (by omega) (fun x hx => ?_)
      | refine (h1).use ⟨rfl, ?_⟩
      | refine CallX.mk ⟨_, _, (h1).x, rfl, ?_⟩
      | refine Done.mk ⟨rfl, rfl⟩
      | refine Done.mk ⟨congrArg gb ?_, rfl⟩
      | refine Done.mk ⟨?_, rfl⟩
      | refine Done.mk ⟨?_, ?_⟩)
    all_goals first
      | omega
      | rfl
  case neg =>
  rw [if_neg h0] at he
  rw [if_neg h0]
  by_cases k1 : k = 1
  case pos =>
    rw [if_pos k1] at he
    rw [if_pos k1]
    have h1 := yardDrop_ok d (metersV d).1 ids hd si he
    unfold yardB
    rw [metersV_drop]
    generalize dropD d ids = D at *
    generalize (metersV d).1 = ms at *
    subst k1
    clear he hd hM
    obtain ⟨b, w, oo, l⟩ := d
    obtain ⟨b', w', oo', l'⟩ := D
    obtain ⟨oa, ob, oc, od, ol⟩ := o
    refine ICalls.of_body Tryz.func26 rfl Tryz.call26 rfl (Nat.le_of_ble_eq_true rfl) pl_K21_2 rfl ?_
    repeat' ((conv => whnf); first
      | refine Br.yes rfl ?_
      | refine Br.no rfl ?_
      | refine Br.yes (beq_self_eq_true _) ?_
      | refine Br.not ?_
      | refine Br.yes (decide_eq_true (by assumption)) ?_
      | refine Br.no (decide_eq_false (by assumption)) ?_
      | refine Br.yes (beq_iff_eq.2 (by assumption)) ?_
      | refine Br.no (beq_eq_false_iff_ne.2 (by assumption)) ?_
      | refine Br.yes (bne_iff_ne.2 (by assumption)) ?_
      | (refine Br.dec (fun h => ?_) (fun h => ?_) <;> try dsimp only at h)
      | (refine Br.beqI (fun h => ?_) (fun h => ?_) <;> try dsimp only at h)
      | (refine Br.bneI (fun h => ?_) (fun h => ?_) <;> try dsimp only at h)
      | refine Br.mk (fun h => ?_) (fun h => ?_)
      | refine Need.mk (by first | kernel_rfl | exact ⟨of_decide_eq_true rfl, of_decide_eq_true rfl⟩ | omega) ?_
      | refine Len.mk ⟨_, by simp only [List.length_cons, List.length_nil, Nat.reduceAdd, Int.cast_ofNat_Int]; rfl, ?_⟩
      | refine Wr.lit _ (by simp only [Int.reduceAdd, Int.reduceSub, Int.reduceMul]; rfl) (by decide) ?_
      | refine Wr.fit (by omega) ?_
      | refine Wr.fit (by dsimp only; omega) ?_
      | refine Elem.mk ⟨_, ⟨of_decide_eq_true rfl, rfl⟩, ?_⟩
      | refine Len.map ?_
      | refine Len.dropM ?_
      | refine Elem.dropM ?_
      | refine Len.takeM ?_
      | refine Elem.takeM ?_
      | refine Elem.mapK (by assumption) ?_
      | refine Elem.mapI (by omega) (by assumption) ?_
      | refine Elem.mapN (by omega) (fun x hx => ?_)
      | refine Elem.map (by omega) (by omega) (fun x hx => ?_)
      | refine (h1).use ⟨rfl, ?_⟩
      | refine CallX.mk ⟨_, _, (h1).x, rfl, ?_⟩
      | refine Done.mk ⟨rfl, rfl⟩
      | refine Done.mk ⟨congrArg gb ?_, rfl⟩
      | refine Done.mk ⟨?_, rfl⟩
      | refine Done.mk ⟨?_, ?_⟩)
    all_goals first
      | omega
      | rfl
  case neg =>
  rw [if_neg k1] at he
  rw [if_neg k1]
  by_cases k2 : k = 2
  case pos =>
    rw [if_pos k2] at he
    rw [if_pos k2]
    have h1 := yardMore_ok d (metersV d).1 id p (by omega) hd (more_Ok hd hM id sp) he
    unfold yardB
    generalize (metersV (moreD d id p)).1 = ms' at *
    generalize moreD d id p = D at *
    generalize (metersV d).1 = ms at *
    subst k2
    clear he hd hM
    obtain ⟨b, w, oo, l⟩ := d
    obtain ⟨b', w', oo', l'⟩ := D
    obtain ⟨oa, ob, oc, od, ol⟩ := o
    refine ICalls.of_body Tryz.func26 rfl Tryz.call26 rfl (Nat.le_of_ble_eq_true rfl) pl_K21_3 rfl ?_
    repeat' ((conv => whnf); first
      | refine Br.yes rfl ?_
      | refine Br.no rfl ?_
      | refine Br.yes (beq_self_eq_true _) ?_
      | refine Br.not ?_
      | refine Br.yes (decide_eq_true (by assumption)) ?_
      | refine Br.no (decide_eq_false (by assumption)) ?_
      | refine Br.yes (beq_iff_eq.2 (by assumption)) ?_
      | refine Br.no (beq_eq_false_iff_ne.2 (by assumption)) ?_
      | refine Br.yes (bne_iff_ne.2 (by assumption)) ?_
      | (refine Br.dec (fun h => ?_) (fun h => ?_) <;> try dsimp only at h)
      | (refine Br.beqI (fun h => ?_) (fun h => ?_) <;> try dsimp only at h)
      | (refine Br.bneI (fun h => ?_) (fun h => ?_) <;> try dsimp only at h)
      | refine Br.mk (fun h => ?_) (fun h => ?_)
      | refine Need.mk (by first | kernel_rfl | exact ⟨of_decide_eq_true rfl, of_decide_eq_true rfl⟩ | omega) ?_
      | refine Len.mk ⟨_, by simp only [List.length_cons, List.length_nil, Nat.reduceAdd, Int.cast_ofNat_Int]; rfl, ?_⟩
      | refine Wr.lit _ (by simp only [Int.reduceAdd, Int.reduceSub, Int.reduceMul]; rfl) (by decide) ?_
      | refine Wr.fit (by omega) ?_
      | refine Wr.fit (by dsimp only; omega) ?_
      | refine Elem.mk ⟨_, ⟨of_decide_eq_true rfl, rfl⟩, ?_⟩
      | refine Len.map ?_
      | refine Len.dropM ?_
      | refine Elem.dropM ?_
      | refine Len.takeM ?_
      | refine Elem.takeM ?_
      | refine Elem.mapK (by assumption) ?_
      | refine Elem.mapI (by omega) (by assumption) ?_
      | refine Elem.mapN (by omega) (fun x hx => ?_)
      | refine Elem.map (by omega) (by omega) (fun x hx => ?_)
      | refine (h1).use ⟨rfl, ?_⟩
      | refine CallX.mk ⟨_, _, (h1).x, rfl, ?_⟩
      | refine Done.mk ⟨rfl, rfl⟩
      | refine Done.mk ⟨congrArg gb ?_, rfl⟩
      | refine Done.mk ⟨?_, rfl⟩
      | refine Done.mk ⟨?_, ?_⟩)
    all_goals first
      | omega
      | rfl
  case neg =>
    rw [if_neg k2] at he
    rw [if_neg k2]
    by_cases hm : 0 ≤ m ∧ m ≤ 40320
    case neg => rw [if_neg hm] at he; cases he
    have h1 := yardRest_ok d (metersV d).1 m hd (fun t ht => by have := hM.short ht; omega) (rest_Ok hd hM hm) hm (turnE_rest hm d.Trucks 0 (May.all hM)) (depotE_meters (May_iff.2 (rest_May hM hm)))
    unfold yardB
    generalize (metersV (restD d m)).1 = ms' at *
    generalize restD d m = D at *
    generalize (metersV d).1 = ms at *
    clear he hd hM
    obtain ⟨b, w, oo, l⟩ := d
    obtain ⟨b', w', oo', l'⟩ := D
    obtain ⟨oa, ob, oc, od, ol⟩ := o
    refine ICalls.of_body Tryz.func26 rfl Tryz.call26 rfl (Nat.le_of_ble_eq_true rfl) pl_K21_4 rfl ?_
    repeat' ((conv => whnf); first
      | refine Br.yes rfl ?_
      | refine Br.no rfl ?_
      | refine Br.yes (beq_self_eq_true _) ?_
      | refine Br.not ?_
      | refine Br.yes (decide_eq_true (by assumption)) ?_
      | refine Br.no (decide_eq_false (by assumption)) ?_
      | refine Br.yes (beq_iff_eq.2 (by assumption)) ?_
      | refine Br.no (beq_eq_false_iff_ne.2 (by assumption)) ?_
      | refine Br.yes (bne_iff_ne.2 (by assumption)) ?_
      | (refine Br.dec (fun h => ?_) (fun h => ?_) <;> try dsimp only at h)
      | (refine Br.beqI (fun h => ?_) (fun h => ?_) <;> try dsimp only at h)
      | (refine Br.bneI (fun h => ?_) (fun h => ?_) <;> try dsimp only at h)
      | refine Br.mk (fun h => ?_) (fun h => ?_)
      | refine Need.mk (by first | kernel_rfl | exact ⟨of_decide_eq_true rfl, of_decide_eq_true rfl⟩ | omega) ?_
      | refine Len.mk ⟨_, by simp only [List.length_cons, List.length_nil, Nat.reduceAdd, Int.cast_ofNat_Int]; rfl, ?_⟩
      | refine Wr.lit _ (by simp only [Int.reduceAdd, Int.reduceSub, Int.reduceMul]; rfl) (by decide) ?_
      | refine Wr.fit (by omega) ?_
      | refine Wr.fit (by dsimp only; omega) ?_
      | refine Elem.mk ⟨_, ⟨of_decide_eq_true rfl, rfl⟩, ?_⟩
      | refine Len.map ?_
      | refine Len.dropM ?_
      | refine Elem.dropM ?_
      | refine Len.takeM ?_
      | refine Elem.takeM ?_
      | refine Elem.mapK (by assumption) ?_
      | refine Elem.mapI (by omega) (by assumption) ?_
      | refine Elem.mapN (by omega) (fun x hx => ?_)
      | refine Elem.map (by omega) (by omega) (fun x hx => ?_)
      | refine (h1).use ⟨rfl, ?_⟩
      | refine CallX.mk ⟨_, _, (h1).x, rfl, ?_⟩
      | refine Done.mk ⟨rfl, rfl⟩
      | refine Done.mk ⟨congrArg gb ?_, rfl⟩
      | refine Done.mk ⟨?_, rfl⟩
      | refine Done.mk ⟨?_, ?_⟩)
    all_goals first
      | omega
      | rfl

set_option maxRecDepth 100000 in
set_option maxHeartbeats 4000000 in
theorem lawTurn_err (d : Depot) (s : StepS) (hd : d.Ok) (hM : d.May) (hs : s.Fit) (he : ¬ stepE d s = 0) : ICalls Tryz.prog 26 [.ptr 0 0, s.g] [yardB d] (Done (.tup [nilP, gi (stepE d s)]) [yardB d]) := by
  unfold stepE at he ⊢
  obtain ⟨so, si, sp⟩ := hs
  obtain ⟨k, o, ids, id, p, m⟩ := s
  simp only at *
  by_cases h0 : k = 0
  case pos =>
    rw [if_pos h0] at he ⊢
    have h1 := yardAdd_err d (metersV d).1 o hd so he
    unfold yardB
    generalize addE d o = E at *
    generalize (metersV d).1 = ms at *
    subst h0
    clear he hd hM
    obtain ⟨b, w, oo, l⟩ := d
    obtain ⟨oa, ob, oc, od, ol⟩ := o
    refine ICalls.of_body Tryz.func26 rfl Tryz.call26 rfl (Nat.le_of_ble_eq_true rfl) (fun _ => none) rfl ?_
    repeat' ((conv => whnf); first
      | refine Br.yes rfl ?_
      | refine Br.no rfl ?_
      | refine Br.yes (beq_self_eq_true _) ?_
      | refine Br.not ?_
      | refine Br.yes (decide_eq_true (by assumption)) ?_
      | refine Br.no (decide_eq_false (by assumption)) ?_
      | refine Br.yes (beq_iff_eq.2 (by assumption)) ?_
      | refine Br.no (beq_eq_false_iff_ne.2 (by assumption)) ?_
      | refine Br.yes (bne_iff_ne.2 (by assumption)) ?_
      | (refine Br.dec (fun h => ?_) (fun h => ?_) <;> try dsimp only at h)
      | (refine Br.beqI (fun h => ?_) (fun h => ?_) <;> try dsimp only at h)
      | (refine Br.bneI (fun h => ?_) (fun h => ?_) <;> try dsimp only at h)
      | refine Br.mk (fun h => ?_) (fun h => ?_)
      | refine Need.mk (by first | kernel_rfl | exact ⟨of_decide_eq_true rfl, of_decide_eq_true rfl⟩ | omega) ?_
      | refine Len.mk ⟨_, by simp only [List.length_cons, List.length_nil, Nat.reduceAdd, Int.cast_ofNat_Int]; rfl, ?_⟩
      | refine Wr.lit _ (by simp only [Int.reduceAdd, Int.reduceSub, Int.reduceMul]; rfl) (by decide) ?_
      | refine Wr.fit (by omega) ?_
      | refine Wr.fit (by dsimp only; omega) ?_
      | refine Elem.mk ⟨_, ⟨of_decide_eq_true rfl, rfl⟩, ?_⟩
      | refine Len.map ?_
      | refine Len.dropM ?_
      | refine Elem.dropM ?_
      | refine Len.takeM ?_
      | refine Elem.takeM ?_
      | refine Elem.mapK (by assumption) ?_
      | refine Elem.mapI (by omega) (by assumption) ?_
      | refine Elem.mapN (by omega) (fun x hx => ?_)
      | refine Elem.map (by omega) (by omega) (fun x hx => ?_)
      | refine (h1).use ⟨rfl, ?_⟩
      | refine CallX.mk ⟨_, _, (h1).x, rfl, ?_⟩
      | refine Done.mk ⟨rfl, rfl⟩
      | refine Done.mk ⟨congrArg gb ?_, rfl⟩
      | refine Done.mk ⟨?_, rfl⟩
      | refine Done.mk ⟨?_, ?_⟩)
    all_goals first
      | omega
      | rfl
  case neg =>
  rw [if_neg h0] at he ⊢
  by_cases k1 : k = 1
  case pos =>
    rw [if_pos k1] at he ⊢
    have h1 := yardDrop_err d (metersV d).1 ids hd si he
    unfold yardB
    generalize (dropsO d.Orders ids).2 = E at *
    generalize (metersV d).1 = ms at *
    subst k1
    clear he hd hM
    obtain ⟨b, w, oo, l⟩ := d
    obtain ⟨oa, ob, oc, od, ol⟩ := o
    refine ICalls.of_body Tryz.func26 rfl Tryz.call26 rfl (Nat.le_of_ble_eq_true rfl) (fun _ => none) rfl ?_
    repeat' ((conv => whnf); first
      | refine Br.yes rfl ?_
      | refine Br.no rfl ?_
      | refine Br.yes (beq_self_eq_true _) ?_
      | refine Br.not ?_
      | refine Br.yes (decide_eq_true (by assumption)) ?_
      | refine Br.no (decide_eq_false (by assumption)) ?_
      | refine Br.yes (beq_iff_eq.2 (by assumption)) ?_
      | refine Br.no (beq_eq_false_iff_ne.2 (by assumption)) ?_
      | refine Br.yes (bne_iff_ne.2 (by assumption)) ?_
      | (refine Br.dec (fun h => ?_) (fun h => ?_) <;> try dsimp only at h)
      | (refine Br.beqI (fun h => ?_) (fun h => ?_) <;> try dsimp only at h)
      | (refine Br.bneI (fun h => ?_) (fun h => ?_) <;> try dsimp only at h)
      | refine Br.mk (fun h => ?_) (fun h => ?_)
      | refine Need.mk (by first | kernel_rfl | exact ⟨of_decide_eq_true rfl, of_decide_eq_true rfl⟩ | omega) ?_
      | refine Len.mk ⟨_, by simp only [List.length_cons, List.length_nil, Nat.reduceAdd, Int.cast_ofNat_Int]; rfl, ?_⟩
      | refine Wr.lit _ (by simp only [Int.reduceAdd, Int.reduceSub, Int.reduceMul]; rfl) (by decide) ?_
      | refine Wr.fit (by omega) ?_
      | refine Wr.fit (by dsimp only; omega) ?_
      | refine Elem.mk ⟨_, ⟨of_decide_eq_true rfl, rfl⟩, ?_⟩
      | refine Len.map ?_
      | refine Len.dropM ?_
      | refine Elem.dropM ?_
      | refine Len.takeM ?_
      | refine Elem.takeM ?_
      | refine Elem.mapK (by assumption) ?_
      | refine Elem.mapI (by omega) (by assumption) ?_
      | refine Elem.mapN (by omega) (fun x hx => ?_)
      | refine Elem.map (by omega) (by omega) (fun x hx => ?_)
      | refine (h1).use ⟨rfl, ?_⟩
      | refine CallX.mk ⟨_, _, (h1).x, rfl, ?_⟩
      | refine Done.mk ⟨rfl, rfl⟩
      | refine Done.mk ⟨congrArg gb ?_, rfl⟩
      | refine Done.mk ⟨?_, rfl⟩
      | refine Done.mk ⟨?_, ?_⟩)
    all_goals first
      | omega
      | rfl
  case neg =>
  rw [if_neg k1] at he ⊢
  by_cases k2 : k = 2
  case pos =>
    rw [if_pos k2] at he ⊢
    have h1 := yardMore_err d (metersV d).1 id p (by omega) hd (more_Ok hd hM id sp) he
    unfold yardB
    generalize moreE d id p = E at *
    generalize (metersV d).1 = ms at *
    subst k2
    clear he hd hM
    obtain ⟨b, w, oo, l⟩ := d
    obtain ⟨oa, ob, oc, od, ol⟩ := o
    refine ICalls.of_body Tryz.func26 rfl Tryz.call26 rfl (Nat.le_of_ble_eq_true rfl) (fun _ => none) rfl ?_
    repeat' ((conv => whnf); first
      | refine Br.yes rfl ?_
      | refine Br.no rfl ?_
      | refine Br.yes (beq_self_eq_true _) ?_
      | refine Br.not ?_
      | refine Br.yes (decide_eq_true (by assumption)) ?_
      | refine Br.no (decide_eq_false (by assumption)) ?_
      | refine Br.yes (beq_iff_eq.2 (by assumption)) ?_
      | refine Br.no (beq_eq_false_iff_ne.2 (by assumption)) ?_
      | refine Br.yes (bne_iff_ne.2 (by assumption)) ?_
      | (refine Br.dec (fun h => ?_) (fun h => ?_) <;> try dsimp only at h)
      | (refine Br.beqI (fun h => ?_) (fun h => ?_) <;> try dsimp only at h)
      | (refine Br.bneI (fun h => ?_) (fun h => ?_) <;> try dsimp only at h)
      | refine Br.mk (fun h => ?_) (fun h => ?_)
      | refine Need.mk (by first | kernel_rfl | exact ⟨of_decide_eq_true rfl, of_decide_eq_true rfl⟩ | omega) ?_
      | refine Len.mk ⟨_, by simp only [List.length_cons, List.length_nil, Nat.reduceAdd, Int.cast_ofNat_Int]; rfl, ?_⟩
      | refine Wr.lit _ (by simp only [Int.reduceAdd, Int.reduceSub, Int.reduceMul]; rfl) (by decide) ?_
      | refine Wr.fit (by omega) ?_
      | refine Wr.fit (by dsimp only; omega) ?_
      | refine Elem.mk ⟨_, ⟨of_decide_eq_true rfl, rfl⟩, ?_⟩
      | refine Len.map ?_
      | refine Len.dropM ?_
      | refine Elem.dropM ?_
      | refine Len.takeM ?_
      | refine Elem.takeM ?_
      | refine Elem.mapK (by assumption) ?_
      | refine Elem.mapI (by omega) (by assumption) ?_
      | refine Elem.mapN (by omega) (fun x hx => ?_)
      | refine Elem.map (by omega) (by omega) (fun x hx => ?_)
      | refine (h1).use ⟨rfl, ?_⟩
      | refine CallX.mk ⟨_, _, (h1).x, rfl, ?_⟩
      | refine Done.mk ⟨rfl, rfl⟩
      | refine Done.mk ⟨congrArg gb ?_, rfl⟩
      | refine Done.mk ⟨?_, rfl⟩
      | refine Done.mk ⟨?_, ?_⟩)
    all_goals first
      | omega
      | rfl
  case neg =>
    rw [if_neg k2] at he ⊢
    by_cases hm : 0 ≤ m ∧ m ≤ 40320
    case pos => rw [if_pos hm] at he; exact absurd rfl he
    rw [if_neg hm]
    have h1 := yardRest_err d (metersV d).1 m hm
    unfold yardB
    generalize (metersV d).1 = ms at *
    clear he hd hM
    obtain ⟨b, w, oo, l⟩ := d
    obtain ⟨oa, ob, oc, od, ol⟩ := o
    refine ICalls.of_body Tryz.func26 rfl Tryz.call26 rfl (Nat.le_of_ble_eq_true rfl) (fun _ => none) rfl ?_
    repeat' ((conv => whnf); first
      | refine Br.yes rfl ?_
      | refine Br.no rfl ?_
      | refine Br.yes (beq_self_eq_true _) ?_
      | refine Br.not ?_
      | refine Br.yes (decide_eq_true (by assumption)) ?_
      | refine Br.no (decide_eq_false (by assumption)) ?_
      | refine Br.yes (beq_iff_eq.2 (by assumption)) ?_
      | refine Br.no (beq_eq_false_iff_ne.2 (by assumption)) ?_
      | refine Br.yes (bne_iff_ne.2 (by assumption)) ?_
      | (refine Br.dec (fun h => ?_) (fun h => ?_) <;> try dsimp only at h)
      | (refine Br.beqI (fun h => ?_) (fun h => ?_) <;> try dsimp only at h)
      | (refine Br.bneI (fun h => ?_) (fun h => ?_) <;> try dsimp only at h)
      | refine Br.mk (fun h => ?_) (fun h => ?_)
      | refine Need.mk (by first | kernel_rfl | exact ⟨of_decide_eq_true rfl, of_decide_eq_true rfl⟩ | omega) ?_
      | refine Len.mk ⟨_, by simp only [List.length_cons, List.length_nil, Nat.reduceAdd, Int.cast_ofNat_Int]; rfl, ?_⟩
      | refine Wr.lit _ (by simp only [Int.reduceAdd, Int.reduceSub, Int.reduceMul]; rfl) (by decide) ?_
      | refine Wr.fit (by omega) ?_
      | refine Wr.fit (by dsimp only; omega) ?_
      | refine Elem.mk ⟨_, ⟨of_decide_eq_true rfl, rfl⟩, ?_⟩
      | refine Len.map ?_
      | refine Len.dropM ?_
      | refine Elem.dropM ?_
      | refine Len.takeM ?_
      | refine Elem.takeM ?_
      | refine Elem.mapK (by assumption) ?_
      | refine Elem.mapI (by omega) (by assumption) ?_
      | refine Elem.mapN (by omega) (fun x hx => ?_)
      | refine Elem.map (by omega) (by omega) (fun x hx => ?_)
      | refine (h1).use ⟨rfl, ?_⟩
      | refine CallX.mk ⟨_, _, (h1).x, rfl, ?_⟩
      | refine Done.mk ⟨rfl, rfl⟩
      | refine Done.mk ⟨congrArg gb ?_, rfl⟩
      | refine Done.mk ⟨?_, rfl⟩
      | refine Done.mk ⟨?_, ?_⟩)
    all_goals first
      | omega
      | rfl
set_option maxRecDepth 100000 in
set_option maxHeartbeats 4000000 in
theorem lawTurnNil_ok (s : StepS) : ICalls Tryz.prog 26 [nilP, s.g] [] (Done (.tup [nilP, gi 13]) []) := by
  obtain ⟨k, o, ids, id, p, m⟩ := s
  have h1 := yardAddNil_ok o
  have h2 := yardDropNil_ok ids
  have h3 := yardMoreNil_ok id p
  have h4 := yardRestNil_ok m
  obtain ⟨oa, ob, oc, od, ol⟩ := o
  refine ICalls.of_body Tryz.func26 rfl Tryz.call26 rfl (Nat.le_of_ble_eq_true rfl) (fun _ => none) rfl ?_
  repeat' ((conv => whnf); first
    | refine Br.yes rfl ?_
    | refine Br.no rfl ?_
    | refine Br.yes (beq_self_eq_true _) ?_
    | refine Br.not ?_
    | refine Br.yes (decide_eq_true (by assumption)) ?_
    | refine Br.no (decide_eq_false (by assumption)) ?_
    | refine Br.yes (beq_iff_eq.2 (by assumption)) ?_
    | refine Br.no (beq_eq_false_iff_ne.2 (by assumption)) ?_
    | refine Br.yes (bne_iff_ne.2 (by assumption)) ?_
    | (refine Br.dec (fun h => ?_) (fun h => ?_) <;> try dsimp only at h)
    | (refine Br.beqI (fun h => ?_) (fun h => ?_) <;> try dsimp only at h)
    | (refine Br.bneI (fun h => ?_) (fun h => ?_) <;> try dsimp only at h)
    | refine Br.mk (fun h => ?_) (fun h => ?_)
    | refine Need.mk (by first | kernel_rfl | exact ⟨of_decide_eq_true rfl, of_decide_eq_true rfl⟩ | omega) ?_
    | refine Len.mk ⟨_, by simp only [List.length_cons, List.length_nil, Nat.reduceAdd, Int.cast_ofNat_Int]; rfl, ?_⟩
    | refine Wr.lit _ (by simp only [Int.reduceAdd, Int.reduceSub, Int.reduceMul]; rfl) (by decide) ?_
    | refine Wr.fit (by omega) ?_
    | refine Wr.fit (by dsimp only; omega) ?_
    | refine Elem.mk ⟨_, ⟨of_decide_eq_true rfl, rfl⟩, ?_⟩
    | refine Len.map ?_
    | refine Len.dropM ?_
    | refine Elem.dropM ?_
    | refine Len.takeM ?_
    | refine Elem.takeM ?_
    | refine Elem.mapK (by assumption) ?_
    | refine Elem.mapI (by omega) (by assumption) ?_
    | refine Elem.mapN (by omega) (fun x hx => ?_)
    | refine Elem.map (by omega) (by omega) (fun x hx => ?_)
    | refine (h1).use ⟨rfl, ?_⟩
    | refine (h2).use ⟨rfl, ?_⟩
    | refine (h3).use ⟨rfl, ?_⟩
    | refine (h4).use ⟨rfl, ?_⟩
    | refine CallX.mk ⟨_, _, (h1).x, rfl, ?_⟩
    | refine CallX.mk ⟨_, _, (h2).x, rfl, ?_⟩
    | refine CallX.mk ⟨_, _, (h3).x, rfl, ?_⟩
    | refine CallX.mk ⟨_, _, (h4).x, rfl, ?_⟩
    | refine Done.mk ⟨rfl, rfl⟩
    | refine Done.mk ⟨congrArg gb ?_, rfl⟩
    | refine Done.mk ⟨?_, rfl⟩
    | refine Done.mk ⟨?_, ?_⟩)
  all_goals first
    | omega
    | rfl

end Go.Hl

/- Chapter 30: the law Turns.  -/
set_option linter.unusedVariables false
set_option linter.unusedSimpArgs false
namespace Go.Hl
open Go.Gh Go.Proofs

theorem at_some {d : Depot} {id : Int} (h : 0 ≤ atT d id) : ∃ t, d.Trucks[(atT d id).toNat]? = some t := by
  have hlt := @pick_idx _ (isID id) d.Trucks _ rfl h
  exact ⟨_, List.getElem?_eq_getElem hlt⟩

set_option maxRecDepth 100000 in
set_option maxHeartbeats 4000000 in
theorem lawWant_ok (d : Depot) (s : StepS) (hd : d.Ok) (hM : d.May) (hs : s.Fit) (he : stepE d s = 0) : ICalls Tryz.prog 27 [d.g, s.g] [] (Done (.tup [(stepD d s).g, gi 0]) []) := by
  unfold stepE at he
  unfold stepD
  obtain ⟨so, si, sp⟩ := hs
  obtain ⟨k, o, ids, id, p, m⟩ := s
  simp only at *
  by_cases h0 : k = 0
  case pos =>
    rw [if_pos h0] at he
    rw [if_pos h0]
    have h1 := refAddD_ok d o hd he
    generalize addD d o = D at *
    subst h0
    clear he hd hM
    obtain ⟨b, w, oo, l⟩ := d
    obtain ⟨b', w', oo', l'⟩ := D
    obtain ⟨oa, ob, oc, od, ol⟩ := o
    refine ICalls.of_body Tryz.func27 rfl Tryz.call27 rfl (Nat.le_of_ble_eq_true rfl) (fun _ => none) rfl ?_
    repeat' ((conv => whnf); first
      | refine Br.yes rfl ?_
      | refine Br.no rfl ?_
      | refine Br.yes (beq_self_eq_true _) ?_
      | refine Br.not ?_
      | refine Br.yes (decide_eq_true (by assumption)) ?_
      | refine Br.no (decide_eq_false (by assumption)) ?_
      | refine Br.yes (beq_iff_eq.2 (by assumption)) ?_
      | refine Br.no (beq_eq_false_iff_ne.2 (by assumption)) ?_
      | refine Br.yes (bne_iff_ne.2 (by assumption)) ?_
      | (refine Br.dec (fun h => ?_) (fun h => ?_) <;> try dsimp only at h)
      | (refine Br.beqI (fun h => ?_) (fun h => ?_) <;> try dsimp only at h)
      | (refine Br.bneI (fun h => ?_) (fun h => ?_) <;> try dsimp only at h)
      | refine Br.mk (fun h => ?_) (fun h => ?_)
      | refine Need.mk (by first | kernel_rfl | exact ⟨of_decide_eq_true rfl, of_decide_eq_true rfl⟩ | omega) ?_
      | refine Len.mk ⟨_, by simp only [List.length_cons, List.length_nil, Nat.reduceAdd, Int.cast_ofNat_Int]; rfl, ?_⟩
      | refine Wr.lit _ (by simp only [Int.reduceAdd, Int.reduceSub, Int.reduceMul]; rfl) (by decide) ?_
      | refine Wr.fit (by omega) ?_
      | refine Wr.fit (by dsimp only; omega) ?_
      | refine Elem.mk ⟨_, ⟨of_decide_eq_true rfl, rfl⟩, ?_⟩
      | refine Len.map ?_
      | refine Len.dropM ?_
      | refine Elem.dropM ?_
      | refine Len.takeM ?_
      | refine Elem.takeM ?_
      | refine Elem.mapK (by assumption) ?_
      | refine Elem.mapI (by omega) (by assumption) ?_
      | refine Elem.mapN (by omega) (fun x hx => ?_)
      | refine Elem.map (by omega) (by omega) (fun x hx => ?_)
      | refine (h1).use ⟨rfl, ?_⟩
      | refine CallX.mk ⟨_, _, (h1).x, rfl, ?_⟩
      | refine Done.mk ⟨rfl, rfl⟩
      | refine Done.mk ⟨congrArg gb ?_, rfl⟩
      | refine Done.mk ⟨?_, rfl⟩
      | refine Done.mk ⟨?_, ?_⟩)
    all_goals first
      | omega
      | rfl
  case neg =>
  rw [if_neg h0] at he
  rw [if_neg h0]
  by_cases k1 : k = 1
  case pos =>
    rw [if_pos k1] at he
    rw [if_pos k1]
    have h1 := refDropD_ok d ids hd si he
    generalize dropD d ids = D at *
    subst k1
    clear he hd hM
    obtain ⟨b, w, oo, l⟩ := d
    obtain ⟨b', w', oo', l'⟩ := D
    obtain ⟨oa, ob, oc, od, ol⟩ := o
    refine ICalls.of_body Tryz.func27 rfl Tryz.call27 rfl (Nat.le_of_ble_eq_true rfl) (fun _ => none) rfl ?_
    repeat' ((conv => whnf); first
      | refine Br.yes rfl ?_
      | refine Br.no rfl ?_
      | refine Br.yes (beq_self_eq_true _) ?_
      | refine Br.not ?_
      | refine Br.yes (decide_eq_true (by assumption)) ?_
      | refine Br.no (decide_eq_false (by assumption)) ?_
      | refine Br.yes (beq_iff_eq.2 (by assumption)) ?_
      | refine Br.no (beq_eq_false_iff_ne.2 (by assumption)) ?_
      | refine Br.yes (bne_iff_ne.2 (by assumption)) ?_
      | (refine Br.dec (fun h => ?_) (fun h => ?_) <;> try dsimp only at h)
      | (refine Br.beqI (fun h => ?_) (fun h => ?_) <;> try dsimp only at h)
      | (refine Br.bneI (fun h => ?_) (fun h => ?_) <;> try dsimp only at h)
      | refine Br.mk (fun h => ?_) (fun h => ?_)
      | refine Need.mk (by first | kernel_rfl | exact ⟨of_decide_eq_true rfl, of_decide_eq_true rfl⟩ | omega) ?_
      | refine Len.mk ⟨_, by simp only [List.length_cons, List.length_nil, Nat.reduceAdd, Int.cast_ofNat_Int]; rfl, ?_⟩
      | refine Wr.lit _ (by simp only [Int.reduceAdd, Int.reduceSub, Int.reduceMul]; rfl) (by decide) ?_
      | refine Wr.fit (by omega) ?_
      | refine Wr.fit (by dsimp only; omega) ?_
      | refine Elem.mk ⟨_, ⟨of_decide_eq_true rfl, rfl⟩, ?_⟩
      | refine Len.map ?_
      | refine Len.dropM ?_
      | refine Elem.dropM ?_
      | refine Len.takeM ?_
      | refine Elem.takeM ?_
      | refine Elem.mapK (by assumption) ?_
      | refine Elem.mapI (by omega) (by assumption) ?_
      | refine Elem.mapN (by omega) (fun x hx => ?_)
      | refine Elem.map (by omega) (by omega) (fun x hx => ?_)
      | refine (h1).use ⟨rfl, ?_⟩
      | refine CallX.mk ⟨_, _, (h1).x, rfl, ?_⟩
      | refine Done.mk ⟨rfl, rfl⟩
      | refine Done.mk ⟨congrArg gb ?_, rfl⟩
      | refine Done.mk ⟨?_, rfl⟩
      | refine Done.mk ⟨?_, ?_⟩)
    all_goals first
      | omega
      | rfl
  case neg =>
  rw [if_neg k1] at he
  rw [if_neg k1]
  by_cases k2 : k = 2
  case pos =>
    rw [if_pos k2] at he
    rw [if_pos k2]
    have hat : 0 ≤ atT d id := by
      by_cases h : atT d id < 0
      · unfold moreE at he; rw [if_pos h] at he; cases he
      · omega
    obtain ⟨t, ht⟩ := at_some hat
    have h1 := refMoreD_ok d id p t hd hM sp hat ht he
    generalize moreD d id p = D at *
    subst k2
    clear he hd hM ht hat
    obtain ⟨b, w, oo, l⟩ := d
    obtain ⟨b', w', oo', l'⟩ := D
    obtain ⟨oa, ob, oc, od, ol⟩ := o
    refine ICalls.of_body Tryz.func27 rfl Tryz.call27 rfl (Nat.le_of_ble_eq_true rfl) (fun _ => none) rfl ?_
    repeat' ((conv => whnf); first
      | refine Br.yes rfl ?_
      | refine Br.no rfl ?_
      | refine Br.yes (beq_self_eq_true _) ?_
      | refine Br.not ?_
      | refine Br.yes (decide_eq_true (by assumption)) ?_
      | refine Br.no (decide_eq_false (by assumption)) ?_
      | refine Br.yes (beq_iff_eq.2 (by assumption)) ?_
      | refine Br.no (beq_eq_false_iff_ne.2 (by assumption)) ?_
      | refine Br.yes (bne_iff_ne.2 (by assumption)) ?_
      | (refine Br.dec (fun h => ?_) (fun h => ?_) <;> try dsimp only at h)
      | (refine Br.beqI (fun h => ?_) (fun h => ?_) <;> try dsimp only at h)
      | (refine Br.bneI (fun h => ?_) (fun h => ?_) <;> try dsimp only at h)
      | refine Br.mk (fun h => ?_) (fun h => ?_)
      | refine Need.mk (by first | kernel_rfl | exact ⟨of_decide_eq_true rfl, of_decide_eq_true rfl⟩ | omega) ?_
      | refine Len.mk ⟨_, by simp only [List.length_cons, List.length_nil, Nat.reduceAdd, Int.cast_ofNat_Int]; rfl, ?_⟩
      | refine Wr.lit _ (by simp only [Int.reduceAdd, Int.reduceSub, Int.reduceMul]; rfl) (by decide) ?_
      | refine Wr.fit (by omega) ?_
      | refine Wr.fit (by dsimp only; omega) ?_
      | refine Elem.mk ⟨_, ⟨of_decide_eq_true rfl, rfl⟩, ?_⟩
      | refine Len.map ?_
      | refine Len.dropM ?_
      | refine Elem.dropM ?_
      | refine Len.takeM ?_
      | refine Elem.takeM ?_
      | refine Elem.mapK (by assumption) ?_
      | refine Elem.mapI (by omega) (by assumption) ?_
      | refine Elem.mapN (by omega) (fun x hx => ?_)
      | refine Elem.map (by omega) (by omega) (fun x hx => ?_)
      | refine (h1).use ⟨rfl, ?_⟩
      | refine CallX.mk ⟨_, _, (h1).x, rfl, ?_⟩
      | refine Done.mk ⟨rfl, rfl⟩
      | refine Done.mk ⟨congrArg gb ?_, rfl⟩
      | refine Done.mk ⟨?_, rfl⟩
      | refine Done.mk ⟨?_, ?_⟩)
    all_goals first
      | omega
      | rfl
  case neg =>
    rw [if_neg k2] at he
    rw [if_neg k2]
    by_cases hm : 0 ≤ m ∧ m ≤ 40320
    case neg => rw [if_neg hm] at he; cases he
    have h1 := refRestD_ok d m hd hM hm
    generalize restD d m = D at *
    clear he hd hM
    obtain ⟨b, w, oo, l⟩ := d
    obtain ⟨b', w', oo', l'⟩ := D
    obtain ⟨oa, ob, oc, od, ol⟩ := o
    refine ICalls.of_body Tryz.func27 rfl Tryz.call27 rfl (Nat.le_of_ble_eq_true rfl) (fun _ => none) rfl ?_
    repeat' ((conv => whnf); first
      | refine Br.yes rfl ?_
      | refine Br.no rfl ?_
      | refine Br.yes (beq_self_eq_true _) ?_
      | refine Br.not ?_
      | refine Br.yes (decide_eq_true (by assumption)) ?_
      | refine Br.no (decide_eq_false (by assumption)) ?_
      | refine Br.yes (beq_iff_eq.2 (by assumption)) ?_
      | refine Br.no (beq_eq_false_iff_ne.2 (by assumption)) ?_
      | refine Br.yes (bne_iff_ne.2 (by assumption)) ?_
      | (refine Br.dec (fun h => ?_) (fun h => ?_) <;> try dsimp only at h)
      | (refine Br.beqI (fun h => ?_) (fun h => ?_) <;> try dsimp only at h)
      | (refine Br.bneI (fun h => ?_) (fun h => ?_) <;> try dsimp only at h)
      | refine Br.mk (fun h => ?_) (fun h => ?_)
      | refine Need.mk (by first | kernel_rfl | exact ⟨of_decide_eq_true rfl, of_decide_eq_true rfl⟩ | omega) ?_
      | refine Len.mk ⟨_, by simp only [List.length_cons, List.length_nil, Nat.reduceAdd, Int.cast_ofNat_Int]; rfl, ?_⟩
      | refine Wr.lit _ (by simp only [Int.reduceAdd, Int.reduceSub, Int.reduceMul]; rfl) (by decide) ?_
      | refine Wr.fit (by omega) ?_
      | refine Wr.fit (by dsimp only; omega) ?_
      | refine Elem.mk ⟨_, ⟨of_decide_eq_true rfl, rfl⟩, ?_⟩
      | refine Len.map ?_
      | refine Len.dropM ?_
      | refine Elem.dropM ?_
      | refine Len.takeM ?_
      | refine Elem.takeM ?_
      | refine Elem.mapK (by assumption) ?_
      | refine Elem.mapI (by omega) (by assumption) ?_
      | refine Elem.mapN (by omega) (fun x hx => ?_)
      | refine Elem.map (by omega) (by omega) (fun x hx => ?_)
      | refine (h1).use ⟨rfl, ?_⟩
      | refine CallX.mk ⟨_, _, (h1).x, rfl, ?_⟩
      | refine Done.mk ⟨rfl, rfl⟩
      | refine Done.mk ⟨congrArg gb ?_, rfl⟩
      | refine Done.mk ⟨?_, rfl⟩
      | refine Done.mk ⟨?_, ?_⟩)
    all_goals first
      | omega
      | rfl

set_option maxRecDepth 100000 in
set_option maxHeartbeats 4000000 in
theorem lawWant_err (d : Depot) (s : StepS) (hd : d.Ok) (hM : d.May) (hs : s.Fit) (he : ¬ stepE d s = 0) : ICalls Tryz.prog 27 [d.g, s.g] [] (Done (.tup [.agg zeroD, gi (stepE d s)]) []) := by
  unfold stepE at he ⊢
  obtain ⟨so, si, sp⟩ := hs
  obtain ⟨k, o, ids, id, p, m⟩ := s
  simp only at *
  by_cases h0 : k = 0
  case pos =>
    rw [if_pos h0] at he ⊢
    have h1 := refAddD_err d o hd he
    generalize addE d o = E at *
    subst h0
    clear he hd hM
    obtain ⟨b, w, oo, l⟩ := d
    obtain ⟨oa, ob, oc, od, ol⟩ := o
    refine ICalls.of_body Tryz.func27 rfl Tryz.call27 rfl (Nat.le_of_ble_eq_true rfl) (fun _ => none) rfl ?_
    repeat' ((conv => whnf); first
      | refine Br.yes rfl ?_
      | refine Br.no rfl ?_
      | refine Br.yes (beq_self_eq_true _) ?_
      | refine Br.not ?_
      | refine Br.yes (decide_eq_true (by assumption)) ?_
      | refine Br.no (decide_eq_false (by assumption)) ?_
      | refine Br.yes (beq_iff_eq.2 (by assumption)) ?_
      | refine Br.no (beq_eq_false_iff_ne.2 (by assumption)) ?_
      | refine Br.yes (bne_iff_ne.2 (by assumption)) ?_
      | (refine Br.dec (fun h => ?_) (fun h => ?_) <;> try dsimp only at h)
      | (refine Br.beqI (fun h => ?_) (fun h => ?_) <;> try dsimp only at h)
      | (refine Br.bneI (fun h => ?_) (fun h => ?_) <;> try dsimp only at h)
      | refine Br.mk (fun h => ?_) (fun h => ?_)
      | refine Need.mk (by first | kernel_rfl | exact ⟨of_decide_eq_true rfl, of_decide_eq_true rfl⟩ | omega) ?_
      | refine Len.mk ⟨_, by simp only [List.length_cons, List.length_nil, Nat.reduceAdd, Int.cast_ofNat_Int]; rfl, ?_⟩
      | refine Wr.lit _ (by simp only [Int.reduceAdd, Int.reduceSub, Int.reduceMul]; rfl) (by decide) ?_
      | refine Wr.fit (by omega) ?_
      | refine Wr.fit (by dsimp only; omega) ?_
      | refine Elem.mk ⟨_, ⟨of_decide_eq_true rfl, rfl⟩, ?_⟩
      | refine Len.map ?_
      | refine Len.dropM ?_
      | refine Elem.dropM ?_
      | refine Len.takeM ?_
      | refine Elem.takeM ?_
      | refine Elem.mapK (by assumption) ?_
      | refine Elem.mapI (by omega) (by assumption) ?_
      | refine Elem.mapN (by omega) (fun x hx => ?_)
      | refine Elem.map (by omega) (by omega) (fun x hx => ?_)
      | refine (h1).use ⟨rfl, ?_⟩
      | refine CallX.mk ⟨_, _, (h1).x, rfl, ?_⟩
      | refine Done.mk ⟨rfl, rfl⟩
      | refine Done.mk ⟨congrArg gb ?_, rfl⟩
      | refine Done.mk ⟨?_, rfl⟩
      | refine Done.mk ⟨?_, ?_⟩)
    all_goals first
      | omega
      | rfl
  case neg =>
  rw [if_neg h0] at he ⊢
  by_cases k1 : k = 1
  case pos =>
    rw [if_pos k1] at he ⊢
    have h1 := refDropD_err d ids hd si he
    generalize (dropsO d.Orders ids).2 = E at *
    subst k1
    clear he hd hM
    obtain ⟨b, w, oo, l⟩ := d
    obtain ⟨oa, ob, oc, od, ol⟩ := o
    refine ICalls.of_body Tryz.func27 rfl Tryz.call27 rfl (Nat.le_of_ble_eq_true rfl) (fun _ => none) rfl ?_
    repeat' ((conv => whnf); first
      | refine Br.yes rfl ?_
      | refine Br.no rfl ?_
      | refine Br.yes (beq_self_eq_true _) ?_
      | refine Br.not ?_
      | refine Br.yes (decide_eq_true (by assumption)) ?_
      | refine Br.no (decide_eq_false (by assumption)) ?_
      | refine Br.yes (beq_iff_eq.2 (by assumption)) ?_
      | refine Br.no (beq_eq_false_iff_ne.2 (by assumption)) ?_
      | refine Br.yes (bne_iff_ne.2 (by assumption)) ?_
      | (refine Br.dec (fun h => ?_) (fun h => ?_) <;> try dsimp only at h)
      | (refine Br.beqI (fun h => ?_) (fun h => ?_) <;> try dsimp only at h)
      | (refine Br.bneI (fun h => ?_) (fun h => ?_) <;> try dsimp only at h)
      | refine Br.mk (fun h => ?_) (fun h => ?_)
      | refine Need.mk (by first | kernel_rfl | exact ⟨of_decide_eq_true rfl, of_decide_eq_true rfl⟩ | omega) ?_
      | refine Len.mk ⟨_, by simp only [List.length_cons, List.length_nil, Nat.reduceAdd, Int.cast_ofNat_Int]; rfl, ?_⟩
      | refine Wr.lit _ (by simp only [Int.reduceAdd, Int.reduceSub, Int.reduceMul]; rfl) (by decide) ?_
      | refine Wr.fit (by omega) ?_
      | refine Wr.fit (by dsimp only; omega) ?_
      | refine Elem.mk ⟨_, ⟨of_decide_eq_true rfl, rfl⟩, ?_⟩
      | refine Len.map ?_
      | refine Len.dropM ?_
      | refine Elem.dropM ?_
      | refine Len.takeM ?_
      | refine Elem.takeM ?_
      | refine Elem.mapK (by assumption) ?_
      | refine Elem.mapI (by omega) (by assumption) ?_
      | refine Elem.mapN (by omega) (fun x hx => ?_)
      | refine Elem.map (by omega) (by omega) (fun x hx => ?_)
      | refine (h1).use ⟨rfl, ?_⟩
      | refine CallX.mk ⟨_, _, (h1).x, rfl, ?_⟩
      | refine Done.mk ⟨rfl, rfl⟩
      | refine Done.mk ⟨congrArg gb ?_, rfl⟩
      | refine Done.mk ⟨?_, rfl⟩
      | refine Done.mk ⟨?_, ?_⟩)
    all_goals first
      | omega
      | rfl
  case neg =>
  rw [if_neg k1] at he ⊢
  by_cases k2 : k = 2
  case pos =>
    rw [if_pos k2] at he ⊢
    have h1 : ICalls Tryz.prog 66 [d.g, gi id, .list 3 (recs p) none] [] (Done (.tup [.agg zeroD, gi (moreE d id p)]) []) := by
      by_cases h : atT d id < 0
      · have : moreE d id p = 10 := by unfold moreE; rw [if_pos h]
        rw [this]; exact refMoreD_none d id p hd h
      · obtain ⟨t, ht⟩ := at_some (d := d) (id := id) (by omega)
        exact refMoreD_err d id p t hd hM sp (by omega) ht he
    generalize moreE d id p = E at *
    subst k2
    clear he hd hM
    obtain ⟨b, w, oo, l⟩ := d
    obtain ⟨oa, ob, oc, od, ol⟩ := o
    refine ICalls.of_body Tryz.func27 rfl Tryz.call27 rfl (Nat.le_of_ble_eq_true rfl) (fun _ => none) rfl ?_
    repeat' ((conv => whnf); first
      | refine Br.yes rfl ?_
      | refine Br.no rfl ?_
      | refine Br.yes (beq_self_eq_true _) ?_
      | refine Br.not ?_
      | refine Br.yes (decide_eq_true (by assumption)) ?_
      | refine Br.no (decide_eq_false (by assumption)) ?_
      | refine Br.yes (beq_iff_eq.2 (by assumption)) ?_
      | refine Br.no (beq_eq_false_iff_ne.2 (by assumption)) ?_
      | refine Br.yes (bne_iff_ne.2 (by assumption)) ?_
      | (refine Br.dec (fun h => ?_) (fun h => ?_) <;> try dsimp only at h)
      | (refine Br.beqI (fun h => ?_) (fun h => ?_) <;> try dsimp only at h)
      | (refine Br.bneI (fun h => ?_) (fun h => ?_) <;> try dsimp only at h)
      | refine Br.mk (fun h => ?_) (fun h => ?_)
      | refine Need.mk (by first | kernel_rfl | exact ⟨of_decide_eq_true rfl, of_decide_eq_true rfl⟩ | omega) ?_
      | refine Len.mk ⟨_, by simp only [List.length_cons, List.length_nil, Nat.reduceAdd, Int.cast_ofNat_Int]; rfl, ?_⟩
      | refine Wr.lit _ (by simp only [Int.reduceAdd, Int.reduceSub, Int.reduceMul]; rfl) (by decide) ?_
      | refine Wr.fit (by omega) ?_
      | refine Wr.fit (by dsimp only; omega) ?_
      | refine Elem.mk ⟨_, ⟨of_decide_eq_true rfl, rfl⟩, ?_⟩
      | refine Len.map ?_
      | refine Len.dropM ?_
      | refine Elem.dropM ?_
      | refine Len.takeM ?_
      | refine Elem.takeM ?_
      | refine Elem.mapK (by assumption) ?_
      | refine Elem.mapI (by omega) (by assumption) ?_
      | refine Elem.mapN (by omega) (fun x hx => ?_)
      | refine Elem.map (by omega) (by omega) (fun x hx => ?_)
      | refine (h1).use ⟨rfl, ?_⟩
      | refine CallX.mk ⟨_, _, (h1).x, rfl, ?_⟩
      | refine Done.mk ⟨rfl, rfl⟩
      | refine Done.mk ⟨congrArg gb ?_, rfl⟩
      | refine Done.mk ⟨?_, rfl⟩
      | refine Done.mk ⟨?_, ?_⟩)
    all_goals first
      | omega
      | rfl
  case neg =>
    rw [if_neg k2] at he ⊢
    by_cases hm : 0 ≤ m ∧ m ≤ 40320
    case pos => rw [if_pos hm] at he; exact absurd rfl he
    rw [if_neg hm]
    have h1 := refRestD_err d m hm
    clear he hd hM
    obtain ⟨b, w, oo, l⟩ := d
    obtain ⟨oa, ob, oc, od, ol⟩ := o
    refine ICalls.of_body Tryz.func27 rfl Tryz.call27 rfl (Nat.le_of_ble_eq_true rfl) (fun _ => none) rfl ?_
    repeat' ((conv => whnf); first
      | refine Br.yes rfl ?_
      | refine Br.no rfl ?_
      | refine Br.yes (beq_self_eq_true _) ?_
      | refine Br.not ?_
      | refine Br.yes (decide_eq_true (by assumption)) ?_
      | refine Br.no (decide_eq_false (by assumption)) ?_
      | refine Br.yes (beq_iff_eq.2 (by assumption)) ?_
      | refine Br.no (beq_eq_false_iff_ne.2 (by assumption)) ?_
      | refine Br.yes (bne_iff_ne.2 (by assumption)) ?_
      | (refine Br.dec (fun h => ?_) (fun h => ?_) <;> try dsimp only at h)
      | (refine Br.beqI (fun h => ?_) (fun h => ?_) <;> try dsimp only at h)
      | (refine Br.bneI (fun h => ?_) (fun h => ?_) <;> try dsimp only at h)
      | refine Br.mk (fun h => ?_) (fun h => ?_)
      | refine Need.mk (by first | kernel_rfl | exact ⟨of_decide_eq_true rfl, of_decide_eq_true rfl⟩ | omega) ?_
      | refine Len.mk ⟨_, by simp only [List.length_cons, List.length_nil, Nat.reduceAdd, Int.cast_ofNat_Int]; rfl, ?_⟩
      | refine Wr.lit _ (by simp only [Int.reduceAdd, Int.reduceSub, Int.reduceMul]; rfl) (by decide) ?_
      | refine Wr.fit (by omega) ?_
      | refine Wr.fit (by dsimp only; omega) ?_
      | refine Elem.mk ⟨_, ⟨of_decide_eq_true rfl, rfl⟩, ?_⟩
      | refine Len.map ?_
      | refine Len.dropM ?_
      | refine Elem.dropM ?_
      | refine Len.takeM ?_
      | refine Elem.takeM ?_
      | refine Elem.mapK (by assumption) ?_
      | refine Elem.mapI (by omega) (by assumption) ?_
      | refine Elem.mapN (by omega) (fun x hx => ?_)
      | refine Elem.map (by omega) (by omega) (fun x hx => ?_)
      | refine (h1).use ⟨rfl, ?_⟩
      | refine CallX.mk ⟨_, _, (h1).x, rfl, ?_⟩
      | refine Done.mk ⟨rfl, rfl⟩
      | refine Done.mk ⟨congrArg gb ?_, rfl⟩
      | refine Done.mk ⟨?_, rfl⟩
      | refine Done.mk ⟨?_, ?_⟩)
    all_goals first
      | omega
      | rfl

theorem addD_Ok {d : Depot} {o : Order} (hd : d.Ok) (ho : (o.Open.length : Int) ≤ 1000000) : (addD d o).Ok := by
  refine ⟨hd.rows, hd.wl, ?_, ?_, hd.tl, hd.tp⟩
  · show (((addO d.Orders o).1.length : Nat) : Int) ≤ _
    unfold addO
    split
    · decide
    split
    · decide
    · rename_i h; simp only; rw [insO_len]; push_cast; omega
  · show Opens (addO d.Orders o).1
    unfold addO
    split
    · intro x h; cases h
    split
    · intro x h; cases h
    · intro x h
      simp only at h
      unfold insO at h
      rcases List.mem_append.1 h with h | h
      · exact hd.op x (List.mem_of_mem_take h)
      · rcases List.mem_cons.1 h with e | h
        · rw [e]; exact ho
        · exact hd.op x (List.mem_of_mem_drop h)
theorem dropsO_fits : ∀ (ids : List Int) {l : List Order}, (l.length : Int) ≤ 1000000 → Opens l → ((dropsO l ids).1.length : Int) ≤ 1000000 ∧ Opens (dropsO l ids).1
  | [], l, h1, h2 => ⟨h1, h2⟩
  | id :: t, l, h1, h2 => by
    rw [dropsO]
    split
    · exact ⟨by decide, fun o h => by cases h⟩
    · have := dropO_fits (id := id) h1 h2
      exact dropsO_fits t this.1 this.2
theorem dropD_Ok {d : Depot} {ids : List Int} (hd : d.Ok) : (dropD d ids).Ok :=
  ⟨hd.rows, hd.wl, (dropsO_fits ids hd.ol hd.op).1, (dropsO_fits ids hd.ol hd.op).2, hd.tl, hd.tp⟩
theorem stepD_Ok {d : Depot} {s : StepS} (hd : d.Ok) (hM : d.May) (hs : s.Fit) (he : stepE d s = 0) : (stepD d s).Ok := by
  unfold stepE at he
  unfold stepD
  split
  · exact addD_Ok hd hs.o
  rename_i h0
  rw [if_neg h0] at he
  split
  · exact dropD_Ok hd
  rename_i h1
  rw [if_neg h1] at he
  split
  · exact more_Ok hd hM _ hs.p
  rename_i h2
  rw [if_neg h2] at he
  by_cases hm : 0 ≤ s.M ∧ s.M ≤ 40320
  · exact rest_Ok hd hM hm
  · rw [if_neg hm] at he; cases he
theorem fewS_Fit {s : StepS} (h : fewS s = true) : s.Fit := by
  unfold fewS at h
  simp only [Bool.and_eq_true, decide_eq_true_eq] at h
  exact ⟨by omega, by omega, by omega⟩

set_option maxRecDepth 100000 in
set_option maxHeartbeats 4000000 in
theorem depotTurns_ok (d : Depot) (s : StepS) : ICalls Tryz.prog 5 [d.g, s.g] [] (Done (gb true) []) := by
  have hL := light30_ok d
  have hF := few_ok s
  have hal := alive30_ok
  by_cases hd : light30 d = true
  case neg =>
    rw [Bool.eq_false_iff.2 hd] at hL
    obtain ⟨b, w, oo, l⟩ := d
    obtain ⟨k, ⟨oa, ob, oc, od, ol⟩, ids, id, p, m⟩ := s
    clear hd
    refine ICalls.of_body Tryz.func5 rfl Tryz.call5 rfl (Nat.le_of_ble_eq_true rfl) (fun _ => none) rfl ?_
    repeat' ((conv => whnf); first
      | refine Br.yes rfl ?_
      | refine Br.no rfl ?_
      | refine Br.yes (beq_self_eq_true _) ?_
      | refine Br.not ?_
      | refine Br.yes (decide_eq_true (by assumption)) ?_
      | refine Br.no (decide_eq_false (by assumption)) ?_
      | refine Br.yes (beq_iff_eq.2 (by assumption)) ?_
      | refine Br.no (beq_eq_false_iff_ne.2 (by assumption)) ?_
      | refine Br.yes (bne_iff_ne.2 (by assumption)) ?_
      | (refine Br.dec (fun h => ?_) (fun h => ?_) <;> try dsimp only at h)
      | (refine Br.beqI (fun h => ?_) (fun h => ?_) <;> try dsimp only at h)
      | (refine Br.bneI (fun h => ?_) (fun h => ?_) <;> try dsimp only at h)
      | refine Br.mk (fun h => ?_) (fun h => ?_)
      | refine Need.mk (by first | kernel_rfl | exact ⟨of_decide_eq_true rfl, of_decide_eq_true rfl⟩ | omega) ?_
      | refine Len.mk ⟨_, by simp only [List.length_cons, List.length_nil, Nat.reduceAdd, Int.cast_ofNat_Int]; rfl, ?_⟩
      | refine Wr.lit _ (by simp only [Int.reduceAdd, Int.reduceSub, Int.reduceMul]; rfl) (by decide) ?_
      | refine Wr.fit (by omega) ?_
      | refine Wr.fit (by dsimp only; omega) ?_
      | refine Elem.mk ⟨_, ⟨of_decide_eq_true rfl, rfl⟩, ?_⟩
      | refine Len.map ?_
      | refine Len.dropM ?_
      | refine Elem.dropM ?_
      | refine Len.takeM ?_
      | refine Elem.takeM ?_
      | refine Elem.mapK (by assumption) ?_
      | refine Elem.mapI (by omega) (by assumption) ?_
      | refine Elem.mapN (by omega) (fun x hx => ?_)
      | refine Elem.map (by omega) (by omega) (fun x hx => ?_)
      | refine (hL).use ⟨rfl, ?_⟩
      | refine (hF).use ⟨rfl, ?_⟩
      | refine (hal).use ⟨rfl, ?_⟩
      | refine CallX.mk ⟨_, _, (hL).x, rfl, ?_⟩
      | refine CallX.mk ⟨_, _, (hF).x, rfl, ?_⟩
      | refine CallX.mk ⟨_, _, (hal).x, rfl, ?_⟩
      | refine Done.mk ⟨rfl, rfl⟩
      | refine Done.mk ⟨congrArg gb ?_, rfl⟩
      | refine Done.mk ⟨?_, rfl⟩
      | refine Done.mk ⟨?_, ?_⟩)
    all_goals (simp at *; done)
  case pos =>
  rw [hd] at hL
  by_cases hf : fewS s = true
  case neg =>
    rw [Bool.eq_false_iff.2 hf] at hF
    obtain ⟨b, w, oo, l⟩ := d
    obtain ⟨k, ⟨oa, ob, oc, od, ol⟩, ids, id, p, m⟩ := s
    clear hd hf
    refine ICalls.of_body Tryz.func5 rfl Tryz.call5 rfl (Nat.le_of_ble_eq_true rfl) (fun _ => none) rfl ?_
    repeat' ((conv => whnf); first
      | refine Br.yes rfl ?_
      | refine Br.no rfl ?_
      | refine Br.yes (beq_self_eq_true _) ?_
      | refine Br.not ?_
      | refine Br.yes (decide_eq_true (by assumption)) ?_
      | refine Br.no (decide_eq_false (by assumption)) ?_
      | refine Br.yes (beq_iff_eq.2 (by assumption)) ?_
      | refine Br.no (beq_eq_false_iff_ne.2 (by assumption)) ?_
      | refine Br.yes (bne_iff_ne.2 (by assumption)) ?_
      | (refine Br.dec (fun h => ?_) (fun h => ?_) <;> try dsimp only at h)
      | (refine Br.beqI (fun h => ?_) (fun h => ?_) <;> try dsimp only at h)
      | (refine Br.bneI (fun h => ?_) (fun h => ?_) <;> try dsimp only at h)
      | refine Br.mk (fun h => ?_) (fun h => ?_)
      | refine Need.mk (by first | kernel_rfl | exact ⟨of_decide_eq_true rfl, of_decide_eq_true rfl⟩ | omega) ?_
      | refine Len.mk ⟨_, by simp only [List.length_cons, List.length_nil, Nat.reduceAdd, Int.cast_ofNat_Int]; rfl, ?_⟩
      | refine Wr.lit _ (by simp only [Int.reduceAdd, Int.reduceSub, Int.reduceMul]; rfl) (by decide) ?_
      | refine Wr.fit (by omega) ?_
      | refine Wr.fit (by dsimp only; omega) ?_
      | refine Elem.mk ⟨_, ⟨of_decide_eq_true rfl, rfl⟩, ?_⟩
      | refine Len.map ?_
      | refine Len.dropM ?_
      | refine Elem.dropM ?_
      | refine Len.takeM ?_
      | refine Elem.takeM ?_
      | refine Elem.mapK (by assumption) ?_
      | refine Elem.mapI (by omega) (by assumption) ?_
      | refine Elem.mapN (by omega) (fun x hx => ?_)
      | refine Elem.map (by omega) (by omega) (fun x hx => ?_)
      | refine (hL).use ⟨rfl, ?_⟩
      | refine (hF).use ⟨rfl, ?_⟩
      | refine (hal).use ⟨rfl, ?_⟩
      | refine CallX.mk ⟨_, _, (hL).x, rfl, ?_⟩
      | refine CallX.mk ⟨_, _, (hF).x, rfl, ?_⟩
      | refine CallX.mk ⟨_, _, (hal).x, rfl, ?_⟩
      | refine Done.mk ⟨rfl, rfl⟩
      | refine Done.mk ⟨congrArg gb ?_, rfl⟩
      | refine Done.mk ⟨?_, rfl⟩
      | refine Done.mk ⟨?_, ?_⟩)
    all_goals (simp at *; done)
  case pos =>
  rw [hf] at hF
  have hdo := light30_Ok hd
  have hfit := fewS_Fit hf
  have hmay := refMayD_ok d hdo
  clear hd hf
  by_cases he : (depotE d).2.2 = 0
  case neg =>
    rw [show mayD d = false from decide_eq_false he] at hmay
    have h0 := new_err d hdo he
    have h1 := lawTurnNil_ok s
    generalize (depotE d).2.2 = E at *
    clear hdo hfit
    obtain ⟨b, w, oo, l⟩ := d
    obtain ⟨k, ⟨oa, ob, oc, od, ol⟩, ids, id, p, m⟩ := s
    refine ICalls.of_body Tryz.func5 rfl Tryz.call5 rfl (Nat.le_of_ble_eq_true rfl) (fun _ => none) rfl ?_
    repeat' ((conv => whnf); first
      | refine Br.yes rfl ?_
      | refine Br.no rfl ?_
      | refine Br.yes (beq_self_eq_true _) ?_
      | refine Br.not ?_
      | refine Br.yes (decide_eq_true (by assumption)) ?_
      | refine Br.no (decide_eq_false (by assumption)) ?_
      | refine Br.yes (beq_iff_eq.2 (by assumption)) ?_
      | refine Br.no (beq_eq_false_iff_ne.2 (by assumption)) ?_
      | refine Br.yes (bne_iff_ne.2 (by assumption)) ?_
      | (refine Br.dec (fun h => ?_) (fun h => ?_) <;> try dsimp only at h)
      | (refine Br.beqI (fun h => ?_) (fun h => ?_) <;> try dsimp only at h)
      | (refine Br.bneI (fun h => ?_) (fun h => ?_) <;> try dsimp only at h)
      | refine Br.mk (fun h => ?_) (fun h => ?_)
      | refine Need.mk (by first | kernel_rfl | exact ⟨of_decide_eq_true rfl, of_decide_eq_true rfl⟩ | omega) ?_
      | refine Len.mk ⟨_, by simp only [List.length_cons, List.length_nil, Nat.reduceAdd, Int.cast_ofNat_Int]; rfl, ?_⟩
      | refine Wr.lit _ (by simp only [Int.reduceAdd, Int.reduceSub, Int.reduceMul]; rfl) (by decide) ?_
      | refine Wr.fit (by omega) ?_
      | refine Wr.fit (by dsimp only; omega) ?_
      | refine Elem.mk ⟨_, ⟨of_decide_eq_true rfl, rfl⟩, ?_⟩
      | refine Len.map ?_
      | refine Len.dropM ?_
      | refine Elem.dropM ?_
      | refine Len.takeM ?_
      | refine Elem.takeM ?_
      | refine Elem.mapK (by assumption) ?_
      | refine Elem.mapI (by omega) (by assumption) ?_
      | refine Elem.mapN (by omega) (fun x hx => ?_)
      | refine Elem.map (by omega) (by omega) (fun x hx => ?_)
      | refine (hL).use ⟨rfl, ?_⟩
      | refine (hF).use ⟨rfl, ?_⟩
      | refine (hal).use ⟨rfl, ?_⟩
      | refine (h0).use ⟨rfl, ?_⟩
      | refine (h1).use ⟨rfl, ?_⟩
      | refine (hmay).use ⟨rfl, ?_⟩
      | refine CallX.mk ⟨_, _, (hL).x, rfl, ?_⟩
      | refine CallX.mk ⟨_, _, (hF).x, rfl, ?_⟩
      | refine CallX.mk ⟨_, _, (hal).x, rfl, ?_⟩
      | refine CallX.mk ⟨_, _, (h0).x, rfl, ?_⟩
      | refine CallX.mk ⟨_, _, (h1).x, rfl, ?_⟩
      | refine CallX.mk ⟨_, _, (hmay).x, rfl, ?_⟩
      | refine Done.mk ⟨rfl, rfl⟩
      | refine Done.mk ⟨congrArg gb ?_, rfl⟩
      | refine Done.mk ⟨?_, rfl⟩
      | refine Done.mk ⟨?_, ?_⟩)
    all_goals first
      | omega
      | (simp at *; done)
  case pos =>
  rw [show mayD d = true from decide_eq_true he] at hmay
  have h0 := new_ok d hdo he
  have hM := May_iff.1 he
  have e0 : GB.cells (yardC d (metersV d).1) = yardB d := rfl
  by_cases hs : stepE d s = 0
  case neg =>
    have h1 := lawTurn_err d s hdo hM hfit hs
    have h2 := lawWant_err d s hdo hM hfit hs
    have h3 := toldNil_ok
    have h4 := (refDepotSame_ok Depot.zero Depot.zero Depot.zero_Ok Depot.zero_Ok).sub (.cons (.agg zeroD_sub) (.cons (.agg zeroD_sub) .nil))
    rw [sameD_self] at h4
    unfold yardB at h1
    generalize (metersV d).1 = ms at *
    generalize stepE d s = E at *
    clear hdo hfit hM he e0
    obtain ⟨b, w, oo, l⟩ := d
    obtain ⟨k, ⟨oa, ob, oc, od, ol⟩, ids, id, p, m⟩ := s
    refine ICalls.of_body Tryz.func5 rfl Tryz.call5 rfl (Nat.le_of_ble_eq_true rfl) (fun _ => none) rfl ?_
    repeat' ((conv => whnf); first
      | refine Br.yes rfl ?_
      | refine Br.no rfl ?_
      | refine Br.yes (beq_self_eq_true _) ?_
      | refine Br.not ?_
      | refine Br.yes (decide_eq_true (by assumption)) ?_
      | refine Br.no (decide_eq_false (by assumption)) ?_
      | refine Br.yes (beq_iff_eq.2 (by assumption)) ?_
      | refine Br.no (beq_eq_false_iff_ne.2 (by assumption)) ?_
      | refine Br.yes (bne_iff_ne.2 (by assumption)) ?_
      | (refine Br.dec (fun h => ?_) (fun h => ?_) <;> try dsimp only at h)
      | (refine Br.beqI (fun h => ?_) (fun h => ?_) <;> try dsimp only at h)
      | (refine Br.bneI (fun h => ?_) (fun h => ?_) <;> try dsimp only at h)
      | refine Br.mk (fun h => ?_) (fun h => ?_)
      | refine Need.mk (by first | kernel_rfl | exact ⟨of_decide_eq_true rfl, of_decide_eq_true rfl⟩ | omega) ?_
      | refine Len.mk ⟨_, by simp only [List.length_cons, List.length_nil, Nat.reduceAdd, Int.cast_ofNat_Int]; rfl, ?_⟩
      | refine Wr.lit _ (by simp only [Int.reduceAdd, Int.reduceSub, Int.reduceMul]; rfl) (by decide) ?_
      | refine Wr.fit (by omega) ?_
      | refine Wr.fit (by dsimp only; omega) ?_
      | refine Elem.mk ⟨_, ⟨of_decide_eq_true rfl, rfl⟩, ?_⟩
      | refine Len.map ?_
      | refine Len.dropM ?_
      | refine Elem.dropM ?_
      | refine Len.takeM ?_
      | refine Elem.takeM ?_
      | refine Elem.mapK (by assumption) ?_
      | refine Elem.mapI (by omega) (by assumption) ?_
      | refine Elem.mapN (by omega) (fun x hx => ?_)
      | refine Elem.map (by omega) (by omega) (fun x hx => ?_)
      | refine (hL).use ⟨rfl, ?_⟩
      | refine (hF).use ⟨rfl, ?_⟩
      | refine (hal).use ⟨rfl, ?_⟩
      | refine (h0).use ⟨rfl, ?_⟩
      | refine (h1).use ⟨rfl, ?_⟩
      | refine (h2).use ⟨rfl, ?_⟩
      | refine (h3).use ⟨rfl, ?_⟩
      | refine (h4).use ⟨rfl, ?_⟩
      | refine (hmay).use ⟨rfl, ?_⟩
      | refine CallX.mk ⟨_, _, (hL).x, rfl, ?_⟩
      | refine CallX.mk ⟨_, _, (hF).x, rfl, ?_⟩
      | refine CallX.mk ⟨_, _, (hal).x, rfl, ?_⟩
      | refine CallX.mk ⟨_, _, (h0).x, rfl, ?_⟩
      | refine CallX.mk ⟨_, _, (h1).x, rfl, ?_⟩
      | refine CallX.mk ⟨_, _, (h2).x, rfl, ?_⟩
      | refine CallX.mk ⟨_, _, (h3).x, rfl, ?_⟩
      | refine CallX.mk ⟨_, _, (h4).x, rfl, ?_⟩
      | refine CallX.mk ⟨_, _, (hmay).x, rfl, ?_⟩
      | refine Done.mk ⟨rfl, rfl⟩
      | refine Done.mk ⟨congrArg gb ?_, rfl⟩
      | refine Done.mk ⟨?_, rfl⟩
      | refine Done.mk ⟨?_, ?_⟩)
    all_goals first
      | omega
      | (simp at *; done)
      | (simp_all; done)
  case pos =>
    have h1 := lawTurn_ok d s hdo hM hfit hs
    have h2 := lawWant_ok d s hdo hM hfit hs
    have hDo := stepD_Ok hdo hM hfit hs
    have h3 := told_ok (stepD d s) (metersV (stepD d s)).1 hDo
    have h4 := refDepotSame_ok (stepD d s) (stepD d s) hDo hDo
    rw [sameD_self] at h4
    unfold yardB at h1
    generalize (metersV d).1 = ms at *
    generalize (metersV (stepD d s)).1 = ms' at *
    generalize stepD d s = D at *
    clear hdo hfit hM he e0 hs hDo
    obtain ⟨b, w, oo, l⟩ := d
    obtain ⟨b', w', oo', l'⟩ := D
    obtain ⟨k, ⟨oa, ob, oc, od, ol⟩, ids, id, p, m⟩ := s
    refine ICalls.of_body Tryz.func5 rfl Tryz.call5 rfl (Nat.le_of_ble_eq_true rfl) (fun _ => none) rfl ?_
    repeat' ((conv => whnf); first
      | refine Br.yes rfl ?_
      | refine Br.no rfl ?_
      | refine Br.yes (beq_self_eq_true _) ?_
      | refine Br.not ?_
      | refine Br.yes (decide_eq_true (by assumption)) ?_
      | refine Br.no (decide_eq_false (by assumption)) ?_
      | refine Br.yes (beq_iff_eq.2 (by assumption)) ?_
      | refine Br.no (beq_eq_false_iff_ne.2 (by assumption)) ?_
      | refine Br.yes (bne_iff_ne.2 (by assumption)) ?_
      | (refine Br.dec (fun h => ?_) (fun h => ?_) <;> try dsimp only at h)
      | (refine Br.beqI (fun h => ?_) (fun h => ?_) <;> try dsimp only at h)
      | (refine Br.bneI (fun h => ?_) (fun h => ?_) <;> try dsimp only at h)
      | refine Br.mk (fun h => ?_) (fun h => ?_)
      | refine Need.mk (by first | kernel_rfl | exact ⟨of_decide_eq_true rfl, of_decide_eq_true rfl⟩ | omega) ?_
      | refine Len.mk ⟨_, by simp only [List.length_cons, List.length_nil, Nat.reduceAdd, Int.cast_ofNat_Int]; rfl, ?_⟩
      | refine Wr.lit _ (by simp only [Int.reduceAdd, Int.reduceSub, Int.reduceMul]; rfl) (by decide) ?_
      | refine Wr.fit (by omega) ?_
      | refine Wr.fit (by dsimp only; omega) ?_
      | refine Elem.mk ⟨_, ⟨of_decide_eq_true rfl, rfl⟩, ?_⟩
      | refine Len.map ?_
      | refine Len.dropM ?_
      | refine Elem.dropM ?_
      | refine Len.takeM ?_
      | refine Elem.takeM ?_
      | refine Elem.mapK (by assumption) ?_
      | refine Elem.mapI (by omega) (by assumption) ?_
      | refine Elem.mapN (by omega) (fun x hx => ?_)
      | refine Elem.map (by omega) (by omega) (fun x hx => ?_)
      | refine (hL).use ⟨rfl, ?_⟩
      | refine (hF).use ⟨rfl, ?_⟩
      | refine (hal).use ⟨rfl, ?_⟩
      | refine (h0).use ⟨rfl, ?_⟩
      | refine (h1).use ⟨rfl, ?_⟩
      | refine (h2).use ⟨rfl, ?_⟩
      | refine (h3).use ⟨rfl, ?_⟩
      | refine (h4).use ⟨rfl, ?_⟩
      | refine (hmay).use ⟨rfl, ?_⟩
      | refine CallX.mk ⟨_, _, (hL).x, rfl, ?_⟩
      | refine CallX.mk ⟨_, _, (hF).x, rfl, ?_⟩
      | refine CallX.mk ⟨_, _, (hal).x, rfl, ?_⟩
      | refine CallX.mk ⟨_, _, (h0).x, rfl, ?_⟩
      | refine CallX.mk ⟨_, _, (h1).x, rfl, ?_⟩
      | refine CallX.mk ⟨_, _, (h2).x, rfl, ?_⟩
      | refine CallX.mk ⟨_, _, (h3).x, rfl, ?_⟩
      | refine CallX.mk ⟨_, _, (h4).x, rfl, ?_⟩
      | refine CallX.mk ⟨_, _, (hmay).x, rfl, ?_⟩
      | refine Done.mk ⟨rfl, rfl⟩
      | refine Done.mk ⟨congrArg gb ?_, rfl⟩
      | refine Done.mk ⟨?_, rfl⟩
      | refine Done.mk ⟨?_, ?_⟩)
    all_goals first
      | omega
      | (simp at *; done)
      | (simp_all; done)

theorem depotTurns_law (g0 : GV) (h0 : ArgOk depotTy g0) (g1 : GV) (h1 : ArgOk stepTy g1) :
    ICalls Tryz.prog 5 [g0, g1] [] (Done (gb true) []) := by
  obtain ⟨d, rfl⟩ := depot_of h0
  obtain ⟨s, h2, _⟩ := agg_of step_wt h1
  subst h2
  exact depotTurns_ok d s

end Go.Hl
