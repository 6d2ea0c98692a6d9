/- Contracts of functions, bundle H11; proved for whatever the arguments' types allow, as each theorem says. -/
import Derived.Test.YteckhahneieicaaH5
import Derived.Test.YteckhahneieicaaH7
import Derived.Test.YteckhahneieicaaGh18

/- One minute of a meter that may be, in plain terms. -/
set_option linter.unusedVariables false
set_option linter.unusedSimpArgs false
namespace Go.Hl
open Go.Gh Go.Proofs

theorem run1 {b : Book} {m : Meter} (hb : b.May) (hm : m.May) (k : Int) : runAll b m [k] = if k < 0 ∨ 4 ≤ k then (Meter.zero, 0, 2) else if m.Now = 40320 then (Meter.zero, 0, 4) else (m.step b k, stepR b m k, 0) := by
  unfold runAll
  rw [if_pos hb, if_pos hm, runM_cons]
  have : stepBits b m k 0 = stepR b m k := by
    have h := stepBits_or b m k 0 (by omega)
    rw [stepN_cast]; simpa using h
  rw [this]; rfl
theorem runAll_may {b : Book} {m : Meter} (ks : List Int) (h : (runAll b m ks).2.2 = 0) : b.May ∧ m.May := by
  unfold runAll at h
  split at h
  · split at h
    · exact ⟨by assumption, by assumption⟩
    · cases h
  · cases h

end Go.Hl

/- Labels: what may follow.  -/
set_option linter.unusedVariables false
set_option linter.unusedSimpArgs false
namespace Go.Hl
open Go.Gh Go.Proofs

/-- What is left is nothing below zero, and not too much. -/
theorem left_room {l : List Task} {s : Spot} (h1 : tasksErr l = 0) (h3 : fitsS l s = true) : (0 ≤ leftD l s ∧ leftD l s ≤ 100000000) ∧ (0 ≤ leftS l s ∧ leftS l s ≤ 100000000) := by
  obtain ⟨hlen, hm⟩ := tasksErr_ok h1
  obtain ⟨g1, g2, g3, g4⟩ := fits_mid h3
  unfold leftD leftS
  by_cases hlt : s.Task < l.length
  · obtain ⟨t, hx⟩ : ∃ t, l[s.Task.toNat]? = some t := ⟨_, List.getElem?_eq_getElem (by omega)⟩
    have hD := sumDrive_le (l := l.drop (s.Task.toNat + 1)) fun x hx => hm x (List.mem_of_mem_drop hx)
    have hS := sumServe_le (l := l.drop (s.Task.toNat + 1)) fun x hx => hm x (List.mem_of_mem_drop hx)
    rw [sumDrive_drop hx, sumServe_drop hx]
    rw [tAt_get hx] at g2 g3
    have m1 := (hm t (List.mem_of_getElem? hx)).drive
    have m2 := (hm t (List.mem_of_getElem? hx)).serve
    rw [List.length_drop] at hD hS
    omega
  · have e2 := tAt_out (l := l) (i := s.Task) (by omega)
    rw [e2] at g2 g3
    simp only at g2 g3
    rw [List.drop_eq_nil_of_le (by omega)]
    simp only [sumDrive, sumServe]; omega

structure Lab where
  m : Meter
  s : Spot
  deriving DecidableEq
def Lab.c (x : Lab) : List GV := x.m.c ++ x.s.c
def Lab.g (x : Lab) : GV := .agg x.c
def Lab.zero : Lab := ⟨Meter.zero, zeroSpot⟩
def spotErr (l : List Task) (x : Lab) : Int := if tasksErr l ≠ 0 then tasksErr l else if x.m.May ∧ fitsS l x.s = true then 0 else 1
def labErr (b : Book) (l : List Task) (x : Lab) : Int := if b.May then spotErr l x else 14
theorem labErr_0 {b : Book} {l : List Task} {x : Lab} (h : labErr b l x = 0) : b.May ∧ spotErr l x = 0 := by
  unfold labErr at h
  split at h
  · exact ⟨by assumption, h⟩
  · cases h
theorem spotErr_0 {l : List Task} {x : Lab} (h : spotErr l x = 0) : tasksErr l = 0 ∧ x.m.May ∧ fitsS l x.s = true := by
  unfold spotErr at h
  split at h
  · rename_i h1; exact absurd h h1
  · rename_i h1
    split at h
    · rename_i h2; exact ⟨by omega, h2.1, h2.2⟩
    · cases h
def lOk (b : Book) (l : List Task) (x : Lab) (k : Int) : Bool := decide ((runAll b x.m [k]).2.2 = 0) && (decide ((runAll b x.m [k]).2.1 = 0) && (decide (stepErr l x.s x.m.Now k = 0) && decide (stepSet l x.s x.m.Now k = 0)))
def lstep (b : Book) (l : List Task) (x : Lab) (k : Int) : Lab × Bool := if lOk b l x k then (⟨(runAll b x.m [k]).1, stepSpot l x.s x.m.Now k⟩, true) else (Lab.zero, false)
def lpair (p : Lab × Bool) : GV := .tup [p.1.g, gb p.2]
theorem lpair_no {b : Book} {l : List Task} {x : Lab} {k : Int} (h : lOk b l x k = false) : lpair (Lab.zero, false) = lpair (lstep b l x k) := by unfold lstep; rw [if_neg (by simp [h])]
theorem lpair_yes {b : Book} {l : List Task} {x : Lab} {k : Int} (h : lOk b l x k = true) : lpair (⟨(runAll b x.m [k]).1, stepSpot l x.s x.m.Now k⟩, true) = lpair (lstep b l x k) := by unfold lstep; rw [if_pos h]

set_option maxRecDepth 100000 in
set_option maxHeartbeats 1000000 in
theorem labSpot_ok (l : List Task) (x : Lab) : ICalls Try.prog 64 [.list 3 (tasks l) none, x.g] [] (Done (gi (spotErr l x)) []) := by
  refine ICalls.of_body Try.func64 rfl Try.call64 rfl (Nat.le_of_ble_eq_true rfl) (fun _ => none) ?_
  repeat' ((conv => whnf); first
    | refine Br.yes rfl ?_
    | refine Br.no rfl ?_
    | refine Done.mk ⟨congrArg gi ?_, rfl⟩
    | refine Br.yes (beq_self_eq_true _) ?_
    | refine Br.not ?_
    | refine Br.yes (decide_eq_true (by assumption)) ?_
    | refine Br.no (decide_eq_false (by assumption)) ?_
    | refine Br.yes (beq_iff_eq.2 (by assumption)) ?_
    | refine Br.no (beq_eq_false_iff_ne.2 (by assumption)) ?_
    | refine Br.yes (bne_iff_ne.2 (by assumption)) ?_
    | (refine Br.dec (fun h => ?_) (fun h => ?_) <;> try dsimp only at h)
    | (refine Br.beqI (fun h => ?_) (fun h => ?_) <;> try dsimp only at h)
    | (refine Br.bneI (fun h => ?_) (fun h => ?_) <;> try dsimp only at h)
    | refine Br.mk (fun h => ?_) (fun h => ?_)
    | refine Need.mk (app_need (by first | (simp only [List.length_append, List.length_map, List.length_nil, List.length_cons, List.nil_append, Nat.zero_add, Nat.add_zero]; done) | (simp only [List.length_append, List.length_map, List.length_nil, List.length_cons, List.nil_append, Nat.zero_add, Nat.add_zero]; omega) | omega) (Nat.le_of_ble_eq_true rfl) (by first | (simp only [List.length_append, List.length_map, List.length_nil, List.length_cons, List.nil_append, Nat.zero_add, Nat.add_zero]; done) | (simp only [List.length_append, List.length_map, List.length_nil, List.length_cons, List.nil_append, Nat.zero_add, Nat.add_zero]; omega) | omega)) ?_
    | refine Need.mk (app_need0 (Nat.le_of_ble_eq_true rfl) (by first | (simp only [List.length_append, List.length_map, List.length_nil, List.length_cons, List.nil_append, Nat.zero_add, Nat.add_zero]; done) | (simp only [List.length_append, List.length_map, List.length_nil, List.length_cons, List.nil_append, Nat.zero_add, Nat.add_zero]; omega) | omega)) ?_
    | refine Need.mk (by first | kernel_rfl | exact ⟨of_decide_eq_true rfl, of_decide_eq_true rfl⟩ | omega) ?_
    | refine Len.mk ⟨_, by simp only [List.length_cons, List.length_nil, Nat.reduceAdd, Int.cast_ofNat_Int]; rfl, ?_⟩
    | refine Wr.lit _ (by simp only [Int.reduceAdd, Int.reduceSub, Int.reduceMul]; rfl) (by decide) ?_
    | refine Wr.fit (by omega) ?_
    | refine Wr.fit (by dsimp only; omega) ?_
    | refine Elem.mk ⟨_, ⟨of_decide_eq_true rfl, rfl⟩, ?_⟩
    | refine Len.map ?_
    | refine Len.dropM ?_
    | refine Elem.dropM ?_
    | refine Len.takeM ?_
    | refine Elem.takeM ?_
    | refine Elem.mapK (by assumption) ?_
    | refine Elem.mapI (by omega) (by assumption) ?_
    | refine Elem.mapN (by omega) (fun x hx => ?_)
    | refine Elem.map (by omega) (by omega) (fun x hx => ?_)
    | refine (tasksCheck_ok l).use ⟨rfl, ?_⟩
    | refine (meterCheck_ok x.m).use ⟨rfl, ?_⟩
    | refine (errRight_ok l x.s).use ⟨rfl, ?_⟩
    | refine CallX.mk ⟨_, _, (tasksCheck_ok l).x, rfl, ?_⟩
    | refine CallX.mk ⟨_, _, (meterCheck_ok x.m).x, rfl, ?_⟩
    | refine CallX.mk ⟨_, _, (errRight_ok l x.s).x, rfl, ?_⟩
    | refine Done.mk ⟨rfl, rfl⟩
    | refine Done.mk ⟨congrArg gb ?_, rfl⟩
    | refine Done.mk ⟨?_, rfl⟩
    | refine Done.mk ⟨?_, ?_⟩)
  all_goals simp_all [spotErr, errCheck, Meter.code]

set_option maxRecDepth 100000 in
set_option maxHeartbeats 1000000 in
theorem labCheck_ok (b : Book) (l : List Task) (x : Lab) : ICalls Try.prog 36 [b.g, .list 3 (tasks l) none, x.g] [] (Done (gi (labErr b l x)) []) := by
  refine ICalls.of_body Try.func36 rfl Try.call36 rfl (Nat.le_of_ble_eq_true rfl) (fun _ => none) ?_
  repeat' ((conv => whnf); first
    | refine Br.yes rfl ?_
    | refine Br.no rfl ?_
    | refine Done.mk ⟨congrArg gi ?_, rfl⟩
    | refine Br.yes (beq_self_eq_true _) ?_
    | refine Br.not ?_
    | refine Br.yes (decide_eq_true (by assumption)) ?_
    | refine Br.no (decide_eq_false (by assumption)) ?_
    | refine Br.yes (beq_iff_eq.2 (by assumption)) ?_
    | refine Br.no (beq_eq_false_iff_ne.2 (by assumption)) ?_
    | refine Br.yes (bne_iff_ne.2 (by assumption)) ?_
    | (refine Br.dec (fun h => ?_) (fun h => ?_) <;> try dsimp only at h)
    | (refine Br.beqI (fun h => ?_) (fun h => ?_) <;> try dsimp only at h)
    | (refine Br.bneI (fun h => ?_) (fun h => ?_) <;> try dsimp only at h)
    | refine Br.mk (fun h => ?_) (fun h => ?_)
    | refine Need.mk (app_need (by first | (simp only [List.length_append, List.length_map, List.length_nil, List.length_cons, List.nil_append, Nat.zero_add, Nat.add_zero]; done) | (simp only [List.length_append, List.length_map, List.length_nil, List.length_cons, List.nil_append, Nat.zero_add, Nat.add_zero]; omega) | omega) (Nat.le_of_ble_eq_true rfl) (by first | (simp only [List.length_append, List.length_map, List.length_nil, List.length_cons, List.nil_append, Nat.zero_add, Nat.add_zero]; done) | (simp only [List.length_append, List.length_map, List.length_nil, List.length_cons, List.nil_append, Nat.zero_add, Nat.add_zero]; omega) | omega)) ?_
    | refine Need.mk (app_need0 (Nat.le_of_ble_eq_true rfl) (by first | (simp only [List.length_append, List.length_map, List.length_nil, List.length_cons, List.nil_append, Nat.zero_add, Nat.add_zero]; done) | (simp only [List.length_append, List.length_map, List.length_nil, List.length_cons, List.nil_append, Nat.zero_add, Nat.add_zero]; omega) | omega)) ?_
    | refine Need.mk (by first | kernel_rfl | exact ⟨of_decide_eq_true rfl, of_decide_eq_true rfl⟩ | omega) ?_
    | refine Len.mk ⟨_, by simp only [List.length_cons, List.length_nil, Nat.reduceAdd, Int.cast_ofNat_Int]; rfl, ?_⟩
    | refine Wr.lit _ (by simp only [Int.reduceAdd, Int.reduceSub, Int.reduceMul]; rfl) (by decide) ?_
    | refine Wr.fit (by omega) ?_
    | refine Wr.fit (by dsimp only; omega) ?_
    | refine Elem.mk ⟨_, ⟨of_decide_eq_true rfl, rfl⟩, ?_⟩
    | refine Len.map ?_
    | refine Len.dropM ?_
    | refine Elem.dropM ?_
    | refine Len.takeM ?_
    | refine Elem.takeM ?_
    | refine Elem.mapK (by assumption) ?_
    | refine Elem.mapI (by omega) (by assumption) ?_
    | refine Elem.mapN (by omega) (fun x hx => ?_)
    | refine Elem.map (by omega) (by omega) (fun x hx => ?_)
    | refine (bookCheck_ok b).use ⟨rfl, ?_⟩
    | refine (labSpot_ok l x).use ⟨rfl, ?_⟩
    | refine CallX.mk ⟨_, _, (bookCheck_ok b).x, rfl, ?_⟩
    | refine CallX.mk ⟨_, _, (labSpot_ok l x).x, rfl, ?_⟩
    | refine Done.mk ⟨rfl, rfl⟩
    | refine Done.mk ⟨congrArg gb ?_, rfl⟩
    | refine Done.mk ⟨?_, rfl⟩
    | refine Done.mk ⟨?_, ?_⟩)
  all_goals simp_all [labErr, Book.code]

set_option maxRecDepth 100000 in
set_option maxHeartbeats 1000000 in
theorem refLabCheck_ok (b : Book) (l : List Task) (x : Lab) (hl : l.length ≤ 2001) : ICalls Try.prog 32 [b.g, .list 3 (tasks l) none, x.g] [] (Done (gi (labErr b l x)) []) := by
  refine ICalls.of_body Try.func32 rfl Try.call32 rfl (Nat.le_of_ble_eq_true rfl) (fun _ => none) ?_
  repeat' ((conv => whnf); first
    | refine Br.yes rfl ?_
    | refine Br.no rfl ?_
    | refine Done.mk ⟨congrArg gi ?_, rfl⟩
    | refine Br.yes (beq_self_eq_true _) ?_
    | refine Br.not ?_
    | refine Br.yes (decide_eq_true (by assumption)) ?_
    | refine Br.no (decide_eq_false (by assumption)) ?_
    | refine Br.yes (beq_iff_eq.2 (by assumption)) ?_
    | refine Br.no (beq_eq_false_iff_ne.2 (by assumption)) ?_
    | refine Br.yes (bne_iff_ne.2 (by assumption)) ?_
    | (refine Br.dec (fun h => ?_) (fun h => ?_) <;> try dsimp only at h)
    | (refine Br.beqI (fun h => ?_) (fun h => ?_) <;> try dsimp only at h)
    | (refine Br.bneI (fun h => ?_) (fun h => ?_) <;> try dsimp only at h)
    | refine Br.mk (fun h => ?_) (fun h => ?_)
    | refine Need.mk (app_need (by first | (simp only [List.length_append, List.length_map, List.length_nil, List.length_cons, List.nil_append, Nat.zero_add, Nat.add_zero]; done) | (simp only [List.length_append, List.length_map, List.length_nil, List.length_cons, List.nil_append, Nat.zero_add, Nat.add_zero]; omega) | omega) (Nat.le_of_ble_eq_true rfl) (by first | (simp only [List.length_append, List.length_map, List.length_nil, List.length_cons, List.nil_append, Nat.zero_add, Nat.add_zero]; done) | (simp only [List.length_append, List.length_map, List.length_nil, List.length_cons, List.nil_append, Nat.zero_add, Nat.add_zero]; omega) | omega)) ?_
    | refine Need.mk (app_need0 (Nat.le_of_ble_eq_true rfl) (by first | (simp only [List.length_append, List.length_map, List.length_nil, List.length_cons, List.nil_append, Nat.zero_add, Nat.add_zero]; done) | (simp only [List.length_append, List.length_map, List.length_nil, List.length_cons, List.nil_append, Nat.zero_add, Nat.add_zero]; omega) | omega)) ?_
    | refine Need.mk (by first | kernel_rfl | exact ⟨of_decide_eq_true rfl, of_decide_eq_true rfl⟩ | omega) ?_
    | refine Len.mk ⟨_, by simp only [List.length_cons, List.length_nil, Nat.reduceAdd, Int.cast_ofNat_Int]; rfl, ?_⟩
    | refine Wr.lit _ (by simp only [Int.reduceAdd, Int.reduceSub, Int.reduceMul]; rfl) (by decide) ?_
    | refine Wr.fit (by omega) ?_
    | refine Wr.fit (by dsimp only; omega) ?_
    | refine Elem.mk ⟨_, ⟨of_decide_eq_true rfl, rfl⟩, ?_⟩
    | refine Len.map ?_
    | refine Len.dropM ?_
    | refine Elem.dropM ?_
    | refine Len.takeM ?_
    | refine Elem.takeM ?_
    | refine Elem.mapK (by assumption) ?_
    | refine Elem.mapI (by omega) (by assumption) ?_
    | refine Elem.mapN (by omega) (fun x hx => ?_)
    | refine Elem.map (by omega) (by omega) (fun x hx => ?_)
    | refine (bookMay_ok b).use ⟨rfl, ?_⟩
    | refine (refTasksCheck_ok l).use ⟨rfl, ?_⟩
    | refine (meterMay_ok x.m).use ⟨rfl, ?_⟩
    | refine (refFits_ok l x.s hl).use ⟨rfl, ?_⟩
    | refine CallX.mk ⟨_, _, (bookMay_ok b).x, rfl, ?_⟩
    | refine CallX.mk ⟨_, _, (refTasksCheck_ok l).x, rfl, ?_⟩
    | refine CallX.mk ⟨_, _, (meterMay_ok x.m).x, rfl, ?_⟩
    | refine CallX.mk ⟨_, _, (refFits_ok l x.s hl).x, rfl, ?_⟩
    | refine Done.mk ⟨rfl, rfl⟩
    | refine Done.mk ⟨congrArg gb ?_, rfl⟩
    | refine Done.mk ⟨?_, rfl⟩
    | refine Done.mk ⟨?_, ?_⟩)
  all_goals (unfold labErr spotErr; simp_all)

set_option maxRecDepth 100000 in
set_option maxHeartbeats 1000000 in
theorem wayStep_ok (b : Book) (l : List Task) (x : Lab) (k : Int) : ICalls Try.prog 63 [.agg (b.c ++ [.list 3 (tasks l) none] ++ x.c), gi k] [] (Done (lpair (lstep b l x k)) []) := by
  refine ICalls.of_body Try.func63 rfl Try.call63 rfl (Nat.le_of_ble_eq_true rfl) (fun _ => none) ?_
  repeat' ((conv => whnf); first
    | refine Br.yes rfl ?_
    | refine Br.no rfl ?_
    | refine Br.yes (beq_self_eq_true _) ?_
    | refine Br.not ?_
    | refine Br.yes (decide_eq_true (by assumption)) ?_
    | refine Br.no (decide_eq_false (by assumption)) ?_
    | refine Br.yes (beq_iff_eq.2 (by assumption)) ?_
    | refine Br.no (beq_eq_false_iff_ne.2 (by assumption)) ?_
    | refine Br.yes (bne_iff_ne.2 (by assumption)) ?_
    | (refine Br.dec (fun h => ?_) (fun h => ?_) <;> try dsimp only at h)
    | (refine Br.beqI (fun h => ?_) (fun h => ?_) <;> try dsimp only at h)
    | (refine Br.bneI (fun h => ?_) (fun h => ?_) <;> try dsimp only at h)
    | refine Br.mk (fun h => ?_) (fun h => ?_)
    | refine Need.mk (app_need (by first | (simp only [List.length_append, List.length_map, List.length_nil, List.length_cons, List.nil_append, Nat.zero_add, Nat.add_zero]; done) | (simp only [List.length_append, List.length_map, List.length_nil, List.length_cons, List.nil_append, Nat.zero_add, Nat.add_zero]; omega) | omega) (Nat.le_of_ble_eq_true rfl) (by first | (simp only [List.length_append, List.length_map, List.length_nil, List.length_cons, List.nil_append, Nat.zero_add, Nat.add_zero]; done) | (simp only [List.length_append, List.length_map, List.length_nil, List.length_cons, List.nil_append, Nat.zero_add, Nat.add_zero]; omega) | omega)) ?_
    | refine Need.mk (app_need0 (Nat.le_of_ble_eq_true rfl) (by first | (simp only [List.length_append, List.length_map, List.length_nil, List.length_cons, List.nil_append, Nat.zero_add, Nat.add_zero]; done) | (simp only [List.length_append, List.length_map, List.length_nil, List.length_cons, List.nil_append, Nat.zero_add, Nat.add_zero]; omega) | omega)) ?_
    | refine Need.mk (by first | kernel_rfl | exact ⟨of_decide_eq_true rfl, of_decide_eq_true rfl⟩ | omega) ?_
    | refine Len.mk ⟨_, by simp only [List.length_cons, List.length_nil, Nat.reduceAdd, Int.cast_ofNat_Int]; rfl, ?_⟩
    | refine Wr.lit _ (by simp only [Int.reduceAdd, Int.reduceSub, Int.reduceMul]; rfl) (by decide) ?_
    | refine Wr.fit (by omega) ?_
    | refine Wr.fit (by dsimp only; omega) ?_
    | refine Elem.mk ⟨_, ⟨of_decide_eq_true rfl, rfl⟩, ?_⟩
    | refine Len.map ?_
    | refine Len.dropM ?_
    | refine Elem.dropM ?_
    | refine Len.takeM ?_
    | refine Elem.takeM ?_
    | refine Elem.mapK (by assumption) ?_
    | refine Elem.mapI (by omega) (by assumption) ?_
    | refine Elem.mapN (by omega) (fun x hx => ?_)
    | refine Elem.map (by omega) (by omega) (fun x hx => ?_)
    | refine (step_ok b x.m k).use ⟨rfl, ?_⟩
    | refine (errStep_ok l x.s x.m.Now k).use ⟨rfl, ?_⟩
    | refine CallX.mk ⟨_, _, (step_ok b x.m k).x, rfl, ?_⟩
    | refine CallX.mk ⟨_, _, (errStep_ok l x.s x.m.Now k).x, rfl, ?_⟩
    | refine Done.mk ⟨rfl, rfl⟩
    | refine Done.mk ⟨congrArg gb ?_, rfl⟩
    | refine Done.mk ⟨?_, rfl⟩
    | refine Done.mk ⟨?_, ?_⟩)
  all_goals first
    | exact lpair_no (by unfold lOk; simp_all)
    | exact lpair_yes (by unfold lOk; simp_all)

set_option maxRecDepth 100000 in
set_option maxHeartbeats 1000000 in
theorem bound_ok (l : List Task) (x : Lab) : ICalls Try.prog 29 [.list 3 (tasks l) none, x.g] [] (Done (.tup [gi (if spotErr l x = 0 then x.m.Now + leftD l x.s + leftS l x.s else 0), gi (spotErr l x)]) []) := by
  by_cases he : spotErr l x = 0
  case neg =>
    rw [if_neg he]
    refine ICalls.of_body Try.func29 rfl Try.call29 rfl (Nat.le_of_ble_eq_true rfl) (fun _ => none) ?_
    repeat' ((conv => whnf); first
      | refine Br.yes rfl ?_
      | refine Br.no rfl ?_
      | refine Br.yes (beq_self_eq_true _) ?_
      | refine Br.not ?_
      | refine Br.yes (decide_eq_true (by assumption)) ?_
      | refine Br.no (decide_eq_false (by assumption)) ?_
      | refine Br.yes (beq_iff_eq.2 (by assumption)) ?_
      | refine Br.no (beq_eq_false_iff_ne.2 (by assumption)) ?_
      | refine Br.yes (bne_iff_ne.2 (by assumption)) ?_
      | (refine Br.dec (fun h => ?_) (fun h => ?_) <;> try dsimp only at h)
      | (refine Br.beqI (fun h => ?_) (fun h => ?_) <;> try dsimp only at h)
      | (refine Br.bneI (fun h => ?_) (fun h => ?_) <;> try dsimp only at h)
      | refine Br.mk (fun h => ?_) (fun h => ?_)
      | refine Need.mk (app_need (by first | (simp only [List.length_append, List.length_map, List.length_nil, List.length_cons, List.nil_append, Nat.zero_add, Nat.add_zero]; done) | (simp only [List.length_append, List.length_map, List.length_nil, List.length_cons, List.nil_append, Nat.zero_add, Nat.add_zero]; omega) | omega) (Nat.le_of_ble_eq_true rfl) (by first | (simp only [List.length_append, List.length_map, List.length_nil, List.length_cons, List.nil_append, Nat.zero_add, Nat.add_zero]; done) | (simp only [List.length_append, List.length_map, List.length_nil, List.length_cons, List.nil_append, Nat.zero_add, Nat.add_zero]; omega) | omega)) ?_
      | refine Need.mk (app_need0 (Nat.le_of_ble_eq_true rfl) (by first | (simp only [List.length_append, List.length_map, List.length_nil, List.length_cons, List.nil_append, Nat.zero_add, Nat.add_zero]; done) | (simp only [List.length_append, List.length_map, List.length_nil, List.length_cons, List.nil_append, Nat.zero_add, Nat.add_zero]; omega) | omega)) ?_
      | refine Need.mk (by first | kernel_rfl | exact ⟨of_decide_eq_true rfl, of_decide_eq_true rfl⟩ | omega) ?_
      | refine Len.mk ⟨_, by simp only [List.length_cons, List.length_nil, Nat.reduceAdd, Int.cast_ofNat_Int]; rfl, ?_⟩
      | refine Wr.lit _ (by simp only [Int.reduceAdd, Int.reduceSub, Int.reduceMul]; rfl) (by decide) ?_
      | refine Wr.fit (by omega) ?_
      | refine Wr.fit (by dsimp only; omega) ?_
      | refine Elem.mk ⟨_, ⟨of_decide_eq_true rfl, rfl⟩, ?_⟩
      | refine Len.map ?_
      | refine Len.dropM ?_
      | refine Elem.dropM ?_
      | refine Len.takeM ?_
      | refine Elem.takeM ?_
      | refine Elem.mapK (by assumption) ?_
      | refine Elem.mapI (by omega) (by assumption) ?_
      | refine Elem.mapN (by omega) (fun x hx => ?_)
      | refine Elem.map (by omega) (by omega) (fun x hx => ?_)
      | refine (labSpot_ok l x).use ⟨rfl, ?_⟩
      | refine CallX.mk ⟨_, _, (labSpot_ok l x).x, rfl, ?_⟩
      | refine Done.mk ⟨rfl, rfl⟩
      | refine Done.mk ⟨congrArg gb ?_, rfl⟩
      | refine Done.mk ⟨?_, rfl⟩
      | refine Done.mk ⟨?_, ?_⟩)
  case pos =>
    rw [if_pos he, he]
    obtain ⟨h1, h2, h3⟩ := spotErr_0 he
    have hc : errCheck l x.s = 0 := by unfold errCheck; simp [h1, h3]
    have hleft := errLeft_ok l x.s
    rw [if_pos hc] at hleft
    have hn := h2.now
    have hr := left_room h1 h3
    refine ICalls.of_body Try.func29 rfl Try.call29 rfl (Nat.le_of_ble_eq_true rfl) (fun _ => none) ?_
    repeat' ((conv => whnf); first
      | refine Br.yes rfl ?_
      | refine Br.no rfl ?_
      | refine Br.yes (beq_self_eq_true _) ?_
      | refine Br.not ?_
      | refine Br.yes (decide_eq_true (by assumption)) ?_
      | refine Br.no (decide_eq_false (by assumption)) ?_
      | refine Br.yes (beq_iff_eq.2 (by assumption)) ?_
      | refine Br.no (beq_eq_false_iff_ne.2 (by assumption)) ?_
      | refine Br.yes (bne_iff_ne.2 (by assumption)) ?_
      | (refine Br.dec (fun h => ?_) (fun h => ?_) <;> try dsimp only at h)
      | (refine Br.beqI (fun h => ?_) (fun h => ?_) <;> try dsimp only at h)
      | (refine Br.bneI (fun h => ?_) (fun h => ?_) <;> try dsimp only at h)
      | refine Br.mk (fun h => ?_) (fun h => ?_)
      | refine Need.mk (app_need (by first | (simp only [List.length_append, List.length_map, List.length_nil, List.length_cons, List.nil_append, Nat.zero_add, Nat.add_zero]; done) | (simp only [List.length_append, List.length_map, List.length_nil, List.length_cons, List.nil_append, Nat.zero_add, Nat.add_zero]; omega) | omega) (Nat.le_of_ble_eq_true rfl) (by first | (simp only [List.length_append, List.length_map, List.length_nil, List.length_cons, List.nil_append, Nat.zero_add, Nat.add_zero]; done) | (simp only [List.length_append, List.length_map, List.length_nil, List.length_cons, List.nil_append, Nat.zero_add, Nat.add_zero]; omega) | omega)) ?_
      | refine Need.mk (app_need0 (Nat.le_of_ble_eq_true rfl) (by first | (simp only [List.length_append, List.length_map, List.length_nil, List.length_cons, List.nil_append, Nat.zero_add, Nat.add_zero]; done) | (simp only [List.length_append, List.length_map, List.length_nil, List.length_cons, List.nil_append, Nat.zero_add, Nat.add_zero]; omega) | omega)) ?_
      | refine Need.mk (by first | kernel_rfl | exact ⟨of_decide_eq_true rfl, of_decide_eq_true rfl⟩ | omega) ?_
      | refine Len.mk ⟨_, by simp only [List.length_cons, List.length_nil, Nat.reduceAdd, Int.cast_ofNat_Int]; rfl, ?_⟩
      | refine Wr.lit _ (by simp only [Int.reduceAdd, Int.reduceSub, Int.reduceMul]; rfl) (by decide) ?_
      | refine Wr.fit (by omega) ?_
      | refine Wr.fit (by dsimp only; omega) ?_
      | refine Elem.mk ⟨_, ⟨of_decide_eq_true rfl, rfl⟩, ?_⟩
      | refine Len.map ?_
      | refine Len.dropM ?_
      | refine Elem.dropM ?_
      | refine Len.takeM ?_
      | refine Elem.takeM ?_
      | refine Elem.mapK (by assumption) ?_
      | refine Elem.mapI (by omega) (by assumption) ?_
      | refine Elem.mapN (by omega) (fun x hx => ?_)
      | refine Elem.map (by omega) (by omega) (fun x hx => ?_)
      | refine ((labSpot_ok l x).to (congrArg gi he)).use ⟨rfl, ?_⟩
      | refine (hleft).use ⟨rfl, ?_⟩
      | refine CallX.mk ⟨_, _, ((labSpot_ok l x).to (congrArg gi he)).x, rfl, ?_⟩
      | refine CallX.mk ⟨_, _, (hleft).x, rfl, ?_⟩
      | refine Done.mk ⟨rfl, rfl⟩
      | refine Done.mk ⟨congrArg gb ?_, rfl⟩
      | refine Done.mk ⟨?_, rfl⟩
      | refine Done.mk ⟨?_, ?_⟩)

/-- The minutes that may follow, by the reference. -/
theorem lstep_eq {b : Book} {l : List Task} {x : Lab} {k : Int} (he : labErr b l x = 0) (hk : 0 ≤ k ∧ k < 4) : lstep b l x k =
    if x.m.Now < 40320 ∧ stepR b x.m k = 0 ∧ (minuteS l x.s x.m.Now k).2 = ⟨false, false, false, false⟩ then (⟨x.m.step b k, (minuteS l x.s x.m.Now k).1⟩, true) else (Lab.zero, false) := by
  obtain ⟨hb, h2⟩ := labErr_0 he
  obtain ⟨h3, h4, h5⟩ := spotErr_0 h2
  have hn := h4.now
  have hc : errCheck l x.s = 0 := by unfold errCheck; simp [h3, h5]
  have e := run1 hb h4 k
  rw [if_neg (by omega)] at e
  unfold lstep lOk stepSpot stepSet
  by_cases hx : x.m.Now = 40320
  · rw [if_pos hx] at e
    rw [e]
    simp [hx]
  · rw [if_neg hx] at e
    rw [e]
    have hs : stepErr l x.s x.m.Now k = 0 := by
      unfold stepErr
      rw [if_neg (by simp [hc]), if_neg (by omega), if_neg (by omega)]
    rw [hs]
    simp only [if_true]
    have hz : ∀ q : B4, setB q = 0 ↔ q = ⟨false, false, false, false⟩ := by
      rintro ⟨b0, b1, b2, b3⟩
      revert b0 b1 b2 b3
      decide +kernel
    have hlt : x.m.Now < 40320 := by omega
    by_cases h6 : stepR b x.m k = 0 <;> by_cases h7 : (minuteS l x.s x.m.Now k).2 = ⟨false, false, false, false⟩
    · simp [h6, h7, hlt, (hz _).2 rfl]
    · have : setB (minuteS l x.s x.m.Now k).2 ≠ 0 := fun e => h7 ((hz _).1 e)
      simp [h6, h7, this]
    · simp [h6]
    · simp [h6]

set_option maxRecDepth 100000 in
set_option maxHeartbeats 1000000 in
theorem refLabStep_ok (b : Book) (l : List Task) (x : Lab) (k : Int) (he : labErr b l x = 0) (hk : 0 ≤ k ∧ k < 4) : ICalls Try.prog 37 [b.g, .list 3 (tasks l) none, x.g, gi k] [] (Done (lpair (lstep b l x k)) []) := by
  obtain ⟨hb, h2⟩ := labErr_0 he
  obtain ⟨h3, h4, h5⟩ := spotErr_0 h2
  have hc : errCheck l x.s = 0 := by unfold errCheck; simp [h3, h5]
  rw [lstep_eq he hk]
  by_cases hn : x.m.Now < 40320
  case neg =>
    rw [if_neg (by omega)]
    refine ICalls.of_body Try.func37 rfl Try.call37 rfl (Nat.le_of_ble_eq_true rfl) (fun _ => none) ?_
    repeat' ((conv => whnf); first
      | refine Br.yes rfl ?_
      | refine Br.no rfl ?_
      | refine Br.yes (beq_self_eq_true _) ?_
      | refine Br.not ?_
      | refine Br.yes (decide_eq_true (by assumption)) ?_
      | refine Br.no (decide_eq_false (by assumption)) ?_
      | refine Br.yes (beq_iff_eq.2 (by assumption)) ?_
      | refine Br.no (beq_eq_false_iff_ne.2 (by assumption)) ?_
      | refine Br.yes (bne_iff_ne.2 (by assumption)) ?_
      | (refine Br.dec (fun h => ?_) (fun h => ?_) <;> try dsimp only at h)
      | (refine Br.beqI (fun h => ?_) (fun h => ?_) <;> try dsimp only at h)
      | (refine Br.bneI (fun h => ?_) (fun h => ?_) <;> try dsimp only at h)
      | refine Br.mk (fun h => ?_) (fun h => ?_)
      | refine Need.mk (app_need (by first | (simp only [List.length_append, List.length_map, List.length_nil, List.length_cons, List.nil_append, Nat.zero_add, Nat.add_zero]; done) | (simp only [List.length_append, List.length_map, List.length_nil, List.length_cons, List.nil_append, Nat.zero_add, Nat.add_zero]; omega) | omega) (Nat.le_of_ble_eq_true rfl) (by first | (simp only [List.length_append, List.length_map, List.length_nil, List.length_cons, List.nil_append, Nat.zero_add, Nat.add_zero]; done) | (simp only [List.length_append, List.length_map, List.length_nil, List.length_cons, List.nil_append, Nat.zero_add, Nat.add_zero]; omega) | omega)) ?_
      | refine Need.mk (app_need0 (Nat.le_of_ble_eq_true rfl) (by first | (simp only [List.length_append, List.length_map, List.length_nil, List.length_cons, List.nil_append, Nat.zero_add, Nat.add_zero]; done) | (simp only [List.length_append, List.length_map, List.length_nil, List.length_cons, List.nil_append, Nat.zero_add, Nat.add_zero]; omega) | omega)) ?_
      | refine Need.mk (by first | kernel_rfl | exact ⟨of_decide_eq_true rfl, of_decide_eq_true rfl⟩ | omega) ?_
      | refine Len.mk ⟨_, by simp only [List.length_cons, List.length_nil, Nat.reduceAdd, Int.cast_ofNat_Int]; rfl, ?_⟩
      | refine Wr.lit _ (by simp only [Int.reduceAdd, Int.reduceSub, Int.reduceMul]; rfl) (by decide) ?_
      | refine Wr.fit (by omega) ?_
      | refine Wr.fit (by dsimp only; omega) ?_
      | refine Elem.mk ⟨_, ⟨of_decide_eq_true rfl, rfl⟩, ?_⟩
      | refine Len.map ?_
      | refine Len.dropM ?_
      | refine Elem.dropM ?_
      | refine Len.takeM ?_
      | refine Elem.takeM ?_
      | refine Elem.mapK (by assumption) ?_
      | refine Elem.mapI (by omega) (by assumption) ?_
      | refine Elem.mapN (by omega) (fun x hx => ?_)
      | refine Elem.map (by omega) (by omega) (fun x hx => ?_)
      | refine Done.mk ⟨rfl, rfl⟩
      | refine Done.mk ⟨congrArg gb ?_, rfl⟩
      | refine Done.mk ⟨?_, rfl⟩
      | refine Done.mk ⟨?_, ?_⟩)
    all_goals (exfalso; omega)
  case pos =>
    have hm := refStep_ok b x.m k hb h4 (by omega)
    have hs := refStep19_ok l x.s x.m.Now k hc
    generalize hm2 : minuteS l x.s x.m.Now k = q at *
    obtain ⟨y, b0, b1, b2, b3⟩ := q
    generalize stepR b x.m k = br at *
    generalize x.m.step b k = mm at *
    refine ICalls.of_body Try.func37 rfl Try.call37 rfl (Nat.le_of_ble_eq_true rfl) (fun _ => none) ?_
    repeat' ((conv => whnf); first
      | refine Br.yes rfl ?_
      | refine Br.no rfl ?_
      | refine Br.yes (beq_self_eq_true _) ?_
      | refine Br.not ?_
      | refine Br.yes (decide_eq_true (by assumption)) ?_
      | refine Br.no (decide_eq_false (by assumption)) ?_
      | refine Br.yes (beq_iff_eq.2 (by assumption)) ?_
      | refine Br.no (beq_eq_false_iff_ne.2 (by assumption)) ?_
      | refine Br.yes (bne_iff_ne.2 (by assumption)) ?_
      | (refine Br.dec (fun h => ?_) (fun h => ?_) <;> try dsimp only at h)
      | (refine Br.beqI (fun h => ?_) (fun h => ?_) <;> try dsimp only at h)
      | (refine Br.bneI (fun h => ?_) (fun h => ?_) <;> try dsimp only at h)
      | refine Br.mk (fun h => ?_) (fun h => ?_)
      | refine Need.mk (app_need (by first | (simp only [List.length_append, List.length_map, List.length_nil, List.length_cons, List.nil_append, Nat.zero_add, Nat.add_zero]; done) | (simp only [List.length_append, List.length_map, List.length_nil, List.length_cons, List.nil_append, Nat.zero_add, Nat.add_zero]; omega) | omega) (Nat.le_of_ble_eq_true rfl) (by first | (simp only [List.length_append, List.length_map, List.length_nil, List.length_cons, List.nil_append, Nat.zero_add, Nat.add_zero]; done) | (simp only [List.length_append, List.length_map, List.length_nil, List.length_cons, List.nil_append, Nat.zero_add, Nat.add_zero]; omega) | omega)) ?_
      | refine Need.mk (app_need0 (Nat.le_of_ble_eq_true rfl) (by first | (simp only [List.length_append, List.length_map, List.length_nil, List.length_cons, List.nil_append, Nat.zero_add, Nat.add_zero]; done) | (simp only [List.length_append, List.length_map, List.length_nil, List.length_cons, List.nil_append, Nat.zero_add, Nat.add_zero]; omega) | omega)) ?_
      | refine Need.mk (by first | kernel_rfl | exact ⟨of_decide_eq_true rfl, of_decide_eq_true rfl⟩ | omega) ?_
      | refine Len.mk ⟨_, by simp only [List.length_cons, List.length_nil, Nat.reduceAdd, Int.cast_ofNat_Int]; rfl, ?_⟩
      | refine Wr.lit _ (by simp only [Int.reduceAdd, Int.reduceSub, Int.reduceMul]; rfl) (by decide) ?_
      | refine Wr.fit (by omega) ?_
      | refine Wr.fit (by dsimp only; omega) ?_
      | refine Elem.mk ⟨_, ⟨of_decide_eq_true rfl, rfl⟩, ?_⟩
      | refine Len.map ?_
      | refine Len.dropM ?_
      | refine Elem.dropM ?_
      | refine Len.takeM ?_
      | refine Elem.takeM ?_
      | refine Elem.mapK (by assumption) ?_
      | refine Elem.mapI (by omega) (by assumption) ?_
      | refine Elem.mapN (by omega) (fun x hx => ?_)
      | refine Elem.map (by omega) (by omega) (fun x hx => ?_)
      | refine (hm).use ⟨rfl, ?_⟩
      | refine (hs).use ⟨rfl, ?_⟩
      | refine CallX.mk ⟨_, _, (hm).x, rfl, ?_⟩
      | refine CallX.mk ⟨_, _, (hs).x, rfl, ?_⟩
      | refine Done.mk ⟨rfl, rfl⟩
      | refine Done.mk ⟨congrArg gb ?_, rfl⟩
      | refine Done.mk ⟨?_, rfl⟩
      | refine Done.mk ⟨?_, ?_⟩)
    all_goals (clear hm hs; split <;> first | rfl | (exfalso; omega) | (exfalso; simp_all; done) | (exfalso; simp_all; omega))

set_option maxRecDepth 100000 in
set_option maxHeartbeats 1000000 in
theorem refBound_ok (l : List Task) (x : Lab) (he : spotErr l x = 0) : ICalls Try.prog 34 [.list 3 (tasks l) none, x.g] [] (Done (gi (x.m.Now + leftD l x.s + leftS l x.s)) []) := by
  obtain ⟨h1, h2, h3⟩ := spotErr_0 he
  have hc : errCheck l x.s = 0 := by unfold errCheck; simp [h1, h3]
  have hn := h2.now
  have hr := left_room h1 h3
  refine ICalls.of_body Try.func34 rfl Try.call34 rfl (Nat.le_of_ble_eq_true rfl) (fun _ => none) ?_
  repeat' ((conv => whnf); first
    | refine Br.yes rfl ?_
    | refine Br.no rfl ?_
    | refine Br.yes (beq_self_eq_true _) ?_
    | refine Br.not ?_
    | refine Br.yes (decide_eq_true (by assumption)) ?_
    | refine Br.no (decide_eq_false (by assumption)) ?_
    | refine Br.yes (beq_iff_eq.2 (by assumption)) ?_
    | refine Br.no (beq_eq_false_iff_ne.2 (by assumption)) ?_
    | refine Br.yes (bne_iff_ne.2 (by assumption)) ?_
    | (refine Br.dec (fun h => ?_) (fun h => ?_) <;> try dsimp only at h)
    | (refine Br.beqI (fun h => ?_) (fun h => ?_) <;> try dsimp only at h)
    | (refine Br.bneI (fun h => ?_) (fun h => ?_) <;> try dsimp only at h)
    | refine Br.mk (fun h => ?_) (fun h => ?_)
    | refine Need.mk (app_need (by first | (simp only [List.length_append, List.length_map, List.length_nil, List.length_cons, List.nil_append, Nat.zero_add, Nat.add_zero]; done) | (simp only [List.length_append, List.length_map, List.length_nil, List.length_cons, List.nil_append, Nat.zero_add, Nat.add_zero]; omega) | omega) (Nat.le_of_ble_eq_true rfl) (by first | (simp only [List.length_append, List.length_map, List.length_nil, List.length_cons, List.nil_append, Nat.zero_add, Nat.add_zero]; done) | (simp only [List.length_append, List.length_map, List.length_nil, List.length_cons, List.nil_append, Nat.zero_add, Nat.add_zero]; omega) | omega)) ?_
    | refine Need.mk (app_need0 (Nat.le_of_ble_eq_true rfl) (by first | (simp only [List.length_append, List.length_map, List.length_nil, List.length_cons, List.nil_append, Nat.zero_add, Nat.add_zero]; done) | (simp only [List.length_append, List.length_map, List.length_nil, List.length_cons, List.nil_append, Nat.zero_add, Nat.add_zero]; omega) | omega)) ?_
    | refine Need.mk (by first | kernel_rfl | exact ⟨of_decide_eq_true rfl, of_decide_eq_true rfl⟩ | omega) ?_
    | refine Len.mk ⟨_, by simp only [List.length_cons, List.length_nil, Nat.reduceAdd, Int.cast_ofNat_Int]; rfl, ?_⟩
    | refine Wr.lit _ (by simp only [Int.reduceAdd, Int.reduceSub, Int.reduceMul]; rfl) (by decide) ?_
    | refine Wr.fit (by omega) ?_
    | refine Wr.fit (by dsimp only; omega) ?_
    | refine Elem.mk ⟨_, ⟨of_decide_eq_true rfl, rfl⟩, ?_⟩
    | refine Len.map ?_
    | refine Len.dropM ?_
    | refine Elem.dropM ?_
    | refine Len.takeM ?_
    | refine Elem.takeM ?_
    | refine Elem.mapK (by assumption) ?_
    | refine Elem.mapI (by omega) (by assumption) ?_
    | refine Elem.mapN (by omega) (fun x hx => ?_)
    | refine Elem.map (by omega) (by omega) (fun x hx => ?_)
    | refine (refErrLeft_ok l x.s hc).use ⟨rfl, ?_⟩
    | refine CallX.mk ⟨_, _, (refErrLeft_ok l x.s hc).x, rfl, ?_⟩
    | refine Done.mk ⟨rfl, rfl⟩
    | refine Done.mk ⟨congrArg gb ?_, rfl⟩
    | refine Done.mk ⟨?_, rfl⟩
    | refine Done.mk ⟨?_, ?_⟩)

end Go.Hl

/- Labels: ways, plays; the chapter's laws.  -/
set_option linter.unusedVariables false
set_option linter.unusedSimpArgs false
namespace Go.Hl
open Go.Gh Go.Proofs

def nextOf (k : Int) (p : Lab × Bool) : List GV := if p.2 then [.agg (gi k :: p.1.c)] else []
def waysL (b : Book) (l : List Task) (x : Lab) : List GV := nextOf 3 (lstep b l x 3) ++ (nextOf 2 (lstep b l x 2) ++ (nextOf 0 (lstep b l x 0) ++ nextOf 1 (lstep b l x 1)))
def playN (b : Book) (l : List Task) : List Int → Lab → Lab × Bool
  | [], x => (x, true)
  | k :: r, x => if (lstep b l x k).2 = true then playN b l r (lstep b l x k).1 else (Lab.zero, false)

def pl_E6_1 : Nat → Option (List Nat × List Nat) := (fun k => bif Nat.beq k 2000001 then some ([1000001, 1, 3, 5], [103, 105]) else bif Nat.beq k 7 then some ([1000007, 9, 10, 27, 28], [110, 143]) else none)
def pl_E6_2 : Nat → Option (List Nat × List Nat) := (fun k => bif Nat.beq k 7 then some ([1000007, 9, 10, 27, 28], [110, 143]) else none)
set_option maxRecDepth 100000 in
set_option maxHeartbeats 1000000 in
theorem ways_ok (b : Book) (l : List Task) (x : Lab) : ICalls Try.prog 28 [b.g, .list 3 (tasks l) none, x.g] [] (Done (.tup [.list 18 (if labErr b l x = 0 then waysL b l x else []) none, gi (labErr b l x)]) []) := by
  by_cases he : labErr b l x = 0
  case neg =>
    rw [if_neg he]
    refine ICalls.of_body Try.func28 rfl Try.call28 rfl (Nat.le_of_ble_eq_true rfl) pl_E6_1 ?_
    repeat' ((conv => whnf); first
      | refine Br.yes rfl ?_
      | refine Br.no rfl ?_
      | (refine Join.ov 1000001 (fun (_ : Unit) => [(3, .ptr 103 0), (5, .ptr 105 0)]) (fun (_ : Unit) => [(103, .cells (b.c)), (105, .cells (x.c))]) (fun (_ : Unit) => True) ?_; (conv => whnf); refine Meeting.mk ?_ ?_; rotate_left; rintro _ _)
      | (refine Meets.mk ⟨(()), rfl, ?_⟩ <;> try dsimp only)
      | refine Br.yes (beq_self_eq_true _) ?_
      | refine Br.not ?_
      | refine Br.yes (decide_eq_true (by assumption)) ?_
      | refine Br.no (decide_eq_false (by assumption)) ?_
      | refine Br.yes (beq_iff_eq.2 (by assumption)) ?_
      | refine Br.no (beq_eq_false_iff_ne.2 (by assumption)) ?_
      | refine Br.yes (bne_iff_ne.2 (by assumption)) ?_
      | (refine Br.dec (fun h => ?_) (fun h => ?_) <;> try dsimp only at h)
      | (refine Br.beqI (fun h => ?_) (fun h => ?_) <;> try dsimp only at h)
      | (refine Br.bneI (fun h => ?_) (fun h => ?_) <;> try dsimp only at h)
      | refine Br.mk (fun h => ?_) (fun h => ?_)
      | refine Need.mk (app_need (by first | (simp only [List.length_append, List.length_map, List.length_nil, List.length_cons, List.nil_append, Nat.zero_add, Nat.add_zero]; done) | (simp only [List.length_append, List.length_map, List.length_nil, List.length_cons, List.nil_append, Nat.zero_add, Nat.add_zero]; omega) | omega) (Nat.le_of_ble_eq_true rfl) (by first | (simp only [List.length_append, List.length_map, List.length_nil, List.length_cons, List.nil_append, Nat.zero_add, Nat.add_zero]; done) | (simp only [List.length_append, List.length_map, List.length_nil, List.length_cons, List.nil_append, Nat.zero_add, Nat.add_zero]; omega) | omega)) ?_
      | refine Need.mk (app_need0 (Nat.le_of_ble_eq_true rfl) (by first | (simp only [List.length_append, List.length_map, List.length_nil, List.length_cons, List.nil_append, Nat.zero_add, Nat.add_zero]; done) | (simp only [List.length_append, List.length_map, List.length_nil, List.length_cons, List.nil_append, Nat.zero_add, Nat.add_zero]; omega) | omega)) ?_
      | refine Need.mk (by first | kernel_rfl | exact ⟨of_decide_eq_true rfl, of_decide_eq_true rfl⟩ | omega) ?_
      | refine Len.mk ⟨_, by simp only [List.length_cons, List.length_nil, Nat.reduceAdd, Int.cast_ofNat_Int]; rfl, ?_⟩
      | refine Wr.lit _ (by simp only [Int.reduceAdd, Int.reduceSub, Int.reduceMul]; rfl) (by decide) ?_
      | refine Wr.fit (by omega) ?_
      | refine Wr.fit (by dsimp only; omega) ?_
      | refine Elem.mk ⟨_, ⟨of_decide_eq_true rfl, rfl⟩, ?_⟩
      | refine Len.map ?_
      | refine Len.dropM ?_
      | refine Elem.dropM ?_
      | refine Len.takeM ?_
      | refine Elem.takeM ?_
      | refine Elem.mapK (by assumption) ?_
      | refine Elem.mapI (by omega) (by assumption) ?_
      | refine Elem.mapN (by omega) (fun x hx => ?_)
      | refine Elem.map (by omega) (by omega) (fun x hx => ?_)
      | refine (labCheck_ok b l x).use ⟨rfl, ?_⟩
      | refine CallX.mk ⟨_, _, (labCheck_ok b l x).x, rfl, ?_⟩
      | refine Done.mk ⟨rfl, rfl⟩
      | refine Done.mk ⟨congrArg gb ?_, rfl⟩
      | refine Done.mk ⟨?_, rfl⟩
      | refine Done.mk ⟨?_, ?_⟩)
  case pos =>
    rw [if_pos he, he]
    have hc := (labCheck_ok b l x).to (congrArg gi he)
    have w3 := wayStep_ok b l x 3
    have w2 := wayStep_ok b l x 2
    have w0 := wayStep_ok b l x 0
    have w1 := wayStep_ok b l x 1
    unfold waysL
    generalize lstep b l x 3 = p3 at *
    generalize lstep b l x 2 = p2 at *
    generalize lstep b l x 0 = p0 at *
    generalize lstep b l x 1 = p1 at *
    obtain ⟨y3, i3⟩ := p3
    obtain ⟨y2, i2⟩ := p2
    obtain ⟨y0, i0⟩ := p0
    obtain ⟨y1, i1⟩ := p1
    clear he
    cases i3 <;> cases i2 <;> cases i0 <;> cases i1
    all_goals
      refine ICalls.of_body Try.func28 rfl Try.call28 rfl (Nat.le_of_ble_eq_true rfl) pl_E6_2 ?_
      repeat' ((conv => whnf); first
        | refine Br.yes rfl ?_
        | refine Br.no rfl ?_
        | refine Br.yes (beq_self_eq_true _) ?_
        | refine Br.not ?_
        | refine Br.yes (decide_eq_true (by assumption)) ?_
        | refine Br.no (decide_eq_false (by assumption)) ?_
        | refine Br.yes (beq_iff_eq.2 (by assumption)) ?_
        | refine Br.no (beq_eq_false_iff_ne.2 (by assumption)) ?_
        | refine Br.yes (bne_iff_ne.2 (by assumption)) ?_
        | (refine Br.dec (fun h => ?_) (fun h => ?_) <;> try dsimp only at h)
        | (refine Br.beqI (fun h => ?_) (fun h => ?_) <;> try dsimp only at h)
        | (refine Br.bneI (fun h => ?_) (fun h => ?_) <;> try dsimp only at h)
        | refine Br.mk (fun h => ?_) (fun h => ?_)
        | refine Need.mk (app_need (by first | (simp only [List.length_append, List.length_map, List.length_nil, List.length_cons, List.nil_append, Nat.zero_add, Nat.add_zero]; done) | (simp only [List.length_append, List.length_map, List.length_nil, List.length_cons, List.nil_append, Nat.zero_add, Nat.add_zero]; omega) | omega) (Nat.le_of_ble_eq_true rfl) (by first | (simp only [List.length_append, List.length_map, List.length_nil, List.length_cons, List.nil_append, Nat.zero_add, Nat.add_zero]; done) | (simp only [List.length_append, List.length_map, List.length_nil, List.length_cons, List.nil_append, Nat.zero_add, Nat.add_zero]; omega) | omega)) ?_
        | refine Need.mk (app_need0 (Nat.le_of_ble_eq_true rfl) (by first | (simp only [List.length_append, List.length_map, List.length_nil, List.length_cons, List.nil_append, Nat.zero_add, Nat.add_zero]; done) | (simp only [List.length_append, List.length_map, List.length_nil, List.length_cons, List.nil_append, Nat.zero_add, Nat.add_zero]; omega) | omega)) ?_
        | refine Need.mk (by first | kernel_rfl | exact ⟨of_decide_eq_true rfl, of_decide_eq_true rfl⟩ | omega) ?_
        | refine Len.mk ⟨_, by simp only [List.length_cons, List.length_nil, Nat.reduceAdd, Int.cast_ofNat_Int]; rfl, ?_⟩
        | refine Wr.lit _ (by simp only [Int.reduceAdd, Int.reduceSub, Int.reduceMul]; rfl) (by decide) ?_
        | refine Wr.fit (by omega) ?_
        | refine Wr.fit (by dsimp only; omega) ?_
        | refine Elem.mk ⟨_, ⟨of_decide_eq_true rfl, rfl⟩, ?_⟩
        | refine Len.map ?_
        | refine Len.dropM ?_
        | refine Elem.dropM ?_
        | refine Len.takeM ?_
        | refine Elem.takeM ?_
        | refine Elem.mapK (by assumption) ?_
        | refine Elem.mapI (by omega) (by assumption) ?_
        | refine Elem.mapN (by omega) (fun x hx => ?_)
        | refine Elem.map (by omega) (by omega) (fun x hx => ?_)
        | refine (hc).use ⟨rfl, ?_⟩
        | refine (w3).use ⟨rfl, ?_⟩
        | refine (w2).use ⟨rfl, ?_⟩
        | refine (w0).use ⟨rfl, ?_⟩
        | refine (w1).use ⟨rfl, ?_⟩
        | refine CallX.mk ⟨_, _, (hc).x, rfl, ?_⟩
        | refine CallX.mk ⟨_, _, (w3).x, rfl, ?_⟩
        | refine CallX.mk ⟨_, _, (w2).x, rfl, ?_⟩
        | refine CallX.mk ⟨_, _, (w0).x, rfl, ?_⟩
        | refine CallX.mk ⟨_, _, (w1).x, rfl, ?_⟩
        | refine ILoop.unroll 5 ?_
        | refine Done.mk ⟨rfl, rfl⟩
        | refine Done.mk ⟨congrArg gb ?_, rfl⟩
        | refine Done.mk ⟨?_, rfl⟩
        | refine Done.mk ⟨?_, ?_⟩)

theorem play_step {b : Book} {l : List Task} {ks : List Int} {i : Nat} {k : Int} {x : Lab} {R : Lab × Bool} (hr : playN b l (ks.drop i) x = R) (hk : ks[i]? = some k) (h : (lstep b l x k).2 = true) : playN b l (ks.drop (i + 1)) (lstep b l x k).1 = R := by
  rw [drop_of_get hk, playN, if_pos h] at hr; exact hr
theorem play_stop {b : Book} {l : List Task} {ks : List Int} {i : Nat} {k : Int} {x : Lab} {R : Lab × Bool} (hr : playN b l (ks.drop i) x = R) (hk : ks[i]? = some k) (h : (lstep b l x k).2 = false) : (Lab.zero, false) = R := by
  rw [drop_of_get hk, playN, if_neg (by simp [h])] at hr; exact hr
theorem play_end {b : Book} {l : List Task} {ks : List Int} {i : Nat} {x : Lab} {R : Lab × Bool} (hr : playN b l (ks.drop i) x = R) (h : ¬ (i : Int) < ks.length) : (x, true) = R := by
  rw [List.drop_eq_nil_of_le (by omega), playN] at hr; exact hr
def play3 (p : Lab × Bool) (e : Int) : GV := .tup [p.1.g, gb p.2, gi e]

def pl_E6_3 : Nat → Option (List Nat × List Nat) := (fun k => bif Nat.beq k 5 then some ([1000005, 1, 4, 6, 8, 24, 25, 26], [104, 106, 108]) else none)
def pl_E6_4 : Nat → Option (List Nat × List Nat) := (fun k => bif Nat.beq k 5 then some ([1000005, 1, 4, 6, 8, 24, 25, 26], [104, 106, 108]) else none)
set_option maxRecDepth 100000 in
set_option maxHeartbeats 1000000 in
theorem play_ok (b : Book) (l : List Task) (x : Lab) (ks : List Int) (hl : (ks.length : Int) ≤ 1000000000) : ICalls Try.prog 30 [b.g, .list 3 (tasks l) none, x.g, .list 1 (ints ks) none] [] (Done (play3 (if labErr b l x = 0 then playN b l ks x else (Lab.zero, false)) (labErr b l x)) []) := by
  by_cases he : labErr b l x = 0
  case neg =>
    rw [if_neg he]
    refine ICalls.of_body Try.func30 rfl Try.call30 rfl (Nat.le_of_ble_eq_true rfl) pl_E6_3 ?_
    repeat' ((conv => whnf); first
      | refine Br.yes rfl ?_
      | refine Br.no rfl ?_
      | refine Br.yes (beq_self_eq_true _) ?_
      | refine Br.not ?_
      | refine Br.yes (decide_eq_true (by assumption)) ?_
      | refine Br.no (decide_eq_false (by assumption)) ?_
      | refine Br.yes (beq_iff_eq.2 (by assumption)) ?_
      | refine Br.no (beq_eq_false_iff_ne.2 (by assumption)) ?_
      | refine Br.yes (bne_iff_ne.2 (by assumption)) ?_
      | (refine Br.dec (fun h => ?_) (fun h => ?_) <;> try dsimp only at h)
      | (refine Br.beqI (fun h => ?_) (fun h => ?_) <;> try dsimp only at h)
      | (refine Br.bneI (fun h => ?_) (fun h => ?_) <;> try dsimp only at h)
      | refine Br.mk (fun h => ?_) (fun h => ?_)
      | refine Need.mk (app_need (by first | (simp only [List.length_append, List.length_map, List.length_nil, List.length_cons, List.nil_append, Nat.zero_add, Nat.add_zero]; done) | (simp only [List.length_append, List.length_map, List.length_nil, List.length_cons, List.nil_append, Nat.zero_add, Nat.add_zero]; omega) | omega) (Nat.le_of_ble_eq_true rfl) (by first | (simp only [List.length_append, List.length_map, List.length_nil, List.length_cons, List.nil_append, Nat.zero_add, Nat.add_zero]; done) | (simp only [List.length_append, List.length_map, List.length_nil, List.length_cons, List.nil_append, Nat.zero_add, Nat.add_zero]; omega) | omega)) ?_
      | refine Need.mk (app_need0 (Nat.le_of_ble_eq_true rfl) (by first | (simp only [List.length_append, List.length_map, List.length_nil, List.length_cons, List.nil_append, Nat.zero_add, Nat.add_zero]; done) | (simp only [List.length_append, List.length_map, List.length_nil, List.length_cons, List.nil_append, Nat.zero_add, Nat.add_zero]; omega) | omega)) ?_
      | refine Need.mk (by first | kernel_rfl | exact ⟨of_decide_eq_true rfl, of_decide_eq_true rfl⟩ | omega) ?_
      | refine Len.mk ⟨_, by simp only [List.length_cons, List.length_nil, Nat.reduceAdd, Int.cast_ofNat_Int]; rfl, ?_⟩
      | refine Wr.lit _ (by simp only [Int.reduceAdd, Int.reduceSub, Int.reduceMul]; rfl) (by decide) ?_
      | refine Wr.fit (by omega) ?_
      | refine Wr.fit (by dsimp only; omega) ?_
      | refine Elem.mk ⟨_, ⟨of_decide_eq_true rfl, rfl⟩, ?_⟩
      | refine Len.map ?_
      | refine Len.dropM ?_
      | refine Elem.dropM ?_
      | refine Len.takeM ?_
      | refine Elem.takeM ?_
      | refine Elem.mapK (by assumption) ?_
      | refine Elem.mapI (by omega) (by assumption) ?_
      | refine Elem.mapN (by omega) (fun x hx => ?_)
      | refine Elem.map (by omega) (by omega) (fun x hx => ?_)
      | refine (labCheck_ok b l x).use ⟨rfl, ?_⟩
      | refine CallX.mk ⟨_, _, (labCheck_ok b l x).x, rfl, ?_⟩
      | refine Done.mk ⟨rfl, rfl⟩
      | refine Done.mk ⟨congrArg gb ?_, rfl⟩
      | refine Done.mk ⟨?_, rfl⟩
      | refine Done.mk ⟨?_, ?_⟩)
  case pos =>
    rw [if_pos he, he]
    have hc := (labCheck_ok b l x).to (congrArg gi he)
    generalize hR : playN b l ks x = R
    clear he
    refine ICalls.of_body Try.func30 rfl Try.call30 rfl (Nat.le_of_ble_eq_true rfl) pl_E6_4 ?_
    repeat' ((conv => whnf); first
      | refine Br.yes rfl ?_
      | refine Br.no rfl ?_
      | refine Elem.mapN (by omega) (fun k hk => ?_)
      | (refine ILoop.ov 1000005 (fun ((i, y) : Nat × Lab) => [(26, gi i)]) (fun ((i, y) : Nat × Lab) => [(106, .cells (y.c))]) (fun ((i, y) : Nat × Lab) => i ≤ ks.length ∧ playN b l (ks.drop i) y = R) (fun ((i, y) : Nat × Lab) => ks.length - i) ((0, x)) (by exact rfl) ?_; (conv => whnf); refine Start.mk rfl ?_ ?_; (try dsimp only); rotate_left; rintro ⟨i, y⟩ ⟨hi, hr⟩)
      | (refine Again.mk ⟨((i + 1, (lstep b l y k).1)), rfl, ?_, ?_⟩ <;> try dsimp only)
      | refine Br.yes (beq_self_eq_true _) ?_
      | refine Br.not ?_
      | refine Br.yes (decide_eq_true (by assumption)) ?_
      | refine Br.no (decide_eq_false (by assumption)) ?_
      | refine Br.yes (beq_iff_eq.2 (by assumption)) ?_
      | refine Br.no (beq_eq_false_iff_ne.2 (by assumption)) ?_
      | refine Br.yes (bne_iff_ne.2 (by assumption)) ?_
      | (refine Br.dec (fun h => ?_) (fun h => ?_) <;> try dsimp only at h)
      | (refine Br.beqI (fun h => ?_) (fun h => ?_) <;> try dsimp only at h)
      | (refine Br.bneI (fun h => ?_) (fun h => ?_) <;> try dsimp only at h)
      | refine Br.mk (fun h => ?_) (fun h => ?_)
      | refine Need.mk (app_need (by first | (simp only [List.length_append, List.length_map, List.length_nil, List.length_cons, List.nil_append, Nat.zero_add, Nat.add_zero]; done) | (simp only [List.length_append, List.length_map, List.length_nil, List.length_cons, List.nil_append, Nat.zero_add, Nat.add_zero]; omega) | omega) (Nat.le_of_ble_eq_true rfl) (by first | (simp only [List.length_append, List.length_map, List.length_nil, List.length_cons, List.nil_append, Nat.zero_add, Nat.add_zero]; done) | (simp only [List.length_append, List.length_map, List.length_nil, List.length_cons, List.nil_append, Nat.zero_add, Nat.add_zero]; omega) | omega)) ?_
      | refine Need.mk (app_need0 (Nat.le_of_ble_eq_true rfl) (by first | (simp only [List.length_append, List.length_map, List.length_nil, List.length_cons, List.nil_append, Nat.zero_add, Nat.add_zero]; done) | (simp only [List.length_append, List.length_map, List.length_nil, List.length_cons, List.nil_append, Nat.zero_add, Nat.add_zero]; omega) | omega)) ?_
      | refine Need.mk (by first | kernel_rfl | exact ⟨of_decide_eq_true rfl, of_decide_eq_true rfl⟩ | omega) ?_
      | refine Len.mk ⟨_, by simp only [List.length_cons, List.length_nil, Nat.reduceAdd, Int.cast_ofNat_Int]; rfl, ?_⟩
      | refine Wr.lit _ (by simp only [Int.reduceAdd, Int.reduceSub, Int.reduceMul]; rfl) (by decide) ?_
      | refine Wr.fit (by omega) ?_
      | refine Wr.fit (by dsimp only; omega) ?_
      | refine Elem.mk ⟨_, ⟨of_decide_eq_true rfl, rfl⟩, ?_⟩
      | refine Len.map ?_
      | refine Len.dropM ?_
      | refine Elem.dropM ?_
      | refine Len.takeM ?_
      | refine Elem.takeM ?_
      | refine Elem.mapK (by assumption) ?_
      | refine Elem.mapI (by omega) (by assumption) ?_
      | refine Elem.mapN (by omega) (fun x hx => ?_)
      | refine Elem.map (by omega) (by omega) (fun x hx => ?_)
      | refine (hc).use ⟨rfl, ?_⟩
      | refine (wayStep_ok b l y k).use ⟨rfl, ?_⟩
      | refine CallX.mk ⟨_, _, (hc).x, rfl, ?_⟩
      | refine CallX.mk ⟨_, _, (wayStep_ok b l y k).x, rfl, ?_⟩
      | refine Done.mk ⟨rfl, rfl⟩
      | refine Done.mk ⟨congrArg gb ?_, rfl⟩
      | refine Done.mk ⟨?_, rfl⟩
      | refine Done.mk ⟨?_, ?_⟩)
    all_goals first
      | omega
      | exact ⟨by omega, play_step hr hk h⟩
      | (have e := play_stop hr hk h; rw [← e]; rfl)
      | (have e := play_end hr h; rw [← e]; rfl)
      | exact ⟨by omega, hR⟩

theorem lstep_keep {b : Book} {l : List Task} {x : Lab} {k : Int} (he : labErr b l x = 0) (hk : 0 ≤ k ∧ k < 4) (h : (lstep b l x k).2 = true) :
    labErr b l (lstep b l x k).1 = 0 ∧ (lstep b l x k).1.m.Now = x.m.Now + 1 ∧ (leftD l (lstep b l x k).1.s + leftS l (lstep b l x k).1.s = leftD l x.s + leftS l x.s - (if k = 3 ∨ k = 2 then 1 else 0)) := by
  obtain ⟨hb, h2⟩ := labErr_0 he
  obtain ⟨h3, h4, h5⟩ := spotErr_0 h2
  rw [lstep_eq he hk] at h ⊢
  split at h
  · rename_i h6
    rw [if_pos h6]
    obtain ⟨h6, h7, h8⟩ := h6
    have hm := (tasksErr_ok h3).2
    obtain ⟨g1, g2, g3, g4, g5⟩ := minuteS_left hm h5 x.m.Now k
    obtain ⟨m1, m2⟩ := h4.step (b := b) h6 k
    refine ⟨?_, m2, ?_⟩
    · unfold labErr spotErr
      rw [if_pos hb, if_neg (by simp [h3]), if_pos ⟨m1, g1⟩]
    · dsimp only
      by_cases k3 : k = 3
      · have := g3 k3 (by rw [h8]); rw [if_pos (.inl k3)]; omega
      · by_cases k2 : k = 2
        · have := g4 k2 (by rw [h8]); rw [if_pos (.inr k2)]; omega
        · rw [g5 k3 k2, if_neg (by omega)]; omega
  · cases h
theorem lstep_bad {b : Book} {l : List Task} {x : Lab} {k : Int} (he : labErr b l x = 0) (hk : k < 0 ∨ 3 < k) : (lstep b l x k).2 = false := by
  obtain ⟨hb, h2⟩ := labErr_0 he
  obtain ⟨h3, h4, h5⟩ := spotErr_0 h2
  have e := run1 hb h4 k
  rw [if_pos (by omega)] at e
  unfold lstep lOk
  rw [e]
  simp

def pl_E6_5 : Nat → Option (List Nat × List Nat) := (fun k => bif Nat.beq k 2 then some ([1000002, 1, 3, 4, 6, 8, 10], [104, 106, 108]) else none)
set_option maxRecDepth 100000 in
set_option maxHeartbeats 1000000 in
theorem refPlay_ok (b : Book) (l : List Task) (x : Lab) (ks : List Int) (hl : (ks.length : Int) ≤ 1000000000) (he : labErr b l x = 0) : ICalls Try.prog 35 [b.g, .list 3 (tasks l) none, x.g, .list 1 (ints ks) none] [] (Done (lpair (playN b l ks x)) []) := by
  generalize hR : playN b l ks x = R
  refine ICalls.of_body Try.func35 rfl Try.call35 rfl (Nat.le_of_ble_eq_true rfl) pl_E6_5 ?_
  repeat' ((conv => whnf); first
    | refine Br.yes rfl ?_
    | refine Br.no rfl ?_
    | refine Elem.mapK (by assumption) ?_
    | refine Elem.mapN (by omega) (fun k hk => ?_)
    | (refine ILoop.ov 1000002 (fun ((i, y) : Nat × Lab) => [(10, gi i)]) (fun ((i, y) : Nat × Lab) => [(106, .cells (y.c))]) (fun ((i, y) : Nat × Lab) => i ≤ ks.length ∧ labErr b l y = 0 ∧ playN b l (ks.drop i) y = R) (fun ((i, y) : Nat × Lab) => ks.length - i) ((0, x)) (by exact rfl) ?_; (conv => whnf); refine Start.mk rfl ?_ ?_; (try dsimp only); rotate_left; rintro ⟨i, y⟩ ⟨hi, hy, hr⟩)
    | (refine Again.mk ⟨((i + 1, (lstep b l y k).1)), rfl, ?_, ?_⟩ <;> try dsimp only)
    | refine Br.yes (beq_self_eq_true _) ?_
    | refine Br.not ?_
    | refine Br.yes (decide_eq_true (by assumption)) ?_
    | refine Br.no (decide_eq_false (by assumption)) ?_
    | refine Br.yes (beq_iff_eq.2 (by assumption)) ?_
    | refine Br.no (beq_eq_false_iff_ne.2 (by assumption)) ?_
    | refine Br.yes (bne_iff_ne.2 (by assumption)) ?_
    | (refine Br.dec (fun h => ?_) (fun h => ?_) <;> try dsimp only at h)
    | (refine Br.beqI (fun h => ?_) (fun h => ?_) <;> try dsimp only at h)
    | (refine Br.bneI (fun h => ?_) (fun h => ?_) <;> try dsimp only at h)
    | refine Br.mk (fun h => ?_) (fun h => ?_)
    | refine Need.mk (app_need (by first | (simp only [List.length_append, List.length_map, List.length_nil, List.length_cons, List.nil_append, Nat.zero_add, Nat.add_zero]; done) | (simp only [List.length_append, List.length_map, List.length_nil, List.length_cons, List.nil_append, Nat.zero_add, Nat.add_zero]; omega) | omega) (Nat.le_of_ble_eq_true rfl) (by first | (simp only [List.length_append, List.length_map, List.length_nil, List.length_cons, List.nil_append, Nat.zero_add, Nat.add_zero]; done) | (simp only [List.length_append, List.length_map, List.length_nil, List.length_cons, List.nil_append, Nat.zero_add, Nat.add_zero]; omega) | omega)) ?_
    | refine Need.mk (app_need0 (Nat.le_of_ble_eq_true rfl) (by first | (simp only [List.length_append, List.length_map, List.length_nil, List.length_cons, List.nil_append, Nat.zero_add, Nat.add_zero]; done) | (simp only [List.length_append, List.length_map, List.length_nil, List.length_cons, List.nil_append, Nat.zero_add, Nat.add_zero]; omega) | omega)) ?_
    | refine Need.mk (by first | kernel_rfl | exact ⟨of_decide_eq_true rfl, of_decide_eq_true rfl⟩ | omega) ?_
    | refine Len.mk ⟨_, by simp only [List.length_cons, List.length_nil, Nat.reduceAdd, Int.cast_ofNat_Int]; rfl, ?_⟩
    | refine Wr.lit _ (by simp only [Int.reduceAdd, Int.reduceSub, Int.reduceMul]; rfl) (by decide) ?_
    | refine Wr.fit (by omega) ?_
    | refine Wr.fit (by dsimp only; omega) ?_
    | refine Elem.mk ⟨_, ⟨of_decide_eq_true rfl, rfl⟩, ?_⟩
    | refine Len.map ?_
    | refine Len.dropM ?_
    | refine Elem.dropM ?_
    | refine Len.takeM ?_
    | refine Elem.takeM ?_
    | refine Elem.mapK (by assumption) ?_
    | refine Elem.mapI (by omega) (by assumption) ?_
    | refine Elem.mapN (by omega) (fun x hx => ?_)
    | refine Elem.map (by omega) (by omega) (fun x hx => ?_)
    | refine (refLabStep_ok b l y k hy ⟨by omega, by omega⟩).use ⟨rfl, ?_⟩
    | refine CallX.mk ⟨_, _, (refLabStep_ok b l y k hy ⟨by omega, by omega⟩).x, rfl, ?_⟩
    | refine Done.mk ⟨rfl, rfl⟩
    | refine Done.mk ⟨congrArg gb ?_, rfl⟩
    | refine Done.mk ⟨?_, rfl⟩
    | refine Done.mk ⟨?_, ?_⟩)
  all_goals first
    | omega
    | exact ⟨by omega, (lstep_keep hy ⟨by omega, by omega⟩ h).1, play_step hr hk h⟩
    | (have e := play_stop hr hk h; rw [← e]; rfl)
    | (have e := play_stop hr hk (lstep_bad hy (by omega)); rw [← e]; rfl)
    | (have e := play_end hr h; rw [← e]; rfl)
    | exact ⟨by omega, he, hR⟩

end Go.Hl
