/- Contracts of functions, bundle H7; proved for whatever the arguments' types allow, as each theorem says. -/
import Derived.Test.YtfbiaihhdbkefaaGreatDoorH6

/- Contracts: a minute of tasks.  #prune -/
set_option linter.unusedVariables false
set_option linter.unusedSimpArgs false
namespace Go.Hl
open Go.Gh Go.Proofs

theorem minG_eq {p : Spot} {a b c d a' b' c' d' : Bool} (h1 : a = a') (h2 : b = b') (h3 : c = c') (h4 : d = d') : GV.tup [.agg [gi p.Task, gi p.Driven, gi p.Served], .agg [gb a, gb b, gb c, gb d]] = minG' (p, ⟨a', b', c', d'⟩) := by subst h1 h2 h3 h4; rfl
set_option maxRecDepth 100000 in
set_option maxHeartbeats 4000000 in
theorem minute19_ok (l : List Task) (s : Spot) (m k : Int) (he : errCheck l s = 0) : ICalls Tryz.prog 61 [.list 3 (tasks l) none, s.g, gi m, gi k] [] (Done (minG' (minuteS l s m k)) []) := by
  have hf : tasksErr l = 0 ∧ fitsS l s = true := by unfold errCheck at he; grind
  obtain ⟨hn, hmay⟩ := tasksErr_ok hf.1
  obtain ⟨f1, f2, f3, f4⟩ := fits_in hf.2
  have ht := tAt_may hmay s.Task
  have ht1 := ht.drive
  have ht2 := ht.serve
  have ht3 := ht.len
  clear ht
  unfold minuteS
  by_cases hlt : s.Task < l.length
  case neg =>
    have hz : (tAt l s.Task).Drive = 0 ∧ (tAt l s.Task).Serve = 0 := by rw [tAt_out (by omega)]; exact ⟨rfl, rfl⟩
    generalize htd : tAt l s.Task = t at *
    clear hf he hmay htd
    refine ICalls.of_body Tryz.func61 rfl Tryz.call61 rfl (Nat.le_of_ble_eq_true rfl) (fun _ => none) rfl ?_
    repeat' ((conv => whnf); first
      | refine Br.yes rfl ?_
      | refine Br.no rfl ?_
      | refine Br.yes (beq_self_eq_true _) ?_
      | refine Br.not ?_
      | refine Br.yes (decide_eq_true (by assumption)) ?_
      | refine Br.no (decide_eq_false (by assumption)) ?_
      | refine Br.yes (beq_iff_eq.2 (by assumption)) ?_
      | refine Br.no (beq_eq_false_iff_ne.2 (by assumption)) ?_
      | refine Br.yes (bne_iff_ne.2 (by assumption)) ?_
      | refine Br.yes (decide_eq_true (by omega)) ?_
      | refine Br.no (decide_eq_false (by omega)) ?_
      | refine Br.yes (beq_iff_eq.2 (by omega)) ?_
      | refine Br.no (beq_eq_false_iff_ne.2 (by omega)) ?_
      | refine Br.yes (bne_iff_ne.2 (by omega)) ?_
      | refine Br.no (bne_eq_false_iff_eq.2 (by omega)) ?_
      | (refine Br.dec (fun h => ?_) (fun h => ?_) <;> try dsimp only at h)
      | (refine Br.beqI (fun h => ?_) (fun h => ?_) <;> try dsimp only at h)
      | (refine Br.bneI (fun h => ?_) (fun h => ?_) <;> try dsimp only at h)
      | refine Br.mk (fun h => ?_) (fun h => ?_)
      | refine Need.mk (by first | kernel_rfl | exact ⟨of_decide_eq_true rfl, of_decide_eq_true rfl⟩ | omega) ?_
      | refine Len.mk ⟨_, by simp only [List.length_cons, List.length_nil, Nat.reduceAdd, Int.cast_ofNat_Int]; rfl, ?_⟩
      | refine Wr.lit _ (by simp only [Int.reduceAdd, Int.reduceSub, Int.reduceMul]; rfl) (by decide) ?_
      | refine Wr.fit (by omega) ?_
      | refine Wr.fit (by dsimp only; omega) ?_
      | refine Elem.mk ⟨_, ⟨of_decide_eq_true rfl, rfl⟩, ?_⟩
      | refine Len.map ?_
      | refine Len.dropM ?_
      | refine Elem.dropM ?_
      | refine Len.takeM ?_
      | refine Elem.takeM ?_
      | refine Elem.mapK (by assumption) ?_
      | refine Elem.mapI (by omega) (by assumption) ?_
      | refine Elem.mapN (by omega) (fun x hx => ?_)
      | refine Elem.map (by omega) (by omega) (fun x hx => ?_)
      | refine (past_ok l s hn f1.1).use ⟨rfl, ?_⟩
      | refine CallX.mk ⟨_, _, (past_ok l s hn f1.1).x, rfl, ?_⟩
      | refine Done.mk ⟨rfl, rfl⟩
      | refine Done.mk ⟨congrArg gb ?_, rfl⟩
      | refine Done.mk ⟨?_, rfl⟩
      | refine Done.mk ⟨?_, ?_⟩)
    all_goals (rcases (show k = 3 ∨ k = 2 ∨ (k ≠ 3 ∧ k ≠ 2) by omega) with h1 | h1 | h1)
    all_goals first
      | (exfalso; omega)
      | ((first
           | rw [if_pos (by omega), if_neg (by omega)]
           | rw [if_neg (by omega), if_pos (by omega), if_neg (by omega)]
           | rw [if_neg (by omega), if_neg (by omega)]); refine minG_eq ?_ ?_ ?_ ?_ <;> grind)
  case pos =>
    obtain ⟨t, hx⟩ : ∃ t, l[s.Task.toNat]? = some t := ⟨_, List.getElem?_eq_getElem (by omega)⟩
    rw [tAt_get hx] at *
    clear hf he hmay
    refine ICalls.of_body Tryz.func61 rfl Tryz.call61 rfl (Nat.le_of_ble_eq_true rfl) (fun _ => none) rfl ?_
    repeat' ((conv => whnf); first
      | refine Br.yes rfl ?_
      | refine Br.no rfl ?_
      | refine Br.yes (beq_self_eq_true _) ?_
      | refine Br.not ?_
      | refine Br.yes (decide_eq_true (by assumption)) ?_
      | refine Br.no (decide_eq_false (by assumption)) ?_
      | refine Br.yes (beq_iff_eq.2 (by assumption)) ?_
      | refine Br.no (beq_eq_false_iff_ne.2 (by assumption)) ?_
      | refine Br.yes (bne_iff_ne.2 (by assumption)) ?_
      | refine Br.yes (decide_eq_true (by omega)) ?_
      | refine Br.no (decide_eq_false (by omega)) ?_
      | refine Br.yes (beq_iff_eq.2 (by omega)) ?_
      | refine Br.no (beq_eq_false_iff_ne.2 (by omega)) ?_
      | refine Br.yes (bne_iff_ne.2 (by omega)) ?_
      | refine Br.no (bne_eq_false_iff_eq.2 (by omega)) ?_
      | (refine Br.dec (fun h => ?_) (fun h => ?_) <;> try dsimp only at h)
      | (refine Br.beqI (fun h => ?_) (fun h => ?_) <;> try dsimp only at h)
      | (refine Br.bneI (fun h => ?_) (fun h => ?_) <;> try dsimp only at h)
      | refine Br.mk (fun h => ?_) (fun h => ?_)
      | refine Need.mk (by first | kernel_rfl | exact ⟨of_decide_eq_true rfl, of_decide_eq_true rfl⟩ | omega) ?_
      | refine Len.mk ⟨_, by simp only [List.length_cons, List.length_nil, Nat.reduceAdd, Int.cast_ofNat_Int]; rfl, ?_⟩
      | refine Wr.lit _ (by simp only [Int.reduceAdd, Int.reduceSub, Int.reduceMul]; rfl) (by decide) ?_
      | refine Wr.fit (by omega) ?_
      | refine Wr.fit (by dsimp only; omega) ?_
      | refine Elem.mk ⟨_, ⟨of_decide_eq_true rfl, rfl⟩, ?_⟩
      | refine Len.map ?_
      | refine Len.dropM ?_
      | refine Elem.dropM ?_
      | refine Len.takeM ?_
      | refine Elem.takeM ?_
      | refine Elem.mapK (by assumption) ?_
      | refine Elem.mapI (by omega) (by assumption) ?_
      | refine Elem.mapN (by omega) (fun x hx => ?_)
      | refine Elem.map (by omega) (by omega) (fun x hx => ?_)
      | refine (past_ok l s hn f1.1).use ⟨rfl, ?_⟩
      | refine (past_ok l ⟨s.Task, s.Driven + 1, s.Served⟩ hn f1.1).use ⟨rfl, ?_⟩
      | refine (past_ok l ⟨s.Task, s.Driven, s.Served + 1⟩ hn f1.1).use ⟨rfl, ?_⟩
      | refine (winMay_ok t.Open m (by omega)).use ⟨rfl, ?_⟩
      | refine CallX.mk ⟨_, _, (past_ok l s hn f1.1).x, rfl, ?_⟩
      | refine CallX.mk ⟨_, _, (past_ok l ⟨s.Task, s.Driven + 1, s.Served⟩ hn f1.1).x, rfl, ?_⟩
      | refine CallX.mk ⟨_, _, (past_ok l ⟨s.Task, s.Driven, s.Served + 1⟩ hn f1.1).x, rfl, ?_⟩
      | refine CallX.mk ⟨_, _, (winMay_ok t.Open m (by omega)).x, rfl, ?_⟩
      | refine Done.mk ⟨rfl, rfl⟩
      | refine Done.mk ⟨congrArg gb ?_, rfl⟩
      | refine Done.mk ⟨?_, rfl⟩
      | refine Done.mk ⟨?_, ?_⟩)
    all_goals ((first
         | rw [if_pos (by omega), if_pos (by omega)]
         | rw [if_pos (by omega), if_neg (by omega)]
         | rw [if_neg (by omega), if_pos (by omega), if_pos (by omega)]
         | rw [if_neg (by omega), if_pos (by omega), if_neg (by omega)]
         | rw [if_neg (by omega), if_neg (by omega)]); refine minG_eq ?_ ?_ ?_ ?_ <;> grind)

end Go.Hl

/- Contracts: a minute of tasks, checked; a record of minutes.  #prune -/
set_option linter.unusedVariables false
set_option linter.unusedSimpArgs false
namespace Go.Hl
open Go.Gh Go.Proofs

def rbit (p : Int) (w : Bool) : Int := if w then p else 0
def setB (b : B4) : Int := rbit 1024 b.b0 + rbit 2048 b.b1 + rbit 4096 b.b2 + rbit 8192 b.b3
def stepErr (l : List Task) (s : Spot) (m k : Int) : Int := if errCheck l s ≠ 0 then errCheck l s else if k < 0 ∨ 4 ≤ k then 2 else if m < 0 ∨ 40320 ≤ m then 4 else 0
def stepSpot (l : List Task) (s : Spot) (m k : Int) : Spot := if stepErr l s m k = 0 then (minuteS l s m k).1 else zeroSpot
def stepSet (l : List Task) (s : Spot) (m k : Int) : Int := if stepErr l s m k = 0 then setB (minuteS l s m k).2 else 0

def recErr (r : Rec) : Int := if r.Kind < 0 ∨ 4 ≤ r.Kind then 2 else if (r.From < 0 ∨ 40320 < r.From) ∨ r.To < 0 ∨ 40320 < r.To then 4 else if r.To ≤ r.From then 3 else 0
set_option maxRecDepth 100000 in
theorem errRecord_ok (r : Rec) : ICalls Tryz.prog 60 [r.g] [] (Done (gi (recErr r)) []) := by
  refine ICalls.of_body Tryz.func60 rfl Tryz.call60 rfl (Nat.le_of_ble_eq_true rfl) (fun _ => none) rfl ?_
  repeat' ((conv => whnf); first
    | refine Br.yes rfl ?_
    | refine Br.no rfl ?_
    | refine Done.mk ⟨congrArg gi ?_, rfl⟩
    | refine Br.yes (beq_self_eq_true _) ?_
    | refine Br.not ?_
    | refine Br.yes (decide_eq_true (by assumption)) ?_
    | refine Br.no (decide_eq_false (by assumption)) ?_
    | refine Br.yes (beq_iff_eq.2 (by assumption)) ?_
    | refine Br.no (beq_eq_false_iff_ne.2 (by assumption)) ?_
    | refine Br.yes (bne_iff_ne.2 (by assumption)) ?_
    | refine Br.yes (decide_eq_true (by omega)) ?_
    | refine Br.no (decide_eq_false (by omega)) ?_
    | refine Br.yes (beq_iff_eq.2 (by omega)) ?_
    | refine Br.no (beq_eq_false_iff_ne.2 (by omega)) ?_
    | refine Br.yes (bne_iff_ne.2 (by omega)) ?_
    | refine Br.no (bne_eq_false_iff_eq.2 (by omega)) ?_
    | (refine Br.dec (fun h => ?_) (fun h => ?_) <;> try dsimp only at h)
    | (refine Br.beqI (fun h => ?_) (fun h => ?_) <;> try dsimp only at h)
    | (refine Br.bneI (fun h => ?_) (fun h => ?_) <;> try dsimp only at h)
    | refine Br.mk (fun h => ?_) (fun h => ?_)
    | refine Need.mk (by first | kernel_rfl | exact ⟨of_decide_eq_true rfl, of_decide_eq_true rfl⟩ | omega) ?_
    | refine Len.mk ⟨_, by simp only [List.length_cons, List.length_nil, Nat.reduceAdd, Int.cast_ofNat_Int]; rfl, ?_⟩
    | refine Wr.lit _ (by simp only [Int.reduceAdd, Int.reduceSub, Int.reduceMul]; rfl) (by decide) ?_
    | refine Wr.fit (by omega) ?_
    | refine Wr.fit (by dsimp only; omega) ?_
    | refine Elem.mk ⟨_, ⟨of_decide_eq_true rfl, rfl⟩, ?_⟩
    | refine Len.map ?_
    | refine Len.dropM ?_
    | refine Elem.dropM ?_
    | refine Len.takeM ?_
    | refine Elem.takeM ?_
    | refine Elem.mapK (by assumption) ?_
    | refine Elem.mapI (by omega) (by assumption) ?_
    | refine Elem.mapN (by omega) (fun x hx => ?_)
    | refine Elem.map (by omega) (by omega) (fun x hx => ?_)
    | refine Done.mk ⟨rfl, rfl⟩
    | refine Done.mk ⟨congrArg gb ?_, rfl⟩
    | refine Done.mk ⟨?_, rfl⟩
    | refine Done.mk ⟨?_, ?_⟩)
  all_goals (unfold recErr; grind)
def lightB (l : List Task) : Bool := decide (l.length ≤ 40) && l.all fun t => decide (t.Open.length ≤ 20)
def pl_D6_1 : Nat → Option (List Nat × List Nat) := (fun k => bif Nat.beq k 4 then some ([1000004, 8, 9, 10], []) else none)
set_option maxRecDepth 100000 in
theorem light_ok (l : List Task) : ICalls Tryz.prog 5 [.list 3 (tasks l) none] [] (Done (gb (lightB l)) []) := by
  unfold lightB
  refine ICalls.of_body Tryz.func5 rfl Tryz.call5 rfl (Nat.le_of_ble_eq_true rfl) pl_D6_1 rfl ?_
  repeat' ((conv => whnf); first
    | refine Br.yes rfl ?_
    | refine Br.no rfl ?_
    | (refine ILoop.ov 1000004 (fun (i : Nat) => [(10, gi i)]) (fun (i : Nat) => []) (fun (i : Nat) => i ≤ l.length ∧ ((l.drop i).all fun t => decide (t.Open.length ≤ 20)) = l.all fun t => decide (t.Open.length ≤ 20)) (fun (i : Nat) => l.length - i) (0) (by exact rfl) ?_; (conv => whnf); refine Start.mk rfl ?_ ?_; (try dsimp only); rotate_left; rintro i ⟨hi, hr⟩)
    | (refine Again.mk ⟨(i + 1), rfl, ?_, ?_⟩ <;> try dsimp only)
    | refine Br.yes (beq_self_eq_true _) ?_
    | refine Br.not ?_
    | refine Br.yes (decide_eq_true (by assumption)) ?_
    | refine Br.no (decide_eq_false (by assumption)) ?_
    | refine Br.yes (beq_iff_eq.2 (by assumption)) ?_
    | refine Br.no (beq_eq_false_iff_ne.2 (by assumption)) ?_
    | refine Br.yes (bne_iff_ne.2 (by assumption)) ?_
    | refine Br.yes (decide_eq_true (by omega)) ?_
    | refine Br.no (decide_eq_false (by omega)) ?_
    | refine Br.yes (beq_iff_eq.2 (by omega)) ?_
    | refine Br.no (beq_eq_false_iff_ne.2 (by omega)) ?_
    | refine Br.yes (bne_iff_ne.2 (by omega)) ?_
    | refine Br.no (bne_eq_false_iff_eq.2 (by omega)) ?_
    | (refine Br.dec (fun h => ?_) (fun h => ?_) <;> try dsimp only at h)
    | (refine Br.beqI (fun h => ?_) (fun h => ?_) <;> try dsimp only at h)
    | (refine Br.bneI (fun h => ?_) (fun h => ?_) <;> try dsimp only at h)
    | refine Br.mk (fun h => ?_) (fun h => ?_)
    | refine Need.mk (by first | kernel_rfl | exact ⟨of_decide_eq_true rfl, of_decide_eq_true rfl⟩ | omega) ?_
    | refine Len.mk ⟨_, by simp only [List.length_cons, List.length_nil, Nat.reduceAdd, Int.cast_ofNat_Int]; rfl, ?_⟩
    | refine Wr.lit _ (by simp only [Int.reduceAdd, Int.reduceSub, Int.reduceMul]; rfl) (by decide) ?_
    | refine Wr.fit (by omega) ?_
    | refine Wr.fit (by dsimp only; omega) ?_
    | refine Elem.mk ⟨_, ⟨of_decide_eq_true rfl, rfl⟩, ?_⟩
    | refine Len.map ?_
    | refine Len.dropM ?_
    | refine Elem.dropM ?_
    | refine Len.takeM ?_
    | refine Elem.takeM ?_
    | refine Elem.mapK (by assumption) ?_
    | refine Elem.mapI (by omega) (by assumption) ?_
    | refine Elem.mapN (by omega) (fun x hx => ?_)
    | refine Elem.map (by omega) (by omega) (fun x hx => ?_)
    | refine Done.mk ⟨rfl, rfl⟩
    | refine Done.mk ⟨congrArg gb ?_, rfl⟩
    | refine Done.mk ⟨?_, rfl⟩
    | refine Done.mk ⟨?_, ?_⟩)
  all_goals first
    | omega
    | exact ⟨by omega, rfl⟩
    | (rw [decide_eq_false (by omega)]; rfl)
    | (rw [drop_of_get hx, List.all_cons, decide_eq_false (by omega)] at hr
       rw [← hr]; simp; done)
    | (rw [drop_of_get hx, List.all_cons, decide_eq_true (by omega), Bool.true_and] at hr
       exact ⟨by omega, hr⟩)
    | (rw [List.drop_eq_nil_of_le (by omega)] at hr
       rw [← hr, decide_eq_true (by omega)]; rfl)

def alTasks : List Task := [⟨2, 1, [⟨5, 7⟩]⟩]
def tup2 (r : Spot × Int) : GV := .tup [r.1.g, gi r.2]
def tup3 (r : Spot × Int × Int) : GV := .tup [r.1.g, gi r.2.1, gi r.2.2]
end Go.Hl

/- Laws of chapter 19: steps, checks, what is left.  #prune -/
set_option linter.unusedVariables false
set_option linter.unusedSimpArgs false
namespace Go.Hl
open Go.Gh Go.Proofs

theorem errCheck_of {l : List Task} {s : Spot} (h1 : tasksErr l = 0) (h2 : fitsS l s = true) : errCheck l s = 0 := by unfold errCheck; simp [h1, h2]

end Go.Hl
