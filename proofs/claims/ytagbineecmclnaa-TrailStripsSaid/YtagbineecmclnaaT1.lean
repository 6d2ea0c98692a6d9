/- Contracts of functions, bundle T1; proved for whatever the arguments' types allow, as each theorem says. -/
import Derived.Test.YtagbineecmclnaaW0
import Derived.Test.YtagbineecmclnaaH9
import Derived.Test.YtagbineecmclnaaH8

/- Chapter 20: what can be audited; a finding noted; light timelines.  -/
set_option linter.unusedVariables false
set_option linter.unusedSimpArgs false
namespace Go.Hl
open Go.Gh Go.Proofs

def chk20 (l : List Task) (s : Spot) (r : List Rec) : Int := if errCheck l s ≠ 0 then errCheck l s else (recsErr 0 none r).2
set_option maxRecDepth 100000 in
theorem trailCheck_ok (l : List Task) (s : Spot) (r : List Rec) (hr : (r.length : Int) ≤ 1000000000) : ICalls Try.prog 48 [.list 3 (tasks l) none, s.g, .list 3 (recs r) none] [] (Done (gi (chk20 l s r)) []) := by
  have h1 := tasksCheck_ok l
  have h2 := errRight_ok l s
  have h3 := recCheck_ok r hr
  unfold pairG at h3
  have e : errCheck l s = if tasksErr l ≠ 0 then tasksErr l else if fitsS l s = true then 0 else 1 := rfl
  by_cases ha : tasksErr l = 0
  case neg =>
    rw [show chk20 l s r = tasksErr l by unfold chk20; rw [e, if_pos ha, if_pos ha]]
    generalize tasksErr l = a at *
    refine ICalls.of_body Try.func48 rfl Try.call48 rfl (Nat.le_of_ble_eq_true rfl) (fun _ => none) rfl ?_
    repeat' ((conv => whnf); first
      | refine Br.yes rfl ?_
      | refine Br.no rfl ?_
      | refine Br.yes (beq_self_eq_true _) ?_
      | refine Br.not ?_
      | refine Br.yes (decide_eq_true (by assumption)) ?_
      | refine Br.no (decide_eq_false (by assumption)) ?_
      | refine Br.yes (beq_iff_eq.2 (by assumption)) ?_
      | refine Br.no (beq_eq_false_iff_ne.2 (by assumption)) ?_
      | refine Br.yes (bne_iff_ne.2 (by assumption)) ?_
      | (refine Br.dec (fun h => ?_) (fun h => ?_) <;> try dsimp only at h)
      | (refine Br.beqI (fun h => ?_) (fun h => ?_) <;> try dsimp only at h)
      | (refine Br.bneI (fun h => ?_) (fun h => ?_) <;> try dsimp only at h)
      | refine Br.mk (fun h => ?_) (fun h => ?_)
      | refine Need.mk (app_need (by first | (simp only [List.length_append, List.length_map, List.length_nil, List.length_cons, List.nil_append, Nat.zero_add, Nat.add_zero]; done) | (simp only [List.length_append, List.length_map, List.length_nil, List.length_cons, List.nil_append, Nat.zero_add, Nat.add_zero]; omega) | omega) (Nat.le_of_ble_eq_true rfl) (by first | (simp only [List.length_append, List.length_map, List.length_nil, List.length_cons, List.nil_append, Nat.zero_add, Nat.add_zero]; done) | (simp only [List.length_append, List.length_map, List.length_nil, List.length_cons, List.nil_append, Nat.zero_add, Nat.add_zero]; omega) | omega)) ?_
      | refine Need.mk (app_need0 (Nat.le_of_ble_eq_true rfl) (by first | (simp only [List.length_append, List.length_map, List.length_nil, List.length_cons, List.nil_append, Nat.zero_add, Nat.add_zero]; done) | (simp only [List.length_append, List.length_map, List.length_nil, List.length_cons, List.nil_append, Nat.zero_add, Nat.add_zero]; omega) | omega)) ?_
      | refine Need.mk (by first | kernel_rfl | exact ⟨of_decide_eq_true rfl, of_decide_eq_true rfl⟩ | omega) ?_
      | refine Len.mk ⟨_, by simp only [List.length_cons, List.length_nil, Nat.reduceAdd, Int.cast_ofNat_Int]; rfl, ?_⟩
      | refine Wr.lit _ (by simp only [Int.reduceAdd, Int.reduceSub, Int.reduceMul]; rfl) (by decide) ?_
      | refine Wr.fit (by omega) ?_
      | refine Wr.fit (by dsimp only; omega) ?_
      | refine Elem.mk ⟨_, ⟨of_decide_eq_true rfl, rfl⟩, ?_⟩
      | refine Len.map ?_
      | refine Len.dropM ?_
      | refine Elem.dropM ?_
      | refine Len.takeM ?_
      | refine Elem.takeM ?_
      | refine Elem.mapK (by assumption) ?_
      | refine Elem.mapI (by omega) (by assumption) ?_
      | refine Elem.mapN (by omega) (fun x hx => ?_)
      | refine Elem.map (by omega) (by omega) (fun x hx => ?_)
      | refine (h1).use ⟨rfl, ?_⟩
      | refine CallX.mk ⟨_, _, (h1).x, rfl, ?_⟩
      | refine Done.mk ⟨rfl, rfl⟩
      | refine Done.mk ⟨congrArg gb ?_, rfl⟩
      | refine Done.mk ⟨?_, rfl⟩
      | refine Done.mk ⟨?_, ?_⟩)
    all_goals first | omega | rfl
  case pos =>
    cases hb : fitsS l s with
    | false =>
      have e2 : errCheck l s = 1 := by rw [e, if_neg (fun h => h ha), hb]; rfl
      rw [show chk20 l s r = 1 by unfold chk20; rw [e2]; rfl]
      rw [e2] at h2
      rw [ha] at h1
      refine ICalls.of_body Try.func48 rfl Try.call48 rfl (Nat.le_of_ble_eq_true rfl) (fun _ => none) rfl ?_
      repeat' ((conv => whnf); first
        | refine Br.yes rfl ?_
        | refine Br.no rfl ?_
        | refine Br.yes (beq_self_eq_true _) ?_
        | refine Br.not ?_
        | refine Br.yes (decide_eq_true (by assumption)) ?_
        | refine Br.no (decide_eq_false (by assumption)) ?_
        | refine Br.yes (beq_iff_eq.2 (by assumption)) ?_
        | refine Br.no (beq_eq_false_iff_ne.2 (by assumption)) ?_
        | refine Br.yes (bne_iff_ne.2 (by assumption)) ?_
        | (refine Br.dec (fun h => ?_) (fun h => ?_) <;> try dsimp only at h)
        | (refine Br.beqI (fun h => ?_) (fun h => ?_) <;> try dsimp only at h)
        | (refine Br.bneI (fun h => ?_) (fun h => ?_) <;> try dsimp only at h)
        | refine Br.mk (fun h => ?_) (fun h => ?_)
        | refine Need.mk (app_need (by first | (simp only [List.length_append, List.length_map, List.length_nil, List.length_cons, List.nil_append, Nat.zero_add, Nat.add_zero]; done) | (simp only [List.length_append, List.length_map, List.length_nil, List.length_cons, List.nil_append, Nat.zero_add, Nat.add_zero]; omega) | omega) (Nat.le_of_ble_eq_true rfl) (by first | (simp only [List.length_append, List.length_map, List.length_nil, List.length_cons, List.nil_append, Nat.zero_add, Nat.add_zero]; done) | (simp only [List.length_append, List.length_map, List.length_nil, List.length_cons, List.nil_append, Nat.zero_add, Nat.add_zero]; omega) | omega)) ?_
        | refine Need.mk (app_need0 (Nat.le_of_ble_eq_true rfl) (by first | (simp only [List.length_append, List.length_map, List.length_nil, List.length_cons, List.nil_append, Nat.zero_add, Nat.add_zero]; done) | (simp only [List.length_append, List.length_map, List.length_nil, List.length_cons, List.nil_append, Nat.zero_add, Nat.add_zero]; omega) | omega)) ?_
        | refine Need.mk (by first | kernel_rfl | exact ⟨of_decide_eq_true rfl, of_decide_eq_true rfl⟩ | omega) ?_
        | refine Len.mk ⟨_, by simp only [List.length_cons, List.length_nil, Nat.reduceAdd, Int.cast_ofNat_Int]; rfl, ?_⟩
        | refine Wr.lit _ (by simp only [Int.reduceAdd, Int.reduceSub, Int.reduceMul]; rfl) (by decide) ?_
        | refine Wr.fit (by omega) ?_
        | refine Wr.fit (by dsimp only; omega) ?_
        | refine Elem.mk ⟨_, ⟨of_decide_eq_true rfl, rfl⟩, ?_⟩
        | refine Len.map ?_
        | refine Len.dropM ?_
        | refine Elem.dropM ?_
        | refine Len.takeM ?_
        | refine Elem.takeM ?_
        | refine Elem.mapK (by assumption) ?_
        | refine Elem.mapI (by omega) (by assumption) ?_
        | refine Elem.mapN (by omega) (fun x hx => ?_)
        | refine Elem.map (by omega) (by omega) (fun x hx => ?_)
        | refine (h1).use ⟨rfl, ?_⟩
        | refine (h2).use ⟨rfl, ?_⟩
        | refine CallX.mk ⟨_, _, (h1).x, rfl, ?_⟩
        | refine CallX.mk ⟨_, _, (h2).x, rfl, ?_⟩
        | refine Done.mk ⟨rfl, rfl⟩
        | refine Done.mk ⟨congrArg gb ?_, rfl⟩
        | refine Done.mk ⟨?_, rfl⟩
        | refine Done.mk ⟨?_, ?_⟩)
      all_goals first | omega | rfl
    | true =>
      have e2 : errCheck l s = 0 := by rw [e, if_neg (fun h => h ha), hb]; rfl
      rw [show chk20 l s r = (recsErr 0 none r).2 by unfold chk20; rw [e2]; rfl]
      rw [e2] at h2
      rw [ha] at h1
      generalize recsErr 0 none r = w at *
      obtain ⟨w1, w2⟩ := w
      refine ICalls.of_body Try.func48 rfl Try.call48 rfl (Nat.le_of_ble_eq_true rfl) (fun _ => none) rfl ?_
      repeat' ((conv => whnf); first
        | refine Br.yes rfl ?_
        | refine Br.no rfl ?_
        | refine Br.yes (beq_self_eq_true _) ?_
        | refine Br.not ?_
        | refine Br.yes (decide_eq_true (by assumption)) ?_
        | refine Br.no (decide_eq_false (by assumption)) ?_
        | refine Br.yes (beq_iff_eq.2 (by assumption)) ?_
        | refine Br.no (beq_eq_false_iff_ne.2 (by assumption)) ?_
        | refine Br.yes (bne_iff_ne.2 (by assumption)) ?_
        | (refine Br.dec (fun h => ?_) (fun h => ?_) <;> try dsimp only at h)
        | (refine Br.beqI (fun h => ?_) (fun h => ?_) <;> try dsimp only at h)
        | (refine Br.bneI (fun h => ?_) (fun h => ?_) <;> try dsimp only at h)
        | refine Br.mk (fun h => ?_) (fun h => ?_)
        | refine Need.mk (app_need (by first | (simp only [List.length_append, List.length_map, List.length_nil, List.length_cons, List.nil_append, Nat.zero_add, Nat.add_zero]; done) | (simp only [List.length_append, List.length_map, List.length_nil, List.length_cons, List.nil_append, Nat.zero_add, Nat.add_zero]; omega) | omega) (Nat.le_of_ble_eq_true rfl) (by first | (simp only [List.length_append, List.length_map, List.length_nil, List.length_cons, List.nil_append, Nat.zero_add, Nat.add_zero]; done) | (simp only [List.length_append, List.length_map, List.length_nil, List.length_cons, List.nil_append, Nat.zero_add, Nat.add_zero]; omega) | omega)) ?_
        | refine Need.mk (app_need0 (Nat.le_of_ble_eq_true rfl) (by first | (simp only [List.length_append, List.length_map, List.length_nil, List.length_cons, List.nil_append, Nat.zero_add, Nat.add_zero]; done) | (simp only [List.length_append, List.length_map, List.length_nil, List.length_cons, List.nil_append, Nat.zero_add, Nat.add_zero]; omega) | omega)) ?_
        | refine Need.mk (by first | kernel_rfl | exact ⟨of_decide_eq_true rfl, of_decide_eq_true rfl⟩ | omega) ?_
        | refine Len.mk ⟨_, by simp only [List.length_cons, List.length_nil, Nat.reduceAdd, Int.cast_ofNat_Int]; rfl, ?_⟩
        | refine Wr.lit _ (by simp only [Int.reduceAdd, Int.reduceSub, Int.reduceMul]; rfl) (by decide) ?_
        | refine Wr.fit (by omega) ?_
        | refine Wr.fit (by dsimp only; omega) ?_
        | refine Elem.mk ⟨_, ⟨of_decide_eq_true rfl, rfl⟩, ?_⟩
        | refine Len.map ?_
        | refine Len.dropM ?_
        | refine Elem.dropM ?_
        | refine Len.takeM ?_
        | refine Elem.takeM ?_
        | refine Elem.mapK (by assumption) ?_
        | refine Elem.mapI (by omega) (by assumption) ?_
        | refine Elem.mapN (by omega) (fun x hx => ?_)
        | refine Elem.map (by omega) (by omega) (fun x hx => ?_)
        | refine (h1).use ⟨rfl, ?_⟩
        | refine (h2).use ⟨rfl, ?_⟩
        | refine (h3).use ⟨rfl, ?_⟩
        | refine CallX.mk ⟨_, _, (h1).x, rfl, ?_⟩
        | refine CallX.mk ⟨_, _, (h2).x, rfl, ?_⟩
        | refine CallX.mk ⟨_, _, (h3).x, rfl, ?_⟩
        | refine Done.mk ⟨rfl, rfl⟩
        | refine Done.mk ⟨congrArg gb ?_, rfl⟩
        | refine Done.mk ⟨?_, rfl⟩
        | refine Done.mk ⟨?_, ?_⟩)
      all_goals first | omega | rfl
set_option maxRecDepth 100000 in
theorem refTrailCheck_ok (l : List Task) (s : Spot) (r : List Rec) (hr : (r.length : Int) ≤ 1000000000) : ICalls Try.prog 28 [.list 3 (tasks l) none, s.g, .list 3 (recs r) none] [] (Done (gi (chk20 l s r)) []) := by
  have h1 := refTasksCheck_ok l
  have h3 := refRecs_ok r hr
  unfold pairG at h3
  unfold chk20
  have e : errCheck l s = if tasksErr l ≠ 0 then tasksErr l else if fitsS l s = true then 0 else 1 := rfl
  by_cases ha : tasksErr l = 0
  case neg =>
    rw [e]
    generalize tasksErr l = a at *
    refine ICalls.of_body Try.func28 rfl Try.call28 rfl (Nat.le_of_ble_eq_true rfl) (fun _ => none) rfl ?_
    repeat' ((conv => whnf); first
      | refine Br.yes rfl ?_
      | refine Br.no rfl ?_
      | refine Br.yes (beq_self_eq_true _) ?_
      | refine Br.not ?_
      | refine Br.yes (decide_eq_true (by assumption)) ?_
      | refine Br.no (decide_eq_false (by assumption)) ?_
      | refine Br.yes (beq_iff_eq.2 (by assumption)) ?_
      | refine Br.no (beq_eq_false_iff_ne.2 (by assumption)) ?_
      | refine Br.yes (bne_iff_ne.2 (by assumption)) ?_
      | (refine Br.dec (fun h => ?_) (fun h => ?_) <;> try dsimp only at h)
      | (refine Br.beqI (fun h => ?_) (fun h => ?_) <;> try dsimp only at h)
      | (refine Br.bneI (fun h => ?_) (fun h => ?_) <;> try dsimp only at h)
      | refine Br.mk (fun h => ?_) (fun h => ?_)
      | refine Need.mk (app_need (by first | (simp only [List.length_append, List.length_map, List.length_nil, List.length_cons, List.nil_append, Nat.zero_add, Nat.add_zero]; done) | (simp only [List.length_append, List.length_map, List.length_nil, List.length_cons, List.nil_append, Nat.zero_add, Nat.add_zero]; omega) | omega) (Nat.le_of_ble_eq_true rfl) (by first | (simp only [List.length_append, List.length_map, List.length_nil, List.length_cons, List.nil_append, Nat.zero_add, Nat.add_zero]; done) | (simp only [List.length_append, List.length_map, List.length_nil, List.length_cons, List.nil_append, Nat.zero_add, Nat.add_zero]; omega) | omega)) ?_
      | refine Need.mk (app_need0 (Nat.le_of_ble_eq_true rfl) (by first | (simp only [List.length_append, List.length_map, List.length_nil, List.length_cons, List.nil_append, Nat.zero_add, Nat.add_zero]; done) | (simp only [List.length_append, List.length_map, List.length_nil, List.length_cons, List.nil_append, Nat.zero_add, Nat.add_zero]; omega) | omega)) ?_
      | refine Need.mk (by first | kernel_rfl | exact ⟨of_decide_eq_true rfl, of_decide_eq_true rfl⟩ | omega) ?_
      | refine Len.mk ⟨_, by simp only [List.length_cons, List.length_nil, Nat.reduceAdd, Int.cast_ofNat_Int]; rfl, ?_⟩
      | refine Wr.lit _ (by simp only [Int.reduceAdd, Int.reduceSub, Int.reduceMul]; rfl) (by decide) ?_
      | refine Wr.fit (by omega) ?_
      | refine Wr.fit (by dsimp only; omega) ?_
      | refine Elem.mk ⟨_, ⟨of_decide_eq_true rfl, rfl⟩, ?_⟩
      | refine Len.map ?_
      | refine Len.dropM ?_
      | refine Elem.dropM ?_
      | refine Len.takeM ?_
      | refine Elem.takeM ?_
      | refine Elem.mapK (by assumption) ?_
      | refine Elem.mapI (by omega) (by assumption) ?_
      | refine Elem.mapN (by omega) (fun x hx => ?_)
      | refine Elem.map (by omega) (by omega) (fun x hx => ?_)
      | refine (h1).use ⟨rfl, ?_⟩
      | refine CallX.mk ⟨_, _, (h1).x, rfl, ?_⟩
      | refine Done.mk ⟨rfl, rfl⟩
      | refine Done.mk ⟨congrArg gb ?_, rfl⟩
      | refine Done.mk ⟨?_, rfl⟩
      | refine Done.mk ⟨?_, ?_⟩)
    all_goals (refine congrArg gi ?_; simp_all)
  case pos =>
    have h2 := refFits_ok l s (tasksErr_ok ha).1
    rw [e]
    generalize tasksErr l = a at *
    generalize fitsS l s = b at *
    generalize recsErr 0 none r = w at *
    obtain ⟨w1, w2⟩ := w
    clear e hr
    refine ICalls.of_body Try.func28 rfl Try.call28 rfl (Nat.le_of_ble_eq_true rfl) (fun _ => none) rfl ?_
    repeat' ((conv => whnf); first
      | refine Br.yes rfl ?_
      | refine Br.no rfl ?_
      | refine Br.yes (beq_self_eq_true _) ?_
      | refine Br.not ?_
      | refine Br.yes (decide_eq_true (by assumption)) ?_
      | refine Br.no (decide_eq_false (by assumption)) ?_
      | refine Br.yes (beq_iff_eq.2 (by assumption)) ?_
      | refine Br.no (beq_eq_false_iff_ne.2 (by assumption)) ?_
      | refine Br.yes (bne_iff_ne.2 (by assumption)) ?_
      | (refine Br.dec (fun h => ?_) (fun h => ?_) <;> try dsimp only at h)
      | (refine Br.beqI (fun h => ?_) (fun h => ?_) <;> try dsimp only at h)
      | (refine Br.bneI (fun h => ?_) (fun h => ?_) <;> try dsimp only at h)
      | refine Br.mk (fun h => ?_) (fun h => ?_)
      | refine Need.mk (app_need (by first | (simp only [List.length_append, List.length_map, List.length_nil, List.length_cons, List.nil_append, Nat.zero_add, Nat.add_zero]; done) | (simp only [List.length_append, List.length_map, List.length_nil, List.length_cons, List.nil_append, Nat.zero_add, Nat.add_zero]; omega) | omega) (Nat.le_of_ble_eq_true rfl) (by first | (simp only [List.length_append, List.length_map, List.length_nil, List.length_cons, List.nil_append, Nat.zero_add, Nat.add_zero]; done) | (simp only [List.length_append, List.length_map, List.length_nil, List.length_cons, List.nil_append, Nat.zero_add, Nat.add_zero]; omega) | omega)) ?_
      | refine Need.mk (app_need0 (Nat.le_of_ble_eq_true rfl) (by first | (simp only [List.length_append, List.length_map, List.length_nil, List.length_cons, List.nil_append, Nat.zero_add, Nat.add_zero]; done) | (simp only [List.length_append, List.length_map, List.length_nil, List.length_cons, List.nil_append, Nat.zero_add, Nat.add_zero]; omega) | omega)) ?_
      | refine Need.mk (by first | kernel_rfl | exact ⟨of_decide_eq_true rfl, of_decide_eq_true rfl⟩ | omega) ?_
      | refine Len.mk ⟨_, by simp only [List.length_cons, List.length_nil, Nat.reduceAdd, Int.cast_ofNat_Int]; rfl, ?_⟩
      | refine Wr.lit _ (by simp only [Int.reduceAdd, Int.reduceSub, Int.reduceMul]; rfl) (by decide) ?_
      | refine Wr.fit (by omega) ?_
      | refine Wr.fit (by dsimp only; omega) ?_
      | refine Elem.mk ⟨_, ⟨of_decide_eq_true rfl, rfl⟩, ?_⟩
      | refine Len.map ?_
      | refine Len.dropM ?_
      | refine Elem.dropM ?_
      | refine Len.takeM ?_
      | refine Elem.takeM ?_
      | refine Elem.mapK (by assumption) ?_
      | refine Elem.mapI (by omega) (by assumption) ?_
      | refine Elem.mapN (by omega) (fun x hx => ?_)
      | refine Elem.map (by omega) (by omega) (fun x hx => ?_)
      | refine (h1).use ⟨rfl, ?_⟩
      | refine (h2).use ⟨rfl, ?_⟩
      | refine (h3).use ⟨rfl, ?_⟩
      | refine CallX.mk ⟨_, _, (h1).x, rfl, ?_⟩
      | refine CallX.mk ⟨_, _, (h2).x, rfl, ?_⟩
      | refine CallX.mk ⟨_, _, (h3).x, rfl, ?_⟩
      | refine Done.mk ⟨rfl, rfl⟩
      | refine Done.mk ⟨congrArg gb ?_, rfl⟩
      | refine Done.mk ⟨?_, rfl⟩
      | refine Done.mk ⟨?_, ?_⟩)
    all_goals (refine congrArg gi ?_; simp_all)

/-! ### Light timelines -/
def badR (r : Rec) : Bool := decide (r.From < 0) || (decide (40320 < r.To) || (decide (r.To < 0) || decide (40320 < r.From)))
def lt20 : List Rec → Int → Bool
  | [], n => decide (n ≤ 3000)
  | r :: t, n => if badR r = true then true else lt20 t (n + (r.To - r.From))
def light20 (l : List Task) (r : List Rec) : Bool := lightB l && (decide (r.length ≤ 60) && lt20 r 0)
theorem badR_yes {x : Rec} (h : x.From < 0 ∨ 40320 < x.To ∨ x.To < 0 ∨ 40320 < x.From) : badR x = true := by
  unfold badR; simp only [Bool.or_eq_true, decide_eq_true_eq]; exact h
theorem lt_bad {l : List Rec} {i : Nat} {x : Rec} {n : Int} {R : Bool} (hx : l[i]? = some x) (hr : lt20 (l.drop i) n = R) (h : x.From < 0 ∨ 40320 < x.To ∨ x.To < 0 ∨ 40320 < x.From) : true = R := by
  rw [drop_of_get hx, lt20, if_pos (badR_yes h)] at hr; exact hr
theorem lt_go {l : List Rec} {i : Nat} {x : Rec} {n : Int} {R : Bool} (hx : l[i]? = some x) (hr : lt20 (l.drop i) n = R) (h : ¬ (x.From < 0 ∨ 40320 < x.To ∨ x.To < 0 ∨ 40320 < x.From)) : lt20 (l.drop (i + 1)) (n + (x.To - x.From)) = R := by
  rw [drop_of_get hx, lt20, if_neg (fun e => h (by unfold badR at e; simpa only [Bool.or_eq_true, decide_eq_true_eq] using e))] at hr; exact hr
theorem lt_end {l : List Rec} {i : Nat} {n : Int} {R : Bool} (hi : ¬ (i : Int) < l.length) (hr : lt20 (l.drop i) n = R) : decide (n ≤ 3000) = R := by
  rw [List.drop_eq_nil_of_le (by omega), lt20] at hr; exact hr

def pl_T1_1 : Nat → Option (List Nat × List Nat) := (fun k => bif Nat.beq k 5 then some ([1000005, 5, 16, 17, 18], []) else none)
def pl_T1_2 : Nat → Option (List Nat × List Nat) := (fun k => bif Nat.beq k 5 then some ([1000005, 5, 16, 17, 18], []) else none)
def pl_T1_3 : Nat → Option (List Nat × List Nat) := (fun k => bif Nat.beq k 5 then some ([1000005, 5, 16, 17, 18], []) else none)
set_option maxRecDepth 100000 in
set_option maxHeartbeats 1000000 in
theorem light20_ok (l : List Task) (r : List Rec) : ICalls Try.prog 20 [.list 3 (tasks l) none, .list 3 (recs r) none] [] (Done (gb (light20 l r)) []) := by
  have h1 := light_ok l
  unfold light20
  cases hb : lightB l with
  | false =>
    rw [hb] at h1
    refine ICalls.of_body Try.func20 rfl Try.call20 rfl (Nat.le_of_ble_eq_true rfl) pl_T1_1 rfl ?_
    repeat' ((conv => whnf); first
      | refine Br.yes rfl ?_
      | refine Br.no rfl ?_
      | refine Br.yes (beq_self_eq_true _) ?_
      | refine Br.not ?_
      | refine Br.yes (decide_eq_true (by assumption)) ?_
      | refine Br.no (decide_eq_false (by assumption)) ?_
      | refine Br.yes (beq_iff_eq.2 (by assumption)) ?_
      | refine Br.no (beq_eq_false_iff_ne.2 (by assumption)) ?_
      | refine Br.yes (bne_iff_ne.2 (by assumption)) ?_
      | (refine Br.dec (fun h => ?_) (fun h => ?_) <;> try dsimp only at h)
      | (refine Br.beqI (fun h => ?_) (fun h => ?_) <;> try dsimp only at h)
      | (refine Br.bneI (fun h => ?_) (fun h => ?_) <;> try dsimp only at h)
      | refine Br.mk (fun h => ?_) (fun h => ?_)
      | refine Need.mk (app_need (by first | (simp only [List.length_append, List.length_map, List.length_nil, List.length_cons, List.nil_append, Nat.zero_add, Nat.add_zero]; done) | (simp only [List.length_append, List.length_map, List.length_nil, List.length_cons, List.nil_append, Nat.zero_add, Nat.add_zero]; omega) | omega) (Nat.le_of_ble_eq_true rfl) (by first | (simp only [List.length_append, List.length_map, List.length_nil, List.length_cons, List.nil_append, Nat.zero_add, Nat.add_zero]; done) | (simp only [List.length_append, List.length_map, List.length_nil, List.length_cons, List.nil_append, Nat.zero_add, Nat.add_zero]; omega) | omega)) ?_
      | refine Need.mk (app_need0 (Nat.le_of_ble_eq_true rfl) (by first | (simp only [List.length_append, List.length_map, List.length_nil, List.length_cons, List.nil_append, Nat.zero_add, Nat.add_zero]; done) | (simp only [List.length_append, List.length_map, List.length_nil, List.length_cons, List.nil_append, Nat.zero_add, Nat.add_zero]; omega) | omega)) ?_
      | refine Need.mk (by first | kernel_rfl | exact ⟨of_decide_eq_true rfl, of_decide_eq_true rfl⟩ | omega) ?_
      | refine Len.mk ⟨_, by simp only [List.length_cons, List.length_nil, Nat.reduceAdd, Int.cast_ofNat_Int]; rfl, ?_⟩
      | refine Wr.lit _ (by simp only [Int.reduceAdd, Int.reduceSub, Int.reduceMul]; rfl) (by decide) ?_
      | refine Wr.fit (by omega) ?_
      | refine Wr.fit (by dsimp only; omega) ?_
      | refine Elem.mk ⟨_, ⟨of_decide_eq_true rfl, rfl⟩, ?_⟩
      | refine Len.map ?_
      | refine Len.dropM ?_
      | refine Elem.dropM ?_
      | refine Len.takeM ?_
      | refine Elem.takeM ?_
      | refine Elem.mapK (by assumption) ?_
      | refine Elem.mapI (by omega) (by assumption) ?_
      | refine Elem.mapN (by omega) (fun x hx => ?_)
      | refine Elem.map (by omega) (by omega) (fun x hx => ?_)
      | refine (h1).use ⟨rfl, ?_⟩
      | refine CallX.mk ⟨_, _, (h1).x, rfl, ?_⟩
      | refine Done.mk ⟨rfl, rfl⟩
      | refine Done.mk ⟨congrArg gb ?_, rfl⟩
      | refine Done.mk ⟨?_, rfl⟩
      | refine Done.mk ⟨?_, ?_⟩)
  | true =>
  rw [hb] at h1
  by_cases hl : (r.length : Int) ≤ 60
  case neg =>
    rw [show (true && (decide (r.length ≤ 60) && lt20 r 0)) = false by rw [decide_eq_false (by omega)]; rfl]
    refine ICalls.of_body Try.func20 rfl Try.call20 rfl (Nat.le_of_ble_eq_true rfl) pl_T1_2 rfl ?_
    repeat' ((conv => whnf); first
      | refine Br.yes rfl ?_
      | refine Br.no rfl ?_
      | refine Br.yes (beq_self_eq_true _) ?_
      | refine Br.not ?_
      | refine Br.yes (decide_eq_true (by assumption)) ?_
      | refine Br.no (decide_eq_false (by assumption)) ?_
      | refine Br.yes (beq_iff_eq.2 (by assumption)) ?_
      | refine Br.no (beq_eq_false_iff_ne.2 (by assumption)) ?_
      | refine Br.yes (bne_iff_ne.2 (by assumption)) ?_
      | (refine Br.dec (fun h => ?_) (fun h => ?_) <;> try dsimp only at h)
      | (refine Br.beqI (fun h => ?_) (fun h => ?_) <;> try dsimp only at h)
      | (refine Br.bneI (fun h => ?_) (fun h => ?_) <;> try dsimp only at h)
      | refine Br.mk (fun h => ?_) (fun h => ?_)
      | refine Need.mk (app_need (by first | (simp only [List.length_append, List.length_map, List.length_nil, List.length_cons, List.nil_append, Nat.zero_add, Nat.add_zero]; done) | (simp only [List.length_append, List.length_map, List.length_nil, List.length_cons, List.nil_append, Nat.zero_add, Nat.add_zero]; omega) | omega) (Nat.le_of_ble_eq_true rfl) (by first | (simp only [List.length_append, List.length_map, List.length_nil, List.length_cons, List.nil_append, Nat.zero_add, Nat.add_zero]; done) | (simp only [List.length_append, List.length_map, List.length_nil, List.length_cons, List.nil_append, Nat.zero_add, Nat.add_zero]; omega) | omega)) ?_
      | refine Need.mk (app_need0 (Nat.le_of_ble_eq_true rfl) (by first | (simp only [List.length_append, List.length_map, List.length_nil, List.length_cons, List.nil_append, Nat.zero_add, Nat.add_zero]; done) | (simp only [List.length_append, List.length_map, List.length_nil, List.length_cons, List.nil_append, Nat.zero_add, Nat.add_zero]; omega) | omega)) ?_
      | refine Need.mk (by first | kernel_rfl | exact ⟨of_decide_eq_true rfl, of_decide_eq_true rfl⟩ | omega) ?_
      | refine Len.mk ⟨_, by simp only [List.length_cons, List.length_nil, Nat.reduceAdd, Int.cast_ofNat_Int]; rfl, ?_⟩
      | refine Wr.lit _ (by simp only [Int.reduceAdd, Int.reduceSub, Int.reduceMul]; rfl) (by decide) ?_
      | refine Wr.fit (by omega) ?_
      | refine Wr.fit (by dsimp only; omega) ?_
      | refine Elem.mk ⟨_, ⟨of_decide_eq_true rfl, rfl⟩, ?_⟩
      | refine Len.map ?_
      | refine Len.dropM ?_
      | refine Elem.dropM ?_
      | refine Len.takeM ?_
      | refine Elem.takeM ?_
      | refine Elem.mapK (by assumption) ?_
      | refine Elem.mapI (by omega) (by assumption) ?_
      | refine Elem.mapN (by omega) (fun x hx => ?_)
      | refine Elem.map (by omega) (by omega) (fun x hx => ?_)
      | refine (h1).use ⟨rfl, ?_⟩
      | refine CallX.mk ⟨_, _, (h1).x, rfl, ?_⟩
      | refine Done.mk ⟨rfl, rfl⟩
      | refine Done.mk ⟨congrArg gb ?_, rfl⟩
      | refine Done.mk ⟨?_, rfl⟩
      | refine Done.mk ⟨?_, ?_⟩)
    all_goals omega
  case pos =>
    rw [show (true && (decide (r.length ≤ 60) && lt20 r 0)) = lt20 r 0 by rw [decide_eq_true (by omega)]; rfl]
    generalize hR : lt20 r 0 = R
    refine ICalls.of_body Try.func20 rfl Try.call20 rfl (Nat.le_of_ble_eq_true rfl) pl_T1_3 rfl ?_
    repeat' ((conv => whnf); first
      | refine Br.yes rfl ?_
      | refine Br.no rfl ?_
      | (refine Elem.mapN (by omega) (fun x hx => ?_))
      | (refine ILoop.ov 1000005 (fun ((i, n) : Nat × Int) => [(18, gi i), (5, gi n)]) (fun ((i, n) : Nat × Int) => []) (fun ((i, n) : Nat × Int) => i ≤ r.length ∧ (-40320 * i ≤ n ∧ n ≤ 40320 * i) ∧ lt20 (r.drop i) n = R) (fun ((i, n) : Nat × Int) => r.length - i) ((0, 0)) (by exact rfl) ?_; (conv => whnf); refine Start.mk rfl ?_ ?_; (try dsimp only); rotate_left; rintro ⟨i, n⟩ ⟨hi, hn, hr⟩)
      | (refine Again.mk ⟨((i + 1, n + (x.To - x.From))), rfl, ?_, ?_⟩ <;> try dsimp only)
      | refine Br.yes (beq_self_eq_true _) ?_
      | refine Br.not ?_
      | refine Br.yes (decide_eq_true (by assumption)) ?_
      | refine Br.no (decide_eq_false (by assumption)) ?_
      | refine Br.yes (beq_iff_eq.2 (by assumption)) ?_
      | refine Br.no (beq_eq_false_iff_ne.2 (by assumption)) ?_
      | refine Br.yes (bne_iff_ne.2 (by assumption)) ?_
      | (refine Br.dec (fun h => ?_) (fun h => ?_) <;> try dsimp only at h)
      | (refine Br.beqI (fun h => ?_) (fun h => ?_) <;> try dsimp only at h)
      | (refine Br.bneI (fun h => ?_) (fun h => ?_) <;> try dsimp only at h)
      | refine Br.mk (fun h => ?_) (fun h => ?_)
      | refine Need.mk (app_need (by first | (simp only [List.length_append, List.length_map, List.length_nil, List.length_cons, List.nil_append, Nat.zero_add, Nat.add_zero]; done) | (simp only [List.length_append, List.length_map, List.length_nil, List.length_cons, List.nil_append, Nat.zero_add, Nat.add_zero]; omega) | omega) (Nat.le_of_ble_eq_true rfl) (by first | (simp only [List.length_append, List.length_map, List.length_nil, List.length_cons, List.nil_append, Nat.zero_add, Nat.add_zero]; done) | (simp only [List.length_append, List.length_map, List.length_nil, List.length_cons, List.nil_append, Nat.zero_add, Nat.add_zero]; omega) | omega)) ?_
      | refine Need.mk (app_need0 (Nat.le_of_ble_eq_true rfl) (by first | (simp only [List.length_append, List.length_map, List.length_nil, List.length_cons, List.nil_append, Nat.zero_add, Nat.add_zero]; done) | (simp only [List.length_append, List.length_map, List.length_nil, List.length_cons, List.nil_append, Nat.zero_add, Nat.add_zero]; omega) | omega)) ?_
      | refine Need.mk (by first | kernel_rfl | exact ⟨of_decide_eq_true rfl, of_decide_eq_true rfl⟩ | omega) ?_
      | refine Len.mk ⟨_, by simp only [List.length_cons, List.length_nil, Nat.reduceAdd, Int.cast_ofNat_Int]; rfl, ?_⟩
      | refine Wr.lit _ (by simp only [Int.reduceAdd, Int.reduceSub, Int.reduceMul]; rfl) (by decide) ?_
      | refine Wr.fit (by omega) ?_
      | refine Wr.fit (by dsimp only; omega) ?_
      | refine Elem.mk ⟨_, ⟨of_decide_eq_true rfl, rfl⟩, ?_⟩
      | refine Len.map ?_
      | refine Len.dropM ?_
      | refine Elem.dropM ?_
      | refine Len.takeM ?_
      | refine Elem.takeM ?_
      | refine Elem.mapK (by assumption) ?_
      | refine Elem.mapI (by omega) (by assumption) ?_
      | refine Elem.mapN (by omega) (fun x hx => ?_)
      | refine Elem.map (by omega) (by omega) (fun x hx => ?_)
      | refine (h1).use ⟨rfl, ?_⟩
      | refine CallX.mk ⟨_, _, (h1).x, rfl, ?_⟩
      | refine Done.mk ⟨rfl, rfl⟩
      | refine Done.mk ⟨congrArg gb ?_, rfl⟩
      | refine Done.mk ⟨?_, rfl⟩
      | refine Done.mk ⟨?_, ?_⟩)
    all_goals first
      | omega
      | exact lt_bad hx hr (by omega)
      | exact ⟨by omega, by omega, lt_go hx hr (by omega)⟩
      | exact lt_end (by assumption) hr
      | exact ⟨by omega, by omega, hR⟩

/-! ### A finding is noted -/
def tN (c : Nat) (a : Int) (x : NS) : NS := if 0 ≤ a then ⟨nS x.s c, nO x.s c ⟨c, a, a + 1⟩ x.out, nV x.s c x.v⟩ else x
def noteT (x : NS) (k : Nat) : List GB := [.cells [gi x.s], .cells [.ms 3 k x.v x.out.length], .mvec 80 3 (fnds x.out) x.v]
theorem nS16 {s c : Nat} (hs : s < 65536) (hc : c < 16) : nS s c < 65536 := by
  unfold nS
  split
  · exact hs
  · have : 2 ^ c < 2 ^ 16 := Nat.pow_lt_pow_right (by omega) hc
    exact Nat.or_lt_two_pow (n := 16) hs this
theorem tN_s {c : Nat} {a : Int} {x : NS} (hs : x.s < 65536) (hc : c < 16) : (tN c a x).s < 65536 := by
  unfold tN; split
  · exact nS16 hs hc
  · exact hs
theorem tN_len {c : Nat} {a : Int} {x : NS} : (tN c a x).out.length ≤ x.out.length + 1 := by
  unfold tN; split
  · exact nO_len
  · omega
theorem NInv16.tN {x : NS} (h : NInv16 x) (c : Nat) (a : Int) : NInv16 (Go.Hl.tN c a x) := by
  unfold Go.Hl.tN; split
  · exact h.note c _ _
  · exact h

set_option maxRecDepth 100000 in
set_option maxHeartbeats 1000000 in
theorem tnote_ok (c : Nat) (a : Int) (x : NS) (hs : x.s < 65536) (hc : c < 16) (ho : x.out.length ≤ 1000000) (ha : a ≤ 1000000) : ICalls Try.prog 49 [gi c, gi a, .ptr 0 0, .ptr 1 0] (noteT x 2) (Done (.tup []) (noteT (tN c a x) 2)) := by
  have hI := clauseIn_ok x.s c (by omega) (by omega)
  have hor := set_orN hs hc
  obtain ⟨s, out, v⟩ := x
  unfold tN noteT
  by_cases h0 : 0 ≤ a
  case neg =>
    rw [if_neg h0]
    refine ICalls.of_body Try.func49 rfl Try.call49 rfl (Nat.le_of_ble_eq_true rfl) (fun _ => none) rfl ?_
    repeat' ((conv => whnf); first
      | refine Br.yes rfl ?_
      | refine Br.no rfl ?_
      | refine Br.yes (beq_self_eq_true _) ?_
      | refine Br.not ?_
      | refine Br.yes (decide_eq_true (by assumption)) ?_
      | refine Br.no (decide_eq_false (by assumption)) ?_
      | refine Br.yes (beq_iff_eq.2 (by assumption)) ?_
      | refine Br.no (beq_eq_false_iff_ne.2 (by assumption)) ?_
      | refine Br.yes (bne_iff_ne.2 (by assumption)) ?_
      | (refine Br.dec (fun h => ?_) (fun h => ?_) <;> try dsimp only at h)
      | (refine Br.beqI (fun h => ?_) (fun h => ?_) <;> try dsimp only at h)
      | (refine Br.bneI (fun h => ?_) (fun h => ?_) <;> try dsimp only at h)
      | refine Br.mk (fun h => ?_) (fun h => ?_)
      | refine Need.mk (app_need (by first | (simp only [List.length_append, List.length_map, List.length_nil, List.length_cons, List.nil_append, Nat.zero_add, Nat.add_zero]; done) | (simp only [List.length_append, List.length_map, List.length_nil, List.length_cons, List.nil_append, Nat.zero_add, Nat.add_zero]; omega) | omega) (Nat.le_of_ble_eq_true rfl) (by first | (simp only [List.length_append, List.length_map, List.length_nil, List.length_cons, List.nil_append, Nat.zero_add, Nat.add_zero]; done) | (simp only [List.length_append, List.length_map, List.length_nil, List.length_cons, List.nil_append, Nat.zero_add, Nat.add_zero]; omega) | omega)) ?_
      | refine Need.mk (app_need0 (Nat.le_of_ble_eq_true rfl) (by first | (simp only [List.length_append, List.length_map, List.length_nil, List.length_cons, List.nil_append, Nat.zero_add, Nat.add_zero]; done) | (simp only [List.length_append, List.length_map, List.length_nil, List.length_cons, List.nil_append, Nat.zero_add, Nat.add_zero]; omega) | omega)) ?_
      | refine Need.mk (by first | kernel_rfl | exact ⟨of_decide_eq_true rfl, of_decide_eq_true rfl⟩ | omega) ?_
      | refine Len.mk ⟨_, by simp only [List.length_cons, List.length_nil, Nat.reduceAdd, Int.cast_ofNat_Int]; rfl, ?_⟩
      | refine Wr.lit _ (by simp only [Int.reduceAdd, Int.reduceSub, Int.reduceMul]; rfl) (by decide) ?_
      | refine Wr.fit (by omega) ?_
      | refine Wr.fit (by dsimp only; omega) ?_
      | refine Elem.mk ⟨_, ⟨of_decide_eq_true rfl, rfl⟩, ?_⟩
      | refine Len.map ?_
      | refine Len.dropM ?_
      | refine Elem.dropM ?_
      | refine Len.takeM ?_
      | refine Elem.takeM ?_
      | refine Elem.mapK (by assumption) ?_
      | refine Elem.mapI (by omega) (by assumption) ?_
      | refine Elem.mapN (by omega) (fun x hx => ?_)
      | refine Elem.map (by omega) (by omega) (fun x hx => ?_)
      | refine (hI).use ⟨rfl, ?_⟩
      | refine CallX.mk ⟨_, _, (hI).x, rfl, ?_⟩
      | refine Done.mk ⟨rfl, rfl⟩
      | refine Done.mk ⟨congrArg gb ?_, rfl⟩
      | refine Done.mk ⟨?_, rfl⟩
      | refine Done.mk ⟨?_, ?_⟩)
    all_goals first | omega | rfl
  case pos =>
  rw [if_pos h0]
  unfold nS nV nO
  simp only at hI ho hor ⊢
  cases hb : s.testBit c
  {
  rw [hb] at hI
  refine ICalls.of_body Try.func49 rfl Try.call49 rfl (Nat.le_of_ble_eq_true rfl) (fun _ => none) rfl ?_
  repeat' ((conv => whnf); first
    | refine Br.yes rfl ?_
    | refine Br.no rfl ?_
    | (refine Need.mk (app_needM rfl (Nat.le_of_ble_eq_true rfl) (by rw [fnds_len]; simp only [List.length_cons, List.length_nil]; omega)) ?_)
    | refine Br.yes (beq_self_eq_true _) ?_
    | refine Br.not ?_
    | refine Br.yes (decide_eq_true (by assumption)) ?_
    | refine Br.no (decide_eq_false (by assumption)) ?_
    | refine Br.yes (beq_iff_eq.2 (by assumption)) ?_
    | refine Br.no (beq_eq_false_iff_ne.2 (by assumption)) ?_
    | refine Br.yes (bne_iff_ne.2 (by assumption)) ?_
    | (refine Br.dec (fun h => ?_) (fun h => ?_) <;> try dsimp only at h)
    | (refine Br.beqI (fun h => ?_) (fun h => ?_) <;> try dsimp only at h)
    | (refine Br.bneI (fun h => ?_) (fun h => ?_) <;> try dsimp only at h)
    | refine Br.mk (fun h => ?_) (fun h => ?_)
    | refine Need.mk (app_need (by first | (simp only [List.length_append, List.length_map, List.length_nil, List.length_cons, List.nil_append, Nat.zero_add, Nat.add_zero]; done) | (simp only [List.length_append, List.length_map, List.length_nil, List.length_cons, List.nil_append, Nat.zero_add, Nat.add_zero]; omega) | omega) (Nat.le_of_ble_eq_true rfl) (by first | (simp only [List.length_append, List.length_map, List.length_nil, List.length_cons, List.nil_append, Nat.zero_add, Nat.add_zero]; done) | (simp only [List.length_append, List.length_map, List.length_nil, List.length_cons, List.nil_append, Nat.zero_add, Nat.add_zero]; omega) | omega)) ?_
    | refine Need.mk (app_need0 (Nat.le_of_ble_eq_true rfl) (by first | (simp only [List.length_append, List.length_map, List.length_nil, List.length_cons, List.nil_append, Nat.zero_add, Nat.add_zero]; done) | (simp only [List.length_append, List.length_map, List.length_nil, List.length_cons, List.nil_append, Nat.zero_add, Nat.add_zero]; omega) | omega)) ?_
    | refine Need.mk (by first | kernel_rfl | exact ⟨of_decide_eq_true rfl, of_decide_eq_true rfl⟩ | omega) ?_
    | refine Len.mk ⟨_, by simp only [List.length_cons, List.length_nil, Nat.reduceAdd, Int.cast_ofNat_Int]; rfl, ?_⟩
    | refine Wr.lit _ (by simp only [Int.reduceAdd, Int.reduceSub, Int.reduceMul]; rfl) (by decide) ?_
    | refine Wr.fit (by omega) ?_
    | refine Wr.fit (by dsimp only; omega) ?_
    | refine Elem.mk ⟨_, ⟨of_decide_eq_true rfl, rfl⟩, ?_⟩
    | refine Len.map ?_
    | refine Len.dropM ?_
    | refine Elem.dropM ?_
    | refine Len.takeM ?_
    | refine Elem.takeM ?_
    | refine Elem.mapK (by assumption) ?_
    | refine Elem.mapI (by omega) (by assumption) ?_
    | refine Elem.mapN (by omega) (fun x hx => ?_)
    | refine Elem.map (by omega) (by omega) (fun x hx => ?_)
    | refine (hI).use ⟨rfl, ?_⟩
    | refine CallX.mk ⟨_, _, (hI).x, rfl, ?_⟩
    | refine Done.mk ⟨rfl, rfl⟩
    | refine Done.mk ⟨congrArg gb ?_, rfl⟩
    | refine Done.mk ⟨?_, rfl⟩
    | refine Done.mk ⟨?_, ?_⟩)
  all_goals first
    | omega
    | exact note_cells hor out ⟨c, a, a + 1⟩ v
    | rfl
  }
  {
  rw [hb] at hI
  refine ICalls.of_body Try.func49 rfl Try.call49 rfl (Nat.le_of_ble_eq_true rfl) (fun _ => none) rfl ?_
  repeat' ((conv => whnf); first
    | refine Br.yes rfl ?_
    | refine Br.no rfl ?_
    | refine Br.yes (beq_self_eq_true _) ?_
    | refine Br.not ?_
    | refine Br.yes (decide_eq_true (by assumption)) ?_
    | refine Br.no (decide_eq_false (by assumption)) ?_
    | refine Br.yes (beq_iff_eq.2 (by assumption)) ?_
    | refine Br.no (beq_eq_false_iff_ne.2 (by assumption)) ?_
    | refine Br.yes (bne_iff_ne.2 (by assumption)) ?_
    | (refine Br.dec (fun h => ?_) (fun h => ?_) <;> try dsimp only at h)
    | (refine Br.beqI (fun h => ?_) (fun h => ?_) <;> try dsimp only at h)
    | (refine Br.bneI (fun h => ?_) (fun h => ?_) <;> try dsimp only at h)
    | refine Br.mk (fun h => ?_) (fun h => ?_)
    | refine Need.mk (app_need (by first | (simp only [List.length_append, List.length_map, List.length_nil, List.length_cons, List.nil_append, Nat.zero_add, Nat.add_zero]; done) | (simp only [List.length_append, List.length_map, List.length_nil, List.length_cons, List.nil_append, Nat.zero_add, Nat.add_zero]; omega) | omega) (Nat.le_of_ble_eq_true rfl) (by first | (simp only [List.length_append, List.length_map, List.length_nil, List.length_cons, List.nil_append, Nat.zero_add, Nat.add_zero]; done) | (simp only [List.length_append, List.length_map, List.length_nil, List.length_cons, List.nil_append, Nat.zero_add, Nat.add_zero]; omega) | omega)) ?_
    | refine Need.mk (app_need0 (Nat.le_of_ble_eq_true rfl) (by first | (simp only [List.length_append, List.length_map, List.length_nil, List.length_cons, List.nil_append, Nat.zero_add, Nat.add_zero]; done) | (simp only [List.length_append, List.length_map, List.length_nil, List.length_cons, List.nil_append, Nat.zero_add, Nat.add_zero]; omega) | omega)) ?_
    | refine Need.mk (by first | kernel_rfl | exact ⟨of_decide_eq_true rfl, of_decide_eq_true rfl⟩ | omega) ?_
    | refine Len.mk ⟨_, by simp only [List.length_cons, List.length_nil, Nat.reduceAdd, Int.cast_ofNat_Int]; rfl, ?_⟩
    | refine Wr.lit _ (by simp only [Int.reduceAdd, Int.reduceSub, Int.reduceMul]; rfl) (by decide) ?_
    | refine Wr.fit (by omega) ?_
    | refine Wr.fit (by dsimp only; omega) ?_
    | refine Elem.mk ⟨_, ⟨of_decide_eq_true rfl, rfl⟩, ?_⟩
    | refine Len.map ?_
    | refine Len.dropM ?_
    | refine Elem.dropM ?_
    | refine Len.takeM ?_
    | refine Elem.takeM ?_
    | refine Elem.mapK (by assumption) ?_
    | refine Elem.mapI (by omega) (by assumption) ?_
    | refine Elem.mapN (by omega) (fun x hx => ?_)
    | refine Elem.map (by omega) (by omega) (fun x hx => ?_)
    | refine (hI).use ⟨rfl, ?_⟩
    | refine CallX.mk ⟨_, _, (hI).x, rfl, ?_⟩
    | refine Done.mk ⟨rfl, rfl⟩
    | refine Done.mk ⟨congrArg gb ?_, rfl⟩
    | refine Done.mk ⟨?_, rfl⟩
    | refine Done.mk ⟨?_, ?_⟩)
  all_goals first | omega | rfl
  }

end Go.Hl

/- Chapter 20: a timeline audited against tasks.  -/
set_option linter.unusedVariables false
set_option linter.unusedSimpArgs false
namespace Go.Hl
open Go.Gh Go.Proofs

def four (f : F4) (x : NS) : NS := tN 13 f.d (tN 12 f.c (tN 11 f.b (tN 10 f.a x)))
structure TS where
  s : Spot
  x : NS
  la : Int
def tRec (l : List Task) (r : Rec) (w : TS) : TS := ⟨(overAll l w.s r).1, four (overAll l w.s r).2 w.x, r.To - 1⟩
def tAll (l : List Task) : List Rec → TS → TS
  | [], w => w
  | r :: t, w => tAll l t (tRec l r w)
def tEnd (l : List Task) (w : TS) : NS := if w.s.Task < l.length then tN 14 w.la w.x else w.x
def tStart (s : Spot) : TS := ⟨s, ⟨0, [], 0⟩, 0⟩
def audT (l : List Task) (s : Spot) (r : List Rec) : Spot × List Fnd := if chk20 l s r = 0 then ((tAll l r (tStart s)).s, sortF (tEnd l (tAll l r (tStart s))).out) else (zeroSpot, [])

theorem sel_le {p b : Bool} {f m B : Int} (hf : f ≤ B) (hm : m ≤ B) : sel p b f m ≤ B := by unfold sel; split <;> assumption
structure F4.Le (f : F4) (B : Int) : Prop where
  a : f.a ≤ B
  b : f.b ≤ B
  c : f.c ≤ B
  d : f.d ≤ B
theorem F4.Le.upd {f : F4} {B m : Int} (h : f.Le B) (b : B4) (hm : m ≤ B) : (f.upd b m).Le B := ⟨sel_le h.a hm, sel_le h.b hm, sel_le h.c hm, sel_le h.d hm⟩
theorem overN_ok {l : List Task} {k : Int} (ht : tasksErr l = 0) : ∀ (n : Nat) (s : Spot) (m : Int) (f : F4), fitsS l s = true → f.Le 40320 → m + n ≤ 40320 → fitsS l (overN l k n s m f).1 = true ∧ (overN l k n s m f).2.Le 40320
  | 0, s, m, f, hs, hf, _ => ⟨hs, hf⟩
  | n + 1, s, m, f, hs, hf, hm => by
    rw [overN]
    exact overN_ok ht n _ _ _ (minuteS_left (tasksErr_ok ht).2 hs m k).1 (hf.upd _ (by omega)) (by omega)
theorem check_fits {l : List Task} {s : Spot} (h : errCheck l s = 0) : tasksErr l = 0 ∧ fitsS l s = true := by unfold errCheck at h; grind
theorem overErr_0 {l : List Task} {s : Spot} {r : Rec} (h : errCheck l s = 0) (hr : recErr r = 0) : overErr l s r = 0 := by unfold overErr; rw [if_neg (by omega)]; exact hr
theorem overAll_ok {l : List Task} {s : Spot} {r : Rec} (h : errCheck l s = 0) (hr : recErr r = 0) : errCheck l (overAll l s r).1 = 0 ∧ (overAll l s r).2.Le 40320 := by
  obtain ⟨ht, hs⟩ := check_fits h
  have hi := recErr_inv hr
  unfold overAll
  rw [if_pos (overErr_0 h hr)]
  have := overN_ok (l := l) (k := r.Kind) ht (r.To - r.From).toNat s r.From ⟨-1, -1, -1, -1⟩ hs ⟨by decide, by decide, by decide, by decide⟩ (by omega)
  exact ⟨errCheck_of ht this.1, this.2⟩
theorem errOver0_ok {l : List Task} {s : Spot} {r : Rec} (h : errCheck l s = 0) (hr : recErr r = 0) : ICalls Try.prog 50 [.list 3 (tasks l) none, s.g, r.g] [] (Done (.tup [(overAll l s r).1.g, .agg (overAll l s r).2.cs, gi 0]) []) := by
  have := errOver_ok l s r
  rw [overErr_0 h hr] at this
  exact this

structure TOk (l : List Task) (w : TS) (N : Nat) : Prop where
  s : errCheck l w.s = 0
  b : w.x.s < 65536
  len : w.x.out.length ≤ N
  nt : NInv16 w.x
  la : 0 ≤ w.la ∧ w.la ≤ 40320
theorem four_s {f : F4} {x : NS} (h : x.s < 65536) : (four f x).s < 65536 := tN_s (tN_s (tN_s (tN_s h (by omega)) (by omega)) (by omega)) (by omega)
theorem four_len {f : F4} {x : NS} : (four f x).out.length ≤ x.out.length + 4 := by
  have h1 := @tN_len 10 f.a x
  have h2 := @tN_len 11 f.b (tN 10 f.a x)
  have h3 := @tN_len 12 f.c (tN 11 f.b (tN 10 f.a x))
  have h4 := @tN_len 13 f.d (tN 12 f.c (tN 11 f.b (tN 10 f.a x)))
  unfold four; omega
theorem TOk.go {l : List Task} {w : TS} {N : Nat} {r : Rec} (h : TOk l w N) (hr : recErr r = 0) : TOk l (tRec l r w) (N + 4) := by
  have h1 := overAll_ok h.s hr
  have h2 := recErr_inv hr
  refine ⟨h1.1, four_s h.b, ?_, ((((h.nt.tN 10 _).tN 11 _).tN 12 _).tN 13 _), ?_⟩
  · have := @four_len (overAll l w.s r).2 w.x
    have := h.len
    show (four _ _).out.length ≤ _
    omega
  · show 0 ≤ r.To - 1 ∧ r.To - 1 ≤ 40320
    omega
theorem TOk.start {l : List Task} {s : Spot} (h : errCheck l s = 0) : TOk l (tStart s) 0 := ⟨h, by show 0 < 65536; decide, Nat.le_refl _, .start, by show (0 : Int) ≤ 0 ∧ (0 : Int) ≤ 40320; decide⟩
theorem chk_0 {l : List Task} {s : Spot} {r : List Rec} (h : chk20 l s r = 0) : errCheck l s = 0 ∧ (recsErr 0 none r).2 = 0 := by
  unfold chk20 at h
  split at h
  · exact absurd h (by assumption)
  · exact ⟨by omega, h⟩
theorem tr_step {l : List Task} {R : List Rec} {i : Nat} {q : Rec} {w W : TS} (hA : TOk l w (4 * i)) (hx : R[i]? = some q) (hq : recErr q = 0) (hw : tAll l (R.drop i) w = W) (h : (i : Int) < R.length) :
    i + 1 ≤ R.length ∧ TOk l (tRec l q w) (4 * (i + 1)) ∧ tAll l (R.drop (i + 1)) (tRec l q w) = W := by
  refine ⟨by omega, ?_, ?_⟩
  · have := hA.go hq
    rwa [show 4 * (i + 1) = 4 * i + 4 by omega]
  · rw [drop_of_get hx, tAll] at hw; exact hw
theorem tr_end {l : List Task} {R : List Rec} {i : Nat} {w W : TS} (hi : ¬ (i : Int) < R.length) (h : tAll l (R.drop i) w = W) : w = W := by
  rw [List.drop_eq_nil_of_le (by omega), tAll] at h; exact h
theorem tr_yes {l : List Task} {R : List Rec} {i : Nat} {w W : TS} (hi : ¬ (i : Int) < R.length) (h : tAll l (R.drop i) w = W) (ht : w.s.Task < l.length) : GV.tup [w.s.g, .list 3 (fnds (sortF (tN 14 w.la w.x).out)) none, gi 0] = .tup [W.s.g, .list 3 (fnds (sortF (tEnd l W).out)) none, gi 0] := by
  rw [← tr_end hi h, tEnd, if_pos ht]
theorem tr_no {l : List Task} {R : List Rec} {i : Nat} {w W : TS} (hi : ¬ (i : Int) < R.length) (h : tAll l (R.drop i) w = W) (ht : ¬ w.s.Task < l.length) : GV.tup [w.s.g, .list 3 (fnds (sortF w.x.out)) none, gi 0] = .tup [W.s.g, .list 3 (fnds (sortF (tEnd l W).out)) none, gi 0] := by
  rw [← tr_end hi h, tEnd, if_neg ht]

def pl_T2_1 : Nat → Option (List Nat × List Nat) := (fun k => bif Nat.beq k 8 then some ([1000008, 0, 4, 6, 10, 12, 13, 30, 31, 32], [104, 106, 110, 111]) else bif Nat.beq k 14 then some ([1000014, 0, 4, 6, 10, 13, 15, 16, 30, 31, 32, 48, 49], [104, 106, 110, 111, 115, 116]) else none)
def pl_T2_2 : Nat → Option (List Nat × List Nat) := (fun k => bif Nat.beq k 8 then some ([1000008, 0, 4, 6, 10, 12, 13, 30, 31, 32, 5000010], [104, 106, 110, 111, 50110]) else bif Nat.beq k 14 then some ([1000014, 0, 4, 6, 10, 13, 15, 16, 30, 31, 32, 48, 49, 5000010], [104, 106, 110, 111, 115, 116, 50110]) else bif Nat.beq k 5000010 then some ([], []) else bif Nat.beq k 7000022 then some ([110], []) else none)
set_option maxRecDepth 100000 in
set_option maxHeartbeats 2000000 in
theorem trailAudit_ok (l : List Task) (s0 : Spot) (R : List Rec) (hl : (R.length : Int) ≤ 1000) : ICalls Try.prog 22 [.list 3 (tasks l) none, s0.g, .list 3 (recs R) none] [] (Done (.tup [(audT l s0 R).1.g, .list 3 (fnds (audT l s0 R).2) none, gi (chk20 l s0 R)]) []) := by
  have h1 := trailCheck_ok l s0 R (by omega)
  unfold audT
  by_cases he : chk20 l s0 R = 0
  case neg =>
    rw [if_neg he]
    generalize chk20 l s0 R = e at *
    refine ICalls.of_body Try.func22 rfl Try.call22 rfl (Nat.le_of_ble_eq_true rfl) pl_T2_1 rfl ?_
    repeat' ((conv => whnf); first
      | refine Br.yes rfl ?_
      | refine Br.no rfl ?_
      | refine Br.yes (beq_self_eq_true _) ?_
      | refine Br.not ?_
      | refine Br.yes (decide_eq_true (by assumption)) ?_
      | refine Br.no (decide_eq_false (by assumption)) ?_
      | refine Br.yes (beq_iff_eq.2 (by assumption)) ?_
      | refine Br.no (beq_eq_false_iff_ne.2 (by assumption)) ?_
      | refine Br.yes (bne_iff_ne.2 (by assumption)) ?_
      | (refine Br.dec (fun h => ?_) (fun h => ?_) <;> try dsimp only at h)
      | (refine Br.beqI (fun h => ?_) (fun h => ?_) <;> try dsimp only at h)
      | (refine Br.bneI (fun h => ?_) (fun h => ?_) <;> try dsimp only at h)
      | refine Br.mk (fun h => ?_) (fun h => ?_)
      | refine Need.mk (app_need (by first | (simp only [List.length_append, List.length_map, List.length_nil, List.length_cons, List.nil_append, Nat.zero_add, Nat.add_zero]; done) | (simp only [List.length_append, List.length_map, List.length_nil, List.length_cons, List.nil_append, Nat.zero_add, Nat.add_zero]; omega) | omega) (Nat.le_of_ble_eq_true rfl) (by first | (simp only [List.length_append, List.length_map, List.length_nil, List.length_cons, List.nil_append, Nat.zero_add, Nat.add_zero]; done) | (simp only [List.length_append, List.length_map, List.length_nil, List.length_cons, List.nil_append, Nat.zero_add, Nat.add_zero]; omega) | omega)) ?_
      | refine Need.mk (app_need0 (Nat.le_of_ble_eq_true rfl) (by first | (simp only [List.length_append, List.length_map, List.length_nil, List.length_cons, List.nil_append, Nat.zero_add, Nat.add_zero]; done) | (simp only [List.length_append, List.length_map, List.length_nil, List.length_cons, List.nil_append, Nat.zero_add, Nat.add_zero]; omega) | omega)) ?_
      | refine Need.mk (app_needM rfl (Nat.le_of_ble_eq_true rfl) (by first | (simp only [List.length_append, List.length_map, List.length_nil, List.length_cons, List.nil_append, Nat.zero_add, Nat.add_zero]; done) | (simp only [List.length_append, List.length_map, List.length_nil, List.length_cons, List.nil_append, Nat.zero_add, Nat.add_zero]; omega) | omega)) ?_
      | refine Need.mk (zeros_need (by omega) (Nat.le_of_ble_eq_true rfl) (by omega)) ?_
      | refine Need.mk (by first | kernel_rfl | exact ⟨of_decide_eq_true rfl, of_decide_eq_true rfl⟩ | omega) ?_
      | refine Len.mk ⟨_, by simp only [List.length_cons, List.length_nil, Nat.reduceAdd, Int.cast_ofNat_Int]; rfl, ?_⟩
      | refine Wr.lit _ (by simp only [Int.reduceAdd, Int.reduceSub, Int.reduceMul]; rfl) (by decide) ?_
      | refine Wr.fit (by omega) ?_
      | refine Wr.fit (by dsimp only; omega) ?_
      | refine Elem.mk ⟨_, ⟨of_decide_eq_true rfl, rfl⟩, ?_⟩
      | refine Len.map ?_
      | refine Len.dropM ?_
      | refine Elem.dropM ?_
      | refine Len.takeM ?_
      | refine Elem.takeM ?_
      | refine Elem.mapK (by assumption) ?_
      | refine Elem.mapI (by omega) (by assumption) ?_
      | refine Elem.mapN (by omega) (fun x hx => ?_)
      | refine Elem.map (by omega) (by omega) (fun x hx => ?_)
      | refine (h1).use ⟨rfl, ?_⟩
      | refine CallX.mk ⟨_, _, (h1).x, rfl, ?_⟩
      | refine Done.mk ⟨rfl, rfl⟩
      | refine Done.mk ⟨congrArg gb ?_, rfl⟩
      | refine Done.mk ⟨?_, rfl⟩
      | refine Done.mk ⟨?_, ?_⟩)
    all_goals first | omega | rfl
  case pos =>
    rw [if_pos he, he]
    rw [he] at h1
    obtain ⟨hs0, hrs⟩ := chk_0 he
    have hc := chain_first hrs
    have hq : ∀ (i : Nat) (q : Rec), R[i]? = some q → recErr q = 0 := fun i q hx => chain_all R _ hc q (List.mem_of_getElem? hx)
    have hst := TOk.start hs0
    clear he hc hrs
    generalize hW : tAll l R (tStart s0) = W
    refine ICalls.of_body Try.func22 rfl Try.call22 rfl (Nat.le_of_ble_eq_true rfl) pl_T2_2 rfl ?_
    repeat' ((conv => whnf); first
      | refine Br.yes rfl ?_
      | refine Br.no rfl ?_
      | (refine Elem.mapN (by omega) (fun q hx => ?_); have hqi := recErr_inv (hq i q hx))
      | (refine ILoop.ov 1000008 (fun ((i, s, x, la) : Nat × Spot × NS × Int) => [(32, gi i), (12, gi la)]) (fun ((i, s, x, la) : Nat × Spot × NS × Int) => [(104, .cells (s.c)), (111, .cells ([gi x.s])), (110, .cells [.ms 3 50110 x.v x.out.length]), (50110, .mvec 80 3 (fnds x.out) x.v)]) (fun ((i, s, x, la) : Nat × Spot × NS × Int) => i ≤ R.length ∧ TOk l ⟨s, x, la⟩ (4 * i) ∧ tAll l (R.drop i) ⟨s, x, la⟩ = W) (fun ((i, s, x, la) : Nat × Spot × NS × Int) => R.length - i) ((0, s0, ⟨0, [], 0⟩, 0)) (by exact rfl) ?_; (conv => whnf); refine Start.mk rfl ?_ ?_; (try dsimp only); rotate_left; rintro ⟨i, s, x, la⟩ ⟨hi, hA, hw⟩)
      | (refine Again.mk ⟨((i + 1, (overAll l s q).1, four (overAll l s q).2 x, q.To - 1)), rfl, ?_, ?_⟩ <;> try dsimp only)
      | refine Br.yes (beq_self_eq_true _) ?_
      | refine Br.not ?_
      | refine Br.yes (decide_eq_true (by assumption)) ?_
      | refine Br.no (decide_eq_false (by assumption)) ?_
      | refine Br.yes (beq_iff_eq.2 (by assumption)) ?_
      | refine Br.no (beq_eq_false_iff_ne.2 (by assumption)) ?_
      | refine Br.yes (bne_iff_ne.2 (by assumption)) ?_
      | (refine Br.dec (fun h => ?_) (fun h => ?_) <;> try dsimp only at h)
      | (refine Br.beqI (fun h => ?_) (fun h => ?_) <;> try dsimp only at h)
      | (refine Br.bneI (fun h => ?_) (fun h => ?_) <;> try dsimp only at h)
      | refine Br.mk (fun h => ?_) (fun h => ?_)
      | refine Need.mk (app_need (by first | (simp only [List.length_append, List.length_map, List.length_nil, List.length_cons, List.nil_append, Nat.zero_add, Nat.add_zero]; done) | (simp only [List.length_append, List.length_map, List.length_nil, List.length_cons, List.nil_append, Nat.zero_add, Nat.add_zero]; omega) | omega) (Nat.le_of_ble_eq_true rfl) (by first | (simp only [List.length_append, List.length_map, List.length_nil, List.length_cons, List.nil_append, Nat.zero_add, Nat.add_zero]; done) | (simp only [List.length_append, List.length_map, List.length_nil, List.length_cons, List.nil_append, Nat.zero_add, Nat.add_zero]; omega) | omega)) ?_
      | refine Need.mk (app_need0 (Nat.le_of_ble_eq_true rfl) (by first | (simp only [List.length_append, List.length_map, List.length_nil, List.length_cons, List.nil_append, Nat.zero_add, Nat.add_zero]; done) | (simp only [List.length_append, List.length_map, List.length_nil, List.length_cons, List.nil_append, Nat.zero_add, Nat.add_zero]; omega) | omega)) ?_
      | refine Need.mk (app_needM rfl (Nat.le_of_ble_eq_true rfl) (by first | (simp only [List.length_append, List.length_map, List.length_nil, List.length_cons, List.nil_append, Nat.zero_add, Nat.add_zero]; done) | (simp only [List.length_append, List.length_map, List.length_nil, List.length_cons, List.nil_append, Nat.zero_add, Nat.add_zero]; omega) | omega)) ?_
      | refine Need.mk (zeros_need (by omega) (Nat.le_of_ble_eq_true rfl) (by omega)) ?_
      | refine Need.mk (by first | kernel_rfl | exact ⟨of_decide_eq_true rfl, of_decide_eq_true rfl⟩ | omega) ?_
      | refine Len.mk ⟨_, by simp only [List.length_cons, List.length_nil, Nat.reduceAdd, Int.cast_ofNat_Int]; rfl, ?_⟩
      | refine Wr.lit _ (by simp only [Int.reduceAdd, Int.reduceSub, Int.reduceMul]; rfl) (by decide) ?_
      | refine Wr.fit (by omega) ?_
      | refine Wr.fit (by dsimp only; omega) ?_
      | refine Elem.mk ⟨_, ⟨of_decide_eq_true rfl, rfl⟩, ?_⟩
      | refine Len.map ?_
      | refine Len.dropM ?_
      | refine Elem.dropM ?_
      | refine Len.takeM ?_
      | refine Elem.takeM ?_
      | refine Elem.mapK (by assumption) ?_
      | refine Elem.mapI (by omega) (by assumption) ?_
      | refine Elem.mapN (by omega) (fun x hx => ?_)
      | refine Elem.map (by omega) (by omega) (fun x hx => ?_)
      | refine (h1).use ⟨rfl, ?_⟩
      | refine (errOver0_ok hA.s (hq i q hx)).use ⟨rfl, ?_⟩
      | refine (tnote_ok 10 (overAll l s q).2.a x hA.b (by omega) (by have := hA.len; simp only at this; omega) (by have := (overAll_ok hA.s (hq i q hx)).2.a; simp only at this; omega)).use ⟨rfl, ?_⟩
      | refine (tnote_ok 11 (overAll l s q).2.b (tN 10 (overAll l s q).2.a x) (tN_s hA.b (by omega)) (by omega) (by have := @tN_len 10 (overAll l s q).2.a x; have := hA.len; simp only at this; omega) (by have := (overAll_ok hA.s (hq i q hx)).2.b; simp only at this; omega)).use ⟨rfl, ?_⟩
      | refine (tnote_ok 12 (overAll l s q).2.c (tN 11 (overAll l s q).2.b (tN 10 (overAll l s q).2.a x)) (tN_s (tN_s hA.b (by omega)) (by omega)) (by omega) (by have := @tN_len 10 (overAll l s q).2.a x; have := @tN_len 11 (overAll l s q).2.b (tN 10 (overAll l s q).2.a x); have := hA.len; simp only at this; omega) (by have := (overAll_ok hA.s (hq i q hx)).2.c; simp only at this; omega)).use ⟨rfl, ?_⟩
      | refine (tnote_ok 13 (overAll l s q).2.d (tN 12 (overAll l s q).2.c (tN 11 (overAll l s q).2.b (tN 10 (overAll l s q).2.a x))) (tN_s (tN_s (tN_s hA.b (by omega)) (by omega)) (by omega)) (by omega) (by have := @tN_len 10 (overAll l s q).2.a x; have := @tN_len 11 (overAll l s q).2.b (tN 10 (overAll l s q).2.a x); have := @tN_len 12 (overAll l s q).2.c (tN 11 (overAll l s q).2.b (tN 10 (overAll l s q).2.a x)); have := hA.len; simp only at this; omega) (by have := (overAll_ok hA.s (hq i q hx)).2.d; simp only at this; omega)).use ⟨rfl, ?_⟩
      | refine (tnote_ok 14 la x hA.b (by omega) (by have := hA.len; simp only at this; omega) (by have := hA.la; simp only at this; omega)).use ⟨rfl, ?_⟩
      | refine (clauseSort_ok x.out (by have := hA.len; simp only at this; omega) hA.nt.nodup).use ⟨rfl, ?_⟩
      | refine (clauseSort_ok (tN 14 la x).out (by have := @tN_len 14 la x; have := hA.len; simp only at this; omega) (hA.nt.tN 14 la).nodup).use ⟨rfl, ?_⟩
      | refine CallX.mk ⟨_, _, (h1).x, rfl, ?_⟩
      | refine CallX.mk ⟨_, _, (errOver0_ok hA.s (hq i q hx)).x, rfl, ?_⟩
      | refine CallX.mk ⟨_, _, (tnote_ok 10 (overAll l s q).2.a x hA.b (by omega) (by have := hA.len; simp only at this; omega) (by have := (overAll_ok hA.s (hq i q hx)).2.a; simp only at this; omega)).x, rfl, ?_⟩
      | refine CallX.mk ⟨_, _, (tnote_ok 11 (overAll l s q).2.b (tN 10 (overAll l s q).2.a x) (tN_s hA.b (by omega)) (by omega) (by have := @tN_len 10 (overAll l s q).2.a x; have := hA.len; simp only at this; omega) (by have := (overAll_ok hA.s (hq i q hx)).2.b; simp only at this; omega)).x, rfl, ?_⟩
      | refine CallX.mk ⟨_, _, (tnote_ok 12 (overAll l s q).2.c (tN 11 (overAll l s q).2.b (tN 10 (overAll l s q).2.a x)) (tN_s (tN_s hA.b (by omega)) (by omega)) (by omega) (by have := @tN_len 10 (overAll l s q).2.a x; have := @tN_len 11 (overAll l s q).2.b (tN 10 (overAll l s q).2.a x); have := hA.len; simp only at this; omega) (by have := (overAll_ok hA.s (hq i q hx)).2.c; simp only at this; omega)).x, rfl, ?_⟩
      | refine CallX.mk ⟨_, _, (tnote_ok 13 (overAll l s q).2.d (tN 12 (overAll l s q).2.c (tN 11 (overAll l s q).2.b (tN 10 (overAll l s q).2.a x))) (tN_s (tN_s (tN_s hA.b (by omega)) (by omega)) (by omega)) (by omega) (by have := @tN_len 10 (overAll l s q).2.a x; have := @tN_len 11 (overAll l s q).2.b (tN 10 (overAll l s q).2.a x); have := @tN_len 12 (overAll l s q).2.c (tN 11 (overAll l s q).2.b (tN 10 (overAll l s q).2.a x)); have := hA.len; simp only at this; omega) (by have := (overAll_ok hA.s (hq i q hx)).2.d; simp only at this; omega)).x, rfl, ?_⟩
      | refine CallX.mk ⟨_, _, (tnote_ok 14 la x hA.b (by omega) (by have := hA.len; simp only at this; omega) (by have := hA.la; simp only at this; omega)).x, rfl, ?_⟩
      | refine CallX.mk ⟨_, _, (clauseSort_ok x.out (by have := hA.len; simp only at this; omega) hA.nt.nodup).x, rfl, ?_⟩
      | refine CallX.mk ⟨_, _, (clauseSort_ok (tN 14 la x).out (by have := @tN_len 14 la x; have := hA.len; simp only at this; omega) (hA.nt.tN 14 la).nodup).x, rfl, ?_⟩
      | refine ILoop.unroll 5 ?_
      | refine Done.mk ⟨rfl, rfl⟩
      | refine Done.mk ⟨congrArg gb ?_, rfl⟩
      | refine Done.mk ⟨?_, rfl⟩
      | refine Done.mk ⟨?_, ?_⟩)
    all_goals first
      | omega
      | exact tr_step hA hx (hq i q hx) hw (by assumption)
      | exact tr_yes (by assumption) hw (by assumption)
      | exact tr_no (by assumption) hw (by assumption)
      | exact ⟨by omega, hst, hW⟩

end Go.Hl
