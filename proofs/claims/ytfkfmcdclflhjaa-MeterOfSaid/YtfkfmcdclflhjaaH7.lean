/- Contracts of functions, bundle H7; proved for whatever the arguments' types allow, as each theorem says. -/
import Derived.Test.YtfkfmcdclflhjaaH6

/- Contracts: a minute of tasks.  #prune -/
set_option linter.unusedVariables false
set_option linter.unusedSimpArgs false
namespace Go.Hl
open Go.Gh Go.Proofs

theorem minG_eq {p : Spot} {a b c d a' b' c' d' : Bool} (h1 : a = a') (h2 : b = b') (h3 : c = c') (h4 : d = d') : GV.tup [.agg [gi p.Task, gi p.Driven, gi p.Served], .agg [gb a, gb b, gb c, gb d]] = minG' (p, ⟨a', b', c', d'⟩) := by subst h1 h2 h3 h4; rfl
theorem tup_eq {s s' : Spot} {b : B4} (h : s = s') : GV.tup [s.g, .agg b.c] = .tup [s'.g, .agg b.c] := by rw [h]

set_option maxRecDepth 100000 in
set_option maxHeartbeats 4000000 in
theorem minute19_ok (l : List Task) (s : Spot) (m k : Int) (he : errCheck l s = 0) : ICalls Try.prog 58 [.list 3 (tasks l) none, s.g, gi m, gi k] [] (Done (minG' (minuteS l s m k)) []) := by
  have hf : tasksErr l = 0 ∧ fitsS l s = true := by unfold errCheck at he; grind
  obtain ⟨hn, hmay⟩ := tasksErr_ok hf.1
  obtain ⟨f1, f2, f3, f4⟩ := fits_in hf.2
  have ht := tAt_may hmay s.Task
  have ht1 := ht.drive
  have ht2 := ht.serve
  have ht3 := ht.len
  clear ht
  unfold minuteS
  by_cases hlt : s.Task < l.length
  case neg =>
    have hz : (tAt l s.Task).Drive = 0 ∧ (tAt l s.Task).Serve = 0 := by rw [tAt_out (by omega)]; exact ⟨rfl, rfl⟩
    generalize htd : tAt l s.Task = t at *
    clear hf he hmay htd
    refine ICalls.of_body Try.func58 rfl Try.call58 rfl (Nat.le_of_ble_eq_true rfl) (fun _ => none) ?_
    repeat' ((conv => whnf); first
      | refine Br.yes rfl ?_
      | refine Br.no rfl ?_
      | refine Br.yes (beq_self_eq_true _) ?_
      | refine Br.not ?_
      | refine Br.yes (decide_eq_true (by assumption)) ?_
      | refine Br.no (decide_eq_false (by assumption)) ?_
      | refine Br.yes (beq_iff_eq.2 (by assumption)) ?_
      | refine Br.no (beq_eq_false_iff_ne.2 (by assumption)) ?_
      | refine Br.yes (bne_iff_ne.2 (by assumption)) ?_
      | refine Br.yes (decide_eq_true (by omega)) ?_
      | refine Br.no (decide_eq_false (by omega)) ?_
      | refine Br.yes (beq_iff_eq.2 (by omega)) ?_
      | refine Br.no (beq_eq_false_iff_ne.2 (by omega)) ?_
      | refine Br.yes (bne_iff_ne.2 (by omega)) ?_
      | refine Br.no (bne_eq_false_iff_eq.2 (by omega)) ?_
      | (refine Br.dec (fun h => ?_) (fun h => ?_) <;> try dsimp only at h)
      | (refine Br.beqI (fun h => ?_) (fun h => ?_) <;> try dsimp only at h)
      | (refine Br.bneI (fun h => ?_) (fun h => ?_) <;> try dsimp only at h)
      | refine Br.mk (fun h => ?_) (fun h => ?_)
      | refine Need.mk (app_need (by first | (simp only [List.length_append, List.length_map, List.length_nil, List.length_cons, List.nil_append, Nat.zero_add, Nat.add_zero]; done) | (simp only [List.length_append, List.length_map, List.length_nil, List.length_cons, List.nil_append, Nat.zero_add, Nat.add_zero]; omega) | omega) (Nat.le_of_ble_eq_true rfl) (by first | (simp only [List.length_append, List.length_map, List.length_nil, List.length_cons, List.nil_append, Nat.zero_add, Nat.add_zero]; done) | (simp only [List.length_append, List.length_map, List.length_nil, List.length_cons, List.nil_append, Nat.zero_add, Nat.add_zero]; omega) | omega)) ?_
      | refine Need.mk (app_need0 (Nat.le_of_ble_eq_true rfl) (by first | (simp only [List.length_append, List.length_map, List.length_nil, List.length_cons, List.nil_append, Nat.zero_add, Nat.add_zero]; done) | (simp only [List.length_append, List.length_map, List.length_nil, List.length_cons, List.nil_append, Nat.zero_add, Nat.add_zero]; omega) | omega)) ?_
      | refine Need.mk (by first | kernel_rfl | exact ⟨of_decide_eq_true rfl, of_decide_eq_true rfl⟩ | omega) ?_
      | refine Len.mk ⟨_, by simp only [List.length_cons, List.length_nil, Nat.reduceAdd, Int.cast_ofNat_Int]; rfl, ?_⟩
      | refine Wr.lit _ (by simp only [Int.reduceAdd, Int.reduceSub, Int.reduceMul]; rfl) (by decide) ?_
      | refine Wr.fit (by omega) ?_
      | refine Wr.fit (by dsimp only; omega) ?_
      | refine Elem.mk ⟨_, ⟨of_decide_eq_true rfl, rfl⟩, ?_⟩
      | refine Len.map ?_
      | refine Len.dropM ?_
      | refine Elem.dropM ?_
      | refine Len.takeM ?_
      | refine Elem.takeM ?_
      | refine Elem.mapK (by assumption) ?_
      | refine Elem.mapI (by omega) (by assumption) ?_
      | refine Elem.mapN (by omega) (fun x hx => ?_)
      | refine Elem.map (by omega) (by omega) (fun x hx => ?_)
      | refine (past_ok l s hn f1.1).use ⟨rfl, ?_⟩
      | refine CallX.mk ⟨_, _, (past_ok l s hn f1.1).x, rfl, ?_⟩
      | refine Done.mk ⟨rfl, rfl⟩
      | refine Done.mk ⟨congrArg gb ?_, rfl⟩
      | refine Done.mk ⟨?_, rfl⟩
      | refine Done.mk ⟨?_, ?_⟩)
    all_goals (rcases (show k = 3 ∨ k = 2 ∨ (k ≠ 3 ∧ k ≠ 2) by omega) with h1 | h1 | h1)
    all_goals first
      | (exfalso; omega)
      | ((first
           | rw [if_pos (by omega), if_neg (by omega)]
           | rw [if_neg (by omega), if_pos (by omega), if_neg (by omega)]
           | rw [if_neg (by omega), if_neg (by omega)]); refine minG_eq ?_ ?_ ?_ ?_ <;> grind)
  case pos =>
    obtain ⟨t, hx⟩ : ∃ t, l[s.Task.toNat]? = some t := ⟨_, List.getElem?_eq_getElem (by omega)⟩
    rw [tAt_get hx] at *
    clear hf he hmay
    refine ICalls.of_body Try.func58 rfl Try.call58 rfl (Nat.le_of_ble_eq_true rfl) (fun _ => none) ?_
    repeat' ((conv => whnf); first
      | refine Br.yes rfl ?_
      | refine Br.no rfl ?_
      | refine Br.yes (beq_self_eq_true _) ?_
      | refine Br.not ?_
      | refine Br.yes (decide_eq_true (by assumption)) ?_
      | refine Br.no (decide_eq_false (by assumption)) ?_
      | refine Br.yes (beq_iff_eq.2 (by assumption)) ?_
      | refine Br.no (beq_eq_false_iff_ne.2 (by assumption)) ?_
      | refine Br.yes (bne_iff_ne.2 (by assumption)) ?_
      | refine Br.yes (decide_eq_true (by omega)) ?_
      | refine Br.no (decide_eq_false (by omega)) ?_
      | refine Br.yes (beq_iff_eq.2 (by omega)) ?_
      | refine Br.no (beq_eq_false_iff_ne.2 (by omega)) ?_
      | refine Br.yes (bne_iff_ne.2 (by omega)) ?_
      | refine Br.no (bne_eq_false_iff_eq.2 (by omega)) ?_
      | (refine Br.dec (fun h => ?_) (fun h => ?_) <;> try dsimp only at h)
      | (refine Br.beqI (fun h => ?_) (fun h => ?_) <;> try dsimp only at h)
      | (refine Br.bneI (fun h => ?_) (fun h => ?_) <;> try dsimp only at h)
      | refine Br.mk (fun h => ?_) (fun h => ?_)
      | refine Need.mk (app_need (by first | (simp only [List.length_append, List.length_map, List.length_nil, List.length_cons, List.nil_append, Nat.zero_add, Nat.add_zero]; done) | (simp only [List.length_append, List.length_map, List.length_nil, List.length_cons, List.nil_append, Nat.zero_add, Nat.add_zero]; omega) | omega) (Nat.le_of_ble_eq_true rfl) (by first | (simp only [List.length_append, List.length_map, List.length_nil, List.length_cons, List.nil_append, Nat.zero_add, Nat.add_zero]; done) | (simp only [List.length_append, List.length_map, List.length_nil, List.length_cons, List.nil_append, Nat.zero_add, Nat.add_zero]; omega) | omega)) ?_
      | refine Need.mk (app_need0 (Nat.le_of_ble_eq_true rfl) (by first | (simp only [List.length_append, List.length_map, List.length_nil, List.length_cons, List.nil_append, Nat.zero_add, Nat.add_zero]; done) | (simp only [List.length_append, List.length_map, List.length_nil, List.length_cons, List.nil_append, Nat.zero_add, Nat.add_zero]; omega) | omega)) ?_
      | refine Need.mk (by first | kernel_rfl | exact ⟨of_decide_eq_true rfl, of_decide_eq_true rfl⟩ | omega) ?_
      | refine Len.mk ⟨_, by simp only [List.length_cons, List.length_nil, Nat.reduceAdd, Int.cast_ofNat_Int]; rfl, ?_⟩
      | refine Wr.lit _ (by simp only [Int.reduceAdd, Int.reduceSub, Int.reduceMul]; rfl) (by decide) ?_
      | refine Wr.fit (by omega) ?_
      | refine Wr.fit (by dsimp only; omega) ?_
      | refine Elem.mk ⟨_, ⟨of_decide_eq_true rfl, rfl⟩, ?_⟩
      | refine Len.map ?_
      | refine Len.dropM ?_
      | refine Elem.dropM ?_
      | refine Len.takeM ?_
      | refine Elem.takeM ?_
      | refine Elem.mapK (by assumption) ?_
      | refine Elem.mapI (by omega) (by assumption) ?_
      | refine Elem.mapN (by omega) (fun x hx => ?_)
      | refine Elem.map (by omega) (by omega) (fun x hx => ?_)
      | refine (past_ok l s hn f1.1).use ⟨rfl, ?_⟩
      | refine (past_ok l ⟨s.Task, s.Driven + 1, s.Served⟩ hn f1.1).use ⟨rfl, ?_⟩
      | refine (past_ok l ⟨s.Task, s.Driven, s.Served + 1⟩ hn f1.1).use ⟨rfl, ?_⟩
      | refine (winMay_ok t.Open m (by omega)).use ⟨rfl, ?_⟩
      | refine CallX.mk ⟨_, _, (past_ok l s hn f1.1).x, rfl, ?_⟩
      | refine CallX.mk ⟨_, _, (past_ok l ⟨s.Task, s.Driven + 1, s.Served⟩ hn f1.1).x, rfl, ?_⟩
      | refine CallX.mk ⟨_, _, (past_ok l ⟨s.Task, s.Driven, s.Served + 1⟩ hn f1.1).x, rfl, ?_⟩
      | refine CallX.mk ⟨_, _, (winMay_ok t.Open m (by omega)).x, rfl, ?_⟩
      | refine Done.mk ⟨rfl, rfl⟩
      | refine Done.mk ⟨congrArg gb ?_, rfl⟩
      | refine Done.mk ⟨?_, rfl⟩
      | refine Done.mk ⟨?_, ?_⟩)
    all_goals ((first
         | rw [if_pos (by omega), if_pos (by omega)]
         | rw [if_pos (by omega), if_neg (by omega)]
         | rw [if_neg (by omega), if_pos (by omega), if_pos (by omega)]
         | rw [if_neg (by omega), if_pos (by omega), if_neg (by omega)]
         | rw [if_neg (by omega), if_neg (by omega)]); refine minG_eq ?_ ?_ ?_ ?_ <;> grind)

set_option maxRecDepth 100000 in
set_option maxHeartbeats 4000000 in
theorem refStep19_ok (l : List Task) (s : Spot) (m k : Int) (he : errCheck l s = 0) : ICalls Try.prog 30 [.list 3 (tasks l) none, s.g, gi m, gi k] [] (Done (minG' (minuteS l s m k)) []) := by
  have hf : tasksErr l = 0 ∧ fitsS l s = true := by unfold errCheck at he; grind
  obtain ⟨hn, hmay⟩ := tasksErr_ok hf.1
  obtain ⟨f1, f2, f3, f4⟩ := fits_in hf.2
  have ht := tAt_may hmay s.Task
  have ht1 := ht.drive
  have ht2 := ht.serve
  have ht3 := ht.len
  clear ht
  unfold minuteS
  by_cases hlt : s.Task < l.length
  case neg =>
    have hz : (tAt l s.Task).Drive = 0 ∧ (tAt l s.Task).Serve = 0 := by rw [tAt_out (by omega)]; exact ⟨rfl, rfl⟩
    generalize htd : tAt l s.Task = t at *
    clear hf he hmay htd
    refine ICalls.of_body Try.func30 rfl Try.call30 rfl (Nat.le_of_ble_eq_true rfl) (fun _ => none) ?_
    repeat' ((conv => whnf); first
      | refine Br.yes rfl ?_
      | refine Br.no rfl ?_
      | refine Br.yes (beq_self_eq_true _) ?_
      | refine Br.not ?_
      | refine Br.yes (decide_eq_true (by assumption)) ?_
      | refine Br.no (decide_eq_false (by assumption)) ?_
      | refine Br.yes (beq_iff_eq.2 (by assumption)) ?_
      | refine Br.no (beq_eq_false_iff_ne.2 (by assumption)) ?_
      | refine Br.yes (bne_iff_ne.2 (by assumption)) ?_
      | refine Br.yes (decide_eq_true (by omega)) ?_
      | refine Br.no (decide_eq_false (by omega)) ?_
      | refine Br.yes (beq_iff_eq.2 (by omega)) ?_
      | refine Br.no (beq_eq_false_iff_ne.2 (by omega)) ?_
      | refine Br.yes (bne_iff_ne.2 (by omega)) ?_
      | refine Br.no (bne_eq_false_iff_eq.2 (by omega)) ?_
      | (refine Br.dec (fun h => ?_) (fun h => ?_) <;> try dsimp only at h)
      | (refine Br.beqI (fun h => ?_) (fun h => ?_) <;> try dsimp only at h)
      | (refine Br.bneI (fun h => ?_) (fun h => ?_) <;> try dsimp only at h)
      | refine Br.mk (fun h => ?_) (fun h => ?_)
      | refine Need.mk (app_need (by first | (simp only [List.length_append, List.length_map, List.length_nil, List.length_cons, List.nil_append, Nat.zero_add, Nat.add_zero]; done) | (simp only [List.length_append, List.length_map, List.length_nil, List.length_cons, List.nil_append, Nat.zero_add, Nat.add_zero]; omega) | omega) (Nat.le_of_ble_eq_true rfl) (by first | (simp only [List.length_append, List.length_map, List.length_nil, List.length_cons, List.nil_append, Nat.zero_add, Nat.add_zero]; done) | (simp only [List.length_append, List.length_map, List.length_nil, List.length_cons, List.nil_append, Nat.zero_add, Nat.add_zero]; omega) | omega)) ?_
      | refine Need.mk (app_need0 (Nat.le_of_ble_eq_true rfl) (by first | (simp only [List.length_append, List.length_map, List.length_nil, List.length_cons, List.nil_append, Nat.zero_add, Nat.add_zero]; done) | (simp only [List.length_append, List.length_map, List.length_nil, List.length_cons, List.nil_append, Nat.zero_add, Nat.add_zero]; omega) | omega)) ?_
      | refine Need.mk (by first | kernel_rfl | exact ⟨of_decide_eq_true rfl, of_decide_eq_true rfl⟩ | omega) ?_
      | refine Len.mk ⟨_, by simp only [List.length_cons, List.length_nil, Nat.reduceAdd, Int.cast_ofNat_Int]; rfl, ?_⟩
      | refine Wr.lit _ (by simp only [Int.reduceAdd, Int.reduceSub, Int.reduceMul]; rfl) (by decide) ?_
      | refine Wr.fit (by omega) ?_
      | refine Wr.fit (by dsimp only; omega) ?_
      | refine Elem.mk ⟨_, ⟨of_decide_eq_true rfl, rfl⟩, ?_⟩
      | refine Len.map ?_
      | refine Len.dropM ?_
      | refine Elem.dropM ?_
      | refine Len.takeM ?_
      | refine Elem.takeM ?_
      | refine Elem.mapK (by assumption) ?_
      | refine Elem.mapI (by omega) (by assumption) ?_
      | refine Elem.mapN (by omega) (fun x hx => ?_)
      | refine Elem.map (by omega) (by omega) (fun x hx => ?_)
      | refine (refPast_ok l s hn f1.1).use ⟨rfl, ?_⟩
      | refine CallX.mk ⟨_, _, (refPast_ok l s hn f1.1).x, rfl, ?_⟩
      | refine Done.mk ⟨rfl, rfl⟩
      | refine Done.mk ⟨congrArg gb ?_, rfl⟩
      | refine Done.mk ⟨?_, rfl⟩
      | refine Done.mk ⟨?_, ?_⟩)
    all_goals (rcases (show k = 3 ∨ k = 2 ∨ (k ≠ 3 ∧ k ≠ 2) by omega) with h1 | h1 | h1)
    all_goals first
      | (exfalso; omega)
      | ((first
           | rw [if_pos (by omega), if_neg (by omega)]
           | rw [if_neg (by omega), if_pos (by omega), if_neg (by omega)]
           | rw [if_neg (by omega), if_neg (by omega)]); refine minG_eq ?_ ?_ ?_ ?_ <;> grind)
  case pos =>
    obtain ⟨t, hx⟩ : ∃ t, l[s.Task.toNat]? = some t := ⟨_, List.getElem?_eq_getElem (by omega)⟩
    rw [tAt_get hx] at *
    clear hf he hmay
    refine ICalls.of_body Try.func30 rfl Try.call30 rfl (Nat.le_of_ble_eq_true rfl) (fun _ => none) ?_
    repeat' ((conv => whnf); first
      | refine Br.yes rfl ?_
      | refine Br.no rfl ?_
      | refine Br.yes (beq_self_eq_true _) ?_
      | refine Br.not ?_
      | refine Br.yes (decide_eq_true (by assumption)) ?_
      | refine Br.no (decide_eq_false (by assumption)) ?_
      | refine Br.yes (beq_iff_eq.2 (by assumption)) ?_
      | refine Br.no (beq_eq_false_iff_ne.2 (by assumption)) ?_
      | refine Br.yes (bne_iff_ne.2 (by assumption)) ?_
      | refine Br.yes (decide_eq_true (by omega)) ?_
      | refine Br.no (decide_eq_false (by omega)) ?_
      | refine Br.yes (beq_iff_eq.2 (by omega)) ?_
      | refine Br.no (beq_eq_false_iff_ne.2 (by omega)) ?_
      | refine Br.yes (bne_iff_ne.2 (by omega)) ?_
      | refine Br.no (bne_eq_false_iff_eq.2 (by omega)) ?_
      | (refine Br.dec (fun h => ?_) (fun h => ?_) <;> try dsimp only at h)
      | (refine Br.beqI (fun h => ?_) (fun h => ?_) <;> try dsimp only at h)
      | (refine Br.bneI (fun h => ?_) (fun h => ?_) <;> try dsimp only at h)
      | refine Br.mk (fun h => ?_) (fun h => ?_)
      | refine Need.mk (app_need (by first | (simp only [List.length_append, List.length_map, List.length_nil, List.length_cons, List.nil_append, Nat.zero_add, Nat.add_zero]; done) | (simp only [List.length_append, List.length_map, List.length_nil, List.length_cons, List.nil_append, Nat.zero_add, Nat.add_zero]; omega) | omega) (Nat.le_of_ble_eq_true rfl) (by first | (simp only [List.length_append, List.length_map, List.length_nil, List.length_cons, List.nil_append, Nat.zero_add, Nat.add_zero]; done) | (simp only [List.length_append, List.length_map, List.length_nil, List.length_cons, List.nil_append, Nat.zero_add, Nat.add_zero]; omega) | omega)) ?_
      | refine Need.mk (app_need0 (Nat.le_of_ble_eq_true rfl) (by first | (simp only [List.length_append, List.length_map, List.length_nil, List.length_cons, List.nil_append, Nat.zero_add, Nat.add_zero]; done) | (simp only [List.length_append, List.length_map, List.length_nil, List.length_cons, List.nil_append, Nat.zero_add, Nat.add_zero]; omega) | omega)) ?_
      | refine Need.mk (by first | kernel_rfl | exact ⟨of_decide_eq_true rfl, of_decide_eq_true rfl⟩ | omega) ?_
      | refine Len.mk ⟨_, by simp only [List.length_cons, List.length_nil, Nat.reduceAdd, Int.cast_ofNat_Int]; rfl, ?_⟩
      | refine Wr.lit _ (by simp only [Int.reduceAdd, Int.reduceSub, Int.reduceMul]; rfl) (by decide) ?_
      | refine Wr.fit (by omega) ?_
      | refine Wr.fit (by dsimp only; omega) ?_
      | refine Elem.mk ⟨_, ⟨of_decide_eq_true rfl, rfl⟩, ?_⟩
      | refine Len.map ?_
      | refine Len.dropM ?_
      | refine Elem.dropM ?_
      | refine Len.takeM ?_
      | refine Elem.takeM ?_
      | refine Elem.mapK (by assumption) ?_
      | refine Elem.mapI (by omega) (by assumption) ?_
      | refine Elem.mapN (by omega) (fun x hx => ?_)
      | refine Elem.map (by omega) (by omega) (fun x hx => ?_)
      | refine (refPast_ok l s hn f1.1).use ⟨rfl, ?_⟩
      | refine (refPast_ok l ⟨s.Task, s.Driven + 1, s.Served⟩ hn f1.1).use ⟨rfl, ?_⟩
      | refine (refPast_ok l ⟨s.Task, s.Driven, s.Served + 1⟩ hn f1.1).use ⟨rfl, ?_⟩
      | refine (refHas_ok t.Open m (by omega)).use ⟨rfl, ?_⟩
      | refine CallX.mk ⟨_, _, (refPast_ok l s hn f1.1).x, rfl, ?_⟩
      | refine CallX.mk ⟨_, _, (refPast_ok l ⟨s.Task, s.Driven + 1, s.Served⟩ hn f1.1).x, rfl, ?_⟩
      | refine CallX.mk ⟨_, _, (refPast_ok l ⟨s.Task, s.Driven, s.Served + 1⟩ hn f1.1).x, rfl, ?_⟩
      | refine CallX.mk ⟨_, _, (refHas_ok t.Open m (by omega)).x, rfl, ?_⟩
      | refine Done.mk ⟨rfl, rfl⟩
      | refine Done.mk ⟨congrArg gb ?_, rfl⟩
      | refine Done.mk ⟨?_, rfl⟩
      | refine Done.mk ⟨?_, ?_⟩)
    all_goals ((first
         | rw [if_pos (by omega), if_pos (by omega)]
         | rw [if_pos (by omega), if_neg (by omega)]
         | rw [if_neg (by omega), if_pos (by omega), if_pos (by omega)]
         | rw [if_neg (by omega), if_pos (by omega), if_neg (by omega)]
         | rw [if_neg (by omega), if_neg (by omega)]); refine minG_eq ?_ ?_ ?_ ?_ <;> grind)

end Go.Hl

/- Contracts: a minute of tasks, checked; a record of minutes.  #prune -/
set_option linter.unusedVariables false
set_option linter.unusedSimpArgs false
namespace Go.Hl
open Go.Gh Go.Proofs

def rbit (p : Int) (w : Bool) : Int := if w then p else 0
def setB (b : B4) : Int := rbit 1024 b.b0 + rbit 2048 b.b1 + rbit 4096 b.b2 + rbit 8192 b.b3
def stepErr (l : List Task) (s : Spot) (m k : Int) : Int := if errCheck l s ≠ 0 then errCheck l s else if k < 0 ∨ 4 ≤ k then 2 else if m < 0 ∨ 40320 ≤ m then 4 else 0
def stepSpot (l : List Task) (s : Spot) (m k : Int) : Spot := if stepErr l s m k = 0 then (minuteS l s m k).1 else zeroSpot
def stepSet (l : List Task) (s : Spot) (m k : Int) : Int := if stepErr l s m k = 0 then setB (minuteS l s m k).2 else 0

def pl_D6_1 : Nat → Option (List Nat × List Nat) := (fun k => bif Nat.beq k 11 then some ([1000011, 8, 12, 14, 49, 50], [108, 112]) else none)
set_option maxRecDepth 100000 in
set_option maxHeartbeats 4000000 in
theorem errStep_ok (l : List Task) (s : Spot) (m k : Int) : ICalls Try.prog 27 [.list 3 (tasks l) none, s.g, gi m, gi k] [] (Done (.tup [(stepSpot l s m k).g, gi (stepSet l s m k), gi (stepErr l s m k)]) []) := by
  unfold stepSpot stepSet
  generalize hq : minuteS l s m k = q
  obtain ⟨s', b0, b1, b2, b3⟩ := q
  refine ICalls.of_body Try.func27 rfl Try.call27 rfl (Nat.le_of_ble_eq_true rfl) pl_D6_1 ?_
  repeat' ((conv => whnf); first
    | refine Br.yes rfl ?_
    | refine Br.no rfl ?_
    | refine Br.yes (beq_self_eq_true _) ?_
    | refine Br.not ?_
    | refine Br.yes (decide_eq_true (by assumption)) ?_
    | refine Br.no (decide_eq_false (by assumption)) ?_
    | refine Br.yes (beq_iff_eq.2 (by assumption)) ?_
    | refine Br.no (beq_eq_false_iff_ne.2 (by assumption)) ?_
    | refine Br.yes (bne_iff_ne.2 (by assumption)) ?_
    | refine Br.yes (decide_eq_true (by omega)) ?_
    | refine Br.no (decide_eq_false (by omega)) ?_
    | refine Br.yes (beq_iff_eq.2 (by omega)) ?_
    | refine Br.no (beq_eq_false_iff_ne.2 (by omega)) ?_
    | refine Br.yes (bne_iff_ne.2 (by omega)) ?_
    | refine Br.no (bne_eq_false_iff_eq.2 (by omega)) ?_
    | (refine Br.dec (fun h => ?_) (fun h => ?_) <;> try dsimp only at h)
    | (refine Br.beqI (fun h => ?_) (fun h => ?_) <;> try dsimp only at h)
    | (refine Br.bneI (fun h => ?_) (fun h => ?_) <;> try dsimp only at h)
    | refine Br.mk (fun h => ?_) (fun h => ?_)
    | refine Need.mk (app_need (by first | (simp only [List.length_append, List.length_map, List.length_nil, List.length_cons, List.nil_append, Nat.zero_add, Nat.add_zero]; done) | (simp only [List.length_append, List.length_map, List.length_nil, List.length_cons, List.nil_append, Nat.zero_add, Nat.add_zero]; omega) | omega) (Nat.le_of_ble_eq_true rfl) (by first | (simp only [List.length_append, List.length_map, List.length_nil, List.length_cons, List.nil_append, Nat.zero_add, Nat.add_zero]; done) | (simp only [List.length_append, List.length_map, List.length_nil, List.length_cons, List.nil_append, Nat.zero_add, Nat.add_zero]; omega) | omega)) ?_
    | refine Need.mk (app_need0 (Nat.le_of_ble_eq_true rfl) (by first | (simp only [List.length_append, List.length_map, List.length_nil, List.length_cons, List.nil_append, Nat.zero_add, Nat.add_zero]; done) | (simp only [List.length_append, List.length_map, List.length_nil, List.length_cons, List.nil_append, Nat.zero_add, Nat.add_zero]; omega) | omega)) ?_
    | refine Need.mk (by first | kernel_rfl | exact ⟨of_decide_eq_true rfl, of_decide_eq_true rfl⟩ | omega) ?_
    | refine Len.mk ⟨_, by simp only [List.length_cons, List.length_nil, Nat.reduceAdd, Int.cast_ofNat_Int]; rfl, ?_⟩
    | refine Wr.lit _ (by simp only [Int.reduceAdd, Int.reduceSub, Int.reduceMul]; rfl) (by decide) ?_
    | refine Wr.fit (by omega) ?_
    | refine Wr.fit (by dsimp only; omega) ?_
    | refine Elem.mk ⟨_, ⟨of_decide_eq_true rfl, rfl⟩, ?_⟩
    | refine Len.map ?_
    | refine Len.dropM ?_
    | refine Elem.dropM ?_
    | refine Len.takeM ?_
    | refine Elem.takeM ?_
    | refine Elem.mapK (by assumption) ?_
    | refine Elem.mapI (by omega) (by assumption) ?_
    | refine Elem.mapN (by omega) (fun x hx => ?_)
    | refine Elem.map (by omega) (by omega) (fun x hx => ?_)
    | refine (errCheck_ok l s).use ⟨rfl, ?_⟩
    | refine ((minute19_ok l s m k (by assumption)).to (congrArg minG' hq)).use ⟨rfl, ?_⟩
    | refine CallX.mk ⟨_, _, (errCheck_ok l s).x, rfl, ?_⟩
    | refine CallX.mk ⟨_, _, ((minute19_ok l s m k (by assumption)).to (congrArg minG' hq)).x, rfl, ?_⟩
    | refine ILoop.unroll 5 ?_
    | refine Done.mk ⟨rfl, rfl⟩
    | refine Done.mk ⟨congrArg gb ?_, rfl⟩
    | refine Done.mk ⟨?_, rfl⟩
    | refine Done.mk ⟨?_, ?_⟩)
  all_goals first
    | (have e : stepErr l s m k = 2 := by unfold stepErr; grind
       rw [e]; rfl)
    | (have e : stepErr l s m k = 4 := by unfold stepErr; grind
       rw [e]; rfl)
    | (have e : stepErr l s m k = errCheck l s := by unfold stepErr; grind
       rw [e, if_neg (by assumption), if_neg (by assumption)]; rfl)
    | (have e : stepErr l s m k = 0 := by unfold stepErr; grind
       rw [e]; simp only at *; subst_vars; exact congrArg (fun q => GV.tup [s'.g, gi q, gi 0]) (by decide +kernel))

def recErr (r : Rec) : Int := if r.Kind < 0 ∨ 4 ≤ r.Kind then 2 else if (r.From < 0 ∨ 40320 < r.From) ∨ r.To < 0 ∨ 40320 < r.To then 4 else if r.To ≤ r.From then 3 else 0
set_option maxRecDepth 100000 in
theorem errRecord_ok (r : Rec) : ICalls Try.prog 67 [r.g] [] (Done (gi (recErr r)) []) := by
  refine ICalls.of_body Try.func67 rfl Try.call67 rfl (Nat.le_of_ble_eq_true rfl) (fun _ => none) ?_
  repeat' ((conv => whnf); first
    | refine Br.yes rfl ?_
    | refine Br.no rfl ?_
    | refine Done.mk ⟨congrArg gi ?_, rfl⟩
    | refine Br.yes (beq_self_eq_true _) ?_
    | refine Br.not ?_
    | refine Br.yes (decide_eq_true (by assumption)) ?_
    | refine Br.no (decide_eq_false (by assumption)) ?_
    | refine Br.yes (beq_iff_eq.2 (by assumption)) ?_
    | refine Br.no (beq_eq_false_iff_ne.2 (by assumption)) ?_
    | refine Br.yes (bne_iff_ne.2 (by assumption)) ?_
    | refine Br.yes (decide_eq_true (by omega)) ?_
    | refine Br.no (decide_eq_false (by omega)) ?_
    | refine Br.yes (beq_iff_eq.2 (by omega)) ?_
    | refine Br.no (beq_eq_false_iff_ne.2 (by omega)) ?_
    | refine Br.yes (bne_iff_ne.2 (by omega)) ?_
    | refine Br.no (bne_eq_false_iff_eq.2 (by omega)) ?_
    | (refine Br.dec (fun h => ?_) (fun h => ?_) <;> try dsimp only at h)
    | (refine Br.beqI (fun h => ?_) (fun h => ?_) <;> try dsimp only at h)
    | (refine Br.bneI (fun h => ?_) (fun h => ?_) <;> try dsimp only at h)
    | refine Br.mk (fun h => ?_) (fun h => ?_)
    | refine Need.mk (app_need (by first | (simp only [List.length_append, List.length_map, List.length_nil, List.length_cons, List.nil_append, Nat.zero_add, Nat.add_zero]; done) | (simp only [List.length_append, List.length_map, List.length_nil, List.length_cons, List.nil_append, Nat.zero_add, Nat.add_zero]; omega) | omega) (Nat.le_of_ble_eq_true rfl) (by first | (simp only [List.length_append, List.length_map, List.length_nil, List.length_cons, List.nil_append, Nat.zero_add, Nat.add_zero]; done) | (simp only [List.length_append, List.length_map, List.length_nil, List.length_cons, List.nil_append, Nat.zero_add, Nat.add_zero]; omega) | omega)) ?_
    | refine Need.mk (app_need0 (Nat.le_of_ble_eq_true rfl) (by first | (simp only [List.length_append, List.length_map, List.length_nil, List.length_cons, List.nil_append, Nat.zero_add, Nat.add_zero]; done) | (simp only [List.length_append, List.length_map, List.length_nil, List.length_cons, List.nil_append, Nat.zero_add, Nat.add_zero]; omega) | omega)) ?_
    | refine Need.mk (by first | kernel_rfl | exact ⟨of_decide_eq_true rfl, of_decide_eq_true rfl⟩ | omega) ?_
    | refine Len.mk ⟨_, by simp only [List.length_cons, List.length_nil, Nat.reduceAdd, Int.cast_ofNat_Int]; rfl, ?_⟩
    | refine Wr.lit _ (by simp only [Int.reduceAdd, Int.reduceSub, Int.reduceMul]; rfl) (by decide) ?_
    | refine Wr.fit (by omega) ?_
    | refine Wr.fit (by dsimp only; omega) ?_
    | refine Elem.mk ⟨_, ⟨of_decide_eq_true rfl, rfl⟩, ?_⟩
    | refine Len.map ?_
    | refine Len.dropM ?_
    | refine Elem.dropM ?_
    | refine Len.takeM ?_
    | refine Elem.takeM ?_
    | refine Elem.mapK (by assumption) ?_
    | refine Elem.mapI (by omega) (by assumption) ?_
    | refine Elem.mapN (by omega) (fun x hx => ?_)
    | refine Elem.map (by omega) (by omega) (fun x hx => ?_)
    | refine Done.mk ⟨rfl, rfl⟩
    | refine Done.mk ⟨congrArg gb ?_, rfl⟩
    | refine Done.mk ⟨?_, rfl⟩
    | refine Done.mk ⟨?_, ?_⟩)
  all_goals (unfold recErr; grind)
def pl_D6_2 : Nat → Option (List Nat × List Nat) := (fun k => bif Nat.beq k 2 then some ([1000002, 0, 4], []) else none)
set_option maxRecDepth 100000 in
theorem refRec1_ok (r : Rec) : ICalls Try.prog 68 [.list 3 [r.g] none] [] (Done (.tup [gi 0, gi (recErr r)]) []) := by
  refine ICalls.of_body Try.func68 rfl Try.call68 rfl (Nat.le_of_ble_eq_true rfl) pl_D6_2 ?_
  repeat' ((conv => whnf); first
    | refine Br.yes rfl ?_
    | refine Br.no rfl ?_
    | refine Done.mk ⟨congrArg (fun q => GV.tup [gi 0, gi q]) ?_, rfl⟩
    | refine Br.yes (beq_self_eq_true _) ?_
    | refine Br.not ?_
    | refine Br.yes (decide_eq_true (by assumption)) ?_
    | refine Br.no (decide_eq_false (by assumption)) ?_
    | refine Br.yes (beq_iff_eq.2 (by assumption)) ?_
    | refine Br.no (beq_eq_false_iff_ne.2 (by assumption)) ?_
    | refine Br.yes (bne_iff_ne.2 (by assumption)) ?_
    | refine Br.yes (decide_eq_true (by omega)) ?_
    | refine Br.no (decide_eq_false (by omega)) ?_
    | refine Br.yes (beq_iff_eq.2 (by omega)) ?_
    | refine Br.no (beq_eq_false_iff_ne.2 (by omega)) ?_
    | refine Br.yes (bne_iff_ne.2 (by omega)) ?_
    | refine Br.no (bne_eq_false_iff_eq.2 (by omega)) ?_
    | (refine Br.dec (fun h => ?_) (fun h => ?_) <;> try dsimp only at h)
    | (refine Br.beqI (fun h => ?_) (fun h => ?_) <;> try dsimp only at h)
    | (refine Br.bneI (fun h => ?_) (fun h => ?_) <;> try dsimp only at h)
    | refine Br.mk (fun h => ?_) (fun h => ?_)
    | refine Need.mk (app_need (by first | (simp only [List.length_append, List.length_map, List.length_nil, List.length_cons, List.nil_append, Nat.zero_add, Nat.add_zero]; done) | (simp only [List.length_append, List.length_map, List.length_nil, List.length_cons, List.nil_append, Nat.zero_add, Nat.add_zero]; omega) | omega) (Nat.le_of_ble_eq_true rfl) (by first | (simp only [List.length_append, List.length_map, List.length_nil, List.length_cons, List.nil_append, Nat.zero_add, Nat.add_zero]; done) | (simp only [List.length_append, List.length_map, List.length_nil, List.length_cons, List.nil_append, Nat.zero_add, Nat.add_zero]; omega) | omega)) ?_
    | refine Need.mk (app_need0 (Nat.le_of_ble_eq_true rfl) (by first | (simp only [List.length_append, List.length_map, List.length_nil, List.length_cons, List.nil_append, Nat.zero_add, Nat.add_zero]; done) | (simp only [List.length_append, List.length_map, List.length_nil, List.length_cons, List.nil_append, Nat.zero_add, Nat.add_zero]; omega) | omega)) ?_
    | refine Need.mk (by first | kernel_rfl | exact ⟨of_decide_eq_true rfl, of_decide_eq_true rfl⟩ | omega) ?_
    | refine Len.mk ⟨_, by simp only [List.length_cons, List.length_nil, Nat.reduceAdd, Int.cast_ofNat_Int]; rfl, ?_⟩
    | refine Wr.lit _ (by simp only [Int.reduceAdd, Int.reduceSub, Int.reduceMul]; rfl) (by decide) ?_
    | refine Wr.fit (by omega) ?_
    | refine Wr.fit (by dsimp only; omega) ?_
    | refine Elem.mk ⟨_, ⟨of_decide_eq_true rfl, rfl⟩, ?_⟩
    | refine Len.map ?_
    | refine Len.dropM ?_
    | refine Elem.dropM ?_
    | refine Len.takeM ?_
    | refine Elem.takeM ?_
    | refine Elem.mapK (by assumption) ?_
    | refine Elem.mapI (by omega) (by assumption) ?_
    | refine Elem.mapN (by omega) (fun x hx => ?_)
    | refine Elem.map (by omega) (by omega) (fun x hx => ?_)
    | refine ILoop.unroll 3 ?_
    | refine Done.mk ⟨rfl, rfl⟩
    | refine Done.mk ⟨congrArg gb ?_, rfl⟩
    | refine Done.mk ⟨?_, rfl⟩
    | refine Done.mk ⟨?_, ?_⟩)
  all_goals (unfold recErr; grind)

def lightB (l : List Task) : Bool := decide (l.length ≤ 40) && l.all fun t => decide (t.Open.length ≤ 20)
theorem lightB_len {l : List Task} (h : lightB l = true) : l.length ≤ 40 := by
  unfold lightB at h; simp only [Bool.and_eq_true, decide_eq_true_eq] at h; exact h.1
def pl_D6_3 : Nat → Option (List Nat × List Nat) := (fun k => bif Nat.beq k 4 then some ([1000004, 8, 9, 10], []) else none)
set_option maxRecDepth 100000 in
theorem light_ok (l : List Task) : ICalls Try.prog 25 [.list 3 (tasks l) none] [] (Done (gb (lightB l)) []) := by
  unfold lightB
  refine ICalls.of_body Try.func25 rfl Try.call25 rfl (Nat.le_of_ble_eq_true rfl) pl_D6_3 ?_
  repeat' ((conv => whnf); first
    | refine Br.yes rfl ?_
    | refine Br.no rfl ?_
    | (refine ILoop.ov 1000004 (fun (i : Nat) => [(10, gi i)]) (fun (i : Nat) => []) (fun (i : Nat) => i ≤ l.length ∧ ((l.drop i).all fun t => decide (t.Open.length ≤ 20)) = l.all fun t => decide (t.Open.length ≤ 20)) (fun (i : Nat) => l.length - i) (0) (by exact rfl) ?_; (conv => whnf); refine Start.mk rfl ?_ ?_; (try dsimp only); rotate_left; rintro i ⟨hi, hr⟩)
    | (refine Again.mk ⟨(i + 1), rfl, ?_, ?_⟩ <;> try dsimp only)
    | refine Br.yes (beq_self_eq_true _) ?_
    | refine Br.not ?_
    | refine Br.yes (decide_eq_true (by assumption)) ?_
    | refine Br.no (decide_eq_false (by assumption)) ?_
    | refine Br.yes (beq_iff_eq.2 (by assumption)) ?_
    | refine Br.no (beq_eq_false_iff_ne.2 (by assumption)) ?_
    | refine Br.yes (bne_iff_ne.2 (by assumption)) ?_
    | refine Br.yes (decide_eq_true (by omega)) ?_
    | refine Br.no (decide_eq_false (by omega)) ?_
    | refine Br.yes (beq_iff_eq.2 (by omega)) ?_
    | refine Br.no (beq_eq_false_iff_ne.2 (by omega)) ?_
    | refine Br.yes (bne_iff_ne.2 (by omega)) ?_
    | refine Br.no (bne_eq_false_iff_eq.2 (by omega)) ?_
    | (refine Br.dec (fun h => ?_) (fun h => ?_) <;> try dsimp only at h)
    | (refine Br.beqI (fun h => ?_) (fun h => ?_) <;> try dsimp only at h)
    | (refine Br.bneI (fun h => ?_) (fun h => ?_) <;> try dsimp only at h)
    | refine Br.mk (fun h => ?_) (fun h => ?_)
    | refine Need.mk (app_need (by first | (simp only [List.length_append, List.length_map, List.length_nil, List.length_cons, List.nil_append, Nat.zero_add, Nat.add_zero]; done) | (simp only [List.length_append, List.length_map, List.length_nil, List.length_cons, List.nil_append, Nat.zero_add, Nat.add_zero]; omega) | omega) (Nat.le_of_ble_eq_true rfl) (by first | (simp only [List.length_append, List.length_map, List.length_nil, List.length_cons, List.nil_append, Nat.zero_add, Nat.add_zero]; done) | (simp only [List.length_append, List.length_map, List.length_nil, List.length_cons, List.nil_append, Nat.zero_add, Nat.add_zero]; omega) | omega)) ?_
    | refine Need.mk (app_need0 (Nat.le_of_ble_eq_true rfl) (by first | (simp only [List.length_append, List.length_map, List.length_nil, List.length_cons, List.nil_append, Nat.zero_add, Nat.add_zero]; done) | (simp only [List.length_append, List.length_map, List.length_nil, List.length_cons, List.nil_append, Nat.zero_add, Nat.add_zero]; omega) | omega)) ?_
    | refine Need.mk (by first | kernel_rfl | exact ⟨of_decide_eq_true rfl, of_decide_eq_true rfl⟩ | omega) ?_
    | refine Len.mk ⟨_, by simp only [List.length_cons, List.length_nil, Nat.reduceAdd, Int.cast_ofNat_Int]; rfl, ?_⟩
    | refine Wr.lit _ (by simp only [Int.reduceAdd, Int.reduceSub, Int.reduceMul]; rfl) (by decide) ?_
    | refine Wr.fit (by omega) ?_
    | refine Wr.fit (by dsimp only; omega) ?_
    | refine Elem.mk ⟨_, ⟨of_decide_eq_true rfl, rfl⟩, ?_⟩
    | refine Len.map ?_
    | refine Len.dropM ?_
    | refine Elem.dropM ?_
    | refine Len.takeM ?_
    | refine Elem.takeM ?_
    | refine Elem.mapK (by assumption) ?_
    | refine Elem.mapI (by omega) (by assumption) ?_
    | refine Elem.mapN (by omega) (fun x hx => ?_)
    | refine Elem.map (by omega) (by omega) (fun x hx => ?_)
    | refine Done.mk ⟨rfl, rfl⟩
    | refine Done.mk ⟨congrArg gb ?_, rfl⟩
    | refine Done.mk ⟨?_, rfl⟩
    | refine Done.mk ⟨?_, ?_⟩)
  all_goals first
    | omega
    | exact ⟨by omega, rfl⟩
    | (rw [decide_eq_false (by omega)]; rfl)
    | (rw [drop_of_get hx, List.all_cons, decide_eq_false (by omega)] at hr
       rw [← hr]; simp; done)
    | (rw [drop_of_get hx, List.all_cons, decide_eq_true (by omega), Bool.true_and] at hr
       exact ⟨by omega, hr⟩)
    | (rw [List.drop_eq_nil_of_le (by omega)] at hr
       rw [← hr, decide_eq_true (by omega)]; rfl)

def alTasks : List Task := [⟨2, 1, [⟨5, 7⟩]⟩]
theorem al19_0 : (startS alTasks, tasksErr alTasks) = (⟨0, 0, 0⟩, 0) := by decide +kernel
theorem al19_1 : (stepSpot alTasks ⟨0, 0, 0⟩ 0 3, stepSet alTasks ⟨0, 0, 0⟩ 0 3, stepErr alTasks ⟨0, 0, 0⟩ 0 3) = (⟨0, 1, 0⟩, 0, 0) := by decide +kernel
theorem al19_2 : (stepSpot alTasks ⟨0, 1, 0⟩ 1 3, stepSet alTasks ⟨0, 1, 0⟩ 1 3, stepErr alTasks ⟨0, 1, 0⟩ 1 3) = (⟨0, 2, 0⟩, 0, 0) := by decide +kernel
theorem al19_3 : (stepSpot alTasks ⟨0, 2, 0⟩ 5 2, stepSet alTasks ⟨0, 2, 0⟩ 5 2, stepErr alTasks ⟨0, 2, 0⟩ 5 2) = (⟨1, 0, 0⟩, 0, 0) := by decide +kernel
theorem al19_4 : (decide (errCheck alTasks ⟨1, 0, 0⟩ = 0) && decide ((⟨1, 0, 0⟩ : Spot).Task = alTasks.length)) = true := by decide +kernel
def tup2 (r : Spot × Int) : GV := .tup [r.1.g, gi r.2]
def tup3 (r : Spot × Int × Int) : GV := .tup [r.1.g, gi r.2.1, gi r.2.2]
set_option maxRecDepth 100000 in
theorem alive19_ok : ICalls Try.prog 26 [] [] (Done (gb true) []) := by
  refine ICalls.of_body Try.func26 rfl Try.call26 rfl (Nat.le_of_ble_eq_true rfl) (fun _ => none) ?_
  repeat' ((conv => whnf); first
    | refine Br.yes rfl ?_
    | refine Br.no rfl ?_
    | refine Br.yes (beq_self_eq_true _) ?_
    | refine Br.not ?_
    | refine Br.yes (decide_eq_true (by assumption)) ?_
    | refine Br.no (decide_eq_false (by assumption)) ?_
    | refine Br.yes (beq_iff_eq.2 (by assumption)) ?_
    | refine Br.no (beq_eq_false_iff_ne.2 (by assumption)) ?_
    | refine Br.yes (bne_iff_ne.2 (by assumption)) ?_
    | refine Br.yes (decide_eq_true (by omega)) ?_
    | refine Br.no (decide_eq_false (by omega)) ?_
    | refine Br.yes (beq_iff_eq.2 (by omega)) ?_
    | refine Br.no (beq_eq_false_iff_ne.2 (by omega)) ?_
    | refine Br.yes (bne_iff_ne.2 (by omega)) ?_
    | refine Br.no (bne_eq_false_iff_eq.2 (by omega)) ?_
    | (refine Br.dec (fun h => ?_) (fun h => ?_) <;> try dsimp only at h)
    | (refine Br.beqI (fun h => ?_) (fun h => ?_) <;> try dsimp only at h)
    | (refine Br.bneI (fun h => ?_) (fun h => ?_) <;> try dsimp only at h)
    | refine Br.mk (fun h => ?_) (fun h => ?_)
    | refine Need.mk (app_need (by first | (simp only [List.length_append, List.length_map, List.length_nil, List.length_cons, List.nil_append, Nat.zero_add, Nat.add_zero]; done) | (simp only [List.length_append, List.length_map, List.length_nil, List.length_cons, List.nil_append, Nat.zero_add, Nat.add_zero]; omega) | omega) (Nat.le_of_ble_eq_true rfl) (by first | (simp only [List.length_append, List.length_map, List.length_nil, List.length_cons, List.nil_append, Nat.zero_add, Nat.add_zero]; done) | (simp only [List.length_append, List.length_map, List.length_nil, List.length_cons, List.nil_append, Nat.zero_add, Nat.add_zero]; omega) | omega)) ?_
    | refine Need.mk (app_need0 (Nat.le_of_ble_eq_true rfl) (by first | (simp only [List.length_append, List.length_map, List.length_nil, List.length_cons, List.nil_append, Nat.zero_add, Nat.add_zero]; done) | (simp only [List.length_append, List.length_map, List.length_nil, List.length_cons, List.nil_append, Nat.zero_add, Nat.add_zero]; omega) | omega)) ?_
    | refine Need.mk (by first | kernel_rfl | exact ⟨of_decide_eq_true rfl, of_decide_eq_true rfl⟩ | omega) ?_
    | refine Len.mk ⟨_, by simp only [List.length_cons, List.length_nil, Nat.reduceAdd, Int.cast_ofNat_Int]; rfl, ?_⟩
    | refine Wr.lit _ (by simp only [Int.reduceAdd, Int.reduceSub, Int.reduceMul]; rfl) (by decide) ?_
    | refine Wr.fit (by omega) ?_
    | refine Wr.fit (by dsimp only; omega) ?_
    | refine Elem.mk ⟨_, ⟨of_decide_eq_true rfl, rfl⟩, ?_⟩
    | refine Len.map ?_
    | refine Len.dropM ?_
    | refine Elem.dropM ?_
    | refine Len.takeM ?_
    | refine Elem.takeM ?_
    | refine Elem.mapK (by assumption) ?_
    | refine Elem.mapI (by omega) (by assumption) ?_
    | refine Elem.mapN (by omega) (fun x hx => ?_)
    | refine Elem.map (by omega) (by omega) (fun x hx => ?_)
    | refine ((errStart_ok alTasks).to (congrArg tup2 al19_0)).use ⟨rfl, ?_⟩
    | refine ((errStep_ok alTasks ⟨0, 0, 0⟩ 0 3).to (congrArg tup3 al19_1)).use ⟨rfl, ?_⟩
    | refine ((errStep_ok alTasks ⟨0, 1, 0⟩ 1 3).to (congrArg tup3 al19_2)).use ⟨rfl, ?_⟩
    | refine ((errStep_ok alTasks ⟨0, 2, 0⟩ 5 2).to (congrArg tup3 al19_3)).use ⟨rfl, ?_⟩
    | refine ((errDone_ok alTasks ⟨1, 0, 0⟩).to (congrArg gb al19_4)).use ⟨rfl, ?_⟩
    | refine CallX.mk ⟨_, _, ((errStart_ok alTasks).to (congrArg tup2 al19_0)).x, rfl, ?_⟩
    | refine CallX.mk ⟨_, _, ((errStep_ok alTasks ⟨0, 0, 0⟩ 0 3).to (congrArg tup3 al19_1)).x, rfl, ?_⟩
    | refine CallX.mk ⟨_, _, ((errStep_ok alTasks ⟨0, 1, 0⟩ 1 3).to (congrArg tup3 al19_2)).x, rfl, ?_⟩
    | refine CallX.mk ⟨_, _, ((errStep_ok alTasks ⟨0, 2, 0⟩ 5 2).to (congrArg tup3 al19_3)).x, rfl, ?_⟩
    | refine CallX.mk ⟨_, _, ((errDone_ok alTasks ⟨1, 0, 0⟩).to (congrArg gb al19_4)).x, rfl, ?_⟩
    | refine Done.mk ⟨rfl, rfl⟩
    | refine Done.mk ⟨congrArg gb ?_, rfl⟩
    | refine Done.mk ⟨?_, rfl⟩
    | refine Done.mk ⟨?_, ?_⟩)

end Go.Hl

/- Laws of chapter 19: steps, checks, what is left.  #prune -/
set_option linter.unusedVariables false
set_option linter.unusedSimpArgs false
namespace Go.Hl
open Go.Gh Go.Proofs

theorem setB_and : ∀ (b0 b1 b2 b3 : Bool), (IntKind.i64.wrap ((BitVec.ofInt IntKind.i64.bits (setB ⟨b0, b1, b2, b3⟩) &&& BitVec.ofInt IntKind.i64.bits 3072).toNat : Int) ≠ 0) ↔ (b0 = true ∨ b1 = true) := by decide +kernel
theorem errCheck_of {l : List Task} {s : Spot} (h1 : tasksErr l = 0) (h2 : fitsS l s = true) : errCheck l s = 0 := by unfold errCheck; simp [h1, h2]

def pl_D7_1 : Nat → Option (List Nat × List Nat) := (fun k => bif Nat.beq k 16 then some ([1000016, 7, 8, 9, 11, 12, 13, 14], [107, 111, 112]) else none)
def pl_D7_2 : Nat → Option (List Nat × List Nat) := (fun k => bif Nat.beq k 16 then some ([1000016, 7, 8, 9, 11, 12, 13, 14], [107, 111, 112]) else none)
def pl_D7_3 : Nat → Option (List Nat × List Nat) := (fun k => bif Nat.beq k 16 then some ([1000016, 7, 8, 9, 11, 12, 13, 14], [107, 111, 112]) else none)
set_option maxRecDepth 100000 in
set_option maxHeartbeats 8000000 in
theorem errandSteps_ok (l : List Task) (s : Spot) (m k : Int) : ICalls Try.prog 6 [.list 3 (tasks l) none, s.g, .agg [gi m, gi k]] [] (Done (gb true) []) := by
  by_cases hl : lightB l = true
  case neg =>
    refine ICalls.of_body Try.func6 rfl Try.call6 rfl (Nat.le_of_ble_eq_true rfl) pl_D7_1 ?_
    repeat' ((conv => whnf); first
      | refine Br.yes rfl ?_
      | refine Br.no rfl ?_
      | refine Br.yes (beq_self_eq_true _) ?_
      | refine Br.not ?_
      | refine Br.yes (decide_eq_true (by assumption)) ?_
      | refine Br.no (decide_eq_false (by assumption)) ?_
      | refine Br.yes (beq_iff_eq.2 (by assumption)) ?_
      | refine Br.no (beq_eq_false_iff_ne.2 (by assumption)) ?_
      | refine Br.yes (bne_iff_ne.2 (by assumption)) ?_
      | refine Br.yes (decide_eq_true (by omega)) ?_
      | refine Br.no (decide_eq_false (by omega)) ?_
      | refine Br.yes (beq_iff_eq.2 (by omega)) ?_
      | refine Br.no (beq_eq_false_iff_ne.2 (by omega)) ?_
      | refine Br.yes (bne_iff_ne.2 (by omega)) ?_
      | refine Br.no (bne_eq_false_iff_eq.2 (by omega)) ?_
      | (refine Br.dec (fun h => ?_) (fun h => ?_) <;> try dsimp only at h)
      | (refine Br.beqI (fun h => ?_) (fun h => ?_) <;> try dsimp only at h)
      | (refine Br.bneI (fun h => ?_) (fun h => ?_) <;> try dsimp only at h)
      | refine Br.mk (fun h => ?_) (fun h => ?_)
      | refine Need.mk (app_need (by first | (simp only [List.length_append, List.length_map, List.length_nil, List.length_cons, List.nil_append, Nat.zero_add, Nat.add_zero]; done) | (simp only [List.length_append, List.length_map, List.length_nil, List.length_cons, List.nil_append, Nat.zero_add, Nat.add_zero]; omega) | omega) (Nat.le_of_ble_eq_true rfl) (by first | (simp only [List.length_append, List.length_map, List.length_nil, List.length_cons, List.nil_append, Nat.zero_add, Nat.add_zero]; done) | (simp only [List.length_append, List.length_map, List.length_nil, List.length_cons, List.nil_append, Nat.zero_add, Nat.add_zero]; omega) | omega)) ?_
      | refine Need.mk (app_need0 (Nat.le_of_ble_eq_true rfl) (by first | (simp only [List.length_append, List.length_map, List.length_nil, List.length_cons, List.nil_append, Nat.zero_add, Nat.add_zero]; done) | (simp only [List.length_append, List.length_map, List.length_nil, List.length_cons, List.nil_append, Nat.zero_add, Nat.add_zero]; omega) | omega)) ?_
      | refine Need.mk (by first | kernel_rfl | exact ⟨of_decide_eq_true rfl, of_decide_eq_true rfl⟩ | omega) ?_
      | refine Len.mk ⟨_, by simp only [List.length_cons, List.length_nil, Nat.reduceAdd, Int.cast_ofNat_Int]; rfl, ?_⟩
      | refine Wr.lit _ (by simp only [Int.reduceAdd, Int.reduceSub, Int.reduceMul]; rfl) (by decide) ?_
      | refine Wr.fit (by omega) ?_
      | refine Wr.fit (by dsimp only; omega) ?_
      | refine Elem.mk ⟨_, ⟨of_decide_eq_true rfl, rfl⟩, ?_⟩
      | refine Len.map ?_
      | refine Len.dropM ?_
      | refine Elem.dropM ?_
      | refine Len.takeM ?_
      | refine Elem.takeM ?_
      | refine Elem.mapK (by assumption) ?_
      | refine Elem.mapI (by omega) (by assumption) ?_
      | refine Elem.mapN (by omega) (fun x hx => ?_)
      | refine Elem.map (by omega) (by omega) (fun x hx => ?_)
      | refine ((light_ok l).to (congrArg gb (Bool.eq_false_iff.2 hl))).use ⟨rfl, ?_⟩
      | refine (alive19_ok).use ⟨rfl, ?_⟩
      | refine CallX.mk ⟨_, _, ((light_ok l).to (congrArg gb (Bool.eq_false_iff.2 hl))).x, rfl, ?_⟩
      | refine CallX.mk ⟨_, _, (alive19_ok).x, rfl, ?_⟩
      | refine Done.mk ⟨rfl, rfl⟩
      | refine Done.mk ⟨congrArg gb ?_, rfl⟩
      | refine Done.mk ⟨?_, rfl⟩
      | refine Done.mk ⟨?_, ?_⟩)
  case pos =>
    have hlen := lightB_len hl
    by_cases he : stepErr l s m k = 0
    case neg =>
      have h1 : stepSpot l s m k = zeroSpot := if_neg he
      have h2 : stepSet l s m k = 0 := if_neg he
      have hs := errStep_ok l s m k
      rw [h1, h2] at hs
      refine ICalls.of_body Try.func6 rfl Try.call6 rfl (Nat.le_of_ble_eq_true rfl) pl_D7_2 ?_
      repeat' ((conv => whnf); first
        | refine Br.yes rfl ?_
        | refine Br.no rfl ?_
        | refine Need.mk (EqRun.flat (by kernel_rfl) rfl) ?_
        | refine Br.yes (beq_self_eq_true _) ?_
        | refine Br.not ?_
        | refine Br.yes (decide_eq_true (by assumption)) ?_
        | refine Br.no (decide_eq_false (by assumption)) ?_
        | refine Br.yes (beq_iff_eq.2 (by assumption)) ?_
        | refine Br.no (beq_eq_false_iff_ne.2 (by assumption)) ?_
        | refine Br.yes (bne_iff_ne.2 (by assumption)) ?_
        | refine Br.yes (decide_eq_true (by omega)) ?_
        | refine Br.no (decide_eq_false (by omega)) ?_
        | refine Br.yes (beq_iff_eq.2 (by omega)) ?_
        | refine Br.no (beq_eq_false_iff_ne.2 (by omega)) ?_
        | refine Br.yes (bne_iff_ne.2 (by omega)) ?_
        | refine Br.no (bne_eq_false_iff_eq.2 (by omega)) ?_
        | (refine Br.dec (fun h => ?_) (fun h => ?_) <;> try dsimp only at h)
        | (refine Br.beqI (fun h => ?_) (fun h => ?_) <;> try dsimp only at h)
        | (refine Br.bneI (fun h => ?_) (fun h => ?_) <;> try dsimp only at h)
        | refine Br.mk (fun h => ?_) (fun h => ?_)
        | refine Need.mk (app_need (by first | (simp only [List.length_append, List.length_map, List.length_nil, List.length_cons, List.nil_append, Nat.zero_add, Nat.add_zero]; done) | (simp only [List.length_append, List.length_map, List.length_nil, List.length_cons, List.nil_append, Nat.zero_add, Nat.add_zero]; omega) | omega) (Nat.le_of_ble_eq_true rfl) (by first | (simp only [List.length_append, List.length_map, List.length_nil, List.length_cons, List.nil_append, Nat.zero_add, Nat.add_zero]; done) | (simp only [List.length_append, List.length_map, List.length_nil, List.length_cons, List.nil_append, Nat.zero_add, Nat.add_zero]; omega) | omega)) ?_
        | refine Need.mk (app_need0 (Nat.le_of_ble_eq_true rfl) (by first | (simp only [List.length_append, List.length_map, List.length_nil, List.length_cons, List.nil_append, Nat.zero_add, Nat.add_zero]; done) | (simp only [List.length_append, List.length_map, List.length_nil, List.length_cons, List.nil_append, Nat.zero_add, Nat.add_zero]; omega) | omega)) ?_
        | refine Need.mk (by first | kernel_rfl | exact ⟨of_decide_eq_true rfl, of_decide_eq_true rfl⟩ | omega) ?_
        | refine Len.mk ⟨_, by simp only [List.length_cons, List.length_nil, Nat.reduceAdd, Int.cast_ofNat_Int]; rfl, ?_⟩
        | refine Wr.lit _ (by simp only [Int.reduceAdd, Int.reduceSub, Int.reduceMul]; rfl) (by decide) ?_
        | refine Wr.fit (by omega) ?_
        | refine Wr.fit (by dsimp only; omega) ?_
        | refine Elem.mk ⟨_, ⟨of_decide_eq_true rfl, rfl⟩, ?_⟩
        | refine Len.map ?_
        | refine Len.dropM ?_
        | refine Elem.dropM ?_
        | refine Len.takeM ?_
        | refine Elem.takeM ?_
        | refine Elem.mapK (by assumption) ?_
        | refine Elem.mapI (by omega) (by assumption) ?_
        | refine Elem.mapN (by omega) (fun x hx => ?_)
        | refine Elem.map (by omega) (by omega) (fun x hx => ?_)
        | refine ((light_ok l).to (congrArg gb hl)).use ⟨rfl, ?_⟩
        | refine (hs).use ⟨rfl, ?_⟩
        | refine (refTasksCheck_ok l).use ⟨rfl, ?_⟩
        | refine (refFits_ok l s (by omega)).use ⟨rfl, ?_⟩
        | refine (alive19_ok).use ⟨rfl, ?_⟩
        | refine CallX.mk ⟨_, _, ((light_ok l).to (congrArg gb hl)).x, rfl, ?_⟩
        | refine CallX.mk ⟨_, _, (hs).x, rfl, ?_⟩
        | refine CallX.mk ⟨_, _, (refTasksCheck_ok l).x, rfl, ?_⟩
        | refine CallX.mk ⟨_, _, (refFits_ok l s (by omega)).x, rfl, ?_⟩
        | refine CallX.mk ⟨_, _, (alive19_ok).x, rfl, ?_⟩
        | refine Done.mk ⟨rfl, rfl⟩
        | refine Done.mk ⟨congrArg gb ?_, rfl⟩
        | refine Done.mk ⟨?_, rfl⟩
        | refine Done.mk ⟨?_, ?_⟩)
      all_goals (exfalso; unfold stepErr errCheck at *; grind)
    case pos =>
      have hc : errCheck l s = 0 ∧ (0 ≤ k ∧ k < 4) ∧ (0 ≤ m ∧ m < 40320) := by unfold stepErr at he; grind
      have hf : tasksErr l = 0 ∧ fitsS l s = true := by have := hc.1; unfold errCheck at this; grind
      have hs := errStep_ok l s m k
      rw [he, show stepSpot l s m k = (minuteS l s m k).1 from if_pos he, show stepSet l s m k = setB (minuteS l s m k).2 from if_pos he] at hs
      have hr := refStep19_ok l s m k hc.1
      generalize hq : minuteS l s m k = q at hs hr
      obtain ⟨s', b0, b1, b2, b3⟩ := q
      have hs' : ICalls Try.prog 27 [.list 3 (tasks l) none, s.g, gi m, gi k] [] (Done (.tup [s'.g, gi (setB ⟨b0, b1, b2, b3⟩), gi 0]) []) := hs
      have hr' : ICalls Try.prog 30 [.list 3 (tasks l) none, s.g, gi m, gi k] [] (Done (.tup [s'.g, .agg [gb b0, gb b1, gb b2, gb b3]]) []) := hr
      clear hq he hs hr
      refine ICalls.of_body Try.func6 rfl Try.call6 rfl (Nat.le_of_ble_eq_true rfl) pl_D7_3 ?_
      repeat' ((conv => whnf); first
        | refine Br.yes rfl ?_
        | refine Br.no rfl ?_
        | refine Need.mk (EqRun.flat (by kernel_rfl) rfl) ?_
        | refine Wr.fit (by decide +kernel) ?_
        | refine Br.yes (beq_self_eq_true _) ?_
        | refine Br.not ?_
        | refine Br.yes (decide_eq_true (by assumption)) ?_
        | refine Br.no (decide_eq_false (by assumption)) ?_
        | refine Br.yes (beq_iff_eq.2 (by assumption)) ?_
        | refine Br.no (beq_eq_false_iff_ne.2 (by assumption)) ?_
        | refine Br.yes (bne_iff_ne.2 (by assumption)) ?_
        | refine Br.yes (decide_eq_true (by omega)) ?_
        | refine Br.no (decide_eq_false (by omega)) ?_
        | refine Br.yes (beq_iff_eq.2 (by omega)) ?_
        | refine Br.no (beq_eq_false_iff_ne.2 (by omega)) ?_
        | refine Br.yes (bne_iff_ne.2 (by omega)) ?_
        | refine Br.no (bne_eq_false_iff_eq.2 (by omega)) ?_
        | (refine Br.dec (fun h => ?_) (fun h => ?_) <;> try dsimp only at h)
        | (refine Br.beqI (fun h => ?_) (fun h => ?_) <;> try dsimp only at h)
        | (refine Br.bneI (fun h => ?_) (fun h => ?_) <;> try dsimp only at h)
        | refine Br.mk (fun h => ?_) (fun h => ?_)
        | refine Need.mk (app_need (by first | (simp only [List.length_append, List.length_map, List.length_nil, List.length_cons, List.nil_append, Nat.zero_add, Nat.add_zero]; done) | (simp only [List.length_append, List.length_map, List.length_nil, List.length_cons, List.nil_append, Nat.zero_add, Nat.add_zero]; omega) | omega) (Nat.le_of_ble_eq_true rfl) (by first | (simp only [List.length_append, List.length_map, List.length_nil, List.length_cons, List.nil_append, Nat.zero_add, Nat.add_zero]; done) | (simp only [List.length_append, List.length_map, List.length_nil, List.length_cons, List.nil_append, Nat.zero_add, Nat.add_zero]; omega) | omega)) ?_
        | refine Need.mk (app_need0 (Nat.le_of_ble_eq_true rfl) (by first | (simp only [List.length_append, List.length_map, List.length_nil, List.length_cons, List.nil_append, Nat.zero_add, Nat.add_zero]; done) | (simp only [List.length_append, List.length_map, List.length_nil, List.length_cons, List.nil_append, Nat.zero_add, Nat.add_zero]; omega) | omega)) ?_
        | refine Need.mk (by first | kernel_rfl | exact ⟨of_decide_eq_true rfl, of_decide_eq_true rfl⟩ | omega) ?_
        | refine Len.mk ⟨_, by simp only [List.length_cons, List.length_nil, Nat.reduceAdd, Int.cast_ofNat_Int]; rfl, ?_⟩
        | refine Wr.lit _ (by simp only [Int.reduceAdd, Int.reduceSub, Int.reduceMul]; rfl) (by decide) ?_
        | refine Wr.fit (by omega) ?_
        | refine Wr.fit (by dsimp only; omega) ?_
        | refine Elem.mk ⟨_, ⟨of_decide_eq_true rfl, rfl⟩, ?_⟩
        | refine Len.map ?_
        | refine Len.dropM ?_
        | refine Elem.dropM ?_
        | refine Len.takeM ?_
        | refine Elem.takeM ?_
        | refine Elem.mapK (by assumption) ?_
        | refine Elem.mapI (by omega) (by assumption) ?_
        | refine Elem.mapN (by omega) (fun x hx => ?_)
        | refine Elem.map (by omega) (by omega) (fun x hx => ?_)
        | refine ((light_ok l).to (congrArg gb hl)).use ⟨rfl, ?_⟩
        | refine (hs').use ⟨rfl, ?_⟩
        | refine ((refTasksCheck_ok l).to (congrArg gi hf.1)).use ⟨rfl, ?_⟩
        | refine ((refFits_ok l s (by omega)).to (congrArg gb hf.2)).use ⟨rfl, ?_⟩
        | refine (hr').use ⟨rfl, ?_⟩
        | refine (alive19_ok).use ⟨rfl, ?_⟩
        | refine CallX.mk ⟨_, _, ((light_ok l).to (congrArg gb hl)).x, rfl, ?_⟩
        | refine CallX.mk ⟨_, _, (hs').x, rfl, ?_⟩
        | refine CallX.mk ⟨_, _, ((refTasksCheck_ok l).to (congrArg gi hf.1)).x, rfl, ?_⟩
        | refine CallX.mk ⟨_, _, ((refFits_ok l s (by omega)).to (congrArg gb hf.2)).x, rfl, ?_⟩
        | refine CallX.mk ⟨_, _, (hr').x, rfl, ?_⟩
        | refine CallX.mk ⟨_, _, (alive19_ok).x, rfl, ?_⟩
        | refine ILoop.unroll 5 ?_
        | refine Done.mk ⟨rfl, rfl⟩
        | refine Done.mk ⟨congrArg gb ?_, rfl⟩
        | refine Done.mk ⟨?_, rfl⟩
        | refine Done.mk ⟨?_, ?_⟩)
      all_goals first
        | (simp at h; done)
        | (subst_vars; exact absurd (by decide +kernel) h)

set_option maxRecDepth 100000 in
set_option maxHeartbeats 8000000 in
theorem errandChecks_ok (l : List Task) (s : Spot) : ICalls Try.prog 7 [.list 3 (tasks l) none, s.g] [] (Done (gb true) []) := by
  by_cases hl : lightB l = true
  case neg =>
    refine ICalls.of_body Try.func7 rfl Try.call7 rfl (Nat.le_of_ble_eq_true rfl) (fun _ => none) ?_
    repeat' ((conv => whnf); first
      | refine Br.yes rfl ?_
      | refine Br.no rfl ?_
      | refine Br.yes (beq_self_eq_true _) ?_
      | refine Br.not ?_
      | refine Br.yes (decide_eq_true (by assumption)) ?_
      | refine Br.no (decide_eq_false (by assumption)) ?_
      | refine Br.yes (beq_iff_eq.2 (by assumption)) ?_
      | refine Br.no (beq_eq_false_iff_ne.2 (by assumption)) ?_
      | refine Br.yes (bne_iff_ne.2 (by assumption)) ?_
      | refine Br.yes (decide_eq_true (by omega)) ?_
      | refine Br.no (decide_eq_false (by omega)) ?_
      | refine Br.yes (beq_iff_eq.2 (by omega)) ?_
      | refine Br.no (beq_eq_false_iff_ne.2 (by omega)) ?_
      | refine Br.yes (bne_iff_ne.2 (by omega)) ?_
      | refine Br.no (bne_eq_false_iff_eq.2 (by omega)) ?_
      | (refine Br.dec (fun h => ?_) (fun h => ?_) <;> try dsimp only at h)
      | (refine Br.beqI (fun h => ?_) (fun h => ?_) <;> try dsimp only at h)
      | (refine Br.bneI (fun h => ?_) (fun h => ?_) <;> try dsimp only at h)
      | refine Br.mk (fun h => ?_) (fun h => ?_)
      | refine Need.mk (app_need (by first | (simp only [List.length_append, List.length_map, List.length_nil, List.length_cons, List.nil_append, Nat.zero_add, Nat.add_zero]; done) | (simp only [List.length_append, List.length_map, List.length_nil, List.length_cons, List.nil_append, Nat.zero_add, Nat.add_zero]; omega) | omega) (Nat.le_of_ble_eq_true rfl) (by first | (simp only [List.length_append, List.length_map, List.length_nil, List.length_cons, List.nil_append, Nat.zero_add, Nat.add_zero]; done) | (simp only [List.length_append, List.length_map, List.length_nil, List.length_cons, List.nil_append, Nat.zero_add, Nat.add_zero]; omega) | omega)) ?_
      | refine Need.mk (app_need0 (Nat.le_of_ble_eq_true rfl) (by first | (simp only [List.length_append, List.length_map, List.length_nil, List.length_cons, List.nil_append, Nat.zero_add, Nat.add_zero]; done) | (simp only [List.length_append, List.length_map, List.length_nil, List.length_cons, List.nil_append, Nat.zero_add, Nat.add_zero]; omega) | omega)) ?_
      | refine Need.mk (by first | kernel_rfl | exact ⟨of_decide_eq_true rfl, of_decide_eq_true rfl⟩ | omega) ?_
      | refine Len.mk ⟨_, by simp only [List.length_cons, List.length_nil, Nat.reduceAdd, Int.cast_ofNat_Int]; rfl, ?_⟩
      | refine Wr.lit _ (by simp only [Int.reduceAdd, Int.reduceSub, Int.reduceMul]; rfl) (by decide) ?_
      | refine Wr.fit (by omega) ?_
      | refine Wr.fit (by dsimp only; omega) ?_
      | refine Elem.mk ⟨_, ⟨of_decide_eq_true rfl, rfl⟩, ?_⟩
      | refine Len.map ?_
      | refine Len.dropM ?_
      | refine Elem.dropM ?_
      | refine Len.takeM ?_
      | refine Elem.takeM ?_
      | refine Elem.mapK (by assumption) ?_
      | refine Elem.mapI (by omega) (by assumption) ?_
      | refine Elem.mapN (by omega) (fun x hx => ?_)
      | refine Elem.map (by omega) (by omega) (fun x hx => ?_)
      | refine ((light_ok l).to (congrArg gb (Bool.eq_false_iff.2 hl))).use ⟨rfl, ?_⟩
      | refine (alive19_ok).use ⟨rfl, ?_⟩
      | refine CallX.mk ⟨_, _, ((light_ok l).to (congrArg gb (Bool.eq_false_iff.2 hl))).x, rfl, ?_⟩
      | refine CallX.mk ⟨_, _, (alive19_ok).x, rfl, ?_⟩
      | refine Done.mk ⟨rfl, rfl⟩
      | refine Done.mk ⟨congrArg gb ?_, rfl⟩
      | refine Done.mk ⟨?_, rfl⟩
      | refine Done.mk ⟨?_, ?_⟩)
  case pos =>
    have hlen := lightB_len hl
    have hL := errLeft_ok l s
    have hS := errStart_ok l
    by_cases hc : errCheck l s = 0
    case pos =>
      have hf : tasksErr l = 0 ∧ fitsS l s = true := by unfold errCheck at hc; grind
      rw [if_pos hc] at hL
      unfold startS at hS
      rw [if_pos hf.1] at hS
      refine ICalls.of_body Try.func7 rfl Try.call7 rfl (Nat.le_of_ble_eq_true rfl) (fun _ => none) ?_
      repeat' ((conv => whnf); first
        | refine Br.yes rfl ?_
        | refine Br.no rfl ?_
        | refine Need.mk (EqRun.flat (by kernel_rfl) rfl) ?_
        | refine Br.yes (beq_self_eq_true _) ?_
        | refine Br.not ?_
        | refine Br.yes (decide_eq_true (by assumption)) ?_
        | refine Br.no (decide_eq_false (by assumption)) ?_
        | refine Br.yes (beq_iff_eq.2 (by assumption)) ?_
        | refine Br.no (beq_eq_false_iff_ne.2 (by assumption)) ?_
        | refine Br.yes (bne_iff_ne.2 (by assumption)) ?_
        | refine Br.yes (decide_eq_true (by omega)) ?_
        | refine Br.no (decide_eq_false (by omega)) ?_
        | refine Br.yes (beq_iff_eq.2 (by omega)) ?_
        | refine Br.no (beq_eq_false_iff_ne.2 (by omega)) ?_
        | refine Br.yes (bne_iff_ne.2 (by omega)) ?_
        | refine Br.no (bne_eq_false_iff_eq.2 (by omega)) ?_
        | (refine Br.dec (fun h => ?_) (fun h => ?_) <;> try dsimp only at h)
        | (refine Br.beqI (fun h => ?_) (fun h => ?_) <;> try dsimp only at h)
        | (refine Br.bneI (fun h => ?_) (fun h => ?_) <;> try dsimp only at h)
        | refine Br.mk (fun h => ?_) (fun h => ?_)
        | refine Need.mk (app_need (by first | (simp only [List.length_append, List.length_map, List.length_nil, List.length_cons, List.nil_append, Nat.zero_add, Nat.add_zero]; done) | (simp only [List.length_append, List.length_map, List.length_nil, List.length_cons, List.nil_append, Nat.zero_add, Nat.add_zero]; omega) | omega) (Nat.le_of_ble_eq_true rfl) (by first | (simp only [List.length_append, List.length_map, List.length_nil, List.length_cons, List.nil_append, Nat.zero_add, Nat.add_zero]; done) | (simp only [List.length_append, List.length_map, List.length_nil, List.length_cons, List.nil_append, Nat.zero_add, Nat.add_zero]; omega) | omega)) ?_
        | refine Need.mk (app_need0 (Nat.le_of_ble_eq_true rfl) (by first | (simp only [List.length_append, List.length_map, List.length_nil, List.length_cons, List.nil_append, Nat.zero_add, Nat.add_zero]; done) | (simp only [List.length_append, List.length_map, List.length_nil, List.length_cons, List.nil_append, Nat.zero_add, Nat.add_zero]; omega) | omega)) ?_
        | refine Need.mk (by first | kernel_rfl | exact ⟨of_decide_eq_true rfl, of_decide_eq_true rfl⟩ | omega) ?_
        | refine Len.mk ⟨_, by simp only [List.length_cons, List.length_nil, Nat.reduceAdd, Int.cast_ofNat_Int]; rfl, ?_⟩
        | refine Wr.lit _ (by simp only [Int.reduceAdd, Int.reduceSub, Int.reduceMul]; rfl) (by decide) ?_
        | refine Wr.fit (by omega) ?_
        | refine Wr.fit (by dsimp only; omega) ?_
        | refine Elem.mk ⟨_, ⟨of_decide_eq_true rfl, rfl⟩, ?_⟩
        | refine Len.map ?_
        | refine Len.dropM ?_
        | refine Elem.dropM ?_
        | refine Len.takeM ?_
        | refine Elem.takeM ?_
        | refine Elem.mapK (by assumption) ?_
        | refine Elem.mapI (by omega) (by assumption) ?_
        | refine Elem.mapN (by omega) (fun x hx => ?_)
        | refine Elem.map (by omega) (by omega) (fun x hx => ?_)
        | refine ((light_ok l).to (congrArg gb hl)).use ⟨rfl, ?_⟩
        | refine (hL).use ⟨rfl, ?_⟩
        | refine (hS).use ⟨rfl, ?_⟩
        | refine ((tasksCheck_ok l).to (congrArg gi hf.1)).use ⟨rfl, ?_⟩
        | refine ((refTasksCheck_ok l).to (congrArg gi hf.1)).use ⟨rfl, ?_⟩
        | refine ((refFits_ok l s (by omega)).to (congrArg gb hf.2)).use ⟨rfl, ?_⟩
        | refine ((errRight_ok l s).to (congrArg gb (decide_eq_true hc))).use ⟨rfl, ?_⟩
        | refine (errDone_ok l s).use ⟨rfl, ?_⟩
        | refine (refPast_ok l zeroSpot (by omega) (by decide)).use ⟨rfl, ?_⟩
        | refine (refErrLeft_ok l s hc).use ⟨rfl, ?_⟩
        | refine (alive19_ok).use ⟨rfl, ?_⟩
        | refine CallX.mk ⟨_, _, ((light_ok l).to (congrArg gb hl)).x, rfl, ?_⟩
        | refine CallX.mk ⟨_, _, (hL).x, rfl, ?_⟩
        | refine CallX.mk ⟨_, _, (hS).x, rfl, ?_⟩
        | refine CallX.mk ⟨_, _, ((tasksCheck_ok l).to (congrArg gi hf.1)).x, rfl, ?_⟩
        | refine CallX.mk ⟨_, _, ((refTasksCheck_ok l).to (congrArg gi hf.1)).x, rfl, ?_⟩
        | refine CallX.mk ⟨_, _, ((refFits_ok l s (by omega)).to (congrArg gb hf.2)).x, rfl, ?_⟩
        | refine CallX.mk ⟨_, _, ((errRight_ok l s).to (congrArg gb (decide_eq_true hc))).x, rfl, ?_⟩
        | refine CallX.mk ⟨_, _, (errDone_ok l s).x, rfl, ?_⟩
        | refine CallX.mk ⟨_, _, (refPast_ok l zeroSpot (by omega) (by decide)).x, rfl, ?_⟩
        | refine CallX.mk ⟨_, _, (refErrLeft_ok l s hc).x, rfl, ?_⟩
        | refine CallX.mk ⟨_, _, (alive19_ok).x, rfl, ?_⟩
        | refine Done.mk ⟨rfl, rfl⟩
        | refine Done.mk ⟨congrArg gb ?_, rfl⟩
        | refine Done.mk ⟨?_, rfl⟩
        | refine Done.mk ⟨?_, ?_⟩)
      all_goals first
        | (simp at h; done)
        | (exfalso; simp [hc] at h; grind)
    case neg =>
      rw [if_neg hc] at hL
      refine ICalls.of_body Try.func7 rfl Try.call7 rfl (Nat.le_of_ble_eq_true rfl) (fun _ => none) ?_
      repeat' ((conv => whnf); first
        | refine Br.yes rfl ?_
        | refine Br.no rfl ?_
        | refine Need.mk (EqRun.flat (by kernel_rfl) rfl) ?_
        | refine Br.yes (beq_self_eq_true _) ?_
        | refine Br.not ?_
        | refine Br.yes (decide_eq_true (by assumption)) ?_
        | refine Br.no (decide_eq_false (by assumption)) ?_
        | refine Br.yes (beq_iff_eq.2 (by assumption)) ?_
        | refine Br.no (beq_eq_false_iff_ne.2 (by assumption)) ?_
        | refine Br.yes (bne_iff_ne.2 (by assumption)) ?_
        | refine Br.yes (decide_eq_true (by omega)) ?_
        | refine Br.no (decide_eq_false (by omega)) ?_
        | refine Br.yes (beq_iff_eq.2 (by omega)) ?_
        | refine Br.no (beq_eq_false_iff_ne.2 (by omega)) ?_
        | refine Br.yes (bne_iff_ne.2 (by omega)) ?_
        | refine Br.no (bne_eq_false_iff_eq.2 (by omega)) ?_
        | (refine Br.dec (fun h => ?_) (fun h => ?_) <;> try dsimp only at h)
        | (refine Br.beqI (fun h => ?_) (fun h => ?_) <;> try dsimp only at h)
        | (refine Br.bneI (fun h => ?_) (fun h => ?_) <;> try dsimp only at h)
        | refine Br.mk (fun h => ?_) (fun h => ?_)
        | refine Need.mk (app_need (by first | (simp only [List.length_append, List.length_map, List.length_nil, List.length_cons, List.nil_append, Nat.zero_add, Nat.add_zero]; done) | (simp only [List.length_append, List.length_map, List.length_nil, List.length_cons, List.nil_append, Nat.zero_add, Nat.add_zero]; omega) | omega) (Nat.le_of_ble_eq_true rfl) (by first | (simp only [List.length_append, List.length_map, List.length_nil, List.length_cons, List.nil_append, Nat.zero_add, Nat.add_zero]; done) | (simp only [List.length_append, List.length_map, List.length_nil, List.length_cons, List.nil_append, Nat.zero_add, Nat.add_zero]; omega) | omega)) ?_
        | refine Need.mk (app_need0 (Nat.le_of_ble_eq_true rfl) (by first | (simp only [List.length_append, List.length_map, List.length_nil, List.length_cons, List.nil_append, Nat.zero_add, Nat.add_zero]; done) | (simp only [List.length_append, List.length_map, List.length_nil, List.length_cons, List.nil_append, Nat.zero_add, Nat.add_zero]; omega) | omega)) ?_
        | refine Need.mk (by first | kernel_rfl | exact ⟨of_decide_eq_true rfl, of_decide_eq_true rfl⟩ | omega) ?_
        | refine Len.mk ⟨_, by simp only [List.length_cons, List.length_nil, Nat.reduceAdd, Int.cast_ofNat_Int]; rfl, ?_⟩
        | refine Wr.lit _ (by simp only [Int.reduceAdd, Int.reduceSub, Int.reduceMul]; rfl) (by decide) ?_
        | refine Wr.fit (by omega) ?_
        | refine Wr.fit (by dsimp only; omega) ?_
        | refine Elem.mk ⟨_, ⟨of_decide_eq_true rfl, rfl⟩, ?_⟩
        | refine Len.map ?_
        | refine Len.dropM ?_
        | refine Elem.dropM ?_
        | refine Len.takeM ?_
        | refine Elem.takeM ?_
        | refine Elem.mapK (by assumption) ?_
        | refine Elem.mapI (by omega) (by assumption) ?_
        | refine Elem.mapN (by omega) (fun x hx => ?_)
        | refine Elem.map (by omega) (by omega) (fun x hx => ?_)
        | refine ((light_ok l).to (congrArg gb hl)).use ⟨rfl, ?_⟩
        | refine (hL).use ⟨rfl, ?_⟩
        | refine (hS).use ⟨rfl, ?_⟩
        | refine (tasksCheck_ok l).use ⟨rfl, ?_⟩
        | refine (refTasksCheck_ok l).use ⟨rfl, ?_⟩
        | refine (refFits_ok l s (by omega)).use ⟨rfl, ?_⟩
        | refine ((errRight_ok l s).to (congrArg gb (decide_eq_false hc))).use ⟨rfl, ?_⟩
        | refine (errDone_ok l s).use ⟨rfl, ?_⟩
        | refine (refPast_ok l zeroSpot (by omega) (by decide)).use ⟨rfl, ?_⟩
        | refine (alive19_ok).use ⟨rfl, ?_⟩
        | refine CallX.mk ⟨_, _, ((light_ok l).to (congrArg gb hl)).x, rfl, ?_⟩
        | refine CallX.mk ⟨_, _, (hL).x, rfl, ?_⟩
        | refine CallX.mk ⟨_, _, (hS).x, rfl, ?_⟩
        | refine CallX.mk ⟨_, _, (tasksCheck_ok l).x, rfl, ?_⟩
        | refine CallX.mk ⟨_, _, (refTasksCheck_ok l).x, rfl, ?_⟩
        | refine CallX.mk ⟨_, _, (refFits_ok l s (by omega)).x, rfl, ?_⟩
        | refine CallX.mk ⟨_, _, ((errRight_ok l s).to (congrArg gb (decide_eq_false hc))).x, rfl, ?_⟩
        | refine CallX.mk ⟨_, _, (errDone_ok l s).x, rfl, ?_⟩
        | refine CallX.mk ⟨_, _, (refPast_ok l zeroSpot (by omega) (by decide)).x, rfl, ?_⟩
        | refine CallX.mk ⟨_, _, (alive19_ok).x, rfl, ?_⟩
        | refine Done.mk ⟨rfl, rfl⟩
        | refine Done.mk ⟨congrArg gb ?_, rfl⟩
        | refine Done.mk ⟨?_, rfl⟩
        | refine Done.mk ⟨?_, ?_⟩)
      all_goals (exfalso; clear hL hS; unfold startS errCheck at *; (try simp only [cond_true] at *); first | grind | (simp_all; done) | (simp_all [zeroSpot]; done))

set_option maxRecDepth 100000 in
set_option maxHeartbeats 8000000 in
theorem errandLeft_ok (l : List Task) (s : Spot) (m k : Int) : ICalls Try.prog 8 [.list 3 (tasks l) none, s.g, .agg [gi m, gi k]] [] (Done (gb true) []) := by
  by_cases hl : lightB l = true
  case neg =>
    refine ICalls.of_body Try.func8 rfl Try.call8 rfl (Nat.le_of_ble_eq_true rfl) (fun _ => none) ?_
    repeat' ((conv => whnf); first
      | refine Br.yes rfl ?_
      | refine Br.no rfl ?_
      | refine Br.yes (beq_self_eq_true _) ?_
      | refine Br.not ?_
      | refine Br.yes (decide_eq_true (by assumption)) ?_
      | refine Br.no (decide_eq_false (by assumption)) ?_
      | refine Br.yes (beq_iff_eq.2 (by assumption)) ?_
      | refine Br.no (beq_eq_false_iff_ne.2 (by assumption)) ?_
      | refine Br.yes (bne_iff_ne.2 (by assumption)) ?_
      | refine Br.yes (decide_eq_true (by omega)) ?_
      | refine Br.no (decide_eq_false (by omega)) ?_
      | refine Br.yes (beq_iff_eq.2 (by omega)) ?_
      | refine Br.no (beq_eq_false_iff_ne.2 (by omega)) ?_
      | refine Br.yes (bne_iff_ne.2 (by omega)) ?_
      | refine Br.no (bne_eq_false_iff_eq.2 (by omega)) ?_
      | (refine Br.dec (fun h => ?_) (fun h => ?_) <;> try dsimp only at h)
      | (refine Br.beqI (fun h => ?_) (fun h => ?_) <;> try dsimp only at h)
      | (refine Br.bneI (fun h => ?_) (fun h => ?_) <;> try dsimp only at h)
      | refine Br.mk (fun h => ?_) (fun h => ?_)
      | refine Need.mk (app_need (by first | (simp only [List.length_append, List.length_map, List.length_nil, List.length_cons, List.nil_append, Nat.zero_add, Nat.add_zero]; done) | (simp only [List.length_append, List.length_map, List.length_nil, List.length_cons, List.nil_append, Nat.zero_add, Nat.add_zero]; omega) | omega) (Nat.le_of_ble_eq_true rfl) (by first | (simp only [List.length_append, List.length_map, List.length_nil, List.length_cons, List.nil_append, Nat.zero_add, Nat.add_zero]; done) | (simp only [List.length_append, List.length_map, List.length_nil, List.length_cons, List.nil_append, Nat.zero_add, Nat.add_zero]; omega) | omega)) ?_
      | refine Need.mk (app_need0 (Nat.le_of_ble_eq_true rfl) (by first | (simp only [List.length_append, List.length_map, List.length_nil, List.length_cons, List.nil_append, Nat.zero_add, Nat.add_zero]; done) | (simp only [List.length_append, List.length_map, List.length_nil, List.length_cons, List.nil_append, Nat.zero_add, Nat.add_zero]; omega) | omega)) ?_
      | refine Need.mk (by first | kernel_rfl | exact ⟨of_decide_eq_true rfl, of_decide_eq_true rfl⟩ | omega) ?_
      | refine Len.mk ⟨_, by simp only [List.length_cons, List.length_nil, Nat.reduceAdd, Int.cast_ofNat_Int]; rfl, ?_⟩
      | refine Wr.lit _ (by simp only [Int.reduceAdd, Int.reduceSub, Int.reduceMul]; rfl) (by decide) ?_
      | refine Wr.fit (by omega) ?_
      | refine Wr.fit (by dsimp only; omega) ?_
      | refine Elem.mk ⟨_, ⟨of_decide_eq_true rfl, rfl⟩, ?_⟩
      | refine Len.map ?_
      | refine Len.dropM ?_
      | refine Elem.dropM ?_
      | refine Len.takeM ?_
      | refine Elem.takeM ?_
      | refine Elem.mapK (by assumption) ?_
      | refine Elem.mapI (by omega) (by assumption) ?_
      | refine Elem.mapN (by omega) (fun x hx => ?_)
      | refine Elem.map (by omega) (by omega) (fun x hx => ?_)
      | refine ((light_ok l).to (congrArg gb (Bool.eq_false_iff.2 hl))).use ⟨rfl, ?_⟩
      | refine (alive19_ok).use ⟨rfl, ?_⟩
      | refine CallX.mk ⟨_, _, ((light_ok l).to (congrArg gb (Bool.eq_false_iff.2 hl))).x, rfl, ?_⟩
      | refine CallX.mk ⟨_, _, (alive19_ok).x, rfl, ?_⟩
      | refine Done.mk ⟨rfl, rfl⟩
      | refine Done.mk ⟨congrArg gb ?_, rfl⟩
      | refine Done.mk ⟨?_, rfl⟩
      | refine Done.mk ⟨?_, ?_⟩)
  case pos =>
    have hlen := lightB_len hl
    have hs := errStep_ok l s m k
    by_cases he : stepErr l s m k = 0
    case neg =>
      have h1 : stepSpot l s m k = zeroSpot := if_neg he
      have h2 : stepSet l s m k = 0 := if_neg he
      rw [h1, h2] at hs
      refine ICalls.of_body Try.func8 rfl Try.call8 rfl (Nat.le_of_ble_eq_true rfl) (fun _ => none) ?_
      repeat' ((conv => whnf); first
        | refine Br.yes rfl ?_
        | refine Br.no rfl ?_
        | refine Need.mk (EqRun.flat (by kernel_rfl) rfl) ?_
        | refine Br.yes (beq_self_eq_true _) ?_
        | refine Br.not ?_
        | refine Br.yes (decide_eq_true (by assumption)) ?_
        | refine Br.no (decide_eq_false (by assumption)) ?_
        | refine Br.yes (beq_iff_eq.2 (by assumption)) ?_
        | refine Br.no (beq_eq_false_iff_ne.2 (by assumption)) ?_
        | refine Br.yes (bne_iff_ne.2 (by assumption)) ?_
        | refine Br.yes (decide_eq_true (by omega)) ?_
        | refine Br.no (decide_eq_false (by omega)) ?_
        | refine Br.yes (beq_iff_eq.2 (by omega)) ?_
        | refine Br.no (beq_eq_false_iff_ne.2 (by omega)) ?_
        | refine Br.yes (bne_iff_ne.2 (by omega)) ?_
        | refine Br.no (bne_eq_false_iff_eq.2 (by omega)) ?_
        | (refine Br.dec (fun h => ?_) (fun h => ?_) <;> try dsimp only at h)
        | (refine Br.beqI (fun h => ?_) (fun h => ?_) <;> try dsimp only at h)
        | (refine Br.bneI (fun h => ?_) (fun h => ?_) <;> try dsimp only at h)
        | refine Br.mk (fun h => ?_) (fun h => ?_)
        | refine Need.mk (app_need (by first | (simp only [List.length_append, List.length_map, List.length_nil, List.length_cons, List.nil_append, Nat.zero_add, Nat.add_zero]; done) | (simp only [List.length_append, List.length_map, List.length_nil, List.length_cons, List.nil_append, Nat.zero_add, Nat.add_zero]; omega) | omega) (Nat.le_of_ble_eq_true rfl) (by first | (simp only [List.length_append, List.length_map, List.length_nil, List.length_cons, List.nil_append, Nat.zero_add, Nat.add_zero]; done) | (simp only [List.length_append, List.length_map, List.length_nil, List.length_cons, List.nil_append, Nat.zero_add, Nat.add_zero]; omega) | omega)) ?_
        | refine Need.mk (app_need0 (Nat.le_of_ble_eq_true rfl) (by first | (simp only [List.length_append, List.length_map, List.length_nil, List.length_cons, List.nil_append, Nat.zero_add, Nat.add_zero]; done) | (simp only [List.length_append, List.length_map, List.length_nil, List.length_cons, List.nil_append, Nat.zero_add, Nat.add_zero]; omega) | omega)) ?_
        | refine Need.mk (by first | kernel_rfl | exact ⟨of_decide_eq_true rfl, of_decide_eq_true rfl⟩ | omega) ?_
        | refine Len.mk ⟨_, by simp only [List.length_cons, List.length_nil, Nat.reduceAdd, Int.cast_ofNat_Int]; rfl, ?_⟩
        | refine Wr.lit _ (by simp only [Int.reduceAdd, Int.reduceSub, Int.reduceMul]; rfl) (by decide) ?_
        | refine Wr.fit (by omega) ?_
        | refine Wr.fit (by dsimp only; omega) ?_
        | refine Elem.mk ⟨_, ⟨of_decide_eq_true rfl, rfl⟩, ?_⟩
        | refine Len.map ?_
        | refine Len.dropM ?_
        | refine Elem.dropM ?_
        | refine Len.takeM ?_
        | refine Elem.takeM ?_
        | refine Elem.mapK (by assumption) ?_
        | refine Elem.mapI (by omega) (by assumption) ?_
        | refine Elem.mapN (by omega) (fun x hx => ?_)
        | refine Elem.map (by omega) (by omega) (fun x hx => ?_)
        | refine ((light_ok l).to (congrArg gb hl)).use ⟨rfl, ?_⟩
        | refine (hs).use ⟨rfl, ?_⟩
        | refine (alive19_ok).use ⟨rfl, ?_⟩
        | refine CallX.mk ⟨_, _, ((light_ok l).to (congrArg gb hl)).x, rfl, ?_⟩
        | refine CallX.mk ⟨_, _, (hs).x, rfl, ?_⟩
        | refine CallX.mk ⟨_, _, (alive19_ok).x, rfl, ?_⟩
        | refine Done.mk ⟨rfl, rfl⟩
        | refine Done.mk ⟨congrArg gb ?_, rfl⟩
        | refine Done.mk ⟨?_, rfl⟩
        | refine Done.mk ⟨?_, ?_⟩)
    case pos =>
      have hc : errCheck l s = 0 ∧ (0 ≤ k ∧ k < 4) ∧ (0 ≤ m ∧ m < 40320) := by unfold stepErr at he; grind
      have hf : tasksErr l = 0 ∧ fitsS l s = true := by have := hc.1; unfold errCheck at this; grind
      have hm := (tasksErr_ok hf.1).2
      obtain ⟨g1, g2, g3, g4, g5⟩ := minuteS_left hm hf.2 m k
      have hz := left_zero hm hf.2
      rw [he, show stepSpot l s m k = (minuteS l s m k).1 from if_pos he, show stepSet l s m k = setB (minuteS l s m k).2 from if_pos he] at hs
      generalize hq : minuteS l s m k = q at *
      obtain ⟨n, b0, b1, b2, b3⟩ := q
      have hcn : errCheck l n = 0 := errCheck_of hf.1 g1
      have hL1 := errLeft_ok l s
      have hL2 := errLeft_ok l n
      rw [if_pos hc.1] at hL1
      rw [if_pos hcn] at hL2
      have hs' : ICalls Try.prog 27 [.list 3 (tasks l) none, s.g, gi m, gi k] [] (Done (.tup [n.g, gi (setB ⟨b0, b1, b2, b3⟩), gi 0]) []) := hs
      simp only at g1 g2 g3 g4 g5
      have g6 : n = s → leftD l n = leftD l s ∧ leftS l n = leftS l s := fun e => by rw [e]; exact ⟨rfl, rfl⟩
      have hb1 : (-10080 ≤ leftD l s ∧ leftD l s ≤ 30000000) ∧ (-1440 ≤ leftS l s ∧ leftS l s ≤ 30000000) := by
        have hD := sumDrive_le (l := l.drop s.Task.toNat) fun x hx => hm x (List.mem_of_mem_drop hx)
        have hS := sumServe_le (l := l.drop s.Task.toNat) fun x hx => hm x (List.mem_of_mem_drop hx)
        have hlen : (l.drop s.Task.toNat).length ≤ 40 := by rw [List.length_drop]; omega
        obtain ⟨f1, f2, f3, f4⟩ := fits_in hf.2
        have ht := tAt_may hm s.Task
        have ht1 := ht.drive
        have ht2 := ht.serve
        unfold leftD leftS; omega
      generalize leftD l s = a at *
      generalize leftS l s = b at *
      generalize leftD l n = c at *
      generalize leftS l n = d at *
      clear hq he hs
      have hd := errDone_ok l s
      rw [decide_eq_true hc.1, Bool.true_and] at hd
      refine ICalls.of_body Try.func8 rfl Try.call8 rfl (Nat.le_of_ble_eq_true rfl) (fun _ => none) ?_
      repeat' ((conv => whnf); first
        | refine Br.yes rfl ?_
        | refine Br.no rfl ?_
        | refine Need.mk (EqRun.flat (by kernel_rfl) rfl) ?_
        | refine Br.yes (beq_self_eq_true _) ?_
        | refine Br.not ?_
        | refine Br.yes (decide_eq_true (by assumption)) ?_
        | refine Br.no (decide_eq_false (by assumption)) ?_
        | refine Br.yes (beq_iff_eq.2 (by assumption)) ?_
        | refine Br.no (beq_eq_false_iff_ne.2 (by assumption)) ?_
        | refine Br.yes (bne_iff_ne.2 (by assumption)) ?_
        | refine Br.yes (decide_eq_true (by omega)) ?_
        | refine Br.no (decide_eq_false (by omega)) ?_
        | refine Br.yes (beq_iff_eq.2 (by omega)) ?_
        | refine Br.no (beq_eq_false_iff_ne.2 (by omega)) ?_
        | refine Br.yes (bne_iff_ne.2 (by omega)) ?_
        | refine Br.no (bne_eq_false_iff_eq.2 (by omega)) ?_
        | (refine Br.dec (fun h => ?_) (fun h => ?_) <;> try dsimp only at h)
        | (refine Br.beqI (fun h => ?_) (fun h => ?_) <;> try dsimp only at h)
        | (refine Br.bneI (fun h => ?_) (fun h => ?_) <;> try dsimp only at h)
        | refine Br.mk (fun h => ?_) (fun h => ?_)
        | refine Need.mk (app_need (by first | (simp only [List.length_append, List.length_map, List.length_nil, List.length_cons, List.nil_append, Nat.zero_add, Nat.add_zero]; done) | (simp only [List.length_append, List.length_map, List.length_nil, List.length_cons, List.nil_append, Nat.zero_add, Nat.add_zero]; omega) | omega) (Nat.le_of_ble_eq_true rfl) (by first | (simp only [List.length_append, List.length_map, List.length_nil, List.length_cons, List.nil_append, Nat.zero_add, Nat.add_zero]; done) | (simp only [List.length_append, List.length_map, List.length_nil, List.length_cons, List.nil_append, Nat.zero_add, Nat.add_zero]; omega) | omega)) ?_
        | refine Need.mk (app_need0 (Nat.le_of_ble_eq_true rfl) (by first | (simp only [List.length_append, List.length_map, List.length_nil, List.length_cons, List.nil_append, Nat.zero_add, Nat.add_zero]; done) | (simp only [List.length_append, List.length_map, List.length_nil, List.length_cons, List.nil_append, Nat.zero_add, Nat.add_zero]; omega) | omega)) ?_
        | refine Need.mk (by first | kernel_rfl | exact ⟨of_decide_eq_true rfl, of_decide_eq_true rfl⟩ | omega) ?_
        | refine Len.mk ⟨_, by simp only [List.length_cons, List.length_nil, Nat.reduceAdd, Int.cast_ofNat_Int]; rfl, ?_⟩
        | refine Wr.lit _ (by simp only [Int.reduceAdd, Int.reduceSub, Int.reduceMul]; rfl) (by decide) ?_
        | refine Wr.fit (by omega) ?_
        | refine Wr.fit (by dsimp only; omega) ?_
        | refine Elem.mk ⟨_, ⟨of_decide_eq_true rfl, rfl⟩, ?_⟩
        | refine Len.map ?_
        | refine Len.dropM ?_
        | refine Elem.dropM ?_
        | refine Len.takeM ?_
        | refine Elem.takeM ?_
        | refine Elem.mapK (by assumption) ?_
        | refine Elem.mapI (by omega) (by assumption) ?_
        | refine Elem.mapN (by omega) (fun x hx => ?_)
        | refine Elem.map (by omega) (by omega) (fun x hx => ?_)
        | refine ((light_ok l).to (congrArg gb hl)).use ⟨rfl, ?_⟩
        | refine (hs').use ⟨rfl, ?_⟩
        | refine (hL1).use ⟨rfl, ?_⟩
        | refine (hL2).use ⟨rfl, ?_⟩
        | refine ((errRight_ok l n).to (congrArg gb (decide_eq_true hcn))).use ⟨rfl, ?_⟩
        | refine (hd).use ⟨rfl, ?_⟩
        | refine (alive19_ok).use ⟨rfl, ?_⟩
        | refine CallX.mk ⟨_, _, ((light_ok l).to (congrArg gb hl)).x, rfl, ?_⟩
        | refine CallX.mk ⟨_, _, (hs').x, rfl, ?_⟩
        | refine CallX.mk ⟨_, _, (hL1).x, rfl, ?_⟩
        | refine CallX.mk ⟨_, _, (hL2).x, rfl, ?_⟩
        | refine CallX.mk ⟨_, _, ((errRight_ok l n).to (congrArg gb (decide_eq_true hcn))).x, rfl, ?_⟩
        | refine CallX.mk ⟨_, _, (hd).x, rfl, ?_⟩
        | refine CallX.mk ⟨_, _, (alive19_ok).x, rfl, ?_⟩
        | refine Done.mk ⟨rfl, rfl⟩
        | refine Done.mk ⟨congrArg gb ?_, rfl⟩
        | refine Done.mk ⟨?_, rfl⟩
        | refine Done.mk ⟨?_, ?_⟩)
      all_goals (exfalso; (try rw [setB_and] at *); (try (rw [Classical.not_not.symm.trans (not_congr (setB_and b0 b1 b2 b3))] at *)); grind)

end Go.Hl
