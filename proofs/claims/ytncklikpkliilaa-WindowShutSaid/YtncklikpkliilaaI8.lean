/- Contracts of functions, bundle I8; proved for whatever the arguments' types allow, as each theorem says. -/
import Derived.Test.YtncklikpkliilaaI7
import Derived.Test.YtncklikpkliilaaH1

/- Laws Minutes and Parts of chapter 3.  -/
set_option linter.unusedVariables false
set_option linter.unusedSimpArgs false
namespace Go.Hl
open Go.Gh Go.Proofs

theorem both_has (a b : List Span) (m : Int) : hasL (bothL (mkL a) (mkL b)) m = (hasL a m && hasL b m) := by
  rw [(bothL_spec _ (mkL a) (mkL b) none none (Nat.le_refl _) (mkL_rf a) (mkL_rf b)).2.1, mkL_has, mkL_has]
theorem both_rf (a b : List Span) : rightFrom (bothL (mkL a) (mkL b)) none = true := (bothL_spec _ (mkL a) (mkL b) none none (Nat.le_refl _) (mkL_rf a) (mkL_rf b)).1
theorem both_le (a b : List Span) : (bothL (mkL a) (mkL b)).length ≤ a.length + b.length := by
  have h := (bothL_spec _ (mkL a) (mkL b) none none (Nat.le_refl _) (mkL_rf a) (mkL_rf b)).2.2
  have h1 := mkL_le a
  have h2 := mkL_le b
  omega
theorem minus_has (a b : List Span) (m : Int) : hasL (minusL (mkL b) (mkL a)) m = (hasL a m && !hasL b m) := by
  rw [(minusL_spec (mkL b) (mkL_rf b) (mkL a) none (mkL_rf a)).2.1, mkL_has, mkL_has]
theorem minus_rf (a b : List Span) : rightFrom (minusL (mkL b) (mkL a)) none = true := (minusL_spec (mkL b) (mkL_rf b) (mkL a) none (mkL_rf a)).1
theorem minus_le (a b : List Span) (ha : a.length ≤ 30) (hb : b.length ≤ 30) : (minusL (mkL b) (mkL a)).length ≤ 930 := by
  have h := (minusL_spec (mkL b) (mkL_rf b) (mkL a) none (mkL_rf a)).2.2
  have h1 := mkL_le a
  have h2 := mkL_le b
  exact Nat.le_trans h (Nat.le_trans (Nat.mul_le_mul (show (mkL a).length ≤ 30 by omega) (show (mkL b).length + 1 ≤ 31 by omega)) (by decide))
theorem union_has (a b : List Span) (m : Int) : hasL (mkL (a ++ b)) m = (hasL a m || hasL b m) := by rw [mkL_has, hasL_app]

set_option maxRecDepth 100000 in
set_option maxHeartbeats 1000000 in
theorem ivalsMinutes_ok (a b : List Span) (m : Int) : ICalls Try.prog 6 [.list 2 (spans a) none, .list 2 (spans b) none, gi m] [] (Done (gb true) []) := by
  by_cases hl : (a.length : Int) ≤ 30 ∧ (b.length : Int) ≤ 30
  case neg =>
    refine ICalls.of_body Try.func6 rfl Try.call6 rfl (Nat.le_of_ble_eq_true rfl) (fun _ => none) rfl ?_
    repeat' ((conv => whnf); first
      | refine Br.yes rfl ?_
      | refine Br.no rfl ?_
      | refine Br.yes (beq_self_eq_true _) ?_
      | refine Br.not ?_
      | refine Br.yes (decide_eq_true (by assumption)) ?_
      | refine Br.no (decide_eq_false (by assumption)) ?_
      | refine Br.yes (beq_iff_eq.2 (by assumption)) ?_
      | refine Br.no (beq_eq_false_iff_ne.2 (by assumption)) ?_
      | refine Br.yes (bne_iff_ne.2 (by assumption)) ?_
      | (refine Br.dec (fun h => ?_) (fun h => ?_) <;> try dsimp only at h)
      | (refine Br.beqI (fun h => ?_) (fun h => ?_) <;> try dsimp only at h)
      | (refine Br.bneI (fun h => ?_) (fun h => ?_) <;> try dsimp only at h)
      | refine Br.mk (fun h => ?_) (fun h => ?_)
      | refine Need.mk (app_need (by first | (simp only [List.length_append, List.length_map, List.length_nil, List.length_cons, List.nil_append, Nat.zero_add, Nat.add_zero]; done) | (simp only [List.length_append, List.length_map, List.length_nil, List.length_cons, List.nil_append, Nat.zero_add, Nat.add_zero]; omega) | omega) (Nat.le_of_ble_eq_true rfl) (by first | (simp only [List.length_append, List.length_map, List.length_nil, List.length_cons, List.nil_append, Nat.zero_add, Nat.add_zero]; done) | (simp only [List.length_append, List.length_map, List.length_nil, List.length_cons, List.nil_append, Nat.zero_add, Nat.add_zero]; omega) | omega)) ?_
      | refine Need.mk (app_need0 (Nat.le_of_ble_eq_true rfl) (by first | (simp only [List.length_append, List.length_map, List.length_nil, List.length_cons, List.nil_append, Nat.zero_add, Nat.add_zero]; done) | (simp only [List.length_append, List.length_map, List.length_nil, List.length_cons, List.nil_append, Nat.zero_add, Nat.add_zero]; omega) | omega)) ?_
      | refine Need.mk (by first | kernel_rfl | exact ⟨of_decide_eq_true rfl, of_decide_eq_true rfl⟩ | omega) ?_
      | refine Len.mk ⟨_, by simp only [List.length_cons, List.length_nil, Nat.reduceAdd, Int.cast_ofNat_Int]; rfl, ?_⟩
      | refine Wr.lit _ (by simp only [Int.reduceAdd, Int.reduceSub, Int.reduceMul]; rfl) (by decide) ?_
      | refine Wr.fit (by omega) ?_
      | refine Wr.fit (by dsimp only; omega) ?_
      | refine Elem.mk ⟨_, ⟨of_decide_eq_true rfl, rfl⟩, ?_⟩
      | refine Len.map ?_
      | refine Len.dropM ?_
      | refine Elem.dropM ?_
      | refine Len.takeM ?_
      | refine Elem.takeM ?_
      | refine Elem.mapK (by assumption) ?_
      | refine Elem.mapI (by omega) (by assumption) ?_
      | refine Elem.mapN (by omega) (fun x hx => ?_)
      | refine Elem.map (by omega) (by omega) (fun x hx => ?_)
      | refine (alive03_ok).use ⟨rfl, ?_⟩
      | refine CallX.mk ⟨_, _, (alive03_ok).x, rfl, ?_⟩
      | refine Done.mk ⟨rfl, rfl⟩
      | refine Done.mk ⟨congrArg gb ?_, rfl⟩
      | refine Done.mk ⟨?_, rfl⟩
      | refine Done.mk ⟨?_, ?_⟩)
    all_goals omega
  case pos =>
    obtain ⟨hla, hlb⟩ := hl
    have h1 := union_ok a b (by omega) (by omega)
    have h2 := both_ok a b (by omega) (by omega)
    have h3 := minus_ok a b (by omega) (by omega)
    have h4 := refHas_ok a m (by omega)
    have h5 := refHas_ok b m (by omega)
    have l1 := mkL_le (a ++ b)
    rw [List.length_append] at l1
    have l2 := both_le a b
    have l3 := minus_le a b (by omega) (by omega)
    have r1 := (refRight_ok (mkL (a ++ b)) (by omega)).to (congrArg gb (mkL_rf (a ++ b)))
    have r2 := (refRight_ok (bothL (mkL a) (mkL b)) (by omega)).to (congrArg gb (both_rf a b))
    have r3 := (refRight_ok (minusL (mkL b) (mkL a)) (by omega)).to (congrArg gb (minus_rf a b))
    have q1 := (refHas_ok (mkL (a ++ b)) m (by omega)).to (congrArg gb (union_has a b m))
    have q2 := (refHas_ok (bothL (mkL a) (mkL b)) m (by omega)).to (congrArg gb (both_has a b m))
    have q3 := (refHas_ok (minusL (mkL b) (mkL a)) m (by omega)).to (congrArg gb (minus_has a b m))
    clear l1 l2 l3
    generalize mkL (a ++ b) = U at *
    generalize bothL (mkL a) (mkL b) = V at *
    generalize minusL (mkL b) (mkL a) = W at *
    generalize hasL a m = x at *
    generalize hasL b m = y at *
    cases x <;> cases y
    all_goals
      refine ICalls.of_body Try.func6 rfl Try.call6 rfl (Nat.le_of_ble_eq_true rfl) (fun _ => none) rfl ?_
      repeat' ((conv => whnf); first
        | refine Br.yes rfl ?_
        | refine Br.no rfl ?_
        | refine Br.yes (beq_self_eq_true _) ?_
        | refine Br.not ?_
        | refine Br.yes (decide_eq_true (by assumption)) ?_
        | refine Br.no (decide_eq_false (by assumption)) ?_
        | refine Br.yes (beq_iff_eq.2 (by assumption)) ?_
        | refine Br.no (beq_eq_false_iff_ne.2 (by assumption)) ?_
        | refine Br.yes (bne_iff_ne.2 (by assumption)) ?_
        | (refine Br.dec (fun h => ?_) (fun h => ?_) <;> try dsimp only at h)
        | (refine Br.beqI (fun h => ?_) (fun h => ?_) <;> try dsimp only at h)
        | (refine Br.bneI (fun h => ?_) (fun h => ?_) <;> try dsimp only at h)
        | refine Br.mk (fun h => ?_) (fun h => ?_)
        | refine Need.mk (app_need (by first | (simp only [List.length_append, List.length_map, List.length_nil, List.length_cons, List.nil_append, Nat.zero_add, Nat.add_zero]; done) | (simp only [List.length_append, List.length_map, List.length_nil, List.length_cons, List.nil_append, Nat.zero_add, Nat.add_zero]; omega) | omega) (Nat.le_of_ble_eq_true rfl) (by first | (simp only [List.length_append, List.length_map, List.length_nil, List.length_cons, List.nil_append, Nat.zero_add, Nat.add_zero]; done) | (simp only [List.length_append, List.length_map, List.length_nil, List.length_cons, List.nil_append, Nat.zero_add, Nat.add_zero]; omega) | omega)) ?_
        | refine Need.mk (app_need0 (Nat.le_of_ble_eq_true rfl) (by first | (simp only [List.length_append, List.length_map, List.length_nil, List.length_cons, List.nil_append, Nat.zero_add, Nat.add_zero]; done) | (simp only [List.length_append, List.length_map, List.length_nil, List.length_cons, List.nil_append, Nat.zero_add, Nat.add_zero]; omega) | omega)) ?_
        | refine Need.mk (by first | kernel_rfl | exact ⟨of_decide_eq_true rfl, of_decide_eq_true rfl⟩ | omega) ?_
        | refine Len.mk ⟨_, by simp only [List.length_cons, List.length_nil, Nat.reduceAdd, Int.cast_ofNat_Int]; rfl, ?_⟩
        | refine Wr.lit _ (by simp only [Int.reduceAdd, Int.reduceSub, Int.reduceMul]; rfl) (by decide) ?_
        | refine Wr.fit (by omega) ?_
        | refine Wr.fit (by dsimp only; omega) ?_
        | refine Elem.mk ⟨_, ⟨of_decide_eq_true rfl, rfl⟩, ?_⟩
        | refine Len.map ?_
        | refine Len.dropM ?_
        | refine Elem.dropM ?_
        | refine Len.takeM ?_
        | refine Elem.takeM ?_
        | refine Elem.mapK (by assumption) ?_
        | refine Elem.mapI (by omega) (by assumption) ?_
        | refine Elem.mapN (by omega) (fun x hx => ?_)
        | refine Elem.map (by omega) (by omega) (fun x hx => ?_)
        | refine (h1).use ⟨rfl, ?_⟩
        | refine (h2).use ⟨rfl, ?_⟩
        | refine (h3).use ⟨rfl, ?_⟩
        | refine (h4).use ⟨rfl, ?_⟩
        | refine (h5).use ⟨rfl, ?_⟩
        | refine (r1).use ⟨rfl, ?_⟩
        | refine (r2).use ⟨rfl, ?_⟩
        | refine (r3).use ⟨rfl, ?_⟩
        | refine (q1).use ⟨rfl, ?_⟩
        | refine (q2).use ⟨rfl, ?_⟩
        | refine (q3).use ⟨rfl, ?_⟩
        | refine (alive03_ok).use ⟨rfl, ?_⟩
        | refine CallX.mk ⟨_, _, (h1).x, rfl, ?_⟩
        | refine CallX.mk ⟨_, _, (h2).x, rfl, ?_⟩
        | refine CallX.mk ⟨_, _, (h3).x, rfl, ?_⟩
        | refine CallX.mk ⟨_, _, (h4).x, rfl, ?_⟩
        | refine CallX.mk ⟨_, _, (h5).x, rfl, ?_⟩
        | refine CallX.mk ⟨_, _, (r1).x, rfl, ?_⟩
        | refine CallX.mk ⟨_, _, (r2).x, rfl, ?_⟩
        | refine CallX.mk ⟨_, _, (r3).x, rfl, ?_⟩
        | refine CallX.mk ⟨_, _, (q1).x, rfl, ?_⟩
        | refine CallX.mk ⟨_, _, (q2).x, rfl, ?_⟩
        | refine CallX.mk ⟨_, _, (q3).x, rfl, ?_⟩
        | refine CallX.mk ⟨_, _, (alive03_ok).x, rfl, ?_⟩
        | refine Done.mk ⟨rfl, rfl⟩
        | refine Done.mk ⟨congrArg gb ?_, rfl⟩
        | refine Done.mk ⟨?_, rfl⟩
        | refine Done.mk ⟨?_, ?_⟩)
      all_goals first | omega | simp_all

theorem parts_union (a b : List Span) : mkL (bothL (mkL a) (mkL b) ++ minusL (mkL b) (mkL a)) = mkL a := mkL_of (mkL_rf _) fun m => by
  rw [mkL_has, hasL_app, both_has, minus_has]; cases hasL a m <;> cases hasL b m <;> rfl
theorem parts_none (a : List Span) : minusL (mkL a) (mkL a) = [] := rf_eq _ _ none (minus_rf a a) rfl fun m => by
  rw [minus_has, hasL_nil]; cases hasL a m <;> rfl
theorem parts_self (a : List Span) : bothL (mkL a) (mkL a) = mkL a := mkL_of (both_rf a a) fun m => by
  rw [both_has]; cases hasL a m <;> rfl

set_option maxRecDepth 100000 in
set_option maxHeartbeats 1000000 in
theorem ivalsParts_ok (a b : List Span) : ICalls Try.prog 7 [.list 2 (spans a) none, .list 2 (spans b) none] [] (Done (gb true) []) := by
  by_cases hl : (a.length : Int) ≤ 30 ∧ (b.length : Int) ≤ 30
  case neg =>
    refine ICalls.of_body Try.func7 rfl Try.call7 rfl (Nat.le_of_ble_eq_true rfl) (fun _ => none) rfl ?_
    repeat' ((conv => whnf); first
      | refine Br.yes rfl ?_
      | refine Br.no rfl ?_
      | refine Br.yes (beq_self_eq_true _) ?_
      | refine Br.not ?_
      | refine Br.yes (decide_eq_true (by assumption)) ?_
      | refine Br.no (decide_eq_false (by assumption)) ?_
      | refine Br.yes (beq_iff_eq.2 (by assumption)) ?_
      | refine Br.no (beq_eq_false_iff_ne.2 (by assumption)) ?_
      | refine Br.yes (bne_iff_ne.2 (by assumption)) ?_
      | (refine Br.dec (fun h => ?_) (fun h => ?_) <;> try dsimp only at h)
      | (refine Br.beqI (fun h => ?_) (fun h => ?_) <;> try dsimp only at h)
      | (refine Br.bneI (fun h => ?_) (fun h => ?_) <;> try dsimp only at h)
      | refine Br.mk (fun h => ?_) (fun h => ?_)
      | refine Need.mk (app_need (by first | (simp only [List.length_append, List.length_map, List.length_nil, List.length_cons, List.nil_append, Nat.zero_add, Nat.add_zero]; done) | (simp only [List.length_append, List.length_map, List.length_nil, List.length_cons, List.nil_append, Nat.zero_add, Nat.add_zero]; omega) | omega) (Nat.le_of_ble_eq_true rfl) (by first | (simp only [List.length_append, List.length_map, List.length_nil, List.length_cons, List.nil_append, Nat.zero_add, Nat.add_zero]; done) | (simp only [List.length_append, List.length_map, List.length_nil, List.length_cons, List.nil_append, Nat.zero_add, Nat.add_zero]; omega) | omega)) ?_
      | refine Need.mk (app_need0 (Nat.le_of_ble_eq_true rfl) (by first | (simp only [List.length_append, List.length_map, List.length_nil, List.length_cons, List.nil_append, Nat.zero_add, Nat.add_zero]; done) | (simp only [List.length_append, List.length_map, List.length_nil, List.length_cons, List.nil_append, Nat.zero_add, Nat.add_zero]; omega) | omega)) ?_
      | refine Need.mk (by first | kernel_rfl | exact ⟨of_decide_eq_true rfl, of_decide_eq_true rfl⟩ | omega) ?_
      | refine Len.mk ⟨_, by simp only [List.length_cons, List.length_nil, Nat.reduceAdd, Int.cast_ofNat_Int]; rfl, ?_⟩
      | refine Wr.lit _ (by simp only [Int.reduceAdd, Int.reduceSub, Int.reduceMul]; rfl) (by decide) ?_
      | refine Wr.fit (by omega) ?_
      | refine Wr.fit (by dsimp only; omega) ?_
      | refine Elem.mk ⟨_, ⟨of_decide_eq_true rfl, rfl⟩, ?_⟩
      | refine Len.map ?_
      | refine Len.dropM ?_
      | refine Elem.dropM ?_
      | refine Len.takeM ?_
      | refine Elem.takeM ?_
      | refine Elem.mapK (by assumption) ?_
      | refine Elem.mapI (by omega) (by assumption) ?_
      | refine Elem.mapN (by omega) (fun x hx => ?_)
      | refine Elem.map (by omega) (by omega) (fun x hx => ?_)
      | refine (alive03_ok).use ⟨rfl, ?_⟩
      | refine CallX.mk ⟨_, _, (alive03_ok).x, rfl, ?_⟩
      | refine Done.mk ⟨rfl, rfl⟩
      | refine Done.mk ⟨congrArg gb ?_, rfl⟩
      | refine Done.mk ⟨?_, rfl⟩
      | refine Done.mk ⟨?_, ?_⟩)
    all_goals omega
  case pos =>
    obtain ⟨hla, hlb⟩ := hl
    have h2 := both_ok a b (by omega) (by omega)
    have h3 := minus_ok a b (by omega) (by omega)
    have l2 := both_le a b
    have l3 := minus_le a b (by omega) (by omega)
    have h4 := union_ok (bothL (mkL a) (mkL b)) (minusL (mkL b) (mkL a)) (by omega) (by omega)
    rw [parts_union] at h4
    have h5 := make_ok a (by omega)
    have h6 := minus_ok a a (by omega) (by omega)
    rw [parts_none] at h6
    have h7 := both_ok a a (by omega) (by omega)
    rw [parts_self] at h7
    have hle := mkL_le a
    have h8 := refSameS_ok (mkL a) (mkL a) (by omega)
    rw [decide_eq_true rfl] at h8
    clear l2 l3
    generalize bothL (mkL a) (mkL b) = V at *
    generalize minusL (mkL b) (mkL a) = W at *
    generalize mkL a = A at *
    refine ICalls.of_body Try.func7 rfl Try.call7 rfl (Nat.le_of_ble_eq_true rfl) (fun _ => none) rfl ?_
    repeat' ((conv => whnf); first
      | refine Br.yes rfl ?_
      | refine Br.no rfl ?_
      | refine Br.yes (beq_self_eq_true _) ?_
      | refine Br.not ?_
      | refine Br.yes (decide_eq_true (by assumption)) ?_
      | refine Br.no (decide_eq_false (by assumption)) ?_
      | refine Br.yes (beq_iff_eq.2 (by assumption)) ?_
      | refine Br.no (beq_eq_false_iff_ne.2 (by assumption)) ?_
      | refine Br.yes (bne_iff_ne.2 (by assumption)) ?_
      | (refine Br.dec (fun h => ?_) (fun h => ?_) <;> try dsimp only at h)
      | (refine Br.beqI (fun h => ?_) (fun h => ?_) <;> try dsimp only at h)
      | (refine Br.bneI (fun h => ?_) (fun h => ?_) <;> try dsimp only at h)
      | refine Br.mk (fun h => ?_) (fun h => ?_)
      | refine Need.mk (app_need (by first | (simp only [List.length_append, List.length_map, List.length_nil, List.length_cons, List.nil_append, Nat.zero_add, Nat.add_zero]; done) | (simp only [List.length_append, List.length_map, List.length_nil, List.length_cons, List.nil_append, Nat.zero_add, Nat.add_zero]; omega) | omega) (Nat.le_of_ble_eq_true rfl) (by first | (simp only [List.length_append, List.length_map, List.length_nil, List.length_cons, List.nil_append, Nat.zero_add, Nat.add_zero]; done) | (simp only [List.length_append, List.length_map, List.length_nil, List.length_cons, List.nil_append, Nat.zero_add, Nat.add_zero]; omega) | omega)) ?_
      | refine Need.mk (app_need0 (Nat.le_of_ble_eq_true rfl) (by first | (simp only [List.length_append, List.length_map, List.length_nil, List.length_cons, List.nil_append, Nat.zero_add, Nat.add_zero]; done) | (simp only [List.length_append, List.length_map, List.length_nil, List.length_cons, List.nil_append, Nat.zero_add, Nat.add_zero]; omega) | omega)) ?_
      | refine Need.mk (by first | kernel_rfl | exact ⟨of_decide_eq_true rfl, of_decide_eq_true rfl⟩ | omega) ?_
      | refine Len.mk ⟨_, by simp only [List.length_cons, List.length_nil, Nat.reduceAdd, Int.cast_ofNat_Int]; rfl, ?_⟩
      | refine Wr.lit _ (by simp only [Int.reduceAdd, Int.reduceSub, Int.reduceMul]; rfl) (by decide) ?_
      | refine Wr.fit (by omega) ?_
      | refine Wr.fit (by dsimp only; omega) ?_
      | refine Elem.mk ⟨_, ⟨of_decide_eq_true rfl, rfl⟩, ?_⟩
      | refine Len.map ?_
      | refine Len.dropM ?_
      | refine Elem.dropM ?_
      | refine Len.takeM ?_
      | refine Elem.takeM ?_
      | refine Elem.mapK (by assumption) ?_
      | refine Elem.mapI (by omega) (by assumption) ?_
      | refine Elem.mapN (by omega) (fun x hx => ?_)
      | refine Elem.map (by omega) (by omega) (fun x hx => ?_)
      | refine (h2).use ⟨rfl, ?_⟩
      | refine (h3).use ⟨rfl, ?_⟩
      | refine (h4).use ⟨rfl, ?_⟩
      | refine (h5).use ⟨rfl, ?_⟩
      | refine (h6).use ⟨rfl, ?_⟩
      | refine (h7).use ⟨rfl, ?_⟩
      | refine (h8).use ⟨rfl, ?_⟩
      | refine (alive03_ok).use ⟨rfl, ?_⟩
      | refine CallX.mk ⟨_, _, (h2).x, rfl, ?_⟩
      | refine CallX.mk ⟨_, _, (h3).x, rfl, ?_⟩
      | refine CallX.mk ⟨_, _, (h4).x, rfl, ?_⟩
      | refine CallX.mk ⟨_, _, (h5).x, rfl, ?_⟩
      | refine CallX.mk ⟨_, _, (h6).x, rfl, ?_⟩
      | refine CallX.mk ⟨_, _, (h7).x, rfl, ?_⟩
      | refine CallX.mk ⟨_, _, (h8).x, rfl, ?_⟩
      | refine CallX.mk ⟨_, _, (alive03_ok).x, rfl, ?_⟩
      | refine Done.mk ⟨rfl, rfl⟩
      | refine Done.mk ⟨congrArg gb ?_, rfl⟩
      | refine Done.mk ⟨?_, rfl⟩
      | refine Done.mk ⟨?_, ?_⟩)
    all_goals first | omega | simp_all

theorem ivalsMinutes_law (g0 : GV) (h0 : ArgOk (.list spanTy) g0) (g1 : GV) (h1 : ArgOk (.list spanTy) g1) (g2 : GV) (h2 : ArgOk .int g2) :
    ICalls Try.prog 6 [g0, g1, g2] [] (Done (gb true) []) := by
  obtain ⟨a, rfl, _⟩ := list_of el_span h0
  obtain ⟨b, rfl, _⟩ := list_of el_span h1
  obtain ⟨m, rfl, _⟩ := int_of h2
  exact ivalsMinutes_ok a b m

theorem ivalsParts_law (g0 : GV) (h0 : ArgOk (.list spanTy) g0) (g1 : GV) (h1 : ArgOk (.list spanTy) g1) :
    ICalls Try.prog 7 [g0, g1] [] (Done (gb true) []) := by
  obtain ⟨a, rfl, _⟩ := list_of el_span h0
  obtain ⟨b, rfl, _⟩ := list_of el_span h1
  exact ivalsParts_ok a b

end Go.Hl
