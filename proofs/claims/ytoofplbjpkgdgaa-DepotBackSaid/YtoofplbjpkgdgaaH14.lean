/- Contracts of functions, bundle H14; proved for whatever the arguments' types allow, as each theorem says. -/
import Derived.Test.YtoofplbjpkgdgaaH9
import Derived.Test.YtoofplbjpkgdgaaF0
import Derived.Test.YtoofplbjpkgdgaaGh18

/- Contracts: slices.Grow, slices.Concat over records; neighbours of one kind merged.  -/
set_option linter.unusedVariables false
set_option linter.unusedSimpArgs false
namespace Go.Hl
open Go.Gh Go.Proofs

def pl_F1_1 : Nat → Option (List Nat × List Nat) := (fun k => bif Nat.beq k 5000022 then some ([], []) else bif Nat.beq k 4000000 then some ([122], []) else none)
def pl_F1_2 : Nat → Option (List Nat × List Nat) := (fun k => bif Nat.beq k 5000004 then some ([], []) else bif Nat.beq k 4000000 then some ([104], []) else none)
set_option maxRecDepth 100000 in
theorem growRec_ok (n : Int) (h0 : 0 ≤ n) (h1 : n ≤ 1000000000) : ICalls Try.prog 121 [.v (.slice none 0 0), gi n] [] (Done (.ms 3 0 1 0) [.mvec 142 3 [] 1]) := by
  rcases Int.lt_or_eq_of_le h0 with hn | hn
  {
  refine ICalls.of_body Try.func121 rfl Try.call121 rfl (Nat.le_of_ble_eq_true rfl) pl_F1_1 rfl ?_
  repeat' ((conv => whnf); first
    | refine Br.yes rfl ?_
    | refine Br.no rfl ?_
    | refine Br.yes (beq_self_eq_true _) ?_
    | refine Br.not ?_
    | refine Br.yes (decide_eq_true (by assumption)) ?_
    | refine Br.no (decide_eq_false (by assumption)) ?_
    | refine Br.yes (beq_iff_eq.2 (by assumption)) ?_
    | refine Br.no (beq_eq_false_iff_ne.2 (by assumption)) ?_
    | refine Br.yes (bne_iff_ne.2 (by assumption)) ?_
    | (refine Br.dec (fun h => ?_) (fun h => ?_) <;> try dsimp only at h)
    | (refine Br.beqI (fun h => ?_) (fun h => ?_) <;> try dsimp only at h)
    | (refine Br.bneI (fun h => ?_) (fun h => ?_) <;> try dsimp only at h)
    | refine Br.mk (fun h => ?_) (fun h => ?_)
    | refine Need.mk (app_need (by first | (simp only [List.length_append, List.length_map, List.length_nil, List.length_cons, List.nil_append, Nat.zero_add, Nat.add_zero]; done) | (simp only [List.length_append, List.length_map, List.length_nil, List.length_cons, List.nil_append, Nat.zero_add, Nat.add_zero]; omega) | omega) (Nat.le_of_ble_eq_true rfl) (by first | (simp only [List.length_append, List.length_map, List.length_nil, List.length_cons, List.nil_append, Nat.zero_add, Nat.add_zero]; done) | (simp only [List.length_append, List.length_map, List.length_nil, List.length_cons, List.nil_append, Nat.zero_add, Nat.add_zero]; omega) | omega)) ?_
    | refine Need.mk (app_need0 (Nat.le_of_ble_eq_true rfl) (by first | (simp only [List.length_append, List.length_map, List.length_nil, List.length_cons, List.nil_append, Nat.zero_add, Nat.add_zero]; done) | (simp only [List.length_append, List.length_map, List.length_nil, List.length_cons, List.nil_append, Nat.zero_add, Nat.add_zero]; omega) | omega)) ?_
    | refine Need.mk (app_needM rfl (Nat.le_of_ble_eq_true rfl) (by first | (simp only [List.length_append, List.length_map, List.length_nil, List.length_cons, List.nil_append, Nat.zero_add, Nat.add_zero]; done) | (simp only [List.length_append, List.length_map, List.length_nil, List.length_cons, List.nil_append, Nat.zero_add, Nat.add_zero]; omega) | omega)) ?_
    | refine Need.mk (zeros_need (by omega) (Nat.le_of_ble_eq_true rfl) (by omega)) ?_
    | refine Need.mk (by first | kernel_rfl | exact ⟨of_decide_eq_true rfl, of_decide_eq_true rfl⟩ | omega) ?_
    | refine Len.mk ⟨_, by simp only [List.length_cons, List.length_nil, Nat.reduceAdd, Int.cast_ofNat_Int]; rfl, ?_⟩
    | refine Wr.lit _ (by simp only [Int.reduceAdd, Int.reduceSub, Int.reduceMul]; rfl) (by decide) ?_
    | refine Wr.fit (by omega) ?_
    | refine Wr.fit (by dsimp only; omega) ?_
    | refine Elem.mk ⟨_, ⟨of_decide_eq_true rfl, rfl⟩, ?_⟩
    | refine Len.map ?_
    | refine Len.dropM ?_
    | refine Elem.dropM ?_
    | refine Len.takeM ?_
    | refine Elem.takeM ?_
    | refine Elem.mapK (by assumption) ?_
    | refine Elem.mapI (by omega) (by assumption) ?_
    | refine Elem.mapN (by omega) (fun x hx => ?_)
    | refine Elem.map (by omega) (by omega) (fun x hx => ?_)
    | refine Done.mk ⟨rfl, rfl⟩
    | refine Done.mk ⟨congrArg gb ?_, rfl⟩
    | refine Done.mk ⟨?_, rfl⟩
    | refine Done.mk ⟨?_, ?_⟩)
  all_goals omega
  }
  {
  refine ICalls.of_body Try.func121 rfl Try.call121 rfl (Nat.le_of_ble_eq_true rfl) pl_F1_2 rfl ?_
  repeat' ((conv => whnf); first
    | refine Br.yes rfl ?_
    | refine Br.no rfl ?_
    | refine Br.yes (beq_self_eq_true _) ?_
    | refine Br.not ?_
    | refine Br.yes (decide_eq_true (by assumption)) ?_
    | refine Br.no (decide_eq_false (by assumption)) ?_
    | refine Br.yes (beq_iff_eq.2 (by assumption)) ?_
    | refine Br.no (beq_eq_false_iff_ne.2 (by assumption)) ?_
    | refine Br.yes (bne_iff_ne.2 (by assumption)) ?_
    | (refine Br.dec (fun h => ?_) (fun h => ?_) <;> try dsimp only at h)
    | (refine Br.beqI (fun h => ?_) (fun h => ?_) <;> try dsimp only at h)
    | (refine Br.bneI (fun h => ?_) (fun h => ?_) <;> try dsimp only at h)
    | refine Br.mk (fun h => ?_) (fun h => ?_)
    | refine Need.mk (app_need (by first | (simp only [List.length_append, List.length_map, List.length_nil, List.length_cons, List.nil_append, Nat.zero_add, Nat.add_zero]; done) | (simp only [List.length_append, List.length_map, List.length_nil, List.length_cons, List.nil_append, Nat.zero_add, Nat.add_zero]; omega) | omega) (Nat.le_of_ble_eq_true rfl) (by first | (simp only [List.length_append, List.length_map, List.length_nil, List.length_cons, List.nil_append, Nat.zero_add, Nat.add_zero]; done) | (simp only [List.length_append, List.length_map, List.length_nil, List.length_cons, List.nil_append, Nat.zero_add, Nat.add_zero]; omega) | omega)) ?_
    | refine Need.mk (app_need0 (Nat.le_of_ble_eq_true rfl) (by first | (simp only [List.length_append, List.length_map, List.length_nil, List.length_cons, List.nil_append, Nat.zero_add, Nat.add_zero]; done) | (simp only [List.length_append, List.length_map, List.length_nil, List.length_cons, List.nil_append, Nat.zero_add, Nat.add_zero]; omega) | omega)) ?_
    | refine Need.mk (app_needM rfl (Nat.le_of_ble_eq_true rfl) (by first | (simp only [List.length_append, List.length_map, List.length_nil, List.length_cons, List.nil_append, Nat.zero_add, Nat.add_zero]; done) | (simp only [List.length_append, List.length_map, List.length_nil, List.length_cons, List.nil_append, Nat.zero_add, Nat.add_zero]; omega) | omega)) ?_
    | refine Need.mk (zeros_need (by omega) (Nat.le_of_ble_eq_true rfl) (by omega)) ?_
    | refine Need.mk (by first | kernel_rfl | exact ⟨of_decide_eq_true rfl, of_decide_eq_true rfl⟩ | omega) ?_
    | refine Len.mk ⟨_, by simp only [List.length_cons, List.length_nil, Nat.reduceAdd, Int.cast_ofNat_Int]; rfl, ?_⟩
    | refine Wr.lit _ (by simp only [Int.reduceAdd, Int.reduceSub, Int.reduceMul]; rfl) (by decide) ?_
    | refine Wr.fit (by omega) ?_
    | refine Wr.fit (by dsimp only; omega) ?_
    | refine Elem.mk ⟨_, ⟨of_decide_eq_true rfl, rfl⟩, ?_⟩
    | refine Len.map ?_
    | refine Len.dropM ?_
    | refine Elem.dropM ?_
    | refine Len.takeM ?_
    | refine Elem.takeM ?_
    | refine Elem.mapK (by assumption) ?_
    | refine Elem.mapI (by omega) (by assumption) ?_
    | refine Elem.mapN (by omega) (fun x hx => ?_)
    | refine Elem.map (by omega) (by omega) (fun x hx => ?_)
    | refine Done.mk ⟨rfl, rfl⟩
    | refine Done.mk ⟨congrArg gb ?_, rfl⟩
    | refine Done.mk ⟨?_, rfl⟩
    | refine Done.mk ⟨?_, ?_⟩)
  all_goals omega
  }

abbrev recss (ls : List (List Rec)) : List GV := ls.map fun l => .list 3 (recs l) none
theorem take_flat {ls : List (List Rec)} {i : Nat} {x : List Rec} (h : ls[i]? = some x) : (ls.take (i + 1)).flatten = (ls.take i).flatten ++ x := by
  obtain ⟨h1, h2⟩ := List.getElem?_eq_some_iff.1 h
  rw [List.take_succ_eq_append_getElem h1, h2]; simp
theorem take_flat_le {ls : List (List Rec)} {i : Nat} : (ls.take i).flatten.length ≤ ls.flatten.length := by
  have := congrArg (fun l => l.flatten.length) (List.take_append_drop i ls)
  simp only [List.flatten_append, List.length_append] at this
  omega
theorem sum_next {ls : List (List Rec)} {i : Nat} {x : List Rec} {n : Int} (h : ls[i]? = some x) (hn : n = ((ls.take i).flatten.length : Nat)) : n + (x.length : Int) = ((ls.take (i + 1)).flatten.length : Nat) := by
  rw [take_flat h, hn]; simp
theorem flat_end {α : Type} {ls : List α} {i : Nat} (h : ¬ (i : Int) < ls.length) : ls.take i = ls := List.take_of_length_le (by omega)
theorem recs_app (a b : List Rec) : recs (a ++ b) = recs a ++ recs b := by simp [recs]
theorem recs_len (a : List Rec) : (recs a).length = a.length := by simp [recs]
theorem flat_room {ls : List (List Rec)} {i : Nat} {x : List Rec} (h : ls[i]? = some x) (ht : (ls.flatten.length : Int) ≤ 1000000000) {g : List GV} (hg : g = recs (ls.take i).flatten) : g.length + (recs x).length ≤ 10000000000 := by
  have := @take_flat_le ls (i + 1)
  rw [take_flat h, List.length_append] at this
  rw [hg, recs_len, recs_len]; omega

def pl_F1_3 : Nat → Option (List Nat × List Nat) := (fun k => bif Nat.beq k 3 then some ([1000003, 0, 3, 9, 10, 11, 6000002], []) else bif Nat.beq k 11 then some ([1000011, 6, 25, 26, 27, 6000002], [124, 133]) else bif Nat.beq k 6000002 then some ([], []) else none)
set_option maxRecDepth 100000 in
set_option maxHeartbeats 1000000 in
theorem concatRec_ok (ls : List (List Rec)) (hl : (ls.length : Int) ≤ 1000000000) (ht : (ls.flatten.length : Int) ≤ 1000000000) :
    ICalls Try.prog 95 [.list 1 (recss ls) none] [] (Done (.list 3 (recs ls.flatten) none) []) := by
  refine ICalls.of_body Try.func95 rfl Try.call95 rfl (Nat.le_of_ble_eq_true rfl) pl_F1_3 rfl ?_
  repeat' ((conv => whnf); first
    | refine Br.yes rfl ?_
    | refine Br.no rfl ?_
    | (refine Wr.fit (by have e := sum_next hx hn; have := @take_flat_le ls (i + 1); omega) ?_)
    | (refine Need.mk (app_needM rfl (Nat.le_of_ble_eq_true rfl) (flat_room hx ht hg)) ?_)
    | (refine ILoop.ov 1000003 (fun ((i, n) : Nat × Int) => [(11, gi i), (3, gi n)]) (fun ((i, n) : Nat × Int) => []) (fun ((i, n) : Nat × Int) => i ≤ ls.length ∧ n = ((ls.take i).flatten.length : Nat)) (fun ((i, n) : Nat × Int) => ls.length - i) ((0, 0)) (by exact rfl) ?_; (conv => whnf); refine Start.mk rfl ?_ ?_; (try dsimp only); rotate_left; rintro ⟨i, n⟩ ⟨hi, hn⟩)
    | (refine Again.mk ⟨((i + 1, n + (x.length : Int))), rfl, ?_, ?_⟩ <;> try dsimp only)
    | (refine ILoop.ov 1000011 (fun ((i', g, k, v) : Nat × List GV × Nat × Nat) => [(27, gi i'), (6, .ms 3 124 v k)]) (fun ((i', g, k, v) : Nat × List GV × Nat × Nat) => [(124, .mvec 142 3 g v)]) (fun ((i', g, k, v) : Nat × List GV × Nat × Nat) => i' ≤ ls.length ∧ g = recs (ls.take i').flatten ∧ k = g.length) (fun ((i', g, k, v) : Nat × List GV × Nat × Nat) => ls.length - i') ((0, [], 0, 1)) (by exact rfl) ?_; (conv => whnf); refine Start.mk rfl ?_ ?_; (try dsimp only); rotate_left; rintro ⟨i', g, k, v⟩ ⟨hi', hg, hk⟩)
    | (refine Again.mk ⟨((i' + 1, _, _, _)), rfl, ?_, ?_⟩ <;> try dsimp only)
    | refine Br.yes (beq_self_eq_true _) ?_
    | refine Br.not ?_
    | refine Br.yes (decide_eq_true (by assumption)) ?_
    | refine Br.no (decide_eq_false (by assumption)) ?_
    | refine Br.yes (beq_iff_eq.2 (by assumption)) ?_
    | refine Br.no (beq_eq_false_iff_ne.2 (by assumption)) ?_
    | refine Br.yes (bne_iff_ne.2 (by assumption)) ?_
    | (refine Br.dec (fun h => ?_) (fun h => ?_) <;> try dsimp only at h)
    | (refine Br.beqI (fun h => ?_) (fun h => ?_) <;> try dsimp only at h)
    | (refine Br.bneI (fun h => ?_) (fun h => ?_) <;> try dsimp only at h)
    | refine Br.mk (fun h => ?_) (fun h => ?_)
    | refine Need.mk (app_need (by first | (simp only [List.length_append, List.length_map, List.length_nil, List.length_cons, List.nil_append, Nat.zero_add, Nat.add_zero]; done) | (simp only [List.length_append, List.length_map, List.length_nil, List.length_cons, List.nil_append, Nat.zero_add, Nat.add_zero]; omega) | omega) (Nat.le_of_ble_eq_true rfl) (by first | (simp only [List.length_append, List.length_map, List.length_nil, List.length_cons, List.nil_append, Nat.zero_add, Nat.add_zero]; done) | (simp only [List.length_append, List.length_map, List.length_nil, List.length_cons, List.nil_append, Nat.zero_add, Nat.add_zero]; omega) | omega)) ?_
    | refine Need.mk (app_need0 (Nat.le_of_ble_eq_true rfl) (by first | (simp only [List.length_append, List.length_map, List.length_nil, List.length_cons, List.nil_append, Nat.zero_add, Nat.add_zero]; done) | (simp only [List.length_append, List.length_map, List.length_nil, List.length_cons, List.nil_append, Nat.zero_add, Nat.add_zero]; omega) | omega)) ?_
    | refine Need.mk (app_needM rfl (Nat.le_of_ble_eq_true rfl) (by first | (simp only [List.length_append, List.length_map, List.length_nil, List.length_cons, List.nil_append, Nat.zero_add, Nat.add_zero]; done) | (simp only [List.length_append, List.length_map, List.length_nil, List.length_cons, List.nil_append, Nat.zero_add, Nat.add_zero]; omega) | omega)) ?_
    | refine Need.mk (zeros_need (by omega) (Nat.le_of_ble_eq_true rfl) (by omega)) ?_
    | refine Need.mk (by first | kernel_rfl | exact ⟨of_decide_eq_true rfl, of_decide_eq_true rfl⟩ | omega) ?_
    | refine Len.mk ⟨_, by simp only [List.length_cons, List.length_nil, Nat.reduceAdd, Int.cast_ofNat_Int]; rfl, ?_⟩
    | refine Wr.lit _ (by simp only [Int.reduceAdd, Int.reduceSub, Int.reduceMul]; rfl) (by decide) ?_
    | refine Wr.fit (by omega) ?_
    | refine Wr.fit (by dsimp only; omega) ?_
    | refine Elem.mk ⟨_, ⟨of_decide_eq_true rfl, rfl⟩, ?_⟩
    | refine Len.map ?_
    | refine Len.dropM ?_
    | refine Elem.dropM ?_
    | refine Len.takeM ?_
    | refine Elem.takeM ?_
    | refine Elem.mapK (by assumption) ?_
    | refine Elem.mapI (by omega) (by assumption) ?_
    | refine Elem.mapN (by omega) (fun x hx => ?_)
    | refine Elem.map (by omega) (by omega) (fun x hx => ?_)
    | refine (growRec_ok n (by omega) (by have := @take_flat_le ls i; omega)).use ⟨rfl, ?_⟩
    | refine CallX.mk ⟨_, _, (growRec_ok n (by omega) (by have := @take_flat_le ls i; omega)).x, rfl, ?_⟩
    | refine Done.mk ⟨rfl, rfl⟩
    | refine Done.mk ⟨congrArg gb ?_, rfl⟩
    | refine Done.mk ⟨?_, rfl⟩
    | refine Done.mk ⟨?_, ?_⟩)
  all_goals first
    | omega
    | exact ⟨by omega, sum_next hx hn⟩
    | (have e := sum_next hx hn; omega)
    | exact ⟨by omega, by rw [take_flat hx, recs_app, hg], by rw [List.length_append]⟩
    | (rw [flat_end h] at hg; rw [hg]; rfl)
    | exact ⟨by omega, rfl⟩
    | exact ⟨by omega, rfl, rfl⟩

/-! ### Neighbours of one kind, merged -/
def mrgStep (acc : List Rec) (r : Rec) : List Rec := match acc[acc.length - 1]? with
  | some q => if q.Kind = r.Kind then acc.set (acc.length - 1) ⟨q.Kind, q.From, r.To⟩ else acc ++ [r]
  | none => acc ++ [r]
def mrgL (acc l : List Rec) : List Rec := l.foldl mrgStep acc
theorem mrgL_next {acc l R : List Rec} {i : Nat} {x : Rec} (h : l[i]? = some x) (hR : mrgL acc (l.drop i) = R) : mrgL (mrgStep acc x) (l.drop (i + 1)) = R := by
  rw [drop_of_get h] at hR; exact hR
theorem mrg_same {acc : List Rec} {q r : Rec} {i : Nat} (hi : i = acc.length - 1) (h : acc[i]? = some q) (he : q.Kind = r.Kind) : mrgStep acc r = acc.set i ⟨q.Kind, q.From, r.To⟩ := by
  subst hi; unfold mrgStep; rw [h]; simp [he]
theorem mrg_other {acc : List Rec} {q r : Rec} {i : Nat} (hi : i = acc.length - 1) (h : acc[i]? = some q) (he : q.Kind ≠ r.Kind) : mrgStep acc r = acc ++ [r] := by
  subst hi; unfold mrgStep; rw [h]; simp [he]
theorem mrg_none {acc : List Rec} {r : Rec} (h : acc.length = 0) : mrgStep acc r = acc ++ [r] := by
  have : acc = [] := List.eq_nil_of_length_eq_zero h
  subst this; rfl

theorem mrg_len {acc : List Rec} {r : Rec} {i : Nat} (h : acc.length ≤ i) : (mrgStep acc r).length ≤ i + 1 := by
  unfold mrgStep
  split
  · split
    · simp; omega
    · simp; omega
  · simp; omega
theorem recs_set (acc : List Rec) (i : Nat) (r : Rec) : (recs acc).set i r.g = recs (acc.set i r) := by simp [recs, List.map_set]
theorem mrg_stepA {acc : List Rec} {q r : Rec} {i : Int} (h0 : 0 ≤ i) (hi : i = (acc.length : Int) - 1) (h : acc[i.toNat]? = some q) (he : q.Kind = r.Kind) :
    (recs acc).set i.toNat (.agg [gi q.Kind, gi q.From, gi r.To]) = recs (mrgStep acc r) ∧ acc.length = (mrgStep acc r).length := by
  rw [mrg_same (by omega) h he]
  exact ⟨recs_set acc i.toNat ⟨q.Kind, q.From, r.To⟩, by simp⟩
theorem mrg_stepB {acc : List Rec} {q r : Rec} {i : Int} (h0 : 0 ≤ i) (hi : i = (acc.length : Int) - 1) (h : acc[i.toNat]? = some q) (he : ¬ q.Kind = r.Kind) :
    recs acc ++ [.agg [gi r.Kind, gi r.From, gi r.To]] = recs (mrgStep acc r) ∧ (recs acc).length + 1 = (mrgStep acc r).length := by
  rw [mrg_other (by omega) h he]
  exact ⟨by rw [recs_app]; rfl, by simp [recs]⟩
theorem mrg_stepC {acc : List Rec} {r : Rec} (h : ¬ 0 ≤ (acc.length : Int) - 1) :
    recs acc ++ [.agg [gi r.Kind, gi r.From, gi r.To]] = recs (mrgStep acc r) ∧ (recs acc).length + 1 = (mrgStep acc r).length := by
  rw [mrg_none (by omega)]
  exact ⟨by rw [recs_app]; rfl, by simp [recs]⟩

def pl_F1_4 : Nat → Option (List Nat × List Nat) := (fun k => bif Nat.beq k 3 then some ([1000003, 3, 7, 8, 9, 5000003, 6000002], [103, 137]) else bif Nat.beq k 5000003 then some ([], []) else bif Nat.beq k 6000002 then some ([], []) else none)
set_option maxRecDepth 100000 in
set_option maxHeartbeats 1000000 in
theorem merged_ok (l : List Rec) (hl : (l.length : Int) ≤ 1000000000) : ICalls Try.prog 135 [.list 3 (recs l) none] [] (Done (.list 3 (recs (mrgL [] l)) none) []) := by
  generalize hR : mrgL [] l = R
  refine ICalls.of_body Try.func135 rfl Try.call135 rfl (Nat.le_of_ble_eq_true rfl) pl_F1_4 rfl ?_
  repeat' ((conv => whnf); first
    | refine Br.yes rfl ?_
    | refine Br.no rfl ?_
    | (refine Elem.mapN (by omega) (fun r hrx => ?_))
    | (refine ILoop.ov 1000003 (fun ((i, acc, g, k, v) : Nat × List Rec × List GV × Nat × Nat) => [(9, gi i), (3, .ms 3 103 v k)]) (fun ((i, acc, g, k, v) : Nat × List Rec × List GV × Nat × Nat) => [(103, .mvec 142 3 g v)]) (fun ((i, acc, g, k, v) : Nat × List Rec × List GV × Nat × Nat) => (i ≤ l.length ∧ acc.length ≤ i) ∧ (g = recs acc ∧ k = acc.length) ∧ mrgL acc (l.drop i) = R) (fun ((i, acc, g, k, v) : Nat × List Rec × List GV × Nat × Nat) => l.length - i) ((0, [], [], 0, 0)) (by exact rfl) ?_; (conv => whnf); refine Start.mk rfl ?_ ?_; (try dsimp only); rotate_left; rintro ⟨i, acc, g, k, v⟩ ⟨⟨hi, ha⟩, ⟨rfl, rfl⟩, hr⟩)
    | (refine Again.mk ⟨((i + 1, mrgStep acc r, _, _, _)), rfl, ?_, ?_⟩ <;> try dsimp only)
    | refine Br.yes (beq_self_eq_true _) ?_
    | refine Br.not ?_
    | refine Br.yes (decide_eq_true (by assumption)) ?_
    | refine Br.no (decide_eq_false (by assumption)) ?_
    | refine Br.yes (beq_iff_eq.2 (by assumption)) ?_
    | refine Br.no (beq_eq_false_iff_ne.2 (by assumption)) ?_
    | refine Br.yes (bne_iff_ne.2 (by assumption)) ?_
    | (refine Br.dec (fun h => ?_) (fun h => ?_) <;> try dsimp only at h)
    | (refine Br.beqI (fun h => ?_) (fun h => ?_) <;> try dsimp only at h)
    | (refine Br.bneI (fun h => ?_) (fun h => ?_) <;> try dsimp only at h)
    | refine Br.mk (fun h => ?_) (fun h => ?_)
    | refine Need.mk (app_need (by first | (simp only [List.length_append, List.length_map, List.length_nil, List.length_cons, List.nil_append, Nat.zero_add, Nat.add_zero]; done) | (simp only [List.length_append, List.length_map, List.length_nil, List.length_cons, List.nil_append, Nat.zero_add, Nat.add_zero]; omega) | omega) (Nat.le_of_ble_eq_true rfl) (by first | (simp only [List.length_append, List.length_map, List.length_nil, List.length_cons, List.nil_append, Nat.zero_add, Nat.add_zero]; done) | (simp only [List.length_append, List.length_map, List.length_nil, List.length_cons, List.nil_append, Nat.zero_add, Nat.add_zero]; omega) | omega)) ?_
    | refine Need.mk (app_need0 (Nat.le_of_ble_eq_true rfl) (by first | (simp only [List.length_append, List.length_map, List.length_nil, List.length_cons, List.nil_append, Nat.zero_add, Nat.add_zero]; done) | (simp only [List.length_append, List.length_map, List.length_nil, List.length_cons, List.nil_append, Nat.zero_add, Nat.add_zero]; omega) | omega)) ?_
    | refine Need.mk (app_needM rfl (Nat.le_of_ble_eq_true rfl) (by first | (simp only [List.length_append, List.length_map, List.length_nil, List.length_cons, List.nil_append, Nat.zero_add, Nat.add_zero]; done) | (simp only [List.length_append, List.length_map, List.length_nil, List.length_cons, List.nil_append, Nat.zero_add, Nat.add_zero]; omega) | omega)) ?_
    | refine Need.mk (zeros_need (by omega) (Nat.le_of_ble_eq_true rfl) (by omega)) ?_
    | refine Need.mk (by first | kernel_rfl | exact ⟨of_decide_eq_true rfl, of_decide_eq_true rfl⟩ | omega) ?_
    | refine Len.mk ⟨_, by simp only [List.length_cons, List.length_nil, Nat.reduceAdd, Int.cast_ofNat_Int]; rfl, ?_⟩
    | refine Wr.lit _ (by simp only [Int.reduceAdd, Int.reduceSub, Int.reduceMul]; rfl) (by decide) ?_
    | refine Wr.fit (by omega) ?_
    | refine Wr.fit (by dsimp only; omega) ?_
    | refine Elem.mk ⟨_, ⟨of_decide_eq_true rfl, rfl⟩, ?_⟩
    | refine Len.map ?_
    | refine Len.dropM ?_
    | refine Elem.dropM ?_
    | refine Len.takeM ?_
    | refine Elem.takeM ?_
    | refine Elem.mapK (by assumption) ?_
    | refine Elem.mapI (by omega) (by assumption) ?_
    | refine Elem.mapN (by omega) (fun x hx => ?_)
    | refine Elem.map (by omega) (by omega) (fun x hx => ?_)
    | refine Done.mk ⟨rfl, rfl⟩
    | refine Done.mk ⟨congrArg gb ?_, rfl⟩
    | refine Done.mk ⟨?_, rfl⟩
    | refine Done.mk ⟨?_, ?_⟩)
  all_goals first
    | omega
    | exact ⟨⟨by omega, mrg_len ha⟩, mrg_stepA (by assumption) rfl hx h, mrgL_next hrx hr⟩
    | exact ⟨⟨by omega, mrg_len ha⟩, mrg_stepB (by assumption) rfl hx h, mrgL_next hrx hr⟩
    | exact ⟨⟨by omega, mrg_len ha⟩, mrg_stepC h, mrgL_next hrx hr⟩
    | exact ⟨⟨by omega, by decide⟩, ⟨rfl, rfl⟩, hR⟩
    | (rw [List.drop_eq_nil_of_le (by omega)] at hr; subst hr; rfl)

/-- Minutes' kinds as records of one minute each. -/
def units (a : Int) : List Int → List Rec
  | [] => []
  | k :: t => ⟨k, a, a + 1⟩ :: units (a + 1) t
end Go.Hl

/- Contracts: normal timelines; pasts.  -/
set_option linter.unusedVariables false
set_option linter.unusedSimpArgs false
namespace Go.Hl
open Go.Gh Go.Proofs

def codeR (l : List Rec) : Int := (recsErr 0 none l).2
/-- What a normal timeline is, and why there is none. -/
def normL (l : List Rec) : List Rec := if codeR l = 0 then mrgL [] l else []
def normG (l : List Rec) : GV := .tup [.list 3 (recs (normL l)) none, gi (codeR l)]
def pastErr (l : List Rec) : Int := if codeR l ≠ 0 then codeR l else if beginOf l ≠ 0 then 5 else 0
theorem codeR_pair (l : List Rec) : recsErr 0 none l = ((recsErr 0 none l).1, codeR l) := rfl
set_option maxRecDepth 100000 in
set_option maxHeartbeats 1000000 in
theorem recNormal_ok (l : List Rec) (hl : (l.length : Int) ≤ 1000000000) : ICalls Try.prog 122 [.list 3 (recs l) none] [] (Done (normG l) []) := by
  have hc := (recCheck_ok l hl).to (congrArg pairG (codeR_pair l))
  have hm := merged_ok l hl
  by_cases h0 : codeR l = 0
  {
  rw [show normG l = .tup [.list 3 (recs (mrgL [] l)) none, gi 0] by unfold normG normL; rw [if_pos h0, h0]]
  rw [h0] at hc
  generalize mrgL [] l = R at *
  generalize (recsErr 0 none l).1 = j at *
  refine ICalls.of_body Try.func122 rfl Try.call122 rfl (Nat.le_of_ble_eq_true rfl) (fun _ => none) rfl ?_
  repeat' ((conv => whnf); first
    | refine Br.yes rfl ?_
    | refine Br.no rfl ?_
    | refine Br.yes (beq_self_eq_true _) ?_
    | refine Br.not ?_
    | refine Br.yes (decide_eq_true (by assumption)) ?_
    | refine Br.no (decide_eq_false (by assumption)) ?_
    | refine Br.yes (beq_iff_eq.2 (by assumption)) ?_
    | refine Br.no (beq_eq_false_iff_ne.2 (by assumption)) ?_
    | refine Br.yes (bne_iff_ne.2 (by assumption)) ?_
    | (refine Br.dec (fun h => ?_) (fun h => ?_) <;> try dsimp only at h)
    | (refine Br.beqI (fun h => ?_) (fun h => ?_) <;> try dsimp only at h)
    | (refine Br.bneI (fun h => ?_) (fun h => ?_) <;> try dsimp only at h)
    | refine Br.mk (fun h => ?_) (fun h => ?_)
    | refine Need.mk (by first | kernel_rfl | exact ⟨of_decide_eq_true rfl, of_decide_eq_true rfl⟩ | omega) ?_
    | refine Len.mk ⟨_, by simp only [List.length_cons, List.length_nil, Nat.reduceAdd, Int.cast_ofNat_Int]; rfl, ?_⟩
    | refine Wr.lit _ (by simp only [Int.reduceAdd, Int.reduceSub, Int.reduceMul]; rfl) (by decide) ?_
    | refine Wr.fit (by omega) ?_
    | refine Wr.fit (by dsimp only; omega) ?_
    | refine Elem.mk ⟨_, ⟨of_decide_eq_true rfl, rfl⟩, ?_⟩
    | refine Len.map ?_
    | refine Len.dropM ?_
    | refine Elem.dropM ?_
    | refine Len.takeM ?_
    | refine Elem.takeM ?_
    | refine Elem.mapK (by assumption) ?_
    | refine Elem.mapI (by omega) (by assumption) ?_
    | refine Elem.mapN (by omega) (fun x hx => ?_)
    | refine Elem.map (by omega) (by omega) (fun x hx => ?_)
    | refine (hc).use ⟨rfl, ?_⟩
    | refine (hm).use ⟨rfl, ?_⟩
    | refine CallX.mk ⟨_, _, (hc).x, rfl, ?_⟩
    | refine CallX.mk ⟨_, _, (hm).x, rfl, ?_⟩
    | refine Done.mk ⟨rfl, rfl⟩
    | refine Done.mk ⟨congrArg gb ?_, rfl⟩
    | refine Done.mk ⟨?_, rfl⟩
    | refine Done.mk ⟨?_, ?_⟩)
  }
  {
  rw [show normG l = .tup [.list 3 (recs []) none, gi (codeR l)] by unfold normG normL; rw [if_neg h0]]
  generalize codeR l = e at *
  generalize (recsErr 0 none l).1 = j at *
  refine ICalls.of_body Try.func122 rfl Try.call122 rfl (Nat.le_of_ble_eq_true rfl) (fun _ => none) rfl ?_
  repeat' ((conv => whnf); first
    | refine Br.yes rfl ?_
    | refine Br.no rfl ?_
    | refine Br.yes (beq_self_eq_true _) ?_
    | refine Br.not ?_
    | refine Br.yes (decide_eq_true (by assumption)) ?_
    | refine Br.no (decide_eq_false (by assumption)) ?_
    | refine Br.yes (beq_iff_eq.2 (by assumption)) ?_
    | refine Br.no (beq_eq_false_iff_ne.2 (by assumption)) ?_
    | refine Br.yes (bne_iff_ne.2 (by assumption)) ?_
    | (refine Br.dec (fun h => ?_) (fun h => ?_) <;> try dsimp only at h)
    | (refine Br.beqI (fun h => ?_) (fun h => ?_) <;> try dsimp only at h)
    | (refine Br.bneI (fun h => ?_) (fun h => ?_) <;> try dsimp only at h)
    | refine Br.mk (fun h => ?_) (fun h => ?_)
    | refine Need.mk (by first | kernel_rfl | exact ⟨of_decide_eq_true rfl, of_decide_eq_true rfl⟩ | omega) ?_
    | refine Len.mk ⟨_, by simp only [List.length_cons, List.length_nil, Nat.reduceAdd, Int.cast_ofNat_Int]; rfl, ?_⟩
    | refine Wr.lit _ (by simp only [Int.reduceAdd, Int.reduceSub, Int.reduceMul]; rfl) (by decide) ?_
    | refine Wr.fit (by omega) ?_
    | refine Wr.fit (by dsimp only; omega) ?_
    | refine Elem.mk ⟨_, ⟨of_decide_eq_true rfl, rfl⟩, ?_⟩
    | refine Len.map ?_
    | refine Len.dropM ?_
    | refine Elem.dropM ?_
    | refine Len.takeM ?_
    | refine Elem.takeM ?_
    | refine Elem.mapK (by assumption) ?_
    | refine Elem.mapI (by omega) (by assumption) ?_
    | refine Elem.mapN (by omega) (fun x hx => ?_)
    | refine Elem.map (by omega) (by omega) (fun x hx => ?_)
    | refine (hc).use ⟨rfl, ?_⟩
    | refine CallX.mk ⟨_, _, (hc).x, rfl, ?_⟩
    | refine Done.mk ⟨rfl, rfl⟩
    | refine Done.mk ⟨congrArg gb ?_, rfl⟩
    | refine Done.mk ⟨?_, rfl⟩
    | refine Done.mk ⟨?_, ?_⟩)
  all_goals first
    | omega
    | rfl
  }

theorem take_same {a b : List Rec} {i : Nat} {x y : Rec} (h : a.take i = b.take i) (hx : a[i]? = some x) (hy : b[i]? = some y) (e : x = y) : a.take (i + 1) = b.take (i + 1) := by
  obtain ⟨h1, h2⟩ := List.getElem?_eq_some_iff.1 hx
  obtain ⟨h3, h4⟩ := List.getElem?_eq_some_iff.1 hy
  rw [List.take_succ_eq_append_getElem h1, List.take_succ_eq_append_getElem h3, h, h2, h4, e]
theorem not_same {a b : List Rec} {i : Nat} {x y : Rec} (hx : a[i]? = some x) (hy : b[i]? = some y) (e : x ≠ y) : decide (a = b) = false := by
  apply decide_eq_false
  intro h; subst h; rw [hx] at hy; exact e (Option.some.inj hy)

theorem same_len {a b : List Rec} (h : ¬ ((a.length : Nat) : Int) = ((b.length : Nat) : Int)) : false = decide (a = b) := by
  symm; apply decide_eq_false; intro e; subst e; exact h rfl
theorem same_end {a b : List Rec} {i : Nat} (hi : ¬ (i : Int) < a.length) (hab : a.length = b.length) (h : a.take i = b.take i) : true = decide (a = b) := by
  symm; apply decide_eq_true
  rw [List.take_of_length_le (by omega), List.take_of_length_le (by omega)] at h; exact h

theorem recB_true {x y : Rec} (h : ((x.Kind == y.Kind) && ((x.From == y.From) && ((x.To == y.To) && true))) = true) : x = y := by
  simp at h; cases x; cases y; simp_all
theorem recB_false {x y : Rec} (h : ((x.Kind == y.Kind) && ((x.From == y.From) && ((x.To == y.To) && true))) = false) : x ≠ y := by
  intro e; subst e; simp at h

def pl_F2_1 : Nat → Option (List Nat × List Nat) := (fun k => bif Nat.beq k 4 then some ([1000004, 0, 1, 12, 13], []) else none)
set_option maxRecDepth 100000 in
set_option maxHeartbeats 1000000 in
theorem eqRec_ok (a b : List Rec) (ha : (a.length : Int) ≤ 1000000000) (hb : (b.length : Int) ≤ 1000000000) : ICalls Try.prog 137 [.list 3 (recs a) none, .list 3 (recs b) none] [] (Done (gb (decide (a = b))) []) := by
  refine ICalls.of_body Try.func137 rfl Try.call137 rfl (Nat.le_of_ble_eq_true rfl) pl_F2_1 rfl ?_
  repeat' ((conv => whnf); first
    | refine Br.yes rfl ?_
    | refine Br.no rfl ?_
    | refine Need.mk (EqRun.flat (by kernel_rfl) rfl) ?_
    | (refine ILoop.ov 1000004 (fun (i : Nat) => [(13, gi i)]) (fun (i : Nat) => []) (fun (i : Nat) => (i ≤ a.length ∧ a.length = b.length) ∧ a.take i = b.take i) (fun (i : Nat) => a.length - i) (0) (by exact rfl) ?_; (conv => whnf); refine Start.mk rfl ?_ ?_; (try dsimp only); rotate_left; rintro i ⟨⟨hi, hab⟩, hs⟩)
    | (refine Again.mk ⟨(i + 1), rfl, ?_, ?_⟩ <;> try dsimp only)
    | refine Br.yes (beq_self_eq_true _) ?_
    | refine Br.not ?_
    | refine Br.yes (decide_eq_true (by assumption)) ?_
    | refine Br.no (decide_eq_false (by assumption)) ?_
    | refine Br.yes (beq_iff_eq.2 (by assumption)) ?_
    | refine Br.no (beq_eq_false_iff_ne.2 (by assumption)) ?_
    | refine Br.yes (bne_iff_ne.2 (by assumption)) ?_
    | (refine Br.dec (fun h => ?_) (fun h => ?_) <;> try dsimp only at h)
    | (refine Br.beqI (fun h => ?_) (fun h => ?_) <;> try dsimp only at h)
    | (refine Br.bneI (fun h => ?_) (fun h => ?_) <;> try dsimp only at h)
    | refine Br.mk (fun h => ?_) (fun h => ?_)
    | refine Need.mk (by first | kernel_rfl | exact ⟨of_decide_eq_true rfl, of_decide_eq_true rfl⟩ | omega) ?_
    | refine Len.mk ⟨_, by simp only [List.length_cons, List.length_nil, Nat.reduceAdd, Int.cast_ofNat_Int]; rfl, ?_⟩
    | refine Wr.lit _ (by simp only [Int.reduceAdd, Int.reduceSub, Int.reduceMul]; rfl) (by decide) ?_
    | refine Wr.fit (by omega) ?_
    | refine Wr.fit (by dsimp only; omega) ?_
    | refine Elem.mk ⟨_, ⟨of_decide_eq_true rfl, rfl⟩, ?_⟩
    | refine Len.map ?_
    | refine Len.dropM ?_
    | refine Elem.dropM ?_
    | refine Len.takeM ?_
    | refine Elem.takeM ?_
    | refine Elem.mapK (by assumption) ?_
    | refine Elem.mapI (by omega) (by assumption) ?_
    | refine Elem.mapN (by omega) (fun x hx => ?_)
    | refine Elem.map (by omega) (by omega) (fun x hx => ?_)
    | refine Done.mk ⟨rfl, rfl⟩
    | refine Done.mk ⟨congrArg gb ?_, rfl⟩
    | refine Done.mk ⟨?_, rfl⟩
    | refine Done.mk ⟨?_, ?_⟩)
  all_goals first
    | omega
    | exact same_len h
    | exact same_end h hab hs
    | exact ⟨⟨by omega, by omega⟩, rfl⟩
    | exact ⟨⟨by omega, by omega⟩, take_same hs (by assumption) hx (recB_true h)⟩
    | exact (not_same (by assumption) hx (recB_false h)).symm

theorem mrg_le : ∀ (l acc : List Rec), (mrgL acc l).length ≤ acc.length + l.length
  | [], acc => by simp [mrgL]
  | r :: t, acc => by
    have h1 := mrg_le t (mrgStep acc r)
    have h2 := mrg_len (r := r) (Nat.le_refl acc.length)
    have e : mrgL acc (r :: t) = mrgL (mrgStep acc r) t := rfl
    rw [e, List.length_cons]; omega
theorem norm_le (l : List Rec) : (normL l).length ≤ l.length := by
  unfold normL
  split
  · have := mrg_le l []; simpa using this
  · simp
def isNormal (l : List Rec) : Bool := decide (codeR l = 0) && decide (normL l = l)
set_option maxRecDepth 100000 in
set_option maxHeartbeats 1000000 in
theorem isNormal_ok (l : List Rec) (hl : (l.length : Int) ≤ 1000000000) : ICalls Try.prog 126 [.list 3 (recs l) none] [] (Done (gb (isNormal l)) []) := by
  have hn := recNormal_ok l hl
  have he := eqRec_ok (normL l) l (by have := norm_le l; omega) hl
  unfold isNormal
  unfold normG at hn
  generalize normL l = R at *
  generalize codeR l = e at *
  refine ICalls.of_body Try.func126 rfl Try.call126 rfl (Nat.le_of_ble_eq_true rfl) (fun _ => none) rfl ?_
  repeat' ((conv => whnf); first
    | refine Br.yes rfl ?_
    | refine Br.no rfl ?_
    | refine Br.yes (beq_self_eq_true _) ?_
    | refine Br.not ?_
    | refine Br.yes (decide_eq_true (by assumption)) ?_
    | refine Br.no (decide_eq_false (by assumption)) ?_
    | refine Br.yes (beq_iff_eq.2 (by assumption)) ?_
    | refine Br.no (beq_eq_false_iff_ne.2 (by assumption)) ?_
    | refine Br.yes (bne_iff_ne.2 (by assumption)) ?_
    | (refine Br.dec (fun h => ?_) (fun h => ?_) <;> try dsimp only at h)
    | (refine Br.beqI (fun h => ?_) (fun h => ?_) <;> try dsimp only at h)
    | (refine Br.bneI (fun h => ?_) (fun h => ?_) <;> try dsimp only at h)
    | refine Br.mk (fun h => ?_) (fun h => ?_)
    | refine Need.mk (by first | kernel_rfl | exact ⟨of_decide_eq_true rfl, of_decide_eq_true rfl⟩ | omega) ?_
    | refine Len.mk ⟨_, by simp only [List.length_cons, List.length_nil, Nat.reduceAdd, Int.cast_ofNat_Int]; rfl, ?_⟩
    | refine Wr.lit _ (by simp only [Int.reduceAdd, Int.reduceSub, Int.reduceMul]; rfl) (by decide) ?_
    | refine Wr.fit (by omega) ?_
    | refine Wr.fit (by dsimp only; omega) ?_
    | refine Elem.mk ⟨_, ⟨of_decide_eq_true rfl, rfl⟩, ?_⟩
    | refine Len.map ?_
    | refine Len.dropM ?_
    | refine Elem.dropM ?_
    | refine Len.takeM ?_
    | refine Elem.takeM ?_
    | refine Elem.mapK (by assumption) ?_
    | refine Elem.mapI (by omega) (by assumption) ?_
    | refine Elem.mapN (by omega) (fun x hx => ?_)
    | refine Elem.map (by omega) (by omega) (fun x hx => ?_)
    | refine (hn).use ⟨rfl, ?_⟩
    | refine (he).use ⟨rfl, ?_⟩
    | refine CallX.mk ⟨_, _, (hn).x, rfl, ?_⟩
    | refine CallX.mk ⟨_, _, (he).x, rfl, ?_⟩
    | refine Done.mk ⟨rfl, rfl⟩
    | refine Done.mk ⟨congrArg gb ?_, rfl⟩
    | refine Done.mk ⟨?_, rfl⟩
    | refine Done.mk ⟨?_, ?_⟩)
  all_goals (simp_all)

set_option maxRecDepth 100000 in
set_option maxHeartbeats 1000000 in
theorem join_ok (ls : List (List Rec)) (hl : (ls.length : Int) ≤ 1000000000) (ht : (ls.flatten.length : Int) ≤ 1000000000) :
    ICalls Try.prog 96 [.list 1 (recss ls) none] [] (Done (normG ls.flatten) []) := by
  have hc := concatRec_ok ls hl ht
  have hn := recNormal_ok ls.flatten ht
  unfold normG at *
  generalize normL ls.flatten = R at *
  generalize codeR ls.flatten = e at *
  generalize ls.flatten = l at *
  refine ICalls.of_body Try.func96 rfl Try.call96 rfl (Nat.le_of_ble_eq_true rfl) (fun _ => none) rfl ?_
  repeat' ((conv => whnf); first
    | refine Br.yes rfl ?_
    | refine Br.no rfl ?_
    | refine Br.yes (beq_self_eq_true _) ?_
    | refine Br.not ?_
    | refine Br.yes (decide_eq_true (by assumption)) ?_
    | refine Br.no (decide_eq_false (by assumption)) ?_
    | refine Br.yes (beq_iff_eq.2 (by assumption)) ?_
    | refine Br.no (beq_eq_false_iff_ne.2 (by assumption)) ?_
    | refine Br.yes (bne_iff_ne.2 (by assumption)) ?_
    | (refine Br.dec (fun h => ?_) (fun h => ?_) <;> try dsimp only at h)
    | (refine Br.beqI (fun h => ?_) (fun h => ?_) <;> try dsimp only at h)
    | (refine Br.bneI (fun h => ?_) (fun h => ?_) <;> try dsimp only at h)
    | refine Br.mk (fun h => ?_) (fun h => ?_)
    | refine Need.mk (by first | kernel_rfl | exact ⟨of_decide_eq_true rfl, of_decide_eq_true rfl⟩ | omega) ?_
    | refine Len.mk ⟨_, by simp only [List.length_cons, List.length_nil, Nat.reduceAdd, Int.cast_ofNat_Int]; rfl, ?_⟩
    | refine Wr.lit _ (by simp only [Int.reduceAdd, Int.reduceSub, Int.reduceMul]; rfl) (by decide) ?_
    | refine Wr.fit (by omega) ?_
    | refine Wr.fit (by dsimp only; omega) ?_
    | refine Elem.mk ⟨_, ⟨of_decide_eq_true rfl, rfl⟩, ?_⟩
    | refine Len.map ?_
    | refine Len.dropM ?_
    | refine Elem.dropM ?_
    | refine Len.takeM ?_
    | refine Elem.takeM ?_
    | refine Elem.mapK (by assumption) ?_
    | refine Elem.mapI (by omega) (by assumption) ?_
    | refine Elem.mapN (by omega) (fun x hx => ?_)
    | refine Elem.map (by omega) (by omega) (fun x hx => ?_)
    | refine (hc).use ⟨rfl, ?_⟩
    | refine (hn).use ⟨rfl, ?_⟩
    | refine CallX.mk ⟨_, _, (hc).x, rfl, ?_⟩
    | refine CallX.mk ⟨_, _, (hn).x, rfl, ?_⟩
    | refine Done.mk ⟨rfl, rfl⟩
    | refine Done.mk ⟨congrArg gb ?_, rfl⟩
    | refine Done.mk ⟨?_, rfl⟩
    | refine Done.mk ⟨?_, ?_⟩)

theorem pastErr_0 {l : List Rec} (h : ¬ codeR l = 0) : codeR l = pastErr l := by unfold pastErr; rw [if_pos h]
theorem pastErr_5 {l : List Rec} (h : codeR l = 0) (h2 : ¬ beginOf l = 0) : 5 = pastErr l := by unfold pastErr; rw [if_neg (by omega), if_pos h2]
theorem pastErr_ok {l : List Rec} (h : codeR l = 0) (h2 : beginOf l = 0) : 0 = pastErr l := by unfold pastErr; rw [if_neg (by omega), if_neg (by omega)]

set_option maxRecDepth 100000 in
set_option maxHeartbeats 1000000 in
theorem truckPast_ok (l : List Rec) (hl : (l.length : Int) ≤ 1000000000) : ICalls Try.prog 94 [.list 3 (recs l) none] [] (Done (gi (pastErr l)) []) := by
  have hc := (recCheck_ok l hl).to (congrArg pairG (codeR_pair l))
  have e1 := @pastErr_0 l
  have e2 := @pastErr_5 l
  have e3 := @pastErr_ok l
  generalize pastErr l = p at *
  generalize (recsErr 0 none l).1 = j at *
  generalize codeR l = e at *
  clear hl
  cases l with
  | nil =>
    refine ICalls.of_body Try.func94 rfl Try.call94 rfl (Nat.le_of_ble_eq_true rfl) (fun _ => none) rfl ?_
    repeat' ((conv => whnf); first
      | refine Br.yes rfl ?_
      | refine Br.no rfl ?_
      | refine Br.yes (beq_self_eq_true _) ?_
      | refine Br.not ?_
      | refine Br.yes (decide_eq_true (by assumption)) ?_
      | refine Br.no (decide_eq_false (by assumption)) ?_
      | refine Br.yes (beq_iff_eq.2 (by assumption)) ?_
      | refine Br.no (beq_eq_false_iff_ne.2 (by assumption)) ?_
      | refine Br.yes (bne_iff_ne.2 (by assumption)) ?_
      | (refine Br.dec (fun h => ?_) (fun h => ?_) <;> try dsimp only at h)
      | (refine Br.beqI (fun h => ?_) (fun h => ?_) <;> try dsimp only at h)
      | (refine Br.bneI (fun h => ?_) (fun h => ?_) <;> try dsimp only at h)
      | refine Br.mk (fun h => ?_) (fun h => ?_)
      | refine Need.mk (by first | kernel_rfl | exact ⟨of_decide_eq_true rfl, of_decide_eq_true rfl⟩ | omega) ?_
      | refine Len.mk ⟨_, by simp only [List.length_cons, List.length_nil, Nat.reduceAdd, Int.cast_ofNat_Int]; rfl, ?_⟩
      | refine Wr.lit _ (by simp only [Int.reduceAdd, Int.reduceSub, Int.reduceMul]; rfl) (by decide) ?_
      | refine Wr.fit (by omega) ?_
      | refine Wr.fit (by dsimp only; omega) ?_
      | refine Elem.mk ⟨_, ⟨of_decide_eq_true rfl, rfl⟩, ?_⟩
      | refine Len.map ?_
      | refine Len.dropM ?_
      | refine Elem.dropM ?_
      | refine Len.takeM ?_
      | refine Elem.takeM ?_
      | refine Elem.mapK (by assumption) ?_
      | refine Elem.mapI (by omega) (by assumption) ?_
      | refine Elem.mapN (by omega) (fun x hx => ?_)
      | refine Elem.map (by omega) (by omega) (fun x hx => ?_)
      | refine (hc).use ⟨rfl, ?_⟩
      | refine CallX.mk ⟨_, _, (hc).x, rfl, ?_⟩
      | refine Done.mk ⟨rfl, rfl⟩
      | refine Done.mk ⟨congrArg gb ?_, rfl⟩
      | refine Done.mk ⟨?_, rfl⟩
      | refine Done.mk ⟨?_, ?_⟩)
    all_goals first
      | exact congrArg gi (e1 h)
      | exact congrArg gi (e3 (by omega) rfl)
  | cons r t =>
    refine ICalls.of_body Try.func94 rfl Try.call94 rfl (Nat.le_of_ble_eq_true rfl) (fun _ => none) rfl ?_
    repeat' ((conv => whnf); first
      | refine Br.yes rfl ?_
      | refine Br.no rfl ?_
      | refine Br.yes (beq_self_eq_true _) ?_
      | refine Br.not ?_
      | refine Br.yes (decide_eq_true (by assumption)) ?_
      | refine Br.no (decide_eq_false (by assumption)) ?_
      | refine Br.yes (beq_iff_eq.2 (by assumption)) ?_
      | refine Br.no (beq_eq_false_iff_ne.2 (by assumption)) ?_
      | refine Br.yes (bne_iff_ne.2 (by assumption)) ?_
      | (refine Br.dec (fun h => ?_) (fun h => ?_) <;> try dsimp only at h)
      | (refine Br.beqI (fun h => ?_) (fun h => ?_) <;> try dsimp only at h)
      | (refine Br.bneI (fun h => ?_) (fun h => ?_) <;> try dsimp only at h)
      | refine Br.mk (fun h => ?_) (fun h => ?_)
      | refine Need.mk (by first | kernel_rfl | exact ⟨of_decide_eq_true rfl, of_decide_eq_true rfl⟩ | omega) ?_
      | refine Len.mk ⟨_, by simp only [List.length_cons, List.length_nil, Nat.reduceAdd, Int.cast_ofNat_Int]; rfl, ?_⟩
      | refine Wr.lit _ (by simp only [Int.reduceAdd, Int.reduceSub, Int.reduceMul]; rfl) (by decide) ?_
      | refine Wr.fit (by omega) ?_
      | refine Wr.fit (by dsimp only; omega) ?_
      | refine Elem.mk ⟨_, ⟨of_decide_eq_true rfl, rfl⟩, ?_⟩
      | refine Len.map ?_
      | refine Len.dropM ?_
      | refine Elem.dropM ?_
      | refine Len.takeM ?_
      | refine Elem.takeM ?_
      | refine Elem.mapK (by assumption) ?_
      | refine Elem.mapI (by omega) (by assumption) ?_
      | refine Elem.mapN (by omega) (fun x hx => ?_)
      | refine Elem.map (by omega) (by omega) (fun x hx => ?_)
      | refine (hc).use ⟨rfl, ?_⟩
      | refine CallX.mk ⟨_, _, (hc).x, rfl, ?_⟩
      | refine Done.mk ⟨rfl, rfl⟩
      | refine Done.mk ⟨congrArg gb ?_, rfl⟩
      | refine Done.mk ⟨?_, rfl⟩
      | refine Done.mk ⟨?_, ?_⟩)
    all_goals first
      | omega
      | (exfalso; simp only [List.length_cons] at h; omega)
      | exact congrArg gi (e1 h)
      | exact congrArg gi (e2 (by omega) (by assumption))
      | exact congrArg gi (e3 (by omega) (by assumption))

end Go.Hl
