/- Contracts of functions, bundle H14; proved for whatever the arguments' types allow, as each theorem says. -/
import Derived.Test.YtfbiaihhdbkefaaGreatDoorH9
import Derived.Test.YtfbiaihhdbkefaaGreatDoorF0
import Derived.Test.YtfbiaihhdbkefaaGreatDoorGh18

/- Contracts: slices.Grow, slices.Concat over records; neighbours of one kind merged.  -/
set_option linter.unusedVariables false
set_option linter.unusedSimpArgs false
namespace Go.Hl
open Go.Gh Go.Proofs

def pl_F1_1 : Nat → Option (List Nat × List Nat) := (fun k => bif Nat.beq k 5000022 then some ([], []) else bif Nat.beq k 4000000 then some ([122], []) else none)
def pl_F1_2 : Nat → Option (List Nat × List Nat) := (fun k => bif Nat.beq k 5000004 then some ([], []) else bif Nat.beq k 4000000 then some ([104], []) else none)
set_option maxRecDepth 100000 in
theorem growRec_ok (n : Int) (h0 : 0 ≤ n) (h1 : n ≤ 1000000000) : ICalls Tryz.prog 67 [.v (.slice none 0 0), gi n] [] (Done (.ms 3 0 1 0) [.mvec 45 3 [] 1]) := by
  rcases Int.lt_or_eq_of_le h0 with hn | hn
  {
  refine ICalls.of_body Tryz.func67 rfl Tryz.call67 rfl (Nat.le_of_ble_eq_true rfl) pl_F1_1 rfl ?_
  repeat' ((conv => whnf); first
    | refine Br.yes rfl ?_
    | refine Br.no rfl ?_
    | refine Br.yes (beq_self_eq_true _) ?_
    | refine Br.not ?_
    | refine Br.yes (decide_eq_true (by assumption)) ?_
    | refine Br.no (decide_eq_false (by assumption)) ?_
    | refine Br.yes (beq_iff_eq.2 (by assumption)) ?_
    | refine Br.no (beq_eq_false_iff_ne.2 (by assumption)) ?_
    | refine Br.yes (bne_iff_ne.2 (by assumption)) ?_
    | (refine Br.dec (fun h => ?_) (fun h => ?_) <;> try dsimp only at h)
    | (refine Br.beqI (fun h => ?_) (fun h => ?_) <;> try dsimp only at h)
    | (refine Br.bneI (fun h => ?_) (fun h => ?_) <;> try dsimp only at h)
    | refine Br.mk (fun h => ?_) (fun h => ?_)
    | refine Need.mk (app_need (by first | (simp only [List.length_append, List.length_map, List.length_nil, List.length_cons, List.nil_append, Nat.zero_add, Nat.add_zero]; done) | (simp only [List.length_append, List.length_map, List.length_nil, List.length_cons, List.nil_append, Nat.zero_add, Nat.add_zero]; omega) | omega) (Nat.le_of_ble_eq_true rfl) (by first | (simp only [List.length_append, List.length_map, List.length_nil, List.length_cons, List.nil_append, Nat.zero_add, Nat.add_zero]; done) | (simp only [List.length_append, List.length_map, List.length_nil, List.length_cons, List.nil_append, Nat.zero_add, Nat.add_zero]; omega) | omega)) ?_
    | refine Need.mk (app_need0 (Nat.le_of_ble_eq_true rfl) (by first | (simp only [List.length_append, List.length_map, List.length_nil, List.length_cons, List.nil_append, Nat.zero_add, Nat.add_zero]; done) | (simp only [List.length_append, List.length_map, List.length_nil, List.length_cons, List.nil_append, Nat.zero_add, Nat.add_zero]; omega) | omega)) ?_
    | refine Need.mk (app_needM rfl (Nat.le_of_ble_eq_true rfl) (by first | (simp only [List.length_append, List.length_map, List.length_nil, List.length_cons, List.nil_append, Nat.zero_add, Nat.add_zero]; done) | (simp only [List.length_append, List.length_map, List.length_nil, List.length_cons, List.nil_append, Nat.zero_add, Nat.add_zero]; omega) | omega)) ?_
    | refine Need.mk (zeros_need (by omega) (Nat.le_of_ble_eq_true rfl) (by omega)) ?_
    | refine Need.mk (by first | kernel_rfl | exact ⟨of_decide_eq_true rfl, of_decide_eq_true rfl⟩ | omega) ?_
    | refine Len.mk ⟨_, by simp only [List.length_cons, List.length_nil, Nat.reduceAdd, Int.cast_ofNat_Int]; rfl, ?_⟩
    | refine Wr.lit _ (by simp only [Int.reduceAdd, Int.reduceSub, Int.reduceMul]; rfl) (by decide) ?_
    | refine Wr.fit (by omega) ?_
    | refine Wr.fit (by dsimp only; omega) ?_
    | refine Elem.mk ⟨_, ⟨of_decide_eq_true rfl, rfl⟩, ?_⟩
    | refine Len.map ?_
    | refine Len.dropM ?_
    | refine Elem.dropM ?_
    | refine Len.takeM ?_
    | refine Elem.takeM ?_
    | refine Elem.mapK (by assumption) ?_
    | refine Elem.mapI (by omega) (by assumption) ?_
    | refine Elem.mapN (by omega) (fun x hx => ?_)
    | refine Elem.map (by omega) (by omega) (fun x hx => ?_)
    | refine Done.mk ⟨rfl, rfl⟩
    | refine Done.mk ⟨congrArg gb ?_, rfl⟩
    | refine Done.mk ⟨?_, rfl⟩
    | refine Done.mk ⟨?_, ?_⟩)
  all_goals omega
  }
  {
  refine ICalls.of_body Tryz.func67 rfl Tryz.call67 rfl (Nat.le_of_ble_eq_true rfl) pl_F1_2 rfl ?_
  repeat' ((conv => whnf); first
    | refine Br.yes rfl ?_
    | refine Br.no rfl ?_
    | refine Br.yes (beq_self_eq_true _) ?_
    | refine Br.not ?_
    | refine Br.yes (decide_eq_true (by assumption)) ?_
    | refine Br.no (decide_eq_false (by assumption)) ?_
    | refine Br.yes (beq_iff_eq.2 (by assumption)) ?_
    | refine Br.no (beq_eq_false_iff_ne.2 (by assumption)) ?_
    | refine Br.yes (bne_iff_ne.2 (by assumption)) ?_
    | (refine Br.dec (fun h => ?_) (fun h => ?_) <;> try dsimp only at h)
    | (refine Br.beqI (fun h => ?_) (fun h => ?_) <;> try dsimp only at h)
    | (refine Br.bneI (fun h => ?_) (fun h => ?_) <;> try dsimp only at h)
    | refine Br.mk (fun h => ?_) (fun h => ?_)
    | refine Need.mk (app_need (by first | (simp only [List.length_append, List.length_map, List.length_nil, List.length_cons, List.nil_append, Nat.zero_add, Nat.add_zero]; done) | (simp only [List.length_append, List.length_map, List.length_nil, List.length_cons, List.nil_append, Nat.zero_add, Nat.add_zero]; omega) | omega) (Nat.le_of_ble_eq_true rfl) (by first | (simp only [List.length_append, List.length_map, List.length_nil, List.length_cons, List.nil_append, Nat.zero_add, Nat.add_zero]; done) | (simp only [List.length_append, List.length_map, List.length_nil, List.length_cons, List.nil_append, Nat.zero_add, Nat.add_zero]; omega) | omega)) ?_
    | refine Need.mk (app_need0 (Nat.le_of_ble_eq_true rfl) (by first | (simp only [List.length_append, List.length_map, List.length_nil, List.length_cons, List.nil_append, Nat.zero_add, Nat.add_zero]; done) | (simp only [List.length_append, List.length_map, List.length_nil, List.length_cons, List.nil_append, Nat.zero_add, Nat.add_zero]; omega) | omega)) ?_
    | refine Need.mk (app_needM rfl (Nat.le_of_ble_eq_true rfl) (by first | (simp only [List.length_append, List.length_map, List.length_nil, List.length_cons, List.nil_append, Nat.zero_add, Nat.add_zero]; done) | (simp only [List.length_append, List.length_map, List.length_nil, List.length_cons, List.nil_append, Nat.zero_add, Nat.add_zero]; omega) | omega)) ?_
    | refine Need.mk (zeros_need (by omega) (Nat.le_of_ble_eq_true rfl) (by omega)) ?_
    | refine Need.mk (by first | kernel_rfl | exact ⟨of_decide_eq_true rfl, of_decide_eq_true rfl⟩ | omega) ?_
    | refine Len.mk ⟨_, by simp only [List.length_cons, List.length_nil, Nat.reduceAdd, Int.cast_ofNat_Int]; rfl, ?_⟩
    | refine Wr.lit _ (by simp only [Int.reduceAdd, Int.reduceSub, Int.reduceMul]; rfl) (by decide) ?_
    | refine Wr.fit (by omega) ?_
    | refine Wr.fit (by dsimp only; omega) ?_
    | refine Elem.mk ⟨_, ⟨of_decide_eq_true rfl, rfl⟩, ?_⟩
    | refine Len.map ?_
    | refine Len.dropM ?_
    | refine Elem.dropM ?_
    | refine Len.takeM ?_
    | refine Elem.takeM ?_
    | refine Elem.mapK (by assumption) ?_
    | refine Elem.mapI (by omega) (by assumption) ?_
    | refine Elem.mapN (by omega) (fun x hx => ?_)
    | refine Elem.map (by omega) (by omega) (fun x hx => ?_)
    | refine Done.mk ⟨rfl, rfl⟩
    | refine Done.mk ⟨congrArg gb ?_, rfl⟩
    | refine Done.mk ⟨?_, rfl⟩
    | refine Done.mk ⟨?_, ?_⟩)
  all_goals omega
  }

abbrev recss (ls : List (List Rec)) : List GV := ls.map fun l => .list 3 (recs l) none
theorem take_flat {ls : List (List Rec)} {i : Nat} {x : List Rec} (h : ls[i]? = some x) : (ls.take (i + 1)).flatten = (ls.take i).flatten ++ x := by
  obtain ⟨h1, h2⟩ := List.getElem?_eq_some_iff.1 h
  rw [List.take_succ_eq_append_getElem h1, h2]; simp
theorem take_flat_le {ls : List (List Rec)} {i : Nat} : (ls.take i).flatten.length ≤ ls.flatten.length := by
  have := congrArg (fun l => l.flatten.length) (List.take_append_drop i ls)
  simp only [List.flatten_append, List.length_append] at this
  omega
theorem sum_next {ls : List (List Rec)} {i : Nat} {x : List Rec} {n : Int} (h : ls[i]? = some x) (hn : n = ((ls.take i).flatten.length : Nat)) : n + (x.length : Int) = ((ls.take (i + 1)).flatten.length : Nat) := by
  rw [take_flat h, hn]; simp
theorem flat_end {α : Type} {ls : List α} {i : Nat} (h : ¬ (i : Int) < ls.length) : ls.take i = ls := List.take_of_length_le (by omega)
theorem recs_app (a b : List Rec) : recs (a ++ b) = recs a ++ recs b := by simp [recs]
theorem recs_len (a : List Rec) : (recs a).length = a.length := by simp [recs]
theorem flat_room {ls : List (List Rec)} {i : Nat} {x : List Rec} (h : ls[i]? = some x) (ht : (ls.flatten.length : Int) ≤ 1000000000) {g : List GV} (hg : g = recs (ls.take i).flatten) : g.length + (recs x).length ≤ 10000000000 := by
  have := @take_flat_le ls (i + 1)
  rw [take_flat h, List.length_append] at this
  rw [hg, recs_len, recs_len]; omega

def pl_F1_3 : Nat → Option (List Nat × List Nat) := (fun k => bif Nat.beq k 3 then some ([1000003, 0, 3, 9, 10, 11, 6000002], []) else bif Nat.beq k 11 then some ([1000011, 6, 25, 26, 27, 6000002], [124, 133]) else bif Nat.beq k 6000002 then some ([], []) else none)
set_option maxRecDepth 100000 in
set_option maxHeartbeats 1000000 in
theorem concatRec_ok (ls : List (List Rec)) (hl : (ls.length : Int) ≤ 1000000000) (ht : (ls.flatten.length : Int) ≤ 1000000000) :
    ICalls Tryz.prog 41 [.list 1 (recss ls) none] [] (Done (.list 3 (recs ls.flatten) none) []) := by
  refine ICalls.of_body Tryz.func41 rfl Tryz.call41 rfl (Nat.le_of_ble_eq_true rfl) pl_F1_3 rfl ?_
  repeat' ((conv => whnf); first
    | refine Br.yes rfl ?_
    | refine Br.no rfl ?_
    | (refine Wr.fit (by have e := sum_next hx hn; have := @take_flat_le ls (i + 1); omega) ?_)
    | (refine Need.mk (app_needM rfl (Nat.le_of_ble_eq_true rfl) (flat_room hx ht hg)) ?_)
    | (refine ILoop.ov 1000003 (fun ((i, n) : Nat × Int) => [(11, gi i), (3, gi n)]) (fun ((i, n) : Nat × Int) => []) (fun ((i, n) : Nat × Int) => i ≤ ls.length ∧ n = ((ls.take i).flatten.length : Nat)) (fun ((i, n) : Nat × Int) => ls.length - i) ((0, 0)) (by exact rfl) ?_; (conv => whnf); refine Start.mk rfl ?_ ?_; (try dsimp only); rotate_left; rintro ⟨i, n⟩ ⟨hi, hn⟩)
    | (refine Again.mk ⟨((i + 1, n + (x.length : Int))), rfl, ?_, ?_⟩ <;> try dsimp only)
    | (refine ILoop.ov 1000011 (fun ((i', g, k, v) : Nat × List GV × Nat × Nat) => [(27, gi i'), (6, .ms 3 124 v k)]) (fun ((i', g, k, v) : Nat × List GV × Nat × Nat) => [(124, .mvec 45 3 g v)]) (fun ((i', g, k, v) : Nat × List GV × Nat × Nat) => i' ≤ ls.length ∧ g = recs (ls.take i').flatten ∧ k = g.length) (fun ((i', g, k, v) : Nat × List GV × Nat × Nat) => ls.length - i') ((0, [], 0, 1)) (by exact rfl) ?_; (conv => whnf); refine Start.mk rfl ?_ ?_; (try dsimp only); rotate_left; rintro ⟨i', g, k, v⟩ ⟨hi', hg, hk⟩)
    | (refine Again.mk ⟨((i' + 1, _, _, _)), rfl, ?_, ?_⟩ <;> try dsimp only)
    | refine Br.yes (beq_self_eq_true _) ?_
    | refine Br.not ?_
    | refine Br.yes (decide_eq_true (by assumption)) ?_
    | refine Br.no (decide_eq_false (by assumption)) ?_
    | refine Br.yes (beq_iff_eq.2 (by assumption)) ?_
    | refine Br.no (beq_eq_false_iff_ne.2 (by assumption)) ?_
    | refine Br.yes (bne_iff_ne.2 (by assumption)) ?_
    | (refine Br.dec (fun h => ?_) (fun h => ?_) <;> try dsimp only at h)
    | (refine Br.beqI (fun h => ?_) (fun h => ?_) <;> try dsimp only at h)
    | (refine Br.bneI (fun h => ?_) (fun h => ?_) <;> try dsimp only at h)
    | refine Br.mk (fun h => ?_) (fun h => ?_)
    | refine Need.mk (app_need (by first | (simp only [List.length_append, List.length_map, List.length_nil, List.length_cons, List.nil_append, Nat.zero_add, Nat.add_zero]; done) | (simp only [List.length_append, List.length_map, List.length_nil, List.length_cons, List.nil_append, Nat.zero_add, Nat.add_zero]; omega) | omega) (Nat.le_of_ble_eq_true rfl) (by first | (simp only [List.length_append, List.length_map, List.length_nil, List.length_cons, List.nil_append, Nat.zero_add, Nat.add_zero]; done) | (simp only [List.length_append, List.length_map, List.length_nil, List.length_cons, List.nil_append, Nat.zero_add, Nat.add_zero]; omega) | omega)) ?_
    | refine Need.mk (app_need0 (Nat.le_of_ble_eq_true rfl) (by first | (simp only [List.length_append, List.length_map, List.length_nil, List.length_cons, List.nil_append, Nat.zero_add, Nat.add_zero]; done) | (simp only [List.length_append, List.length_map, List.length_nil, List.length_cons, List.nil_append, Nat.zero_add, Nat.add_zero]; omega) | omega)) ?_
    | refine Need.mk (app_needM rfl (Nat.le_of_ble_eq_true rfl) (by first | (simp only [List.length_append, List.length_map, List.length_nil, List.length_cons, List.nil_append, Nat.zero_add, Nat.add_zero]; done) | (simp only [List.length_append, List.length_map, List.length_nil, List.length_cons, List.nil_append, Nat.zero_add, Nat.add_zero]; omega) | omega)) ?_
    | refine Need.mk (zeros_need (by omega) (Nat.le_of_ble_eq_true rfl) (by omega)) ?_
    | refine Need.mk (by first | kernel_rfl | exact ⟨of_decide_eq_true rfl, of_decide_eq_true rfl⟩ | omega) ?_
    | refine Len.mk ⟨_, by simp only [List.length_cons, List.length_nil, Nat.reduceAdd, Int.cast_ofNat_Int]; rfl, ?_⟩
    | refine Wr.lit _ (by simp only [Int.reduceAdd, Int.reduceSub, Int.reduceMul]; rfl) (by decide) ?_
    | refine Wr.fit (by omega) ?_
    | refine Wr.fit (by dsimp only; omega) ?_
    | refine Elem.mk ⟨_, ⟨of_decide_eq_true rfl, rfl⟩, ?_⟩
    | refine Len.map ?_
    | refine Len.dropM ?_
    | refine Elem.dropM ?_
    | refine Len.takeM ?_
    | refine Elem.takeM ?_
    | refine Elem.mapK (by assumption) ?_
    | refine Elem.mapI (by omega) (by assumption) ?_
    | refine Elem.mapN (by omega) (fun x hx => ?_)
    | refine Elem.map (by omega) (by omega) (fun x hx => ?_)
    | refine (growRec_ok n (by omega) (by have := @take_flat_le ls i; omega)).use ⟨rfl, ?_⟩
    | refine CallX.mk ⟨_, _, (growRec_ok n (by omega) (by have := @take_flat_le ls i; omega)).x, rfl, ?_⟩
    | refine Done.mk ⟨rfl, rfl⟩
    | refine Done.mk ⟨congrArg gb ?_, rfl⟩
    | refine Done.mk ⟨?_, rfl⟩
    | refine Done.mk ⟨?_, ?_⟩)
  all_goals first
    | omega
    | exact ⟨by omega, sum_next hx hn⟩
    | (have e := sum_next hx hn; omega)
    | exact ⟨by omega, by rw [take_flat hx, recs_app, hg], by rw [List.length_append]⟩
    | (rw [flat_end h] at hg; rw [hg]; rfl)
    | exact ⟨by omega, rfl⟩
    | exact ⟨by omega, rfl, rfl⟩

/-! ### Neighbours of one kind, merged -/
def mrgStep (acc : List Rec) (r : Rec) : List Rec := match acc[acc.length - 1]? with
  | some q => if q.Kind = r.Kind then acc.set (acc.length - 1) ⟨q.Kind, q.From, r.To⟩ else acc ++ [r]
  | none => acc ++ [r]
def mrgL (acc l : List Rec) : List Rec := l.foldl mrgStep acc
/-- Minutes' kinds as records of one minute each. -/
def units (a : Int) : List Int → List Rec
  | [] => []
  | k :: t => ⟨k, a, a + 1⟩ :: units (a + 1) t
end Go.Hl

/- Contracts: normal timelines; pasts.  -/
set_option linter.unusedVariables false
set_option linter.unusedSimpArgs false
namespace Go.Hl
open Go.Gh Go.Proofs

def codeR (l : List Rec) : Int := (recsErr 0 none l).2
/-- What a normal timeline is, and why there is none. -/
def normL (l : List Rec) : List Rec := if codeR l = 0 then mrgL [] l else []
def normG (l : List Rec) : GV := .tup [.list 3 (recs (normL l)) none, gi (codeR l)]
def pastErr (l : List Rec) : Int := if codeR l ≠ 0 then codeR l else if beginOf l ≠ 0 then 5 else 0
theorem codeR_pair (l : List Rec) : recsErr 0 none l = ((recsErr 0 none l).1, codeR l) := rfl
def isNormal (l : List Rec) : Bool := decide (codeR l = 0) && decide (normL l = l)
end Go.Hl
