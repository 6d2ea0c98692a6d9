/- Contracts of functions, bundle K12; proved for whatever the arguments' types allow, as each theorem says. -/
import Derived.Test.YtoofplbjpkgdgaaK3
import Derived.Test.YtoofplbjpkgdgaaK6

/- Chapter 28: orders with one more, or with one less.  -/
set_option linter.unusedVariables false
set_option linter.unusedSimpArgs false
namespace Go.Hl
open Go.Gh Go.Proofs

def pl_K12_1 : Nat → Option (List Nat × List Nat) := (fun k => bif Nat.beq k 5000022 then some ([], []) else bif Nat.beq k 4000000 then some ([122], []) else none)
def pl_K12_2 : Nat → Option (List Nat × List Nat) := (fun k => bif Nat.beq k 5000004 then some ([], []) else bif Nat.beq k 4000000 then some ([104], []) else none)
set_option maxRecDepth 100000 in
theorem growOrd_ok (n : Int) (h0 : 0 ≤ n) (h1 : n ≤ 1000000000) : ICalls Try.prog 119 [.v (.slice none 0 0), gi n] [] (Done (.ms 5 0 1 0) [.mvec 58 5 [] 1]) := by
  rcases Int.lt_or_eq_of_le h0 with hn | hn
  {
  refine ICalls.of_body Try.func119 rfl Try.call119 rfl (Nat.le_of_ble_eq_true rfl) pl_K12_1 rfl ?_
  repeat' ((conv => whnf); first
    | refine Br.yes rfl ?_
    | refine Br.no rfl ?_
    | refine Br.yes (beq_self_eq_true _) ?_
    | refine Br.not ?_
    | refine Br.yes (decide_eq_true (by assumption)) ?_
    | refine Br.no (decide_eq_false (by assumption)) ?_
    | refine Br.yes (beq_iff_eq.2 (by assumption)) ?_
    | refine Br.no (beq_eq_false_iff_ne.2 (by assumption)) ?_
    | refine Br.yes (bne_iff_ne.2 (by assumption)) ?_
    | (refine Br.dec (fun h => ?_) (fun h => ?_) <;> try dsimp only at h)
    | (refine Br.beqI (fun h => ?_) (fun h => ?_) <;> try dsimp only at h)
    | (refine Br.bneI (fun h => ?_) (fun h => ?_) <;> try dsimp only at h)
    | refine Br.mk (fun h => ?_) (fun h => ?_)
    | refine Need.mk (app_need (by first | (simp only [List.length_append, List.length_map, List.length_nil, List.length_cons, List.nil_append, Nat.zero_add, Nat.add_zero]; done) | (simp only [List.length_append, List.length_map, List.length_nil, List.length_cons, List.nil_append, Nat.zero_add, Nat.add_zero]; omega) | omega) (Nat.le_of_ble_eq_true rfl) (by first | (simp only [List.length_append, List.length_map, List.length_nil, List.length_cons, List.nil_append, Nat.zero_add, Nat.add_zero]; done) | (simp only [List.length_append, List.length_map, List.length_nil, List.length_cons, List.nil_append, Nat.zero_add, Nat.add_zero]; omega) | omega)) ?_
    | refine Need.mk (app_need0 (Nat.le_of_ble_eq_true rfl) (by first | (simp only [List.length_append, List.length_map, List.length_nil, List.length_cons, List.nil_append, Nat.zero_add, Nat.add_zero]; done) | (simp only [List.length_append, List.length_map, List.length_nil, List.length_cons, List.nil_append, Nat.zero_add, Nat.add_zero]; omega) | omega)) ?_
    | refine Need.mk (app_needM rfl (Nat.le_of_ble_eq_true rfl) (by first | (simp only [List.length_append, List.length_map, List.length_nil, List.length_cons, List.nil_append, Nat.zero_add, Nat.add_zero]; done) | (simp only [List.length_append, List.length_map, List.length_nil, List.length_cons, List.nil_append, Nat.zero_add, Nat.add_zero]; omega) | omega)) ?_
    | refine Need.mk (zeros_need (by omega) (Nat.le_of_ble_eq_true rfl) (by omega)) ?_
    | refine Need.mk (by first | kernel_rfl | exact ⟨of_decide_eq_true rfl, of_decide_eq_true rfl⟩ | omega) ?_
    | refine Len.mk ⟨_, by simp only [List.length_cons, List.length_nil, Nat.reduceAdd, Int.cast_ofNat_Int]; rfl, ?_⟩
    | refine Wr.lit _ (by simp only [Int.reduceAdd, Int.reduceSub, Int.reduceMul]; rfl) (by decide) ?_
    | refine Wr.fit (by omega) ?_
    | refine Wr.fit (by dsimp only; omega) ?_
    | refine Elem.mk ⟨_, ⟨of_decide_eq_true rfl, rfl⟩, ?_⟩
    | refine Len.map ?_
    | refine Len.dropM ?_
    | refine Elem.dropM ?_
    | refine Len.takeM ?_
    | refine Elem.takeM ?_
    | refine Elem.mapK (by assumption) ?_
    | refine Elem.mapI (by omega) (by assumption) ?_
    | refine Elem.mapN (by omega) (fun x hx => ?_)
    | refine Elem.map (by omega) (by omega) (fun x hx => ?_)
    | refine Done.mk ⟨rfl, rfl⟩
    | refine Done.mk ⟨congrArg gb ?_, rfl⟩
    | refine Done.mk ⟨?_, rfl⟩
    | refine Done.mk ⟨?_, ?_⟩)
  all_goals omega
  }
  {
  refine ICalls.of_body Try.func119 rfl Try.call119 rfl (Nat.le_of_ble_eq_true rfl) pl_K12_2 rfl ?_
  repeat' ((conv => whnf); first
    | refine Br.yes rfl ?_
    | refine Br.no rfl ?_
    | refine Br.yes (beq_self_eq_true _) ?_
    | refine Br.not ?_
    | refine Br.yes (decide_eq_true (by assumption)) ?_
    | refine Br.no (decide_eq_false (by assumption)) ?_
    | refine Br.yes (beq_iff_eq.2 (by assumption)) ?_
    | refine Br.no (beq_eq_false_iff_ne.2 (by assumption)) ?_
    | refine Br.yes (bne_iff_ne.2 (by assumption)) ?_
    | (refine Br.dec (fun h => ?_) (fun h => ?_) <;> try dsimp only at h)
    | (refine Br.beqI (fun h => ?_) (fun h => ?_) <;> try dsimp only at h)
    | (refine Br.bneI (fun h => ?_) (fun h => ?_) <;> try dsimp only at h)
    | refine Br.mk (fun h => ?_) (fun h => ?_)
    | refine Need.mk (app_need (by first | (simp only [List.length_append, List.length_map, List.length_nil, List.length_cons, List.nil_append, Nat.zero_add, Nat.add_zero]; done) | (simp only [List.length_append, List.length_map, List.length_nil, List.length_cons, List.nil_append, Nat.zero_add, Nat.add_zero]; omega) | omega) (Nat.le_of_ble_eq_true rfl) (by first | (simp only [List.length_append, List.length_map, List.length_nil, List.length_cons, List.nil_append, Nat.zero_add, Nat.add_zero]; done) | (simp only [List.length_append, List.length_map, List.length_nil, List.length_cons, List.nil_append, Nat.zero_add, Nat.add_zero]; omega) | omega)) ?_
    | refine Need.mk (app_need0 (Nat.le_of_ble_eq_true rfl) (by first | (simp only [List.length_append, List.length_map, List.length_nil, List.length_cons, List.nil_append, Nat.zero_add, Nat.add_zero]; done) | (simp only [List.length_append, List.length_map, List.length_nil, List.length_cons, List.nil_append, Nat.zero_add, Nat.add_zero]; omega) | omega)) ?_
    | refine Need.mk (app_needM rfl (Nat.le_of_ble_eq_true rfl) (by first | (simp only [List.length_append, List.length_map, List.length_nil, List.length_cons, List.nil_append, Nat.zero_add, Nat.add_zero]; done) | (simp only [List.length_append, List.length_map, List.length_nil, List.length_cons, List.nil_append, Nat.zero_add, Nat.add_zero]; omega) | omega)) ?_
    | refine Need.mk (zeros_need (by omega) (Nat.le_of_ble_eq_true rfl) (by omega)) ?_
    | refine Need.mk (by first | kernel_rfl | exact ⟨of_decide_eq_true rfl, of_decide_eq_true rfl⟩ | omega) ?_
    | refine Len.mk ⟨_, by simp only [List.length_cons, List.length_nil, Nat.reduceAdd, Int.cast_ofNat_Int]; rfl, ?_⟩
    | refine Wr.lit _ (by simp only [Int.reduceAdd, Int.reduceSub, Int.reduceMul]; rfl) (by decide) ?_
    | refine Wr.fit (by omega) ?_
    | refine Wr.fit (by dsimp only; omega) ?_
    | refine Elem.mk ⟨_, ⟨of_decide_eq_true rfl, rfl⟩, ?_⟩
    | refine Len.map ?_
    | refine Len.dropM ?_
    | refine Elem.dropM ?_
    | refine Len.takeM ?_
    | refine Elem.takeM ?_
    | refine Elem.mapK (by assumption) ?_
    | refine Elem.mapI (by omega) (by assumption) ?_
    | refine Elem.mapN (by omega) (fun x hx => ?_)
    | refine Elem.map (by omega) (by omega) (fun x hx => ?_)
    | refine Done.mk ⟨rfl, rfl⟩
    | refine Done.mk ⟨congrArg gb ?_, rfl⟩
    | refine Done.mk ⟨?_, rfl⟩
    | refine Done.mk ⟨?_, ?_⟩)
  all_goals omega
  }

abbrev orderss (ls : List (List Order)) : List GV := ls.map fun l => .list 5 (orders l) none
theorem take_flatO {ls : List (List Order)} {i : Nat} {x : List Order} (h : ls[i]? = some x) : (ls.take (i + 1)).flatten = (ls.take i).flatten ++ x := by
  obtain ⟨h1, h2⟩ := List.getElem?_eq_some_iff.1 h
  rw [List.take_succ_eq_append_getElem h1, h2]; simp
theorem take_flatO_le {ls : List (List Order)} {i : Nat} : (ls.take i).flatten.length ≤ ls.flatten.length := by
  have := congrArg (fun l => l.flatten.length) (List.take_append_drop i ls)
  simp only [List.flatten_append, List.length_append] at this
  omega
theorem sum_nextO {ls : List (List Order)} {i : Nat} {x : List Order} {n : Int} (h : ls[i]? = some x) (hn : n = ((ls.take i).flatten.length : Nat)) : n + (x.length : Int) = ((ls.take (i + 1)).flatten.length : Nat) := by
  rw [take_flatO h, hn]; simp
theorem flat_endO {α : Type} {ls : List α} {i : Nat} (h : ¬ (i : Int) < ls.length) : ls.take i = ls := List.take_of_length_le (by omega)
theorem orders_app (a b : List Order) : orders (a ++ b) = orders a ++ orders b := by simp [orders]
theorem orders_len (a : List Order) : (orders a).length = a.length := by simp [orders]
theorem flat_roomO {ls : List (List Order)} {i : Nat} {x : List Order} (h : ls[i]? = some x) (ht : (ls.flatten.length : Int) ≤ 1000000000) {g : List GV} (hg : g = orders (ls.take i).flatten) : g.length + (orders x).length ≤ 10000000000 := by
  have := @take_flatO_le ls (i + 1)
  rw [take_flatO h, List.length_append] at this
  rw [hg, orders_len, orders_len]; omega

def pl_K12_3 : Nat → Option (List Nat × List Nat) := (fun k => bif Nat.beq k 3 then some ([1000003, 0, 3, 9, 10, 11, 6000002], []) else bif Nat.beq k 11 then some ([1000011, 6, 25, 26, 27, 6000002], [124, 133]) else bif Nat.beq k 6000002 then some ([], []) else none)
set_option maxRecDepth 100000 in
set_option maxHeartbeats 1000000 in
theorem concatOrd_ok (ls : List (List Order)) (hl : (ls.length : Int) ≤ 1000000000) (ht : (ls.flatten.length : Int) ≤ 1000000000) :
    ICalls Try.prog 89 [.list 1 (orderss ls) none] [] (Done (.list 5 (orders ls.flatten) none) []) := by
  refine ICalls.of_body Try.func89 rfl Try.call89 rfl (Nat.le_of_ble_eq_true rfl) pl_K12_3 rfl ?_
  repeat' ((conv => whnf); first
    | refine Br.yes rfl ?_
    | refine Br.no rfl ?_
    | (refine Wr.fit (by have e := sum_nextO hx hn; have := @take_flatO_le ls (i + 1); omega) ?_)
    | (refine Need.mk (app_needM rfl (Nat.le_of_ble_eq_true rfl) (flat_roomO hx ht hg)) ?_)
    | (refine ILoop.ov 1000003 (fun ((i, n) : Nat × Int) => [(11, gi i), (3, gi n)]) (fun ((i, n) : Nat × Int) => []) (fun ((i, n) : Nat × Int) => i ≤ ls.length ∧ n = ((ls.take i).flatten.length : Nat)) (fun ((i, n) : Nat × Int) => ls.length - i) ((0, 0)) (by exact rfl) ?_; (conv => whnf); refine Start.mk rfl ?_ ?_; (try dsimp only); rotate_left; rintro ⟨i, n⟩ ⟨hi, hn⟩)
    | (refine Again.mk ⟨((i + 1, n + (x.length : Int))), rfl, ?_, ?_⟩ <;> try dsimp only)
    | (refine ILoop.ov 1000011 (fun ((i', g, k, v) : Nat × List GV × Nat × Nat) => [(27, gi i'), (6, .ms 5 124 v k)]) (fun ((i', g, k, v) : Nat × List GV × Nat × Nat) => [(124, .mvec 58 5 g v)]) (fun ((i', g, k, v) : Nat × List GV × Nat × Nat) => i' ≤ ls.length ∧ g = orders (ls.take i').flatten ∧ k = g.length) (fun ((i', g, k, v) : Nat × List GV × Nat × Nat) => ls.length - i') ((0, [], 0, 1)) (by exact rfl) ?_; (conv => whnf); refine Start.mk rfl ?_ ?_; (try dsimp only); rotate_left; rintro ⟨i', g, k, v⟩ ⟨hi', hg, hk⟩)
    | (refine Again.mk ⟨((i' + 1, _, _, _)), rfl, ?_, ?_⟩ <;> try dsimp only)
    | refine Br.yes (beq_self_eq_true _) ?_
    | refine Br.not ?_
    | refine Br.yes (decide_eq_true (by assumption)) ?_
    | refine Br.no (decide_eq_false (by assumption)) ?_
    | refine Br.yes (beq_iff_eq.2 (by assumption)) ?_
    | refine Br.no (beq_eq_false_iff_ne.2 (by assumption)) ?_
    | refine Br.yes (bne_iff_ne.2 (by assumption)) ?_
    | (refine Br.dec (fun h => ?_) (fun h => ?_) <;> try dsimp only at h)
    | (refine Br.beqI (fun h => ?_) (fun h => ?_) <;> try dsimp only at h)
    | (refine Br.bneI (fun h => ?_) (fun h => ?_) <;> try dsimp only at h)
    | refine Br.mk (fun h => ?_) (fun h => ?_)
    | refine Need.mk (app_need (by first | (simp only [List.length_append, List.length_map, List.length_nil, List.length_cons, List.nil_append, Nat.zero_add, Nat.add_zero]; done) | (simp only [List.length_append, List.length_map, List.length_nil, List.length_cons, List.nil_append, Nat.zero_add, Nat.add_zero]; omega) | omega) (Nat.le_of_ble_eq_true rfl) (by first | (simp only [List.length_append, List.length_map, List.length_nil, List.length_cons, List.nil_append, Nat.zero_add, Nat.add_zero]; done) | (simp only [List.length_append, List.length_map, List.length_nil, List.length_cons, List.nil_append, Nat.zero_add, Nat.add_zero]; omega) | omega)) ?_
    | refine Need.mk (app_need0 (Nat.le_of_ble_eq_true rfl) (by first | (simp only [List.length_append, List.length_map, List.length_nil, List.length_cons, List.nil_append, Nat.zero_add, Nat.add_zero]; done) | (simp only [List.length_append, List.length_map, List.length_nil, List.length_cons, List.nil_append, Nat.zero_add, Nat.add_zero]; omega) | omega)) ?_
    | refine Need.mk (app_needM rfl (Nat.le_of_ble_eq_true rfl) (by first | (simp only [List.length_append, List.length_map, List.length_nil, List.length_cons, List.nil_append, Nat.zero_add, Nat.add_zero]; done) | (simp only [List.length_append, List.length_map, List.length_nil, List.length_cons, List.nil_append, Nat.zero_add, Nat.add_zero]; omega) | omega)) ?_
    | refine Need.mk (zeros_need (by omega) (Nat.le_of_ble_eq_true rfl) (by omega)) ?_
    | refine Need.mk (by first | kernel_rfl | exact ⟨of_decide_eq_true rfl, of_decide_eq_true rfl⟩ | omega) ?_
    | refine Len.mk ⟨_, by simp only [List.length_cons, List.length_nil, Nat.reduceAdd, Int.cast_ofNat_Int]; rfl, ?_⟩
    | refine Wr.lit _ (by simp only [Int.reduceAdd, Int.reduceSub, Int.reduceMul]; rfl) (by decide) ?_
    | refine Wr.fit (by omega) ?_
    | refine Wr.fit (by dsimp only; omega) ?_
    | refine Elem.mk ⟨_, ⟨of_decide_eq_true rfl, rfl⟩, ?_⟩
    | refine Len.map ?_
    | refine Len.dropM ?_
    | refine Elem.dropM ?_
    | refine Len.takeM ?_
    | refine Elem.takeM ?_
    | refine Elem.mapK (by assumption) ?_
    | refine Elem.mapI (by omega) (by assumption) ?_
    | refine Elem.mapN (by omega) (fun x hx => ?_)
    | refine Elem.map (by omega) (by omega) (fun x hx => ?_)
    | refine (growOrd_ok n (by omega) (by have := @take_flatO_le ls i; omega)).use ⟨rfl, ?_⟩
    | refine CallX.mk ⟨_, _, (growOrd_ok n (by omega) (by have := @take_flatO_le ls i; omega)).x, rfl, ?_⟩
    | refine Done.mk ⟨rfl, rfl⟩
    | refine Done.mk ⟨congrArg gb ?_, rfl⟩
    | refine Done.mk ⟨?_, rfl⟩
    | refine Done.mk ⟨?_, ?_⟩)
  all_goals first
    | omega
    | exact ⟨by omega, sum_nextO hx hn⟩
    | (have e := sum_nextO hx hn; omega)
    | exact ⟨by omega, by rw [take_flatO hx, orders_app, hg], by rw [List.length_append]⟩
    | (rw [flat_endO h] at hg; rw [hg]; rfl)
    | exact ⟨by omega, rfl⟩
    | exact ⟨by omega, rfl, rfl⟩

/-! ### One more -/
theorem cap_need {n : Int} {B : Nat} (h0 : 0 ≤ n) (hB : B ≤ 4096) (h2 : n ≤ 10000000000) : (0 : Int) ≤ 0 ∧ 0 ≤ n ∧ (B : Int) * n ≤ 281474976710656 ∧ n ≤ 9223372036854775807 := by
  refine ⟨by omega, h0, ?_, by omega⟩
  have h1 : (B : Int) * n ≤ 4096 * 10000000000 := Int.mul_le_mul (by omega) h2 h0 (by omega)
  omega
def laterO (id : Int) (t : Order) : Bool := decide (id < t.ID)
set_option maxRecDepth 100000 in
theorem addC_ok (t o : Order) : ICalls Try.prog 88 [t.g, .ptr 0 0] [.cells o.c] (Done (gb (laterO o.ID t)) [.cells o.c]) := by
  unfold laterO
  obtain ⟨a, b, c, d, l⟩ := o
  refine ICalls.of_body Try.func88 rfl Try.call88 rfl (Nat.le_of_ble_eq_true rfl) (fun _ => none) rfl ?_
  repeat' ((conv => whnf); first
    | refine Br.yes rfl ?_
    | refine Br.no rfl ?_
    | refine Br.yes (beq_self_eq_true _) ?_
    | refine Br.not ?_
    | refine Br.yes (decide_eq_true (by assumption)) ?_
    | refine Br.no (decide_eq_false (by assumption)) ?_
    | refine Br.yes (beq_iff_eq.2 (by assumption)) ?_
    | refine Br.no (beq_eq_false_iff_ne.2 (by assumption)) ?_
    | refine Br.yes (bne_iff_ne.2 (by assumption)) ?_
    | (refine Br.dec (fun h => ?_) (fun h => ?_) <;> try dsimp only at h)
    | (refine Br.beqI (fun h => ?_) (fun h => ?_) <;> try dsimp only at h)
    | (refine Br.bneI (fun h => ?_) (fun h => ?_) <;> try dsimp only at h)
    | refine Br.mk (fun h => ?_) (fun h => ?_)
    | refine Need.mk (by first | kernel_rfl | exact ⟨of_decide_eq_true rfl, of_decide_eq_true rfl⟩ | omega) ?_
    | refine Len.mk ⟨_, by simp only [List.length_cons, List.length_nil, Nat.reduceAdd, Int.cast_ofNat_Int]; rfl, ?_⟩
    | refine Wr.lit _ (by simp only [Int.reduceAdd, Int.reduceSub, Int.reduceMul]; rfl) (by decide) ?_
    | refine Wr.fit (by omega) ?_
    | refine Wr.fit (by dsimp only; omega) ?_
    | refine Elem.mk ⟨_, ⟨of_decide_eq_true rfl, rfl⟩, ?_⟩
    | refine Len.map ?_
    | refine Len.dropM ?_
    | refine Elem.dropM ?_
    | refine Len.takeM ?_
    | refine Elem.takeM ?_
    | refine Elem.mapK (by assumption) ?_
    | refine Elem.mapI (by omega) (by assumption) ?_
    | refine Elem.mapN (by omega) (fun x hx => ?_)
    | refine Elem.map (by omega) (by omega) (fun x hx => ?_)
    | refine Done.mk ⟨rfl, rfl⟩
    | refine Done.mk ⟨congrArg gb ?_, rfl⟩
    | refine Done.mk ⟨?_, rfl⟩
    | refine Done.mk ⟨?_, ?_⟩)
def pl_K12_4 : Nat → Option (List Nat × List Nat) := (fun k => bif Nat.beq k 2 then some ([1000002, 0, 1, 7, 8], [0]) else none)
set_option maxRecDepth 100000 in
theorem idxOrderC_ok (g : Nat) (o : Order) (p : Order → Bool) (hp : ∀ s : Order, ICalls Try.prog g [s.g, .ptr 0 0] [.cells o.c] (Done (gb (p s)) [.cells o.c])) (l : List Order) (hl : (l.length : Int) ≤ 1000000000) :
    ICalls Try.prog 87 [.list 5 (orders l) none, .fn (.func g) [] [.ptr 0 0]] [.cells o.c] (Done (gi (idxFrom p 0 l)) [.cells o.c]) := by
  obtain ⟨oa, ob, oc, od, ol⟩ := o
  refine ICalls.of_body Try.func87 rfl Try.call87 rfl (Nat.le_of_ble_eq_true rfl) pl_K12_4 rfl ?_
  repeat' ((conv => whnf); first
    | refine Br.yes rfl ?_
    | refine Br.no rfl ?_
    | (refine ILoop.ov 1000002 (fun (i : Nat) => [(8, gi i)]) (fun (i : Nat) => []) (fun (i : Nat) => i ≤ l.length ∧ idxFrom p i (l.drop i) = idxFrom p 0 l) (fun (i : Nat) => l.length - i) (0) (by exact rfl) ?_; (conv => whnf); refine Start.mk rfl ?_ ?_; (try dsimp only); rotate_left; rintro i ⟨hi, hr⟩)
    | (refine Again.mk ⟨(i + 1), rfl, ?_, ?_⟩ <;> try dsimp only)
    | refine Br.yes (beq_self_eq_true _) ?_
    | refine Br.not ?_
    | refine Br.yes (decide_eq_true (by assumption)) ?_
    | refine Br.no (decide_eq_false (by assumption)) ?_
    | refine Br.yes (beq_iff_eq.2 (by assumption)) ?_
    | refine Br.no (beq_eq_false_iff_ne.2 (by assumption)) ?_
    | refine Br.yes (bne_iff_ne.2 (by assumption)) ?_
    | (refine Br.dec (fun h => ?_) (fun h => ?_) <;> try dsimp only at h)
    | (refine Br.beqI (fun h => ?_) (fun h => ?_) <;> try dsimp only at h)
    | (refine Br.bneI (fun h => ?_) (fun h => ?_) <;> try dsimp only at h)
    | refine Br.mk (fun h => ?_) (fun h => ?_)
    | refine Need.mk (by first | kernel_rfl | exact ⟨of_decide_eq_true rfl, of_decide_eq_true rfl⟩ | omega) ?_
    | refine Len.mk ⟨_, by simp only [List.length_cons, List.length_nil, Nat.reduceAdd, Int.cast_ofNat_Int]; rfl, ?_⟩
    | refine Wr.lit _ (by simp only [Int.reduceAdd, Int.reduceSub, Int.reduceMul]; rfl) (by decide) ?_
    | refine Wr.fit (by omega) ?_
    | refine Wr.fit (by dsimp only; omega) ?_
    | refine Elem.mk ⟨_, ⟨of_decide_eq_true rfl, rfl⟩, ?_⟩
    | refine Len.map ?_
    | refine Len.dropM ?_
    | refine Elem.dropM ?_
    | refine Len.takeM ?_
    | refine Elem.takeM ?_
    | refine Elem.mapK (by assumption) ?_
    | refine Elem.mapI (by omega) (by assumption) ?_
    | refine Elem.mapN (by omega) (fun x hx => ?_)
    | refine Elem.map (by omega) (by omega) (fun x hx => ?_)
    | refine (hp x).use ⟨rfl, ?_⟩
    | refine CallX.mk ⟨_, _, (hp x).x, rfl, ?_⟩
    | refine Done.mk ⟨rfl, rfl⟩
    | refine Done.mk ⟨congrArg gb ?_, rfl⟩
    | refine Done.mk ⟨?_, rfl⟩
    | refine Done.mk ⟨?_, ?_⟩)
  · rw [drop_of_get hx, idxFrom, if_pos h] at hr
    rw [hr]
  · rw [drop_of_get hx, idxFrom, if_neg (by simp [h])] at hr
    exact ⟨by omega, hr⟩
  · omega
  · rw [List.drop_eq_nil_of_le (by omega), idxFrom] at hr
    rw [← hr]
  · exact ⟨by omega, rfl⟩

/-- Where an order comes in. -/
def placeO (l : List Order) (id : Int) : Int := if idxFrom (laterO id) 0 l < 0 then l.length else idxFrom (laterO id) 0 l
def insO (l : List Order) (o : Order) : List Order := l.take (placeO l o.ID).toNat ++ (o :: l.drop (placeO l o.ID).toNat)
def addO (l : List Order) (o : Order) : List Order × Int := if 0 ≤ idxFrom (isOID o.ID) 0 l then ([], 11) else if 2000 ≤ (l.length : Int) then ([], 12) else (insO l o, 0)
def ordV (x : List Order × Int) : GV := .tup [.list 5 (orders x.1) none, gi x.2]
theorem placeO_fit (l : List Order) (id : Int) : 0 ≤ placeO l id ∧ placeO l id ≤ l.length := by
  unfold placeO
  split
  · omega
  · have := @idxO_get _ (laterO id) l 0 (by omega) (by omega)
    omega
theorem insO_len (l : List Order) (o : Order) : (insO l o).length = l.length + 1 := by
  have := placeO_fit l o.ID
  unfold insO; simp; omega

def pl_K12_5 : Nat → Option (List Nat × List Nat) := (fun k => bif Nat.beq k 10 then some ([1000010, 7, 40, 41, 42], [103, 130, 150]) else none)
def pl_K12_6 : Nat → Option (List Nat × List Nat) := (fun k => bif Nat.beq k 10 then some ([1000010, 7, 40, 41, 42], [103, 130, 150]) else none)
set_option maxRecDepth 100000 in
set_option maxHeartbeats 4000000 in
theorem orderAdd_ok (l : List Order) (o : Order) (hl : (l.length : Int) ≤ 1000000) (hp : Opens l) (ho : (o.Open.length : Int) ≤ 1000000) : ICalls Try.prog 51 [.list 5 (orders l) none, o.g] [] (Done (ordV (addO l o)) []) := by
  have h1 := orderAt_ok l o.ID (by omega)
  have h2 := idxOrderC_ok 88 o (laterO o.ID) (fun s => addC_ok s o) l (by omega)
  have h3 := concatOrd_ok [l.take (placeO l o.ID).toNat, [o], l.drop (placeO l o.ID).toNat] (by simp) (by simp; omega)
  have hfit := placeO_fit l o.ID
  rw [show [l.take (placeO l o.ID).toNat, [o], l.drop (placeO l o.ID).toNat].flatten = insO l o by unfold insO; simp, show orderss [l.take (placeO l o.ID).toNat, [o], l.drop (placeO l o.ID).toNat] = [.list 5 ((orders l).take (placeO l o.ID).toNat) none, .list 5 [o.g] none, .list 5 ((orders l).drop (placeO l o.ID).toNat) none] by simp [orders, List.map_take, List.map_drop]] at h3
  have hlen := insO_len l o
  have hown : ∀ (i : Nat) (x : Order), (insO l o)[i]? = some x → _ := fun i x hx => orderOwn_ok x (by
    have hm := List.mem_of_getElem? hx
    unfold insO at hm
    rcases List.mem_append.1 hm with hm | hm
    · exact hp x (List.mem_of_mem_take hm)
    · rcases List.mem_cons.1 hm with e | hm
      · rw [e]; exact ho
      · exact hp x (List.mem_of_mem_drop hm))
  unfold addO
  generalize hI : insO l o = I at *
  generalize idxFrom (isOID o.ID) 0 l = io at *
  unfold placeO at h3 hfit
  generalize idxFrom (laterO o.ID) 0 l = iv at *
  clear hp ho hI
  obtain ⟨oa, ob, oc, od, ol⟩ := o
  simp only at *
  by_cases hv : iv < 0
  case pos =>
    rw [if_pos hv] at h3 hfit
    refine ICalls.of_body Try.func51 rfl Try.call51 rfl (Nat.le_of_ble_eq_true rfl) pl_K12_5 rfl ?_
    repeat' ((conv => whnf); first
      | refine Br.yes rfl ?_
      | refine Br.no rfl ?_
      | (refine Need.mk (cap_need (by omega) (Nat.le_of_ble_eq_true rfl) (by omega)) ?_)
      | (refine Need.mk ⟨by omega, by rw [List.length_map]; omega⟩ ?_)
      | (refine Elem.mapN (by omega) (fun x hx => ?_))
      | (refine ILoop.ov 1000010 (fun ((i, g, k) : Nat × List GV × Nat) => [(42, gi i), (7, .list 5 g (some 130))]) (fun ((i, g, k) : Nat × List GV × Nat) => [(130, .vec 58 k)]) (fun ((i, g, k) : Nat × List GV × Nat) => (i ≤ I.length ∧ (k = g.length ∧ k ≤ i)) ∧ g = orders (I.take i)) (fun ((i, g, k) : Nat × List GV × Nat) => I.length - i) ((0, [], 0)) (by exact rfl) ?_; (conv => whnf); refine Start.mk rfl ?_ ?_; (try dsimp only); rotate_left; rintro ⟨i, g, k⟩ ⟨⟨hi, hk⟩, hg⟩)
      | (refine Again.mk ⟨((i + 1, _, _)), rfl, ?_, ?_⟩ <;> try dsimp only)
      | refine Br.yes (beq_self_eq_true _) ?_
      | refine Br.not ?_
      | refine Br.yes (decide_eq_true (by assumption)) ?_
      | refine Br.no (decide_eq_false (by assumption)) ?_
      | refine Br.yes (beq_iff_eq.2 (by assumption)) ?_
      | refine Br.no (beq_eq_false_iff_ne.2 (by assumption)) ?_
      | refine Br.yes (bne_iff_ne.2 (by assumption)) ?_
      | (refine Br.dec (fun h => ?_) (fun h => ?_) <;> try dsimp only at h)
      | (refine Br.beqI (fun h => ?_) (fun h => ?_) <;> try dsimp only at h)
      | (refine Br.bneI (fun h => ?_) (fun h => ?_) <;> try dsimp only at h)
      | refine Br.mk (fun h => ?_) (fun h => ?_)
      | refine Need.mk (app_need (by first | (simp only [List.length_append, List.length_map, List.length_nil, List.length_cons, List.nil_append, Nat.zero_add, Nat.add_zero]; done) | (simp only [List.length_append, List.length_map, List.length_nil, List.length_cons, List.nil_append, Nat.zero_add, Nat.add_zero]; omega) | omega) (Nat.le_of_ble_eq_true rfl) (by first | (simp only [List.length_append, List.length_map, List.length_nil, List.length_cons, List.nil_append, Nat.zero_add, Nat.add_zero]; done) | (simp only [List.length_append, List.length_map, List.length_nil, List.length_cons, List.nil_append, Nat.zero_add, Nat.add_zero]; omega) | omega)) ?_
      | refine Need.mk (app_need0 (Nat.le_of_ble_eq_true rfl) (by first | (simp only [List.length_append, List.length_map, List.length_nil, List.length_cons, List.nil_append, Nat.zero_add, Nat.add_zero]; done) | (simp only [List.length_append, List.length_map, List.length_nil, List.length_cons, List.nil_append, Nat.zero_add, Nat.add_zero]; omega) | omega)) ?_
      | refine Need.mk (app_needM rfl (Nat.le_of_ble_eq_true rfl) (by first | (simp only [List.length_append, List.length_map, List.length_nil, List.length_cons, List.nil_append, Nat.zero_add, Nat.add_zero]; done) | (simp only [List.length_append, List.length_map, List.length_nil, List.length_cons, List.nil_append, Nat.zero_add, Nat.add_zero]; omega) | omega)) ?_
      | refine Need.mk (zeros_need (by omega) (Nat.le_of_ble_eq_true rfl) (by omega)) ?_
      | refine Need.mk (by first | kernel_rfl | exact ⟨of_decide_eq_true rfl, of_decide_eq_true rfl⟩ | omega) ?_
      | refine Len.mk ⟨_, by simp only [List.length_cons, List.length_nil, Nat.reduceAdd, Int.cast_ofNat_Int]; rfl, ?_⟩
      | refine Wr.lit _ (by simp only [Int.reduceAdd, Int.reduceSub, Int.reduceMul]; rfl) (by decide) ?_
      | refine Wr.fit (by omega) ?_
      | refine Wr.fit (by dsimp only; omega) ?_
      | refine Elem.mk ⟨_, ⟨of_decide_eq_true rfl, rfl⟩, ?_⟩
      | refine Len.map ?_
      | refine Len.dropM ?_
      | refine Elem.dropM ?_
      | refine Len.takeM ?_
      | refine Elem.takeM ?_
      | refine Elem.mapK (by assumption) ?_
      | refine Elem.mapI (by omega) (by assumption) ?_
      | refine Elem.mapN (by omega) (fun x hx => ?_)
      | refine Elem.map (by omega) (by omega) (fun x hx => ?_)
      | refine (h1).use ⟨rfl, ?_⟩
      | refine (h2).use ⟨rfl, ?_⟩
      | refine (h3).use ⟨rfl, ?_⟩
      | refine (hown i x hx).use ⟨rfl, ?_⟩
      | refine CallX.mk ⟨_, _, (h1).x, rfl, ?_⟩
      | refine CallX.mk ⟨_, _, (h2).x, rfl, ?_⟩
      | refine CallX.mk ⟨_, _, (h3).x, rfl, ?_⟩
      | refine CallX.mk ⟨_, _, (hown i x hx).x, rfl, ?_⟩
      | refine Done.mk ⟨rfl, rfl⟩
      | refine Done.mk ⟨congrArg gb ?_, rfl⟩
      | refine Done.mk ⟨?_, rfl⟩
      | refine Done.mk ⟨?_, ?_⟩)
    all_goals first
      | omega
      | (rw [if_pos (by assumption)]; rfl)
      | (rw [if_neg (by assumption), if_pos (by assumption)]; rfl)
      | (rw [if_neg (by assumption), if_neg (by assumption), hg, List.take_of_length_le (by omega)]; rfl)
      | exact ⟨⟨by omega, by simp; omega, by simp; omega⟩, by rw [hg, take_nextK hx]; simp; rfl⟩
      | exact ⟨⟨Nat.zero_le _, rfl, Nat.le_refl _⟩, rfl⟩
  case neg =>
    rw [if_neg hv] at h3 hfit
    refine ICalls.of_body Try.func51 rfl Try.call51 rfl (Nat.le_of_ble_eq_true rfl) pl_K12_6 rfl ?_
    repeat' ((conv => whnf); first
      | refine Br.yes rfl ?_
      | refine Br.no rfl ?_
      | (refine Need.mk (cap_need (by omega) (Nat.le_of_ble_eq_true rfl) (by omega)) ?_)
      | (refine Need.mk ⟨by omega, by rw [List.length_map]; omega⟩ ?_)
      | (refine Elem.mapN (by omega) (fun x hx => ?_))
      | (refine ILoop.ov 1000010 (fun ((i, g, k) : Nat × List GV × Nat) => [(42, gi i), (7, .list 5 g (some 130))]) (fun ((i, g, k) : Nat × List GV × Nat) => [(130, .vec 58 k)]) (fun ((i, g, k) : Nat × List GV × Nat) => (i ≤ I.length ∧ (k = g.length ∧ k ≤ i)) ∧ g = orders (I.take i)) (fun ((i, g, k) : Nat × List GV × Nat) => I.length - i) ((0, [], 0)) (by exact rfl) ?_; (conv => whnf); refine Start.mk rfl ?_ ?_; (try dsimp only); rotate_left; rintro ⟨i, g, k⟩ ⟨⟨hi, hk⟩, hg⟩)
      | (refine Again.mk ⟨((i + 1, _, _)), rfl, ?_, ?_⟩ <;> try dsimp only)
      | refine Br.yes (beq_self_eq_true _) ?_
      | refine Br.not ?_
      | refine Br.yes (decide_eq_true (by assumption)) ?_
      | refine Br.no (decide_eq_false (by assumption)) ?_
      | refine Br.yes (beq_iff_eq.2 (by assumption)) ?_
      | refine Br.no (beq_eq_false_iff_ne.2 (by assumption)) ?_
      | refine Br.yes (bne_iff_ne.2 (by assumption)) ?_
      | (refine Br.dec (fun h => ?_) (fun h => ?_) <;> try dsimp only at h)
      | (refine Br.beqI (fun h => ?_) (fun h => ?_) <;> try dsimp only at h)
      | (refine Br.bneI (fun h => ?_) (fun h => ?_) <;> try dsimp only at h)
      | refine Br.mk (fun h => ?_) (fun h => ?_)
      | refine Need.mk (app_need (by first | (simp only [List.length_append, List.length_map, List.length_nil, List.length_cons, List.nil_append, Nat.zero_add, Nat.add_zero]; done) | (simp only [List.length_append, List.length_map, List.length_nil, List.length_cons, List.nil_append, Nat.zero_add, Nat.add_zero]; omega) | omega) (Nat.le_of_ble_eq_true rfl) (by first | (simp only [List.length_append, List.length_map, List.length_nil, List.length_cons, List.nil_append, Nat.zero_add, Nat.add_zero]; done) | (simp only [List.length_append, List.length_map, List.length_nil, List.length_cons, List.nil_append, Nat.zero_add, Nat.add_zero]; omega) | omega)) ?_
      | refine Need.mk (app_need0 (Nat.le_of_ble_eq_true rfl) (by first | (simp only [List.length_append, List.length_map, List.length_nil, List.length_cons, List.nil_append, Nat.zero_add, Nat.add_zero]; done) | (simp only [List.length_append, List.length_map, List.length_nil, List.length_cons, List.nil_append, Nat.zero_add, Nat.add_zero]; omega) | omega)) ?_
      | refine Need.mk (app_needM rfl (Nat.le_of_ble_eq_true rfl) (by first | (simp only [List.length_append, List.length_map, List.length_nil, List.length_cons, List.nil_append, Nat.zero_add, Nat.add_zero]; done) | (simp only [List.length_append, List.length_map, List.length_nil, List.length_cons, List.nil_append, Nat.zero_add, Nat.add_zero]; omega) | omega)) ?_
      | refine Need.mk (zeros_need (by omega) (Nat.le_of_ble_eq_true rfl) (by omega)) ?_
      | refine Need.mk (by first | kernel_rfl | exact ⟨of_decide_eq_true rfl, of_decide_eq_true rfl⟩ | omega) ?_
      | refine Len.mk ⟨_, by simp only [List.length_cons, List.length_nil, Nat.reduceAdd, Int.cast_ofNat_Int]; rfl, ?_⟩
      | refine Wr.lit _ (by simp only [Int.reduceAdd, Int.reduceSub, Int.reduceMul]; rfl) (by decide) ?_
      | refine Wr.fit (by omega) ?_
      | refine Wr.fit (by dsimp only; omega) ?_
      | refine Elem.mk ⟨_, ⟨of_decide_eq_true rfl, rfl⟩, ?_⟩
      | refine Len.map ?_
      | refine Len.dropM ?_
      | refine Elem.dropM ?_
      | refine Len.takeM ?_
      | refine Elem.takeM ?_
      | refine Elem.mapK (by assumption) ?_
      | refine Elem.mapI (by omega) (by assumption) ?_
      | refine Elem.mapN (by omega) (fun x hx => ?_)
      | refine Elem.map (by omega) (by omega) (fun x hx => ?_)
      | refine (h1).use ⟨rfl, ?_⟩
      | refine (h2).use ⟨rfl, ?_⟩
      | refine (h3).use ⟨rfl, ?_⟩
      | refine (hown i x hx).use ⟨rfl, ?_⟩
      | refine CallX.mk ⟨_, _, (h1).x, rfl, ?_⟩
      | refine CallX.mk ⟨_, _, (h2).x, rfl, ?_⟩
      | refine CallX.mk ⟨_, _, (h3).x, rfl, ?_⟩
      | refine CallX.mk ⟨_, _, (hown i x hx).x, rfl, ?_⟩
      | refine Done.mk ⟨rfl, rfl⟩
      | refine Done.mk ⟨congrArg gb ?_, rfl⟩
      | refine Done.mk ⟨?_, rfl⟩
      | refine Done.mk ⟨?_, ?_⟩)
    all_goals first
      | omega
      | (rw [if_pos (by assumption)]; rfl)
      | (rw [if_neg (by assumption), if_pos (by assumption)]; rfl)
      | (rw [if_neg (by assumption), if_neg (by assumption), hg, List.take_of_length_le (by omega)]; rfl)
      | exact ⟨⟨by omega, by simp; omega, by simp; omega⟩, by rw [hg, take_nextK hx]; simp; rfl⟩
      | exact ⟨⟨Nat.zero_le _, rfl, Nat.le_refl _⟩, rfl⟩

/-! ### One less -/
def dropO (l : List Order) (id : Int) : List Order × Int := if idxFrom (isOID id) 0 l < 0 then ([], 13) else (l.eraseIdx (idxFrom (isOID id) 0 l).toNat, 0)
/-- The orders up to a place, without the one at another place. -/
theorem erase_step {l : List Order} {i k : Nat} {x : Order} (hx : l[i]? = some x) (h : i ≠ k) : (l.take (i + 1)).eraseIdx k = (l.take i).eraseIdx k ++ [x] := by
  rw [take_nextK hx]
  by_cases hk : k < i
  · rw [List.eraseIdx_append_of_lt_length (by rw [List.length_take]; have := (List.getElem?_eq_some_iff.1 hx).1; omega)]
  · rw [List.eraseIdx_of_length_le (by simp; omega), List.eraseIdx_of_length_le (by simp; omega)]
theorem erase_skip {l : List Order} {i : Nat} {x : Order} (hx : l[i]? = some x) : (l.take (i + 1)).eraseIdx i = (l.take i).eraseIdx i := by
  have hi := (List.getElem?_eq_some_iff.1 hx).1
  rw [take_nextK hx, List.eraseIdx_append_of_length_le (by simp; omega), List.eraseIdx_of_length_le (k := i) (by simp; omega)]
  have : i - (l.take i).length = 0 := by simp; omega
  rw [this]; simp

def pl_K12_7 : Nat → Option (List Nat × List Nat) := (fun k => bif Nat.beq k 6 then some ([1000006, 6, 7, 15, 16, 17], [107, 129]) else none)
set_option maxRecDepth 100000 in
set_option maxHeartbeats 2000000 in
theorem orderDrop_ok (l : List Order) (id : Int) (hl : (l.length : Int) ≤ 1000000) (hp : Opens l) : ICalls Try.prog 52 [.list 5 (orders l) none, gi id] [] (Done (ordV (dropO l id)) []) := by
  have h1 := orderAt_ok l id (by omega)
  have hown : ∀ (i : Nat) (x : Order), l[i]? = some x → _ := fun i x hx => orderOwn_ok x (hp x (List.mem_of_getElem? hx))
  unfold dropO
  generalize idxFrom (isOID id) 0 l = ix at *
  refine ICalls.of_body Try.func52 rfl Try.call52 rfl (Nat.le_of_ble_eq_true rfl) pl_K12_7 rfl ?_
  repeat' ((conv => whnf); first
    | refine Br.yes rfl ?_
    | refine Br.no rfl ?_
    | (refine Elem.mapN (by omega) (fun x hx => ?_))
    | (refine ILoop.ov 1000006 (fun ((g, i, n) : List GV × Nat × Nat) => [(17, gi i), (7, .list 5 g (some 107))]) (fun ((g, i, n) : List GV × Nat × Nat) => [(107, .vec 58 n)]) (fun ((g, i, n) : List GV × Nat × Nat) => (i ≤ l.length ∧ (n = g.length ∧ n ≤ i)) ∧ g = orders ((l.take i).eraseIdx ix.toNat)) (fun ((g, i, n) : List GV × Nat × Nat) => l.length - i) (([], 0, 0)) (by exact rfl) ?_; (conv => whnf); refine Start.mk rfl ?_ ?_; (try dsimp only); rotate_left; rintro ⟨g, i, n⟩ ⟨⟨hi, hn⟩, hg⟩)
    | (refine Again.mk ⟨((_, i + 1, _)), rfl, ?_, ?_⟩ <;> try dsimp only)
    | refine Br.yes (beq_self_eq_true _) ?_
    | refine Br.not ?_
    | refine Br.yes (decide_eq_true (by assumption)) ?_
    | refine Br.no (decide_eq_false (by assumption)) ?_
    | refine Br.yes (beq_iff_eq.2 (by assumption)) ?_
    | refine Br.no (beq_eq_false_iff_ne.2 (by assumption)) ?_
    | refine Br.yes (bne_iff_ne.2 (by assumption)) ?_
    | (refine Br.dec (fun h => ?_) (fun h => ?_) <;> try dsimp only at h)
    | (refine Br.beqI (fun h => ?_) (fun h => ?_) <;> try dsimp only at h)
    | (refine Br.bneI (fun h => ?_) (fun h => ?_) <;> try dsimp only at h)
    | refine Br.mk (fun h => ?_) (fun h => ?_)
    | refine Need.mk (app_need (by first | (simp only [List.length_append, List.length_map, List.length_nil, List.length_cons, List.nil_append, Nat.zero_add, Nat.add_zero]; done) | (simp only [List.length_append, List.length_map, List.length_nil, List.length_cons, List.nil_append, Nat.zero_add, Nat.add_zero]; omega) | omega) (Nat.le_of_ble_eq_true rfl) (by first | (simp only [List.length_append, List.length_map, List.length_nil, List.length_cons, List.nil_append, Nat.zero_add, Nat.add_zero]; done) | (simp only [List.length_append, List.length_map, List.length_nil, List.length_cons, List.nil_append, Nat.zero_add, Nat.add_zero]; omega) | omega)) ?_
    | refine Need.mk (app_need0 (Nat.le_of_ble_eq_true rfl) (by first | (simp only [List.length_append, List.length_map, List.length_nil, List.length_cons, List.nil_append, Nat.zero_add, Nat.add_zero]; done) | (simp only [List.length_append, List.length_map, List.length_nil, List.length_cons, List.nil_append, Nat.zero_add, Nat.add_zero]; omega) | omega)) ?_
    | refine Need.mk (app_needM rfl (Nat.le_of_ble_eq_true rfl) (by first | (simp only [List.length_append, List.length_map, List.length_nil, List.length_cons, List.nil_append, Nat.zero_add, Nat.add_zero]; done) | (simp only [List.length_append, List.length_map, List.length_nil, List.length_cons, List.nil_append, Nat.zero_add, Nat.add_zero]; omega) | omega)) ?_
    | refine Need.mk (zeros_need (by omega) (Nat.le_of_ble_eq_true rfl) (by omega)) ?_
    | refine Need.mk (by first | kernel_rfl | exact ⟨of_decide_eq_true rfl, of_decide_eq_true rfl⟩ | omega) ?_
    | refine Len.mk ⟨_, by simp only [List.length_cons, List.length_nil, Nat.reduceAdd, Int.cast_ofNat_Int]; rfl, ?_⟩
    | refine Wr.lit _ (by simp only [Int.reduceAdd, Int.reduceSub, Int.reduceMul]; rfl) (by decide) ?_
    | refine Wr.fit (by omega) ?_
    | refine Wr.fit (by dsimp only; omega) ?_
    | refine Elem.mk ⟨_, ⟨of_decide_eq_true rfl, rfl⟩, ?_⟩
    | refine Len.map ?_
    | refine Len.dropM ?_
    | refine Elem.dropM ?_
    | refine Len.takeM ?_
    | refine Elem.takeM ?_
    | refine Elem.mapK (by assumption) ?_
    | refine Elem.mapI (by omega) (by assumption) ?_
    | refine Elem.mapN (by omega) (fun x hx => ?_)
    | refine Elem.map (by omega) (by omega) (fun x hx => ?_)
    | refine (h1).use ⟨rfl, ?_⟩
    | refine (hown i x hx).use ⟨rfl, ?_⟩
    | refine CallX.mk ⟨_, _, (h1).x, rfl, ?_⟩
    | refine CallX.mk ⟨_, _, (hown i x hx).x, rfl, ?_⟩
    | refine Done.mk ⟨rfl, rfl⟩
    | refine Done.mk ⟨congrArg gb ?_, rfl⟩
    | refine Done.mk ⟨?_, rfl⟩
    | refine Done.mk ⟨?_, ?_⟩)
  all_goals first
    | omega
    | (rw [if_pos (by assumption)]; rfl)
    | (rw [if_neg (by omega), hg, List.take_of_length_le (by omega)]; rfl)
    | exact ⟨⟨by omega, by simp; omega, by simp; omega⟩, by rw [hg, erase_step hx (by omega)]; simp; rfl⟩
    | exact ⟨⟨by omega, by omega, by omega⟩, by rw [hg, show ix.toNat = i by omega, erase_skip hx]⟩
    | exact ⟨⟨Nat.zero_le _, rfl, Nat.le_refl _⟩, by simp⟩

end Go.Hl

/- Chapters 28, 30: orders added and dropped, by the reference; yards with more orders, or less.  -/
set_option linter.unusedVariables false
set_option linter.unusedSimpArgs false
namespace Go.Hl
open Go.Gh Go.Proofs

/-- An order put in ahead of the first one with a greater ID. -/
def insR (o : Order) : List Order → Bool → List Order
  | [], dn => if dn = true then [] else [o]
  | x :: t, dn => if dn = false ∧ o.ID < x.ID then o :: x :: insR o t true else x :: insR o t dn
end Go.Hl

/- Chapter 30: yards with an order more, or with orders less.  -/
set_option linter.unusedVariables false
set_option linter.unusedSimpArgs false
namespace Go.Hl
open Go.Gh Go.Proofs

def addE (d : Depot) (o : Order) : Int := if orderErr o d.Ways.length ≠ 0 then orderErr o d.Ways.length else (addO d.Orders o).2
def addD (d : Depot) (o : Order) : Depot := ⟨d.Book, d.Ways, (addO d.Orders o).1, d.Trucks⟩
theorem addE_0 {d : Depot} {o : Order} (h : addE d o = 0) : orderErr o d.Ways.length = 0 ∧ (addO d.Orders o).2 = 0 := by
  unfold addE at h
  split at h
  · rename_i h1; exact absurd h h1
  · rename_i h1; exact ⟨by simpa using h1, h⟩

def pl_K14_1 : Nat → Option (List Nat × List Nat) := (fun k => bif Nat.beq k 4000000 then some ([148], []) else none)
/-! ### Less orders -/
def dropsO : List Order → List Int → List Order × Int
  | l, [] => (l, 0)
  | l, id :: t => if (dropO l id).2 ≠ 0 then ([], 10) else dropsO (dropO l id).1 t
theorem drops_bad {l : List Order} {ids : List Int} {i : Nat} {id : Int} {R : List Order × Int} (hx : ids[i]? = some id) (hr : dropsO l (ids.drop i) = R) (h : ¬ (dropO l id).2 = 0) : R = ([], 10) := by
  rw [drop_of_get hx, dropsO, if_pos h] at hr; exact hr.symm
theorem drops_go {l : List Order} {ids : List Int} {i : Nat} {id : Int} {R : List Order × Int} (hx : ids[i]? = some id) (hr : dropsO l (ids.drop i) = R) (h : (dropO l id).2 = 0) : dropsO (dropO l id).1 (ids.drop (i + 1)) = R := by
  rw [drop_of_get hx, dropsO, if_neg (by simp [h])] at hr; exact hr
theorem drops_end {l : List Order} {ids : List Int} {i : Nat} {R : List Order × Int} (hi : ¬ (i : Int) < ids.length) (hr : dropsO l (ids.drop i) = R) : R = (l, 0) := by
  rw [List.drop_eq_nil_of_le (by omega), dropsO] at hr; exact hr.symm
theorem dropO_fits {l : List Order} {id : Int} (hl : (l.length : Int) ≤ 1000000) (hp : Opens l) : ((dropO l id).1.length : Int) ≤ 1000000 ∧ Opens (dropO l id).1 := by
  unfold dropO
  split
  · exact ⟨by decide, fun o h => by cases h⟩
  · refine ⟨?_, fun o h => hp o (List.mem_of_mem_eraseIdx h)⟩
    have := List.length_eraseIdx_le l (idxFrom (isOID id) 0 l).toNat
    simp only; omega
def dropD (d : Depot) (ids : List Int) : Depot := ⟨d.Book, d.Ways, (dropsO d.Orders ids).1, d.Trucks⟩

def pl_K14_2 : Nat → Option (List Nat × List Nat) := (fun k => bif Nat.beq k 5 then some ([1000005, 0, 6, 17, 18, 19], [0, 106]) else bif Nat.beq k 4000000 then some ([141], []) else none)
def pl_K14_3 : Nat → Option (List Nat × List Nat) := (fun k => bif Nat.beq k 5 then some ([1000005, 0, 6, 17, 18, 19], [0, 106]) else none)
def pl_K14_4 : Nat → Option (List Nat × List Nat) := (fun k => bif Nat.beq k 5 then some ([1000005, 0, 6, 17, 18, 19], [106]) else none)
end Go.Hl
