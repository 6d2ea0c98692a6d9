/- Contracts of functions, bundle K15; proved for whatever the arguments' types allow, as each theorem says. -/
import Derived.Test.YtoofplbjpkgdgaaGreatK12

/- Chapter 30: yards whose trucks' pasts go on.  -/
set_option linter.unusedVariables false
set_option linter.unusedSimpArgs false
namespace Go.Hl
open Go.Gh Go.Proofs

def pl_K15_1 : Nat → Option (List Nat × List Nat) := (fun k => bif Nat.beq k 5000005 then some ([], []) else bif Nat.beq k 4000000 then some ([105], []) else none)
set_option maxRecDepth 100000 in
theorem cloneTrk_ok (s : Truck) (r : List Truck) (hl : (r.length : Int) ≤ 1000000000) :
    ICalls Tryz.prog 124 [.list 6 (trucks (s :: r)) none] [] (Done (.ms 6 0 1 (s :: r).length) [.mvec 48 6 (trucks (s :: r)) 1]) := by
  refine ICalls.of_body Tryz.func124 rfl Tryz.call124 rfl (Nat.le_of_ble_eq_true rfl) pl_K15_1 rfl ?_
  repeat' ((conv => whnf); first
    | refine Br.yes rfl ?_
    | refine Br.no rfl ?_
    | refine Br.yes (beq_self_eq_true _) ?_
    | refine Br.not ?_
    | refine Br.yes (decide_eq_true (by assumption)) ?_
    | refine Br.no (decide_eq_false (by assumption)) ?_
    | refine Br.yes (beq_iff_eq.2 (by assumption)) ?_
    | refine Br.no (beq_eq_false_iff_ne.2 (by assumption)) ?_
    | refine Br.yes (bne_iff_ne.2 (by assumption)) ?_
    | (refine Br.dec (fun h => ?_) (fun h => ?_) <;> try dsimp only at h)
    | (refine Br.beqI (fun h => ?_) (fun h => ?_) <;> try dsimp only at h)
    | (refine Br.bneI (fun h => ?_) (fun h => ?_) <;> try dsimp only at h)
    | refine Br.mk (fun h => ?_) (fun h => ?_)
    | refine Need.mk (app_need (by first | (simp only [List.length_append, List.length_map, List.length_nil, List.length_cons, List.nil_append, Nat.zero_add, Nat.add_zero]; done) | (simp only [List.length_append, List.length_map, List.length_nil, List.length_cons, List.nil_append, Nat.zero_add, Nat.add_zero]; omega) | omega) (Nat.le_of_ble_eq_true rfl) (by first | (simp only [List.length_append, List.length_map, List.length_nil, List.length_cons, List.nil_append, Nat.zero_add, Nat.add_zero]; done) | (simp only [List.length_append, List.length_map, List.length_nil, List.length_cons, List.nil_append, Nat.zero_add, Nat.add_zero]; omega) | omega)) ?_
    | refine Need.mk (app_need0 (Nat.le_of_ble_eq_true rfl) (by first | (simp only [List.length_append, List.length_map, List.length_nil, List.length_cons, List.nil_append, Nat.zero_add, Nat.add_zero]; done) | (simp only [List.length_append, List.length_map, List.length_nil, List.length_cons, List.nil_append, Nat.zero_add, Nat.add_zero]; omega) | omega)) ?_
    | refine Need.mk (app_needM rfl (Nat.le_of_ble_eq_true rfl) (by first | (simp only [List.length_append, List.length_map, List.length_nil, List.length_cons, List.nil_append, Nat.zero_add, Nat.add_zero]; done) | (simp only [List.length_append, List.length_map, List.length_nil, List.length_cons, List.nil_append, Nat.zero_add, Nat.add_zero]; omega) | omega)) ?_
    | refine Need.mk (zeros_need (by omega) (Nat.le_of_ble_eq_true rfl) (by omega)) ?_
    | refine Need.mk (by first | kernel_rfl | exact ⟨of_decide_eq_true rfl, of_decide_eq_true rfl⟩ | omega) ?_
    | refine Len.mk ⟨_, by simp only [List.length_cons, List.length_nil, Nat.reduceAdd, Int.cast_ofNat_Int]; rfl, ?_⟩
    | refine Wr.lit _ (by simp only [Int.reduceAdd, Int.reduceSub, Int.reduceMul]; rfl) (by decide) ?_
    | refine Wr.fit (by omega) ?_
    | refine Wr.fit (by dsimp only; omega) ?_
    | refine Elem.mk ⟨_, ⟨of_decide_eq_true rfl, rfl⟩, ?_⟩
    | refine Len.map ?_
    | refine Len.dropM ?_
    | refine Elem.dropM ?_
    | refine Len.takeM ?_
    | refine Elem.takeM ?_
    | refine Elem.mapK (by assumption) ?_
    | refine Elem.mapI (by omega) (by assumption) ?_
    | refine Elem.mapN (by omega) (fun x hx => ?_)
    | refine Elem.map (by omega) (by omega) (fun x hx => ?_)
    | refine Done.mk ⟨rfl, rfl⟩
    | refine Done.mk ⟨congrArg gb ?_, rfl⟩
    | refine Done.mk ⟨?_, rfl⟩
    | refine Done.mk ⟨?_, ?_⟩)
  all_goals exact congrArg (GV.ms 6 0 1) (show 0 + (trucks (s :: r)).length = (s :: r).length by simp)
set_option maxRecDepth 100000 in
theorem cloneTrkN_ok : ICalls Tryz.prog 124 ([] ++ .v (.slice none 0 0) :: []) [] (Done (.list 6 (trucks []) none) []) := by
  refine ICalls.of_body Tryz.func124 rfl Tryz.call124 rfl (Nat.le_of_ble_eq_true rfl) (fun _ => none) rfl ?_
  repeat' ((conv => whnf); first
    | refine Br.yes rfl ?_
    | refine Br.no rfl ?_
    | refine Br.yes (beq_self_eq_true _) ?_
    | refine Br.not ?_
    | refine Br.yes (decide_eq_true (by assumption)) ?_
    | refine Br.no (decide_eq_false (by assumption)) ?_
    | refine Br.yes (beq_iff_eq.2 (by assumption)) ?_
    | refine Br.no (beq_eq_false_iff_ne.2 (by assumption)) ?_
    | refine Br.yes (bne_iff_ne.2 (by assumption)) ?_
    | (refine Br.dec (fun h => ?_) (fun h => ?_) <;> try dsimp only at h)
    | (refine Br.beqI (fun h => ?_) (fun h => ?_) <;> try dsimp only at h)
    | (refine Br.bneI (fun h => ?_) (fun h => ?_) <;> try dsimp only at h)
    | refine Br.mk (fun h => ?_) (fun h => ?_)
    | refine Need.mk (app_need (by first | (simp only [List.length_append, List.length_map, List.length_nil, List.length_cons, List.nil_append, Nat.zero_add, Nat.add_zero]; done) | (simp only [List.length_append, List.length_map, List.length_nil, List.length_cons, List.nil_append, Nat.zero_add, Nat.add_zero]; omega) | omega) (Nat.le_of_ble_eq_true rfl) (by first | (simp only [List.length_append, List.length_map, List.length_nil, List.length_cons, List.nil_append, Nat.zero_add, Nat.add_zero]; done) | (simp only [List.length_append, List.length_map, List.length_nil, List.length_cons, List.nil_append, Nat.zero_add, Nat.add_zero]; omega) | omega)) ?_
    | refine Need.mk (app_need0 (Nat.le_of_ble_eq_true rfl) (by first | (simp only [List.length_append, List.length_map, List.length_nil, List.length_cons, List.nil_append, Nat.zero_add, Nat.add_zero]; done) | (simp only [List.length_append, List.length_map, List.length_nil, List.length_cons, List.nil_append, Nat.zero_add, Nat.add_zero]; omega) | omega)) ?_
    | refine Need.mk (app_needM rfl (Nat.le_of_ble_eq_true rfl) (by first | (simp only [List.length_append, List.length_map, List.length_nil, List.length_cons, List.nil_append, Nat.zero_add, Nat.add_zero]; done) | (simp only [List.length_append, List.length_map, List.length_nil, List.length_cons, List.nil_append, Nat.zero_add, Nat.add_zero]; omega) | omega)) ?_
    | refine Need.mk (zeros_need (by omega) (Nat.le_of_ble_eq_true rfl) (by omega)) ?_
    | refine Need.mk (by first | kernel_rfl | exact ⟨of_decide_eq_true rfl, of_decide_eq_true rfl⟩ | omega) ?_
    | refine Len.mk ⟨_, by simp only [List.length_cons, List.length_nil, Nat.reduceAdd, Int.cast_ofNat_Int]; rfl, ?_⟩
    | refine Wr.lit _ (by simp only [Int.reduceAdd, Int.reduceSub, Int.reduceMul]; rfl) (by decide) ?_
    | refine Wr.fit (by omega) ?_
    | refine Wr.fit (by dsimp only; omega) ?_
    | refine Elem.mk ⟨_, ⟨of_decide_eq_true rfl, rfl⟩, ?_⟩
    | refine Len.map ?_
    | refine Len.dropM ?_
    | refine Elem.dropM ?_
    | refine Len.takeM ?_
    | refine Elem.takeM ?_
    | refine Elem.mapK (by assumption) ?_
    | refine Elem.mapI (by omega) (by assumption) ?_
    | refine Elem.mapN (by omega) (fun x hx => ?_)
    | refine Elem.map (by omega) (by omega) (fun x hx => ?_)
    | refine Done.mk ⟨rfl, rfl⟩
    | refine Done.mk ⟨congrArg gb ?_, rfl⟩
    | refine Done.mk ⟨?_, rfl⟩
    | refine Done.mk ⟨?_, ?_⟩)
def pl_K15_2 : Nat → Option (List Nat × List Nat) := (fun k => bif Nat.beq k 5000005 then some ([], []) else bif Nat.beq k 6000002 then some ([], []) else none)
set_option maxRecDepth 100000 in
theorem cloneTrkE_ok : ICalls Tryz.prog 124 ([] ++ .emp :: []) [] (Done (.list 6 (trucks []) none) []) := by
  refine ICalls.of_body Tryz.func124 rfl Tryz.call124 rfl (Nat.le_of_ble_eq_true rfl) pl_K15_2 rfl ?_
  repeat' ((conv => whnf); first
    | refine Br.yes rfl ?_
    | refine Br.no rfl ?_
    | refine Br.yes (beq_self_eq_true _) ?_
    | refine Br.not ?_
    | refine Br.yes (decide_eq_true (by assumption)) ?_
    | refine Br.no (decide_eq_false (by assumption)) ?_
    | refine Br.yes (beq_iff_eq.2 (by assumption)) ?_
    | refine Br.no (beq_eq_false_iff_ne.2 (by assumption)) ?_
    | refine Br.yes (bne_iff_ne.2 (by assumption)) ?_
    | (refine Br.dec (fun h => ?_) (fun h => ?_) <;> try dsimp only at h)
    | (refine Br.beqI (fun h => ?_) (fun h => ?_) <;> try dsimp only at h)
    | (refine Br.bneI (fun h => ?_) (fun h => ?_) <;> try dsimp only at h)
    | refine Br.mk (fun h => ?_) (fun h => ?_)
    | refine Need.mk (app_need (by first | (simp only [List.length_append, List.length_map, List.length_nil, List.length_cons, List.nil_append, Nat.zero_add, Nat.add_zero]; done) | (simp only [List.length_append, List.length_map, List.length_nil, List.length_cons, List.nil_append, Nat.zero_add, Nat.add_zero]; omega) | omega) (Nat.le_of_ble_eq_true rfl) (by first | (simp only [List.length_append, List.length_map, List.length_nil, List.length_cons, List.nil_append, Nat.zero_add, Nat.add_zero]; done) | (simp only [List.length_append, List.length_map, List.length_nil, List.length_cons, List.nil_append, Nat.zero_add, Nat.add_zero]; omega) | omega)) ?_
    | refine Need.mk (app_need0 (Nat.le_of_ble_eq_true rfl) (by first | (simp only [List.length_append, List.length_map, List.length_nil, List.length_cons, List.nil_append, Nat.zero_add, Nat.add_zero]; done) | (simp only [List.length_append, List.length_map, List.length_nil, List.length_cons, List.nil_append, Nat.zero_add, Nat.add_zero]; omega) | omega)) ?_
    | refine Need.mk (app_needM rfl (Nat.le_of_ble_eq_true rfl) (by first | (simp only [List.length_append, List.length_map, List.length_nil, List.length_cons, List.nil_append, Nat.zero_add, Nat.add_zero]; done) | (simp only [List.length_append, List.length_map, List.length_nil, List.length_cons, List.nil_append, Nat.zero_add, Nat.add_zero]; omega) | omega)) ?_
    | refine Need.mk (zeros_need (by omega) (Nat.le_of_ble_eq_true rfl) (by omega)) ?_
    | refine Need.mk (by first | kernel_rfl | exact ⟨of_decide_eq_true rfl, of_decide_eq_true rfl⟩ | omega) ?_
    | refine Len.mk ⟨_, by simp only [List.length_cons, List.length_nil, Nat.reduceAdd, Int.cast_ofNat_Int]; rfl, ?_⟩
    | refine Wr.lit _ (by simp only [Int.reduceAdd, Int.reduceSub, Int.reduceMul]; rfl) (by decide) ?_
    | refine Wr.fit (by omega) ?_
    | refine Wr.fit (by dsimp only; omega) ?_
    | refine Elem.mk ⟨_, ⟨of_decide_eq_true rfl, rfl⟩, ?_⟩
    | refine Len.map ?_
    | refine Len.dropM ?_
    | refine Elem.dropM ?_
    | refine Len.takeM ?_
    | refine Elem.takeM ?_
    | refine Elem.mapK (by assumption) ?_
    | refine Elem.mapI (by omega) (by assumption) ?_
    | refine Elem.mapN (by omega) (fun x hx => ?_)
    | refine Elem.map (by omega) (by omega) (fun x hx => ?_)
    | refine Done.mk ⟨rfl, rfl⟩
    | refine Done.mk ⟨congrArg gb ?_, rfl⟩
    | refine Done.mk ⟨?_, rfl⟩
    | refine Done.mk ⟨?_, ?_⟩)
theorem cloneTrk0_ok : ICalls Tryz.prog 124 [.list 6 (trucks []) none] [] (Done (.list 6 (trucks []) none) []) :=
  ICalls.nils (a := []) (b := []) cloneTrkN_ok cloneTrkE_ok

/-! ### A truck, turned -/
def moreF (at0 : Int) (r : List Rec) (i : Int) (t : Truck) : Truck × Int := if i ≠ at0 then (t, 0) else moreV t (t.Past ++ r)
def restF (m : Int) (t : Truck) : Truck × Int := if pastErr t.Past ≠ 0 ∨ m ≤ endV t.Past then (t, pastErr t.Past) else restedV t m
set_option maxRecDepth 100000 in
set_option maxHeartbeats 1000000 in
theorem moreC_ok (at0 i : Int) (r : List Rec) (t : Truck) (ht : (t.Past.length : Int) ≤ 1000000) (hr : (r.length : Int) ≤ 1000000) : ICalls Tryz.prog 98 [gi i, t.g, .ptr 0 0, .ptr 1 0] [.cells [gi at0], .cells [.list 3 (recs r) none]] (Done (truckV (moreF at0 r i t)) [.cells [gi at0], .cells [.list 3 (recs r) none]]) := by
  have h1 := more_ok t r ht hr
  unfold moreF
  generalize moreV t (t.Past ++ r) = q at *
  obtain ⟨q1, q2⟩ := q
  obtain ⟨a, b, c, d, e, l⟩ := t
  refine ICalls.of_body Tryz.func98 rfl Tryz.call98 rfl (Nat.le_of_ble_eq_true rfl) (fun _ => none) rfl ?_
  repeat' ((conv => whnf); first
    | refine Br.yes rfl ?_
    | refine Br.no rfl ?_
    | refine Br.yes (beq_self_eq_true _) ?_
    | refine Br.not ?_
    | refine Br.yes (decide_eq_true (by assumption)) ?_
    | refine Br.no (decide_eq_false (by assumption)) ?_
    | refine Br.yes (beq_iff_eq.2 (by assumption)) ?_
    | refine Br.no (beq_eq_false_iff_ne.2 (by assumption)) ?_
    | refine Br.yes (bne_iff_ne.2 (by assumption)) ?_
    | (refine Br.dec (fun h => ?_) (fun h => ?_) <;> try dsimp only at h)
    | (refine Br.beqI (fun h => ?_) (fun h => ?_) <;> try dsimp only at h)
    | (refine Br.bneI (fun h => ?_) (fun h => ?_) <;> try dsimp only at h)
    | refine Br.mk (fun h => ?_) (fun h => ?_)
    | refine Need.mk (by first | kernel_rfl | exact ⟨of_decide_eq_true rfl, of_decide_eq_true rfl⟩ | omega) ?_
    | refine Len.mk ⟨_, by simp only [List.length_cons, List.length_nil, Nat.reduceAdd, Int.cast_ofNat_Int]; rfl, ?_⟩
    | refine Wr.lit _ (by simp only [Int.reduceAdd, Int.reduceSub, Int.reduceMul]; rfl) (by decide) ?_
    | refine Wr.fit (by omega) ?_
    | refine Wr.fit (by dsimp only; omega) ?_
    | refine Elem.mk ⟨_, ⟨of_decide_eq_true rfl, rfl⟩, ?_⟩
    | refine Len.map ?_
    | refine Len.dropM ?_
    | refine Elem.dropM ?_
    | refine Len.takeM ?_
    | refine Elem.takeM ?_
    | refine Elem.mapK (by assumption) ?_
    | refine Elem.mapI (by omega) (by assumption) ?_
    | refine Elem.mapN (by omega) (fun x hx => ?_)
    | refine Elem.map (by omega) (by omega) (fun x hx => ?_)
    | refine (h1).use ⟨rfl, ?_⟩
    | refine CallX.mk ⟨_, _, (h1).x, rfl, ?_⟩
    | refine Done.mk ⟨rfl, rfl⟩
    | refine Done.mk ⟨congrArg gb ?_, rfl⟩
    | refine Done.mk ⟨?_, rfl⟩
    | refine Done.mk ⟨?_, ?_⟩)
  all_goals first
    | omega
    | (rw [if_pos (by omega)]; rfl)
    | (rw [if_neg (by omega)]; rfl)
set_option maxRecDepth 100000 in
set_option maxHeartbeats 1000000 in
theorem restC_ok (m i : Int) (t : Truck) (ht : (t.Past.length : Int) ≤ 100000) : ICalls Tryz.prog 100 [gi m, gi i, t.g] [] (Done (truckV (restF m t)) []) := by
  have h1 := truckEnd_ok t (by omega)
  have h2 := rested_ok t m ht
  unfold restF
  generalize restedV t m = q at *
  obtain ⟨q1, q2⟩ := q
  generalize pastErr t.Past = pe at *
  generalize endV t.Past = ev at *
  obtain ⟨a, b, c, d, e, l⟩ := t
  refine ICalls.of_body Tryz.func100 rfl Tryz.call100 rfl (Nat.le_of_ble_eq_true rfl) (fun _ => none) rfl ?_
  repeat' ((conv => whnf); first
    | refine Br.yes rfl ?_
    | refine Br.no rfl ?_
    | refine Br.yes (beq_self_eq_true _) ?_
    | refine Br.not ?_
    | refine Br.yes (decide_eq_true (by assumption)) ?_
    | refine Br.no (decide_eq_false (by assumption)) ?_
    | refine Br.yes (beq_iff_eq.2 (by assumption)) ?_
    | refine Br.no (beq_eq_false_iff_ne.2 (by assumption)) ?_
    | refine Br.yes (bne_iff_ne.2 (by assumption)) ?_
    | (refine Br.dec (fun h => ?_) (fun h => ?_) <;> try dsimp only at h)
    | (refine Br.beqI (fun h => ?_) (fun h => ?_) <;> try dsimp only at h)
    | (refine Br.bneI (fun h => ?_) (fun h => ?_) <;> try dsimp only at h)
    | refine Br.mk (fun h => ?_) (fun h => ?_)
    | refine Need.mk (by first | kernel_rfl | exact ⟨of_decide_eq_true rfl, of_decide_eq_true rfl⟩ | omega) ?_
    | refine Len.mk ⟨_, by simp only [List.length_cons, List.length_nil, Nat.reduceAdd, Int.cast_ofNat_Int]; rfl, ?_⟩
    | refine Wr.lit _ (by simp only [Int.reduceAdd, Int.reduceSub, Int.reduceMul]; rfl) (by decide) ?_
    | refine Wr.fit (by omega) ?_
    | refine Wr.fit (by dsimp only; omega) ?_
    | refine Elem.mk ⟨_, ⟨of_decide_eq_true rfl, rfl⟩, ?_⟩
    | refine Len.map ?_
    | refine Len.dropM ?_
    | refine Elem.dropM ?_
    | refine Len.takeM ?_
    | refine Elem.takeM ?_
    | refine Elem.mapK (by assumption) ?_
    | refine Elem.mapI (by omega) (by assumption) ?_
    | refine Elem.mapN (by omega) (fun x hx => ?_)
    | refine Elem.map (by omega) (by omega) (fun x hx => ?_)
    | refine (h1).use ⟨rfl, ?_⟩
    | refine (h2).use ⟨rfl, ?_⟩
    | refine CallX.mk ⟨_, _, (h1).x, rfl, ?_⟩
    | refine CallX.mk ⟨_, _, (h2).x, rfl, ?_⟩
    | refine Done.mk ⟨rfl, rfl⟩
    | refine Done.mk ⟨congrArg gb ?_, rfl⟩
    | refine Done.mk ⟨?_, rfl⟩
    | refine Done.mk ⟨?_, ?_⟩)
  all_goals first
    | omega
    | (rw [if_pos (by omega)]; rfl)
    | (rw [if_neg (by omega)]; rfl)

/-! ### All trucks, turned -/
def turnE (F : Int → Truck → Truck × Int) : Int → List Truck → Int
  | _, [] => 0
  | i, t :: r => if (F i t).2 ≠ 0 then (F i t).2 else turnE F (i + 1) r
def turnL (F : Int → Truck → Truck × Int) : Int → List Truck → List Truck
  | _, [] => []
  | i, t :: r => (F i t).1 :: turnL F (i + 1) r
theorem turnL_len {F : Int → Truck → Truck × Int} : ∀ (l : List Truck) (i : Int), (turnL F i l).length = l.length
  | [], _ => rfl
  | t :: r, i => by rw [turnL, List.length_cons, turnL_len r]; rfl
/-- The trucks up to a place are turned. -/
structure TurnI (F : Int → Truck → Truck × Int) (l cur : List Truck) (i : Nat) : Prop where
  le : i ≤ l.length
  eq : cur = (turnL F 0 l).take i ++ l.drop i
theorem turnL_get {F : Int → Truck → Truck × Int} : ∀ (l : List Truck) (j : Int) (i : Nat) (t : Truck), l[i]? = some t → (turnL F j l)[i]? = some (F (j + i) t).1
  | x :: r, j, 0, t, h => by
    simp only [List.getElem?_cons_zero, Option.some.injEq] at h
    subst h
    rw [turnL]; simp
  | x :: r, j, i + 1, t, h => by
    simp only [List.getElem?_cons_succ] at h
    rw [turnL, List.getElem?_cons_succ, turnL_get r (j + 1) i t h, show j + 1 + (i : Int) = j + ((i + 1 : Nat) : Int) by omega]
theorem TurnI.get {F : Int → Truck → Truck × Int} {l cur : List Truck} {i : Nat} (h : TurnI F l cur i) : cur[i]? = l[i]? := by
  have h1 := h.le
  rw [h.eq, List.getElem?_append_right (by rw [List.length_take, turnL_len]; omega), List.length_take, turnL_len, Nat.min_eq_left h1, Nat.sub_self, List.getElem?_drop, Nat.add_zero]
theorem TurnI.len {F : Int → Truck → Truck × Int} {l cur : List Truck} {i : Nat} (h : TurnI F l cur i) : cur.length = l.length := by
  have h1 := h.le
  rw [h.eq]; simp [turnL_len]; omega
theorem TurnI.next {F : Int → Truck → Truck × Int} {l cur : List Truck} {i : Nat} {t : Truck} (h : TurnI F l cur i) (ht : l[i]? = some t) : TurnI F l (cur.set i (F i t).1) (i + 1) := by
  have hi := (List.getElem?_eq_some_iff.1 ht).1
  refine ⟨by omega, ?_⟩
  have hg := turnL_get (F := F) l 0 i t ht
  rw [Int.zero_add] at hg
  rw [h.eq, take_nextK hg, drop_of_get ht]
  have e : ((turnL F 0 l).take i).length = i := by rw [List.length_take, turnL_len]; omega
  rw [List.set_append_right _ _ (by omega), e, Nat.sub_self, List.set_cons_zero, List.append_assoc]
  rfl
theorem TurnI.start (F : Int → Truck → Truck × Int) (l : List Truck) : TurnI F l l 0 := ⟨Nat.zero_le _, by simp⟩
theorem TurnI.fin {F : Int → Truck → Truck × Int} {l cur : List Truck} {i : Nat} (h : TurnI F l cur i) (hi : ¬ (i : Int) < l.length) : cur = turnL F 0 l := by
  rw [h.eq, List.take_of_length_le (by rw [turnL_len]; omega), List.drop_eq_nil_of_le (by omega), List.append_nil]
theorem turnE_bad {F : Int → Truck → Truck × Int} {l : List Truck} {i : Nat} {t : Truck} {E : Int} (ht : l[i]? = some t) (hr : turnE F i (l.drop i) = E) (h : ¬ (F i t).2 = 0) : E = (F i t).2 := by
  rw [drop_of_get ht, turnE, if_pos h] at hr; exact hr.symm
theorem turnE_go {F : Int → Truck → Truck × Int} {l : List Truck} {i : Nat} {t : Truck} {E : Int} (ht : l[i]? = some t) (hr : turnE F i (l.drop i) = E) (h : (F i t).2 = 0) : turnE F (i + 1 : Nat) (l.drop (i + 1)) = E := by
  rw [drop_of_get ht, turnE, if_neg (by simp [h])] at hr; exact hr
theorem turnE_end {F : Int → Truck → Truck × Int} {l : List Truck} {i : Nat} {E : Int} (hi : ¬ (i : Int) < l.length) (hr : turnE F i (l.drop i) = E) : E = 0 := by
  rw [List.drop_eq_nil_of_le (by omega), turnE] at hr; exact hr.symm
def turnD (F : Int → Truck → Truck × Int) (d : Depot) : Depot := ⟨d.Book, d.Ways, d.Orders, turnL F 0 d.Trucks⟩
theorem trucks_set (l : List Truck) (i : Nat) (t : Truck) : (trucks l).set i t.g = trucks (l.set i t) := by simp [trucks, List.map_set]

def pl_K15_3 : Nat → Option (List Nat × List Nat) := (fun k => bif Nat.beq k 4 then some ([1000004, 1, 6, 20, 21], [0, 106, 116]) else bif Nat.beq k 4000000 then some ([145], []) else none)
def pl_K15_4 : Nat → Option (List Nat × List Nat) := (fun k => bif Nat.beq k 4 then some ([1000004, 1, 6, 20, 21], [0, 106, 116]) else bif Nat.beq k 7000011 then some ([106], [21]) else bif Nat.beq k 4000000 then some ([145], []) else none)
set_option maxRecDepth 100000 in
set_option maxHeartbeats 4000000 in
theorem withRest_ok (d : Depot) (ms : List Meter) (m : Int) (hd : d.Ok) (h5 : ∀ t, t ∈ d.Trucks → (t.Past.length : Int) ≤ 100000) (hD : (turnD (fun _ => restF m) d).Ok) (he : turnE (fun _ => restF m) 0 d.Trucks = 0) (hm : (metersV (turnD (fun _ => restF m) d)).2.2 = 0) :
    ICalls Tryz.prog 97 [.ptr 0 0, .fn (.func 100) [gi m] []] [.cells (yardC d ms)]
      (Done (.tup [.ptr 1 0, gi 0]) [.cells (yardC d ms), .cells (yardC (turnD (fun _ => restF m) d) (metersV (turnD (fun _ => restF m) d)).1)]) := by
  have h1 := fun (i : Nat) (t : Truck) (ht : d.Trucks[i]? = some t) => restC_ok m i t (h5 t (List.mem_of_getElem? ht))
  have h2 := yard_ok _ hD hm
  have htl := hd.tl
  generalize (metersV (turnD (fun _ => restF m) d)).1 = ms' at *
  obtain ⟨b, w, oo, l⟩ := d
  unfold turnD at *
  simp only at *
  clear hd hD hm h5
  show ICalls _ _ _ [.cells (b.c ++ [.list 1 (w.map rowG) none, .list 5 (oo.map Order.g) none, .list 6 (l.map Truck.g) none] ++ [.list 14 (ms.map Meter.g) none])] _
  cases l with
  | nil =>
    have h0 := cloneTrk0_ok
    refine ICalls.of_body Tryz.func97 rfl Tryz.call97 rfl (Nat.le_of_ble_eq_true rfl) pl_K15_3 rfl ?_
    repeat' ((conv => whnf); first
      | refine Br.yes rfl ?_
      | refine Br.no rfl ?_
      | (refine Len.map ?_)
      | refine Br.yes (beq_self_eq_true _) ?_
      | refine Br.not ?_
      | refine Br.yes (decide_eq_true (by assumption)) ?_
      | refine Br.no (decide_eq_false (by assumption)) ?_
      | refine Br.yes (beq_iff_eq.2 (by assumption)) ?_
      | refine Br.no (beq_eq_false_iff_ne.2 (by assumption)) ?_
      | refine Br.yes (bne_iff_ne.2 (by assumption)) ?_
      | (refine Br.dec (fun h => ?_) (fun h => ?_) <;> try dsimp only at h)
      | (refine Br.beqI (fun h => ?_) (fun h => ?_) <;> try dsimp only at h)
      | (refine Br.bneI (fun h => ?_) (fun h => ?_) <;> try dsimp only at h)
      | refine Br.mk (fun h => ?_) (fun h => ?_)
      | refine Need.mk (by first | kernel_rfl | exact ⟨of_decide_eq_true rfl, of_decide_eq_true rfl⟩ | omega) ?_
      | refine Len.mk ⟨_, by simp only [List.length_cons, List.length_nil, Nat.reduceAdd, Int.cast_ofNat_Int]; rfl, ?_⟩
      | refine Wr.lit _ (by simp only [Int.reduceAdd, Int.reduceSub, Int.reduceMul]; rfl) (by decide) ?_
      | refine Wr.fit (by omega) ?_
      | refine Wr.fit (by dsimp only; omega) ?_
      | refine Elem.mk ⟨_, ⟨of_decide_eq_true rfl, rfl⟩, ?_⟩
      | refine Len.map ?_
      | refine Len.dropM ?_
      | refine Elem.dropM ?_
      | refine Len.takeM ?_
      | refine Elem.takeM ?_
      | refine Elem.mapK (by assumption) ?_
      | refine Elem.mapI (by omega) (by assumption) ?_
      | refine Elem.mapN (by omega) (fun x hx => ?_)
      | refine Elem.map (by omega) (by omega) (fun x hx => ?_)
      | refine (h0).use ⟨rfl, ?_⟩
      | refine (h2).use ⟨rfl, ?_⟩
      | refine CallX.mk ⟨_, _, (h0).x, rfl, ?_⟩
      | refine CallX.mk ⟨_, _, (h2).x, rfl, ?_⟩
      | refine ILoop.unroll 2 ?_
      | refine Done.mk ⟨rfl, rfl⟩
      | refine Done.mk ⟨congrArg gb ?_, rfl⟩
      | refine Done.mk ⟨?_, rfl⟩
      | refine Done.mk ⟨?_, ?_⟩)
    all_goals first
      | omega
      | rfl
      | (simp at *; done)
      | trace_state
  | cons s r =>
    have h0 := cloneTrk_ok s r (by simp at htl; omega)
    generalize s :: r = l at *
    have h2c : ∀ cur, cur = turnL (fun _ => restF m) 0 l → ICalls Tryz.prog 42 [.agg (b.c ++ [.list 1 (w.map rowG) none, .list 5 (oo.map Order.g) none, .list 6 (cur.map Truck.g) none])] [] (Done (.tup [.ptr 0 0, gi 0]) [.cells (yardC ⟨b, w, oo, turnL (fun _ => restF m) 0 l⟩ ms')]) := fun cur e => by subst e; exact h2
    clear h2
    refine ICalls.of_body Tryz.func97 rfl Tryz.call97 rfl (Nat.le_of_ble_eq_true rfl) pl_K15_4 rfl ?_
    repeat' ((conv => whnf); first
      | refine Br.yes rfl ?_
      | refine Br.no rfl ?_
      | (refine Len.map ?_)
      | (refine Elem.mapK hcur ?_)
      | (refine Elem.mapN (by have := hI.len; omega) (fun t hcur => ?_); have ht := hI.get.symm.trans hcur)
      | (refine ILoop.ov 1000004 (fun ((i, cur, G, v) : Nat × List Truck × List GV × Nat) => [(21, gi i)]) (fun ((i, cur, G, v) : Nat × List Truck × List GV × Nat) => [(106, .cells (b.c ++ [.list 1 (w.map rowG) none, .list 5 (oo.map Order.g) none, .ms 6 116 v l.length])), (116, .mvec 48 6 G v)]) (fun ((i, cur, G, v) : Nat × List Truck × List GV × Nat) => (G = trucks cur ∧ TurnI (fun _ => restF m) l cur i) ∧ turnE (fun _ => restF m) i (l.drop i) = 0) (fun ((i, cur, G, v) : Nat × List Truck × List GV × Nat) => l.length - i) ((0, l, trucks l, 1)) (by exact rfl) ?_; (conv => whnf); refine Start.mk rfl ?_ ?_; (try dsimp only); rotate_left; rintro ⟨i, cur, G, v⟩ ⟨⟨rfl, hI⟩, hr⟩)
      | (refine Again.mk ⟨((i + 1, cur.set i (restF m t).1, _, v)), rfl, ?_, ?_⟩ <;> try dsimp only)
      | refine Br.yes (beq_self_eq_true _) ?_
      | refine Br.not ?_
      | refine Br.yes (decide_eq_true (by assumption)) ?_
      | refine Br.no (decide_eq_false (by assumption)) ?_
      | refine Br.yes (beq_iff_eq.2 (by assumption)) ?_
      | refine Br.no (beq_eq_false_iff_ne.2 (by assumption)) ?_
      | refine Br.yes (bne_iff_ne.2 (by assumption)) ?_
      | (refine Br.dec (fun h => ?_) (fun h => ?_) <;> try dsimp only at h)
      | (refine Br.beqI (fun h => ?_) (fun h => ?_) <;> try dsimp only at h)
      | (refine Br.bneI (fun h => ?_) (fun h => ?_) <;> try dsimp only at h)
      | refine Br.mk (fun h => ?_) (fun h => ?_)
      | refine Need.mk (by first | kernel_rfl | exact ⟨of_decide_eq_true rfl, of_decide_eq_true rfl⟩ | omega) ?_
      | refine Len.mk ⟨_, by simp only [List.length_cons, List.length_nil, Nat.reduceAdd, Int.cast_ofNat_Int]; rfl, ?_⟩
      | refine Wr.lit _ (by simp only [Int.reduceAdd, Int.reduceSub, Int.reduceMul]; rfl) (by decide) ?_
      | refine Wr.fit (by omega) ?_
      | refine Wr.fit (by dsimp only; omega) ?_
      | refine Elem.mk ⟨_, ⟨of_decide_eq_true rfl, rfl⟩, ?_⟩
      | refine Len.map ?_
      | refine Len.dropM ?_
      | refine Elem.dropM ?_
      | refine Len.takeM ?_
      | refine Elem.takeM ?_
      | refine Elem.mapK (by assumption) ?_
      | refine Elem.mapI (by omega) (by assumption) ?_
      | refine Elem.mapN (by omega) (fun x hx => ?_)
      | refine Elem.map (by omega) (by omega) (fun x hx => ?_)
      | refine (h0).use ⟨rfl, ?_⟩
      | refine (h1 i t ht).use ⟨rfl, ?_⟩
      | refine (h2c cur (hI.fin (by assumption))).use ⟨rfl, ?_⟩
      | refine CallX.mk ⟨_, _, (h0).x, rfl, ?_⟩
      | refine CallX.mk ⟨_, _, (h1 i t ht).x, rfl, ?_⟩
      | refine CallX.mk ⟨_, _, (h2c cur (hI.fin (by assumption))).x, rfl, ?_⟩
      | refine Done.mk ⟨rfl, rfl⟩
      | refine Done.mk ⟨congrArg gb ?_, rfl⟩
      | refine Done.mk ⟨?_, rfl⟩
      | refine Done.mk ⟨?_, ?_⟩)
    all_goals first
      | omega
      | exact ⟨⟨by rw [Int.toNat_natCast]; exact trucks_set cur i (restF m t).1, hI.next ht⟩, turnE_go ht hr (by assumption)⟩
      | exact absurd (turnE_bad ht hr (by assumption)).symm (by assumption)
      | exact ⟨⟨rfl, .start _ _⟩, he⟩
      | rfl

def pl_K15_5 : Nat → Option (List Nat × List Nat) := (fun k => bif Nat.beq k 4 then some ([1000004, 1, 6, 20, 21], [0, 106, 116]) else none)
end Go.Hl

/- Chapter 30: yards in which one truck's past goes on.  -/
set_option linter.unusedVariables false
set_option linter.unusedSimpArgs false
namespace Go.Hl
open Go.Gh Go.Proofs

def pl_K16_1 : Nat → Option (List Nat × List Nat) := (fun k => bif Nat.beq k 4 then some ([1000004, 1, 6, 20, 21], [0, 1, 2, 106, 116]) else bif Nat.beq k 4000000 then some ([145], []) else none)
def pl_K16_2 : Nat → Option (List Nat × List Nat) := (fun k => bif Nat.beq k 4 then some ([1000004, 1, 6, 20, 21], [0, 1, 2, 106, 116]) else bif Nat.beq k 7000011 then some ([106], [21]) else bif Nat.beq k 4000000 then some ([145], []) else none)
set_option maxRecDepth 100000 in
set_option maxHeartbeats 4000000 in
theorem withMore_ok (d : Depot) (ms : List Meter) (at0 : Int) (r : List Rec) (hr9 : (r.length : Int) ≤ 1000000) (hd : d.Ok) (hD : (turnD (moreF at0 r) d).Ok) (he : turnE (moreF at0 r) 0 d.Trucks = 0) (hm : (metersV (turnD (moreF at0 r) d)).2.2 = 0) :
    ICalls Tryz.prog 97 [.ptr 0 0, .fn (.func 98) [] [.ptr 1 0, .ptr 2 0]] [.cells (yardC d ms), .cells [gi at0], .cells [.list 3 (recs r) none]]
      (Done (.tup [.ptr 3 0, gi 0]) [.cells (yardC d ms), .cells [gi at0], .cells [.list 3 (recs r) none], .cells (yardC (turnD (moreF at0 r) d) (metersV (turnD (moreF at0 r) d)).1)]) := by
  have h1 := fun (i : Nat) (t : Truck) (ht : d.Trucks[i]? = some t) => moreC_ok at0 i r t (hd.tp t (List.mem_of_getElem? ht)) hr9
  have h2 := yard_ok _ hD hm
  have htl := hd.tl
  generalize (metersV (turnD (moreF at0 r) d)).1 = ms' at *
  obtain ⟨b, w, oo, l⟩ := d
  unfold turnD at *
  simp only at *
  clear hd hD hm
  show ICalls _ _ _ [.cells (b.c ++ [.list 1 (w.map rowG) none, .list 5 (oo.map Order.g) none, .list 6 (l.map Truck.g) none] ++ [.list 14 (ms.map Meter.g) none]), .cells [gi at0], .cells [.list 3 (recs r) none]] _
  cases l with
  | nil =>
    have h0 := cloneTrk0_ok
    refine ICalls.of_body Tryz.func97 rfl Tryz.call97 rfl (Nat.le_of_ble_eq_true rfl) pl_K16_1 rfl ?_
    repeat' ((conv => whnf); first
      | refine Br.yes rfl ?_
      | refine Br.no rfl ?_
      | (refine Len.map ?_)
      | refine Br.yes (beq_self_eq_true _) ?_
      | refine Br.not ?_
      | refine Br.yes (decide_eq_true (by assumption)) ?_
      | refine Br.no (decide_eq_false (by assumption)) ?_
      | refine Br.yes (beq_iff_eq.2 (by assumption)) ?_
      | refine Br.no (beq_eq_false_iff_ne.2 (by assumption)) ?_
      | refine Br.yes (bne_iff_ne.2 (by assumption)) ?_
      | (refine Br.dec (fun h => ?_) (fun h => ?_) <;> try dsimp only at h)
      | (refine Br.beqI (fun h => ?_) (fun h => ?_) <;> try dsimp only at h)
      | (refine Br.bneI (fun h => ?_) (fun h => ?_) <;> try dsimp only at h)
      | refine Br.mk (fun h => ?_) (fun h => ?_)
      | refine Need.mk (by first | kernel_rfl | exact ⟨of_decide_eq_true rfl, of_decide_eq_true rfl⟩ | omega) ?_
      | refine Len.mk ⟨_, by simp only [List.length_cons, List.length_nil, Nat.reduceAdd, Int.cast_ofNat_Int]; rfl, ?_⟩
      | refine Wr.lit _ (by simp only [Int.reduceAdd, Int.reduceSub, Int.reduceMul]; rfl) (by decide) ?_
      | refine Wr.fit (by omega) ?_
      | refine Wr.fit (by dsimp only; omega) ?_
      | refine Elem.mk ⟨_, ⟨of_decide_eq_true rfl, rfl⟩, ?_⟩
      | refine Len.map ?_
      | refine Len.dropM ?_
      | refine Elem.dropM ?_
      | refine Len.takeM ?_
      | refine Elem.takeM ?_
      | refine Elem.mapK (by assumption) ?_
      | refine Elem.mapI (by omega) (by assumption) ?_
      | refine Elem.mapN (by omega) (fun x hx => ?_)
      | refine Elem.map (by omega) (by omega) (fun x hx => ?_)
      | refine (h0).use ⟨rfl, ?_⟩
      | refine (h2).use ⟨rfl, ?_⟩
      | refine CallX.mk ⟨_, _, (h0).x, rfl, ?_⟩
      | refine CallX.mk ⟨_, _, (h2).x, rfl, ?_⟩
      | refine ILoop.unroll 2 ?_
      | refine Done.mk ⟨rfl, rfl⟩
      | refine Done.mk ⟨congrArg gb ?_, rfl⟩
      | refine Done.mk ⟨?_, rfl⟩
      | refine Done.mk ⟨?_, ?_⟩)
    all_goals first
      | omega
      | rfl
      | (simp at *; done)
      | trace_state
  | cons s q =>
    have h0 := cloneTrk_ok s q (by simp at htl; omega)
    generalize s :: q = l at *
    have h2c : ∀ cur, cur = turnL (moreF at0 r) 0 l → ICalls Tryz.prog 42 [.agg (b.c ++ [.list 1 (w.map rowG) none, .list 5 (oo.map Order.g) none, .list 6 (cur.map Truck.g) none])] [] (Done (.tup [.ptr 0 0, gi 0]) [.cells (yardC ⟨b, w, oo, turnL (moreF at0 r) 0 l⟩ ms')]) := fun cur e => by subst e; exact h2
    clear h2
    refine ICalls.of_body Tryz.func97 rfl Tryz.call97 rfl (Nat.le_of_ble_eq_true rfl) pl_K16_2 rfl ?_
    repeat' ((conv => whnf); first
      | refine Br.yes rfl ?_
      | refine Br.no rfl ?_
      | (refine Len.map ?_)
      | (refine Elem.mapK hcur ?_)
      | (refine Elem.mapN (by have := hI.len; omega) (fun t hcur => ?_); have ht := hI.get.symm.trans hcur)
      | (refine ILoop.ov 1000004 (fun ((i, cur, G, v) : Nat × List Truck × List GV × Nat) => [(21, gi i)]) (fun ((i, cur, G, v) : Nat × List Truck × List GV × Nat) => [(106, .cells (b.c ++ [.list 1 (w.map rowG) none, .list 5 (oo.map Order.g) none, .ms 6 116 v l.length])), (116, .mvec 48 6 G v)]) (fun ((i, cur, G, v) : Nat × List Truck × List GV × Nat) => (G = trucks cur ∧ TurnI (moreF at0 r) l cur i) ∧ turnE (moreF at0 r) i (l.drop i) = 0) (fun ((i, cur, G, v) : Nat × List Truck × List GV × Nat) => l.length - i) ((0, l, trucks l, 1)) (by exact rfl) ?_; (conv => whnf); refine Start.mk rfl ?_ ?_; (try dsimp only); rotate_left; rintro ⟨i, cur, G, v⟩ ⟨⟨rfl, hI⟩, hr⟩)
      | (refine Again.mk ⟨((i + 1, cur.set i (moreF at0 r i t).1, _, v)), rfl, ?_, ?_⟩ <;> try dsimp only)
      | refine Br.yes (beq_self_eq_true _) ?_
      | refine Br.not ?_
      | refine Br.yes (decide_eq_true (by assumption)) ?_
      | refine Br.no (decide_eq_false (by assumption)) ?_
      | refine Br.yes (beq_iff_eq.2 (by assumption)) ?_
      | refine Br.no (beq_eq_false_iff_ne.2 (by assumption)) ?_
      | refine Br.yes (bne_iff_ne.2 (by assumption)) ?_
      | (refine Br.dec (fun h => ?_) (fun h => ?_) <;> try dsimp only at h)
      | (refine Br.beqI (fun h => ?_) (fun h => ?_) <;> try dsimp only at h)
      | (refine Br.bneI (fun h => ?_) (fun h => ?_) <;> try dsimp only at h)
      | refine Br.mk (fun h => ?_) (fun h => ?_)
      | refine Need.mk (by first | kernel_rfl | exact ⟨of_decide_eq_true rfl, of_decide_eq_true rfl⟩ | omega) ?_
      | refine Len.mk ⟨_, by simp only [List.length_cons, List.length_nil, Nat.reduceAdd, Int.cast_ofNat_Int]; rfl, ?_⟩
      | refine Wr.lit _ (by simp only [Int.reduceAdd, Int.reduceSub, Int.reduceMul]; rfl) (by decide) ?_
      | refine Wr.fit (by omega) ?_
      | refine Wr.fit (by dsimp only; omega) ?_
      | refine Elem.mk ⟨_, ⟨of_decide_eq_true rfl, rfl⟩, ?_⟩
      | refine Len.map ?_
      | refine Len.dropM ?_
      | refine Elem.dropM ?_
      | refine Len.takeM ?_
      | refine Elem.takeM ?_
      | refine Elem.mapK (by assumption) ?_
      | refine Elem.mapI (by omega) (by assumption) ?_
      | refine Elem.mapN (by omega) (fun x hx => ?_)
      | refine Elem.map (by omega) (by omega) (fun x hx => ?_)
      | refine (h0).use ⟨rfl, ?_⟩
      | refine (h1 i t ht).use ⟨rfl, ?_⟩
      | refine (h2c cur (hI.fin (by assumption))).use ⟨rfl, ?_⟩
      | refine CallX.mk ⟨_, _, (h0).x, rfl, ?_⟩
      | refine CallX.mk ⟨_, _, (h1 i t ht).x, rfl, ?_⟩
      | refine CallX.mk ⟨_, _, (h2c cur (hI.fin (by assumption))).x, rfl, ?_⟩
      | refine Done.mk ⟨rfl, rfl⟩
      | refine Done.mk ⟨congrArg gb ?_, rfl⟩
      | refine Done.mk ⟨?_, rfl⟩
      | refine Done.mk ⟨?_, ?_⟩)
    all_goals first
      | omega
      | exact ⟨⟨by rw [Int.toNat_natCast]; exact trucks_set cur i (moreF at0 r i t).1, hI.next ht⟩, turnE_go ht hr (by assumption)⟩
      | exact absurd (turnE_bad ht hr (by assumption)).symm (by assumption)
      | exact ⟨⟨rfl, .start _ _⟩, he⟩
      | rfl

def pl_K16_3 : Nat → Option (List Nat × List Nat) := (fun k => bif Nat.beq k 4 then some ([1000004, 1, 6, 20, 21], [0, 1, 2, 106, 116]) else none)
def pl_K16_4 : Nat → Option (List Nat × List Nat) := (fun k => bif Nat.beq k 4 then some ([1000004, 1, 6, 20, 21], [0, 1, 2, 106, 116]) else bif Nat.beq k 7000011 then some ([106], [21]) else none)
set_option maxRecDepth 100000 in
set_option maxHeartbeats 4000000 in
theorem withMore_yard (d : Depot) (ms : List Meter) (at0 : Int) (r : List Rec) (hr9 : (r.length : Int) ≤ 1000000) (hd : d.Ok) (hD : (turnD (moreF at0 r) d).Ok) (he : turnE (moreF at0 r) 0 d.Trucks = 0) (hm : ¬ (metersV (turnD (moreF at0 r) d)).2.2 = 0) :
    ICalls Tryz.prog 97 [.ptr 0 0, .fn (.func 98) [] [.ptr 1 0, .ptr 2 0]] [.cells (yardC d ms), .cells [gi at0], .cells [.list 3 (recs r) none]]
      (Done (.tup [nilP, gi (metersV (turnD (moreF at0 r) d)).2.2]) [.cells (yardC d ms), .cells [gi at0], .cells [.list 3 (recs r) none]]) := by
  have h1 := fun (i : Nat) (t : Truck) (ht : d.Trucks[i]? = some t) => moreC_ok at0 i r t (hd.tp t (List.mem_of_getElem? ht)) hr9
  have h2 := yard_err _ hD hm
  have htl := hd.tl
  generalize (metersV (turnD (moreF at0 r) d)).2.2 = ee at *
  obtain ⟨b, w, oo, l⟩ := d
  unfold turnD at *
  simp only at *
  clear hd hD hm
  show ICalls _ _ _ [.cells (b.c ++ [.list 1 (w.map rowG) none, .list 5 (oo.map Order.g) none, .list 6 (l.map Truck.g) none] ++ [.list 14 (ms.map Meter.g) none]), .cells [gi at0], .cells [.list 3 (recs r) none]] _
  cases l with
  | nil =>
    have h0 := cloneTrk0_ok
    refine ICalls.of_body Tryz.func97 rfl Tryz.call97 rfl (Nat.le_of_ble_eq_true rfl) pl_K16_3 rfl ?_
    repeat' ((conv => whnf); first
      | refine Br.yes rfl ?_
      | refine Br.no rfl ?_
      | (refine Len.map ?_)
      | refine Br.yes (beq_self_eq_true _) ?_
      | refine Br.not ?_
      | refine Br.yes (decide_eq_true (by assumption)) ?_
      | refine Br.no (decide_eq_false (by assumption)) ?_
      | refine Br.yes (beq_iff_eq.2 (by assumption)) ?_
      | refine Br.no (beq_eq_false_iff_ne.2 (by assumption)) ?_
      | refine Br.yes (bne_iff_ne.2 (by assumption)) ?_
      | (refine Br.dec (fun h => ?_) (fun h => ?_) <;> try dsimp only at h)
      | (refine Br.beqI (fun h => ?_) (fun h => ?_) <;> try dsimp only at h)
      | (refine Br.bneI (fun h => ?_) (fun h => ?_) <;> try dsimp only at h)
      | refine Br.mk (fun h => ?_) (fun h => ?_)
      | refine Need.mk (by first | kernel_rfl | exact ⟨of_decide_eq_true rfl, of_decide_eq_true rfl⟩ | omega) ?_
      | refine Len.mk ⟨_, by simp only [List.length_cons, List.length_nil, Nat.reduceAdd, Int.cast_ofNat_Int]; rfl, ?_⟩
      | refine Wr.lit _ (by simp only [Int.reduceAdd, Int.reduceSub, Int.reduceMul]; rfl) (by decide) ?_
      | refine Wr.fit (by omega) ?_
      | refine Wr.fit (by dsimp only; omega) ?_
      | refine Elem.mk ⟨_, ⟨of_decide_eq_true rfl, rfl⟩, ?_⟩
      | refine Len.map ?_
      | refine Len.dropM ?_
      | refine Elem.dropM ?_
      | refine Len.takeM ?_
      | refine Elem.takeM ?_
      | refine Elem.mapK (by assumption) ?_
      | refine Elem.mapI (by omega) (by assumption) ?_
      | refine Elem.mapN (by omega) (fun x hx => ?_)
      | refine Elem.map (by omega) (by omega) (fun x hx => ?_)
      | refine (h0).use ⟨rfl, ?_⟩
      | refine (h2).use ⟨rfl, ?_⟩
      | refine CallX.mk ⟨_, _, (h0).x, rfl, ?_⟩
      | refine CallX.mk ⟨_, _, (h2).x, rfl, ?_⟩
      | refine ILoop.unroll 2 ?_
      | refine Done.mk ⟨rfl, rfl⟩
      | refine Done.mk ⟨congrArg gb ?_, rfl⟩
      | refine Done.mk ⟨?_, rfl⟩
      | refine Done.mk ⟨?_, ?_⟩)
    all_goals first
      | omega
      | rfl
      | (simp at *; done)
      | trace_state
  | cons s q =>
    have h0 := cloneTrk_ok s q (by simp at htl; omega)
    generalize s :: q = l at *
    have h2c : ∀ cur, cur = turnL (moreF at0 r) 0 l → ICalls Tryz.prog 42 [.agg (b.c ++ [.list 1 (w.map rowG) none, .list 5 (oo.map Order.g) none, .list 6 (cur.map Truck.g) none])] [] (Done (.tup [nilP, gi ee]) []) := fun cur e => by subst e; exact h2
    clear h2
    refine ICalls.of_body Tryz.func97 rfl Tryz.call97 rfl (Nat.le_of_ble_eq_true rfl) pl_K16_4 rfl ?_
    repeat' ((conv => whnf); first
      | refine Br.yes rfl ?_
      | refine Br.no rfl ?_
      | (refine Len.map ?_)
      | (refine Elem.mapK hcur ?_)
      | (refine Elem.mapN (by have := hI.len; omega) (fun t hcur => ?_); have ht := hI.get.symm.trans hcur)
      | (refine ILoop.ov 1000004 (fun ((i, cur, G, v) : Nat × List Truck × List GV × Nat) => [(21, gi i)]) (fun ((i, cur, G, v) : Nat × List Truck × List GV × Nat) => [(106, .cells (b.c ++ [.list 1 (w.map rowG) none, .list 5 (oo.map Order.g) none, .ms 6 116 v l.length])), (116, .mvec 48 6 G v)]) (fun ((i, cur, G, v) : Nat × List Truck × List GV × Nat) => (G = trucks cur ∧ TurnI (moreF at0 r) l cur i) ∧ turnE (moreF at0 r) i (l.drop i) = 0) (fun ((i, cur, G, v) : Nat × List Truck × List GV × Nat) => l.length - i) ((0, l, trucks l, 1)) (by exact rfl) ?_; (conv => whnf); refine Start.mk rfl ?_ ?_; (try dsimp only); rotate_left; rintro ⟨i, cur, G, v⟩ ⟨⟨rfl, hI⟩, hr⟩)
      | (refine Again.mk ⟨((i + 1, cur.set i (moreF at0 r i t).1, _, v)), rfl, ?_, ?_⟩ <;> try dsimp only)
      | refine Br.yes (beq_self_eq_true _) ?_
      | refine Br.not ?_
      | refine Br.yes (decide_eq_true (by assumption)) ?_
      | refine Br.no (decide_eq_false (by assumption)) ?_
      | refine Br.yes (beq_iff_eq.2 (by assumption)) ?_
      | refine Br.no (beq_eq_false_iff_ne.2 (by assumption)) ?_
      | refine Br.yes (bne_iff_ne.2 (by assumption)) ?_
      | (refine Br.dec (fun h => ?_) (fun h => ?_) <;> try dsimp only at h)
      | (refine Br.beqI (fun h => ?_) (fun h => ?_) <;> try dsimp only at h)
      | (refine Br.bneI (fun h => ?_) (fun h => ?_) <;> try dsimp only at h)
      | refine Br.mk (fun h => ?_) (fun h => ?_)
      | refine Need.mk (by first | kernel_rfl | exact ⟨of_decide_eq_true rfl, of_decide_eq_true rfl⟩ | omega) ?_
      | refine Len.mk ⟨_, by simp only [List.length_cons, List.length_nil, Nat.reduceAdd, Int.cast_ofNat_Int]; rfl, ?_⟩
      | refine Wr.lit _ (by simp only [Int.reduceAdd, Int.reduceSub, Int.reduceMul]; rfl) (by decide) ?_
      | refine Wr.fit (by omega) ?_
      | refine Wr.fit (by dsimp only; omega) ?_
      | refine Elem.mk ⟨_, ⟨of_decide_eq_true rfl, rfl⟩, ?_⟩
      | refine Len.map ?_
      | refine Len.dropM ?_
      | refine Elem.dropM ?_
      | refine Len.takeM ?_
      | refine Elem.takeM ?_
      | refine Elem.mapK (by assumption) ?_
      | refine Elem.mapI (by omega) (by assumption) ?_
      | refine Elem.mapN (by omega) (fun x hx => ?_)
      | refine Elem.map (by omega) (by omega) (fun x hx => ?_)
      | refine (h0).use ⟨rfl, ?_⟩
      | refine (h1 i t ht).use ⟨rfl, ?_⟩
      | refine (h2c cur (hI.fin (by assumption))).use ⟨rfl, ?_⟩
      | refine CallX.mk ⟨_, _, (h0).x, rfl, ?_⟩
      | refine CallX.mk ⟨_, _, (h1 i t ht).x, rfl, ?_⟩
      | refine CallX.mk ⟨_, _, (h2c cur (hI.fin (by assumption))).x, rfl, ?_⟩
      | refine Done.mk ⟨rfl, rfl⟩
      | refine Done.mk ⟨congrArg gb ?_, rfl⟩
      | refine Done.mk ⟨?_, rfl⟩
      | refine Done.mk ⟨?_, ?_⟩)
    all_goals first
      | omega
      | exact ⟨⟨by rw [Int.toNat_natCast]; exact trucks_set cur i (moreF at0 r i t).1, hI.next ht⟩, turnE_go ht hr (by assumption)⟩
      | exact absurd (turnE_bad ht hr (by assumption)).symm (by assumption)
      | exact ⟨⟨rfl, .start _ _⟩, he⟩
      | rfl

def pl_K16_5 : Nat → Option (List Nat × List Nat) := (fun k => bif Nat.beq k 4 then some ([1000004, 1, 6, 20, 21], [0, 1, 2, 106, 116]) else none)
set_option maxRecDepth 100000 in
set_option maxHeartbeats 4000000 in
theorem withMore_err (d : Depot) (ms : List Meter) (at0 : Int) (r : List Rec) (hr9 : (r.length : Int) ≤ 1000000) (hd : d.Ok) (he : ¬ turnE (moreF at0 r) 0 d.Trucks = 0) :
    ICalls Tryz.prog 97 [.ptr 0 0, .fn (.func 98) [] [.ptr 1 0, .ptr 2 0]] [.cells (yardC d ms), .cells [gi at0], .cells [.list 3 (recs r) none]]
      (Done (.tup [nilP, gi (turnE (moreF at0 r) 0 d.Trucks)]) [.cells (yardC d ms), .cells [gi at0], .cells [.list 3 (recs r) none]]) := by
  have h1 := fun (i : Nat) (t : Truck) (ht : d.Trucks[i]? = some t) => moreC_ok at0 i r t (hd.tp t (List.mem_of_getElem? ht)) hr9
  have htl := hd.tl
  generalize hE : turnE (moreF at0 r) 0 d.Trucks = E at *
  obtain ⟨b, w, oo, l⟩ := d
  simp only at *
  clear hd
  show ICalls _ _ _ [.cells (b.c ++ [.list 1 (w.map rowG) none, .list 5 (oo.map Order.g) none, .list 6 (l.map Truck.g) none] ++ [.list 14 (ms.map Meter.g) none]), .cells [gi at0], .cells [.list 3 (recs r) none]] _
  cases l with
  | nil => exact absurd hE.symm he
  | cons s q =>
    have h0 := cloneTrk_ok s q (by simp at htl; omega)
    generalize s :: q = l at *
    refine ICalls.of_body Tryz.func97 rfl Tryz.call97 rfl (Nat.le_of_ble_eq_true rfl) pl_K16_5 rfl ?_
    repeat' ((conv => whnf); first
      | refine Br.yes rfl ?_
      | refine Br.no rfl ?_
      | (refine Len.map ?_)
      | (refine Elem.mapK hcur ?_)
      | (refine Elem.mapN (by have := hI.len; omega) (fun t hcur => ?_); have ht := hI.get.symm.trans hcur)
      | (exact absurd (turnE_end (by assumption) hr) he)
      | (refine ILoop.ov 1000004 (fun ((i, cur, G, v) : Nat × List Truck × List GV × Nat) => [(21, gi i)]) (fun ((i, cur, G, v) : Nat × List Truck × List GV × Nat) => [(106, .cells (b.c ++ [.list 1 (w.map rowG) none, .list 5 (oo.map Order.g) none, .ms 6 116 v l.length])), (116, .mvec 48 6 G v)]) (fun ((i, cur, G, v) : Nat × List Truck × List GV × Nat) => (G = trucks cur ∧ TurnI (moreF at0 r) l cur i) ∧ turnE (moreF at0 r) i (l.drop i) = E) (fun ((i, cur, G, v) : Nat × List Truck × List GV × Nat) => l.length - i) ((0, l, trucks l, 1)) (by exact rfl) ?_; (conv => whnf); refine Start.mk rfl ?_ ?_; (try dsimp only); rotate_left; rintro ⟨i, cur, G, v⟩ ⟨⟨rfl, hI⟩, hr⟩)
      | (refine Again.mk ⟨((i + 1, cur.set i (moreF at0 r i t).1, _, v)), rfl, ?_, ?_⟩ <;> try dsimp only)
      | refine Br.yes (beq_self_eq_true _) ?_
      | refine Br.not ?_
      | refine Br.yes (decide_eq_true (by assumption)) ?_
      | refine Br.no (decide_eq_false (by assumption)) ?_
      | refine Br.yes (beq_iff_eq.2 (by assumption)) ?_
      | refine Br.no (beq_eq_false_iff_ne.2 (by assumption)) ?_
      | refine Br.yes (bne_iff_ne.2 (by assumption)) ?_
      | (refine Br.dec (fun h => ?_) (fun h => ?_) <;> try dsimp only at h)
      | (refine Br.beqI (fun h => ?_) (fun h => ?_) <;> try dsimp only at h)
      | (refine Br.bneI (fun h => ?_) (fun h => ?_) <;> try dsimp only at h)
      | refine Br.mk (fun h => ?_) (fun h => ?_)
      | refine Need.mk (by first | kernel_rfl | exact ⟨of_decide_eq_true rfl, of_decide_eq_true rfl⟩ | omega) ?_
      | refine Len.mk ⟨_, by simp only [List.length_cons, List.length_nil, Nat.reduceAdd, Int.cast_ofNat_Int]; rfl, ?_⟩
      | refine Wr.lit _ (by simp only [Int.reduceAdd, Int.reduceSub, Int.reduceMul]; rfl) (by decide) ?_
      | refine Wr.fit (by omega) ?_
      | refine Wr.fit (by dsimp only; omega) ?_
      | refine Elem.mk ⟨_, ⟨of_decide_eq_true rfl, rfl⟩, ?_⟩
      | refine Len.map ?_
      | refine Len.dropM ?_
      | refine Elem.dropM ?_
      | refine Len.takeM ?_
      | refine Elem.takeM ?_
      | refine Elem.mapK (by assumption) ?_
      | refine Elem.mapI (by omega) (by assumption) ?_
      | refine Elem.mapN (by omega) (fun x hx => ?_)
      | refine Elem.map (by omega) (by omega) (fun x hx => ?_)
      | refine (h0).use ⟨rfl, ?_⟩
      | refine (h1 i t ht).use ⟨rfl, ?_⟩
      | refine CallX.mk ⟨_, _, (h0).x, rfl, ?_⟩
      | refine CallX.mk ⟨_, _, (h1 i t ht).x, rfl, ?_⟩
      | refine Done.mk ⟨rfl, rfl⟩
      | refine Done.mk ⟨congrArg gb ?_, rfl⟩
      | refine Done.mk ⟨?_, rfl⟩
      | refine Done.mk ⟨?_, ?_⟩)
    all_goals first
      | omega
      | exact ⟨⟨by rw [Int.toNat_natCast]; exact trucks_set cur i (moreF at0 r i t).1, hI.next ht⟩, turnE_go ht hr (by assumption)⟩
      | (rw [turnE_bad ht hr (by assumption)]; rfl)
      | exact ⟨⟨rfl, .start _ _⟩, hE⟩
      | rfl

end Go.Hl

/- Chapter 30: yards turned: More, Rest; the reference's.  -/
set_option linter.unusedVariables false
set_option linter.unusedSimpArgs false
namespace Go.Hl
open Go.Gh Go.Proofs

def atT (d : Depot) (id : Int) : Int := idxFrom (isID id) 0 d.Trucks
def moreD (d : Depot) (id : Int) (r : List Rec) : Depot := turnD (moreF (atT d id) r) d
def moreE (d : Depot) (id : Int) (r : List Rec) : Int := if atT d id < 0 then 10 else if turnE (moreF (atT d id) r) 0 d.Trucks ≠ 0 then turnE (moreF (atT d id) r) 0 d.Trucks else (metersV (moreD d id r)).2.2
def restD (d : Depot) (m : Int) : Depot := turnD (fun _ => restF m) d

def pl_K17_1 : Nat → Option (List Nat × List Nat) := (fun k => bif Nat.beq k 4000000 then some ([118], []) else none)
set_option maxRecDepth 100000 in
set_option maxHeartbeats 2000000 in
theorem yardMore_ok (d : Depot) (ms : List Meter) (id : Int) (r : List Rec) (hr9 : (r.length : Int) ≤ 1000000) (hd : d.Ok) (hD : (moreD d id r).Ok) (he : moreE d id r = 0) :
    ICalls Tryz.prog 62 [.ptr 0 0, gi id, .list 3 (recs r) none] [.cells (yardC d ms)] (Done (.tup [.ptr 1 0, gi 0]) [.cells (yardC d ms), .cells (yardC (moreD d id r) (metersV (moreD d id r)).1)]) := by
  have h1 := yardAt_ok d ms id hd
  have h2 := fun h3 h4 => withMore_ok d ms (atT d id) r hr9 hd hD h3 h4
  unfold moreE at he
  by_cases ha : atT d id < 0
  case pos => rw [if_pos ha] at he; cases he
  rw [if_neg ha] at he
  by_cases hb : turnE (moreF (atT d id) r) 0 d.Trucks = 0
  case neg => rw [if_pos hb] at he; exact absurd he hb
  rw [if_neg (by simp [hb])] at he
  have h2 := h2 hb he
  unfold moreD at *
  change ICalls _ _ _ _ (Done (gi (atT d id)) _) at h1
  generalize (metersV (turnD (moreF (atT d id) r) d)).1 = ms' at *
  generalize turnD (moreF (atT d id) r) d = D at *
  generalize atT d id = ix at *
  clear he hb hD hd
  obtain ⟨b, w, oo, l⟩ := d
  obtain ⟨b', w', oo', l'⟩ := D
  show ICalls _ _ _ [.cells (b.c ++ [.list 1 (w.map rowG) none, .list 5 (oo.map Order.g) none, .list 6 (l.map Truck.g) none] ++ [.list 14 (ms.map Meter.g) none])] _
  refine ICalls.of_body Tryz.func62 rfl Tryz.call62 rfl (Nat.le_of_ble_eq_true rfl) pl_K17_1 rfl ?_
  repeat' ((conv => whnf); first
    | refine Br.yes rfl ?_
    | refine Br.no rfl ?_
    | refine Br.yes (beq_self_eq_true _) ?_
    | refine Br.not ?_
    | refine Br.yes (decide_eq_true (by assumption)) ?_
    | refine Br.no (decide_eq_false (by assumption)) ?_
    | refine Br.yes (beq_iff_eq.2 (by assumption)) ?_
    | refine Br.no (beq_eq_false_iff_ne.2 (by assumption)) ?_
    | refine Br.yes (bne_iff_ne.2 (by assumption)) ?_
    | (refine Br.dec (fun h => ?_) (fun h => ?_) <;> try dsimp only at h)
    | (refine Br.beqI (fun h => ?_) (fun h => ?_) <;> try dsimp only at h)
    | (refine Br.bneI (fun h => ?_) (fun h => ?_) <;> try dsimp only at h)
    | refine Br.mk (fun h => ?_) (fun h => ?_)
    | refine Need.mk (by first | kernel_rfl | exact ⟨of_decide_eq_true rfl, of_decide_eq_true rfl⟩ | omega) ?_
    | refine Len.mk ⟨_, by simp only [List.length_cons, List.length_nil, Nat.reduceAdd, Int.cast_ofNat_Int]; rfl, ?_⟩
    | refine Wr.lit _ (by simp only [Int.reduceAdd, Int.reduceSub, Int.reduceMul]; rfl) (by decide) ?_
    | refine Wr.fit (by omega) ?_
    | refine Wr.fit (by dsimp only; omega) ?_
    | refine Elem.mk ⟨_, ⟨of_decide_eq_true rfl, rfl⟩, ?_⟩
    | refine Len.map ?_
    | refine Len.dropM ?_
    | refine Elem.dropM ?_
    | refine Len.takeM ?_
    | refine Elem.takeM ?_
    | refine Elem.mapK (by assumption) ?_
    | refine Elem.mapI (by omega) (by assumption) ?_
    | refine Elem.mapN (by omega) (fun x hx => ?_)
    | refine Elem.map (by omega) (by omega) (fun x hx => ?_)
    | refine (h1).use ⟨rfl, ?_⟩
    | refine (h2).use ⟨rfl, ?_⟩
    | refine CallX.mk ⟨_, _, (h1).x, rfl, ?_⟩
    | refine CallX.mk ⟨_, _, (h2).x, rfl, ?_⟩
    | refine Done.mk ⟨rfl, rfl⟩
    | refine Done.mk ⟨congrArg gb ?_, rfl⟩
    | refine Done.mk ⟨?_, rfl⟩
    | refine Done.mk ⟨?_, ?_⟩)
  all_goals first
    | omega
    | rfl
set_option maxRecDepth 100000 in
set_option maxHeartbeats 2000000 in
theorem yardMore_err (d : Depot) (ms : List Meter) (id : Int) (r : List Rec) (hr9 : (r.length : Int) ≤ 1000000) (hd : d.Ok) (hD : (moreD d id r).Ok) (he : ¬ moreE d id r = 0) :
    ICalls Tryz.prog 62 [.ptr 0 0, gi id, .list 3 (recs r) none] [.cells (yardC d ms)] (Done (.tup [nilP, gi (moreE d id r)]) [.cells (yardC d ms)]) := by
  have h1 := yardAt_ok d ms id hd
  change ICalls _ _ _ _ (Done (gi (atT d id)) _) at h1
  unfold moreE at he ⊢
  by_cases ha : atT d id < 0
  case pos =>
    rw [if_pos ha]
    generalize atT d id = ix at *
    clear he hd
    obtain ⟨b, w, oo, l⟩ := d
    show ICalls _ _ _ [.cells (b.c ++ [.list 1 (w.map rowG) none, .list 5 (oo.map Order.g) none, .list 6 (l.map Truck.g) none] ++ [.list 14 (ms.map Meter.g) none])] _
    refine ICalls.of_body Tryz.func62 rfl Tryz.call62 rfl (Nat.le_of_ble_eq_true rfl) (fun _ => none) rfl ?_
    repeat' ((conv => whnf); first
      | refine Br.yes rfl ?_
      | refine Br.no rfl ?_
      | refine Br.yes (beq_self_eq_true _) ?_
      | refine Br.not ?_
      | refine Br.yes (decide_eq_true (by assumption)) ?_
      | refine Br.no (decide_eq_false (by assumption)) ?_
      | refine Br.yes (beq_iff_eq.2 (by assumption)) ?_
      | refine Br.no (beq_eq_false_iff_ne.2 (by assumption)) ?_
      | refine Br.yes (bne_iff_ne.2 (by assumption)) ?_
      | (refine Br.dec (fun h => ?_) (fun h => ?_) <;> try dsimp only at h)
      | (refine Br.beqI (fun h => ?_) (fun h => ?_) <;> try dsimp only at h)
      | (refine Br.bneI (fun h => ?_) (fun h => ?_) <;> try dsimp only at h)
      | refine Br.mk (fun h => ?_) (fun h => ?_)
      | refine Need.mk (by first | kernel_rfl | exact ⟨of_decide_eq_true rfl, of_decide_eq_true rfl⟩ | omega) ?_
      | refine Len.mk ⟨_, by simp only [List.length_cons, List.length_nil, Nat.reduceAdd, Int.cast_ofNat_Int]; rfl, ?_⟩
      | refine Wr.lit _ (by simp only [Int.reduceAdd, Int.reduceSub, Int.reduceMul]; rfl) (by decide) ?_
      | refine Wr.fit (by omega) ?_
      | refine Wr.fit (by dsimp only; omega) ?_
      | refine Elem.mk ⟨_, ⟨of_decide_eq_true rfl, rfl⟩, ?_⟩
      | refine Len.map ?_
      | refine Len.dropM ?_
      | refine Elem.dropM ?_
      | refine Len.takeM ?_
      | refine Elem.takeM ?_
      | refine Elem.mapK (by assumption) ?_
      | refine Elem.mapI (by omega) (by assumption) ?_
      | refine Elem.mapN (by omega) (fun x hx => ?_)
      | refine Elem.map (by omega) (by omega) (fun x hx => ?_)
      | refine (h1).use ⟨rfl, ?_⟩
      | refine CallX.mk ⟨_, _, (h1).x, rfl, ?_⟩
      | refine Done.mk ⟨rfl, rfl⟩
      | refine Done.mk ⟨congrArg gb ?_, rfl⟩
      | refine Done.mk ⟨?_, rfl⟩
      | refine Done.mk ⟨?_, ?_⟩)
    all_goals first
      | omega
      | rfl
  case neg =>
  rw [if_neg ha] at he ⊢
  by_cases hb : turnE (moreF (atT d id) r) 0 d.Trucks = 0
  case neg =>
    have h2 := withMore_err d ms (atT d id) r hr9 hd hb
    rw [if_pos hb]
    generalize turnE (moreF (atT d id) r) 0 d.Trucks = E at *
    generalize atT d id = ix at *
    clear he hd
    obtain ⟨b, w, oo, l⟩ := d
    show ICalls _ _ _ [.cells (b.c ++ [.list 1 (w.map rowG) none, .list 5 (oo.map Order.g) none, .list 6 (l.map Truck.g) none] ++ [.list 14 (ms.map Meter.g) none])] _
    refine ICalls.of_body Tryz.func62 rfl Tryz.call62 rfl (Nat.le_of_ble_eq_true rfl) (fun _ => none) rfl ?_
    repeat' ((conv => whnf); first
      | refine Br.yes rfl ?_
      | refine Br.no rfl ?_
      | refine Br.yes (beq_self_eq_true _) ?_
      | refine Br.not ?_
      | refine Br.yes (decide_eq_true (by assumption)) ?_
      | refine Br.no (decide_eq_false (by assumption)) ?_
      | refine Br.yes (beq_iff_eq.2 (by assumption)) ?_
      | refine Br.no (beq_eq_false_iff_ne.2 (by assumption)) ?_
      | refine Br.yes (bne_iff_ne.2 (by assumption)) ?_
      | (refine Br.dec (fun h => ?_) (fun h => ?_) <;> try dsimp only at h)
      | (refine Br.beqI (fun h => ?_) (fun h => ?_) <;> try dsimp only at h)
      | (refine Br.bneI (fun h => ?_) (fun h => ?_) <;> try dsimp only at h)
      | refine Br.mk (fun h => ?_) (fun h => ?_)
      | refine Need.mk (by first | kernel_rfl | exact ⟨of_decide_eq_true rfl, of_decide_eq_true rfl⟩ | omega) ?_
      | refine Len.mk ⟨_, by simp only [List.length_cons, List.length_nil, Nat.reduceAdd, Int.cast_ofNat_Int]; rfl, ?_⟩
      | refine Wr.lit _ (by simp only [Int.reduceAdd, Int.reduceSub, Int.reduceMul]; rfl) (by decide) ?_
      | refine Wr.fit (by omega) ?_
      | refine Wr.fit (by dsimp only; omega) ?_
      | refine Elem.mk ⟨_, ⟨of_decide_eq_true rfl, rfl⟩, ?_⟩
      | refine Len.map ?_
      | refine Len.dropM ?_
      | refine Elem.dropM ?_
      | refine Len.takeM ?_
      | refine Elem.takeM ?_
      | refine Elem.mapK (by assumption) ?_
      | refine Elem.mapI (by omega) (by assumption) ?_
      | refine Elem.mapN (by omega) (fun x hx => ?_)
      | refine Elem.map (by omega) (by omega) (fun x hx => ?_)
      | refine (h1).use ⟨rfl, ?_⟩
      | refine (h2).use ⟨rfl, ?_⟩
      | refine CallX.mk ⟨_, _, (h1).x, rfl, ?_⟩
      | refine CallX.mk ⟨_, _, (h2).x, rfl, ?_⟩
      | refine Done.mk ⟨rfl, rfl⟩
      | refine Done.mk ⟨congrArg gb ?_, rfl⟩
      | refine Done.mk ⟨?_, rfl⟩
      | refine Done.mk ⟨?_, ?_⟩)
    all_goals first
      | omega
      | rfl
  case pos =>
    rw [if_neg (by simp [hb])] at he ⊢
    have h2 := withMore_yard d ms (atT d id) r hr9 hd hD hb he
    unfold moreD at *
    generalize (metersV (turnD (moreF (atT d id) r) d)).2.2 = E at *
    generalize atT d id = ix at *
    clear he hd hb
    obtain ⟨b, w, oo, l⟩ := d
    show ICalls _ _ _ [.cells (b.c ++ [.list 1 (w.map rowG) none, .list 5 (oo.map Order.g) none, .list 6 (l.map Truck.g) none] ++ [.list 14 (ms.map Meter.g) none])] _
    refine ICalls.of_body Tryz.func62 rfl Tryz.call62 rfl (Nat.le_of_ble_eq_true rfl) (fun _ => none) rfl ?_
    repeat' ((conv => whnf); first
      | refine Br.yes rfl ?_
      | refine Br.no rfl ?_
      | refine Br.yes (beq_self_eq_true _) ?_
      | refine Br.not ?_
      | refine Br.yes (decide_eq_true (by assumption)) ?_
      | refine Br.no (decide_eq_false (by assumption)) ?_
      | refine Br.yes (beq_iff_eq.2 (by assumption)) ?_
      | refine Br.no (beq_eq_false_iff_ne.2 (by assumption)) ?_
      | refine Br.yes (bne_iff_ne.2 (by assumption)) ?_
      | (refine Br.dec (fun h => ?_) (fun h => ?_) <;> try dsimp only at h)
      | (refine Br.beqI (fun h => ?_) (fun h => ?_) <;> try dsimp only at h)
      | (refine Br.bneI (fun h => ?_) (fun h => ?_) <;> try dsimp only at h)
      | refine Br.mk (fun h => ?_) (fun h => ?_)
      | refine Need.mk (by first | kernel_rfl | exact ⟨of_decide_eq_true rfl, of_decide_eq_true rfl⟩ | omega) ?_
      | refine Len.mk ⟨_, by simp only [List.length_cons, List.length_nil, Nat.reduceAdd, Int.cast_ofNat_Int]; rfl, ?_⟩
      | refine Wr.lit _ (by simp only [Int.reduceAdd, Int.reduceSub, Int.reduceMul]; rfl) (by decide) ?_
      | refine Wr.fit (by omega) ?_
      | refine Wr.fit (by dsimp only; omega) ?_
      | refine Elem.mk ⟨_, ⟨of_decide_eq_true rfl, rfl⟩, ?_⟩
      | refine Len.map ?_
      | refine Len.dropM ?_
      | refine Elem.dropM ?_
      | refine Len.takeM ?_
      | refine Elem.takeM ?_
      | refine Elem.mapK (by assumption) ?_
      | refine Elem.mapI (by omega) (by assumption) ?_
      | refine Elem.mapN (by omega) (fun x hx => ?_)
      | refine Elem.map (by omega) (by omega) (fun x hx => ?_)
      | refine (h1).use ⟨rfl, ?_⟩
      | refine (h2).use ⟨rfl, ?_⟩
      | refine CallX.mk ⟨_, _, (h1).x, rfl, ?_⟩
      | refine CallX.mk ⟨_, _, (h2).x, rfl, ?_⟩
      | refine Done.mk ⟨rfl, rfl⟩
      | refine Done.mk ⟨congrArg gb ?_, rfl⟩
      | refine Done.mk ⟨?_, rfl⟩
      | refine Done.mk ⟨?_, ?_⟩)
    all_goals first
      | omega
      | rfl
set_option maxRecDepth 100000 in
set_option maxHeartbeats 2000000 in
theorem yardMoreNil_ok (id : Int) (r : List Rec) : ICalls Tryz.prog 62 [nilP, gi id, .list 3 (recs r) none] [] (Done (.tup [nilP, gi 13]) []) := by
  refine ICalls.of_body Tryz.func62 rfl Tryz.call62 rfl (Nat.le_of_ble_eq_true rfl) (fun _ => none) rfl ?_
  repeat' ((conv => whnf); first
    | refine Br.yes rfl ?_
    | refine Br.no rfl ?_
    | refine Br.yes (beq_self_eq_true _) ?_
    | refine Br.not ?_
    | refine Br.yes (decide_eq_true (by assumption)) ?_
    | refine Br.no (decide_eq_false (by assumption)) ?_
    | refine Br.yes (beq_iff_eq.2 (by assumption)) ?_
    | refine Br.no (beq_eq_false_iff_ne.2 (by assumption)) ?_
    | refine Br.yes (bne_iff_ne.2 (by assumption)) ?_
    | (refine Br.dec (fun h => ?_) (fun h => ?_) <;> try dsimp only at h)
    | (refine Br.beqI (fun h => ?_) (fun h => ?_) <;> try dsimp only at h)
    | (refine Br.bneI (fun h => ?_) (fun h => ?_) <;> try dsimp only at h)
    | refine Br.mk (fun h => ?_) (fun h => ?_)
    | refine Need.mk (by first | kernel_rfl | exact ⟨of_decide_eq_true rfl, of_decide_eq_true rfl⟩ | omega) ?_
    | refine Len.mk ⟨_, by simp only [List.length_cons, List.length_nil, Nat.reduceAdd, Int.cast_ofNat_Int]; rfl, ?_⟩
    | refine Wr.lit _ (by simp only [Int.reduceAdd, Int.reduceSub, Int.reduceMul]; rfl) (by decide) ?_
    | refine Wr.fit (by omega) ?_
    | refine Wr.fit (by dsimp only; omega) ?_
    | refine Elem.mk ⟨_, ⟨of_decide_eq_true rfl, rfl⟩, ?_⟩
    | refine Len.map ?_
    | refine Len.dropM ?_
    | refine Elem.dropM ?_
    | refine Len.takeM ?_
    | refine Elem.takeM ?_
    | refine Elem.mapK (by assumption) ?_
    | refine Elem.mapI (by omega) (by assumption) ?_
    | refine Elem.mapN (by omega) (fun x hx => ?_)
    | refine Elem.map (by omega) (by omega) (fun x hx => ?_)
    | refine Done.mk ⟨rfl, rfl⟩
    | refine Done.mk ⟨congrArg gb ?_, rfl⟩
    | refine Done.mk ⟨?_, rfl⟩
    | refine Done.mk ⟨?_, ?_⟩)
  all_goals first
    | omega
    | rfl

def pl_K17_2 : Nat → Option (List Nat × List Nat) := (fun k => bif Nat.beq k 4000000 then some ([119], []) else none)
set_option maxRecDepth 100000 in
set_option maxHeartbeats 2000000 in
theorem yardRest_ok (d : Depot) (ms : List Meter) (m : Int) (hd : d.Ok) (h5 : ∀ t, t ∈ d.Trucks → (t.Past.length : Int) ≤ 100000) (hD : (restD d m).Ok) (hm : 0 ≤ m ∧ m ≤ 40320) (he : turnE (fun _ => restF m) 0 d.Trucks = 0) (hme : (metersV (restD d m)).2.2 = 0) :
    ICalls Tryz.prog 63 [.ptr 0 0, gi m] [.cells (yardC d ms)] (Done (.tup [.ptr 1 0, gi 0]) [.cells (yardC d ms), .cells (yardC (restD d m) (metersV (restD d m)).1)]) := by
  have h2 := withRest_ok d ms m hd h5 hD he hme
  unfold restD at *
  generalize (metersV (turnD (fun _ => restF m) d)).1 = ms' at *
  generalize turnD (fun _ => restF m) d = D at *
  clear he hD hd h5
  obtain ⟨b, w, oo, l⟩ := d
  obtain ⟨b', w', oo', l'⟩ := D
  show ICalls _ _ _ [.cells (b.c ++ [.list 1 (w.map rowG) none, .list 5 (oo.map Order.g) none, .list 6 (l.map Truck.g) none] ++ [.list 14 (ms.map Meter.g) none])] _
  refine ICalls.of_body Tryz.func63 rfl Tryz.call63 rfl (Nat.le_of_ble_eq_true rfl) pl_K17_2 rfl ?_
  repeat' ((conv => whnf); first
    | refine Br.yes rfl ?_
    | refine Br.no rfl ?_
    | refine Br.yes (beq_self_eq_true _) ?_
    | refine Br.not ?_
    | refine Br.yes (decide_eq_true (by assumption)) ?_
    | refine Br.no (decide_eq_false (by assumption)) ?_
    | refine Br.yes (beq_iff_eq.2 (by assumption)) ?_
    | refine Br.no (beq_eq_false_iff_ne.2 (by assumption)) ?_
    | refine Br.yes (bne_iff_ne.2 (by assumption)) ?_
    | (refine Br.dec (fun h => ?_) (fun h => ?_) <;> try dsimp only at h)
    | (refine Br.beqI (fun h => ?_) (fun h => ?_) <;> try dsimp only at h)
    | (refine Br.bneI (fun h => ?_) (fun h => ?_) <;> try dsimp only at h)
    | refine Br.mk (fun h => ?_) (fun h => ?_)
    | refine Need.mk (by first | kernel_rfl | exact ⟨of_decide_eq_true rfl, of_decide_eq_true rfl⟩ | omega) ?_
    | refine Len.mk ⟨_, by simp only [List.length_cons, List.length_nil, Nat.reduceAdd, Int.cast_ofNat_Int]; rfl, ?_⟩
    | refine Wr.lit _ (by simp only [Int.reduceAdd, Int.reduceSub, Int.reduceMul]; rfl) (by decide) ?_
    | refine Wr.fit (by omega) ?_
    | refine Wr.fit (by dsimp only; omega) ?_
    | refine Elem.mk ⟨_, ⟨of_decide_eq_true rfl, rfl⟩, ?_⟩
    | refine Len.map ?_
    | refine Len.dropM ?_
    | refine Elem.dropM ?_
    | refine Len.takeM ?_
    | refine Elem.takeM ?_
    | refine Elem.mapK (by assumption) ?_
    | refine Elem.mapI (by omega) (by assumption) ?_
    | refine Elem.mapN (by omega) (fun x hx => ?_)
    | refine Elem.map (by omega) (by omega) (fun x hx => ?_)
    | refine (h2).use ⟨rfl, ?_⟩
    | refine CallX.mk ⟨_, _, (h2).x, rfl, ?_⟩
    | refine Done.mk ⟨rfl, rfl⟩
    | refine Done.mk ⟨congrArg gb ?_, rfl⟩
    | refine Done.mk ⟨?_, rfl⟩
    | refine Done.mk ⟨?_, ?_⟩)
  all_goals first
    | omega
    | rfl
    | (exfalso; omega)
set_option maxRecDepth 100000 in
set_option maxHeartbeats 2000000 in
theorem yardRest_err (d : Depot) (ms : List Meter) (m : Int) (hm : ¬ (0 ≤ m ∧ m ≤ 40320)) :
    ICalls Tryz.prog 63 [.ptr 0 0, gi m] [.cells (yardC d ms)] (Done (.tup [nilP, gi 4]) [.cells (yardC d ms)]) := by
  obtain ⟨b, w, oo, l⟩ := d
  show ICalls _ _ _ [.cells (b.c ++ [.list 1 (w.map rowG) none, .list 5 (oo.map Order.g) none, .list 6 (l.map Truck.g) none] ++ [.list 14 (ms.map Meter.g) none])] _
  refine ICalls.of_body Tryz.func63 rfl Tryz.call63 rfl (Nat.le_of_ble_eq_true rfl) (fun _ => none) rfl ?_
  repeat' ((conv => whnf); first
    | refine Br.yes rfl ?_
    | refine Br.no rfl ?_
    | refine Br.yes (beq_self_eq_true _) ?_
    | refine Br.not ?_
    | refine Br.yes (decide_eq_true (by assumption)) ?_
    | refine Br.no (decide_eq_false (by assumption)) ?_
    | refine Br.yes (beq_iff_eq.2 (by assumption)) ?_
    | refine Br.no (beq_eq_false_iff_ne.2 (by assumption)) ?_
    | refine Br.yes (bne_iff_ne.2 (by assumption)) ?_
    | (refine Br.dec (fun h => ?_) (fun h => ?_) <;> try dsimp only at h)
    | (refine Br.beqI (fun h => ?_) (fun h => ?_) <;> try dsimp only at h)
    | (refine Br.bneI (fun h => ?_) (fun h => ?_) <;> try dsimp only at h)
    | refine Br.mk (fun h => ?_) (fun h => ?_)
    | refine Need.mk (by first | kernel_rfl | exact ⟨of_decide_eq_true rfl, of_decide_eq_true rfl⟩ | omega) ?_
    | refine Len.mk ⟨_, by simp only [List.length_cons, List.length_nil, Nat.reduceAdd, Int.cast_ofNat_Int]; rfl, ?_⟩
    | refine Wr.lit _ (by simp only [Int.reduceAdd, Int.reduceSub, Int.reduceMul]; rfl) (by decide) ?_
    | refine Wr.fit (by omega) ?_
    | refine Wr.fit (by dsimp only; omega) ?_
    | refine Elem.mk ⟨_, ⟨of_decide_eq_true rfl, rfl⟩, ?_⟩
    | refine Len.map ?_
    | refine Len.dropM ?_
    | refine Elem.dropM ?_
    | refine Len.takeM ?_
    | refine Elem.takeM ?_
    | refine Elem.mapK (by assumption) ?_
    | refine Elem.mapI (by omega) (by assumption) ?_
    | refine Elem.mapN (by omega) (fun x hx => ?_)
    | refine Elem.map (by omega) (by omega) (fun x hx => ?_)
    | refine Done.mk ⟨rfl, rfl⟩
    | refine Done.mk ⟨congrArg gb ?_, rfl⟩
    | refine Done.mk ⟨?_, rfl⟩
    | refine Done.mk ⟨?_, ?_⟩)
  all_goals first
    | omega
    | rfl
    | (exfalso; omega)
set_option maxRecDepth 100000 in
set_option maxHeartbeats 2000000 in
theorem yardRestNil_ok (m : Int) : ICalls Tryz.prog 63 [nilP, gi m] [] (Done (.tup [nilP, gi 13]) []) := by
  refine ICalls.of_body Tryz.func63 rfl Tryz.call63 rfl (Nat.le_of_ble_eq_true rfl) (fun _ => none) rfl ?_
  repeat' ((conv => whnf); first
    | refine Br.yes rfl ?_
    | refine Br.no rfl ?_
    | refine Br.yes (beq_self_eq_true _) ?_
    | refine Br.not ?_
    | refine Br.yes (decide_eq_true (by assumption)) ?_
    | refine Br.no (decide_eq_false (by assumption)) ?_
    | refine Br.yes (beq_iff_eq.2 (by assumption)) ?_
    | refine Br.no (beq_eq_false_iff_ne.2 (by assumption)) ?_
    | refine Br.yes (bne_iff_ne.2 (by assumption)) ?_
    | (refine Br.dec (fun h => ?_) (fun h => ?_) <;> try dsimp only at h)
    | (refine Br.beqI (fun h => ?_) (fun h => ?_) <;> try dsimp only at h)
    | (refine Br.bneI (fun h => ?_) (fun h => ?_) <;> try dsimp only at h)
    | refine Br.mk (fun h => ?_) (fun h => ?_)
    | refine Need.mk (by first | kernel_rfl | exact ⟨of_decide_eq_true rfl, of_decide_eq_true rfl⟩ | omega) ?_
    | refine Len.mk ⟨_, by simp only [List.length_cons, List.length_nil, Nat.reduceAdd, Int.cast_ofNat_Int]; rfl, ?_⟩
    | refine Wr.lit _ (by simp only [Int.reduceAdd, Int.reduceSub, Int.reduceMul]; rfl) (by decide) ?_
    | refine Wr.fit (by omega) ?_
    | refine Wr.fit (by dsimp only; omega) ?_
    | refine Elem.mk ⟨_, ⟨of_decide_eq_true rfl, rfl⟩, ?_⟩
    | refine Len.map ?_
    | refine Len.dropM ?_
    | refine Elem.dropM ?_
    | refine Len.takeM ?_
    | refine Elem.takeM ?_
    | refine Elem.mapK (by assumption) ?_
    | refine Elem.mapI (by omega) (by assumption) ?_
    | refine Elem.mapN (by omega) (fun x hx => ?_)
    | refine Elem.map (by omega) (by omega) (fun x hx => ?_)
    | refine Done.mk ⟨rfl, rfl⟩
    | refine Done.mk ⟨congrArg gb ?_, rfl⟩
    | refine Done.mk ⟨?_, rfl⟩
    | refine Done.mk ⟨?_, ?_⟩)
  all_goals first
    | omega
    | rfl

end Go.Hl
