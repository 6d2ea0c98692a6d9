/- Contracts of functions, bundle K15; proved for whatever the arguments' types allow, as each theorem says. -/
import Derived.Test.YtoofplbjpkgdgaaK12

/- Chapter 30: yards whose trucks' pasts go on.  -/
set_option linter.unusedVariables false
set_option linter.unusedSimpArgs false
namespace Go.Hl
open Go.Gh Go.Proofs

def pl_K15_1 : Nat → Option (List Nat × List Nat) := (fun k => bif Nat.beq k 5000005 then some ([], []) else bif Nat.beq k 4000000 then some ([105], []) else none)
set_option maxRecDepth 100000 in
theorem cloneTrk_ok (s : Truck) (r : List Truck) (hl : (r.length : Int) ≤ 1000000000) :
    ICalls Try.prog 93 [.list 6 (trucks (s :: r)) none] [] (Done (.ms 6 0 1 (s :: r).length) [.mvec 111 6 (trucks (s :: r)) 1]) := by
  refine ICalls.of_body Try.func93 rfl Try.call93 rfl (Nat.le_of_ble_eq_true rfl) pl_K15_1 rfl ?_
  repeat' ((conv => whnf); first
    | refine Br.yes rfl ?_
    | refine Br.no rfl ?_
    | refine Br.yes (beq_self_eq_true _) ?_
    | refine Br.not ?_
    | refine Br.yes (decide_eq_true (by assumption)) ?_
    | refine Br.no (decide_eq_false (by assumption)) ?_
    | refine Br.yes (beq_iff_eq.2 (by assumption)) ?_
    | refine Br.no (beq_eq_false_iff_ne.2 (by assumption)) ?_
    | refine Br.yes (bne_iff_ne.2 (by assumption)) ?_
    | (refine Br.dec (fun h => ?_) (fun h => ?_) <;> try dsimp only at h)
    | (refine Br.beqI (fun h => ?_) (fun h => ?_) <;> try dsimp only at h)
    | (refine Br.bneI (fun h => ?_) (fun h => ?_) <;> try dsimp only at h)
    | refine Br.mk (fun h => ?_) (fun h => ?_)
    | refine Need.mk (app_need (by first | (simp only [List.length_append, List.length_map, List.length_nil, List.length_cons, List.nil_append, Nat.zero_add, Nat.add_zero]; done) | (simp only [List.length_append, List.length_map, List.length_nil, List.length_cons, List.nil_append, Nat.zero_add, Nat.add_zero]; omega) | omega) (Nat.le_of_ble_eq_true rfl) (by first | (simp only [List.length_append, List.length_map, List.length_nil, List.length_cons, List.nil_append, Nat.zero_add, Nat.add_zero]; done) | (simp only [List.length_append, List.length_map, List.length_nil, List.length_cons, List.nil_append, Nat.zero_add, Nat.add_zero]; omega) | omega)) ?_
    | refine Need.mk (app_need0 (Nat.le_of_ble_eq_true rfl) (by first | (simp only [List.length_append, List.length_map, List.length_nil, List.length_cons, List.nil_append, Nat.zero_add, Nat.add_zero]; done) | (simp only [List.length_append, List.length_map, List.length_nil, List.length_cons, List.nil_append, Nat.zero_add, Nat.add_zero]; omega) | omega)) ?_
    | refine Need.mk (app_needM rfl (Nat.le_of_ble_eq_true rfl) (by first | (simp only [List.length_append, List.length_map, List.length_nil, List.length_cons, List.nil_append, Nat.zero_add, Nat.add_zero]; done) | (simp only [List.length_append, List.length_map, List.length_nil, List.length_cons, List.nil_append, Nat.zero_add, Nat.add_zero]; omega) | omega)) ?_
    | refine Need.mk (zeros_need (by omega) (Nat.le_of_ble_eq_true rfl) (by omega)) ?_
    | refine Need.mk (by first | kernel_rfl | exact ⟨of_decide_eq_true rfl, of_decide_eq_true rfl⟩ | omega) ?_
    | refine Len.mk ⟨_, by simp only [List.length_cons, List.length_nil, Nat.reduceAdd, Int.cast_ofNat_Int]; rfl, ?_⟩
    | refine Wr.lit _ (by simp only [Int.reduceAdd, Int.reduceSub, Int.reduceMul]; rfl) (by decide) ?_
    | refine Wr.fit (by omega) ?_
    | refine Wr.fit (by dsimp only; omega) ?_
    | refine Elem.mk ⟨_, ⟨of_decide_eq_true rfl, rfl⟩, ?_⟩
    | refine Len.map ?_
    | refine Len.dropM ?_
    | refine Elem.dropM ?_
    | refine Len.takeM ?_
    | refine Elem.takeM ?_
    | refine Elem.mapK (by assumption) ?_
    | refine Elem.mapI (by omega) (by assumption) ?_
    | refine Elem.mapN (by omega) (fun x hx => ?_)
    | refine Elem.map (by omega) (by omega) (fun x hx => ?_)
    | refine Done.mk ⟨rfl, rfl⟩
    | refine Done.mk ⟨congrArg gb ?_, rfl⟩
    | refine Done.mk ⟨?_, rfl⟩
    | refine Done.mk ⟨?_, ?_⟩)
  all_goals exact congrArg (GV.ms 6 0 1) (show 0 + (trucks (s :: r)).length = (s :: r).length by simp)
set_option maxRecDepth 100000 in
theorem cloneTrkN_ok : ICalls Try.prog 93 ([] ++ .v (.slice none 0 0) :: []) [] (Done (.list 6 (trucks []) none) []) := by
  refine ICalls.of_body Try.func93 rfl Try.call93 rfl (Nat.le_of_ble_eq_true rfl) (fun _ => none) rfl ?_
  repeat' ((conv => whnf); first
    | refine Br.yes rfl ?_
    | refine Br.no rfl ?_
    | refine Br.yes (beq_self_eq_true _) ?_
    | refine Br.not ?_
    | refine Br.yes (decide_eq_true (by assumption)) ?_
    | refine Br.no (decide_eq_false (by assumption)) ?_
    | refine Br.yes (beq_iff_eq.2 (by assumption)) ?_
    | refine Br.no (beq_eq_false_iff_ne.2 (by assumption)) ?_
    | refine Br.yes (bne_iff_ne.2 (by assumption)) ?_
    | (refine Br.dec (fun h => ?_) (fun h => ?_) <;> try dsimp only at h)
    | (refine Br.beqI (fun h => ?_) (fun h => ?_) <;> try dsimp only at h)
    | (refine Br.bneI (fun h => ?_) (fun h => ?_) <;> try dsimp only at h)
    | refine Br.mk (fun h => ?_) (fun h => ?_)
    | refine Need.mk (app_need (by first | (simp only [List.length_append, List.length_map, List.length_nil, List.length_cons, List.nil_append, Nat.zero_add, Nat.add_zero]; done) | (simp only [List.length_append, List.length_map, List.length_nil, List.length_cons, List.nil_append, Nat.zero_add, Nat.add_zero]; omega) | omega) (Nat.le_of_ble_eq_true rfl) (by first | (simp only [List.length_append, List.length_map, List.length_nil, List.length_cons, List.nil_append, Nat.zero_add, Nat.add_zero]; done) | (simp only [List.length_append, List.length_map, List.length_nil, List.length_cons, List.nil_append, Nat.zero_add, Nat.add_zero]; omega) | omega)) ?_
    | refine Need.mk (app_need0 (Nat.le_of_ble_eq_true rfl) (by first | (simp only [List.length_append, List.length_map, List.length_nil, List.length_cons, List.nil_append, Nat.zero_add, Nat.add_zero]; done) | (simp only [List.length_append, List.length_map, List.length_nil, List.length_cons, List.nil_append, Nat.zero_add, Nat.add_zero]; omega) | omega)) ?_
    | refine Need.mk (app_needM rfl (Nat.le_of_ble_eq_true rfl) (by first | (simp only [List.length_append, List.length_map, List.length_nil, List.length_cons, List.nil_append, Nat.zero_add, Nat.add_zero]; done) | (simp only [List.length_append, List.length_map, List.length_nil, List.length_cons, List.nil_append, Nat.zero_add, Nat.add_zero]; omega) | omega)) ?_
    | refine Need.mk (zeros_need (by omega) (Nat.le_of_ble_eq_true rfl) (by omega)) ?_
    | refine Need.mk (by first | kernel_rfl | exact ⟨of_decide_eq_true rfl, of_decide_eq_true rfl⟩ | omega) ?_
    | refine Len.mk ⟨_, by simp only [List.length_cons, List.length_nil, Nat.reduceAdd, Int.cast_ofNat_Int]; rfl, ?_⟩
    | refine Wr.lit _ (by simp only [Int.reduceAdd, Int.reduceSub, Int.reduceMul]; rfl) (by decide) ?_
    | refine Wr.fit (by omega) ?_
    | refine Wr.fit (by dsimp only; omega) ?_
    | refine Elem.mk ⟨_, ⟨of_decide_eq_true rfl, rfl⟩, ?_⟩
    | refine Len.map ?_
    | refine Len.dropM ?_
    | refine Elem.dropM ?_
    | refine Len.takeM ?_
    | refine Elem.takeM ?_
    | refine Elem.mapK (by assumption) ?_
    | refine Elem.mapI (by omega) (by assumption) ?_
    | refine Elem.mapN (by omega) (fun x hx => ?_)
    | refine Elem.map (by omega) (by omega) (fun x hx => ?_)
    | refine Done.mk ⟨rfl, rfl⟩
    | refine Done.mk ⟨congrArg gb ?_, rfl⟩
    | refine Done.mk ⟨?_, rfl⟩
    | refine Done.mk ⟨?_, ?_⟩)
def pl_K15_2 : Nat → Option (List Nat × List Nat) := (fun k => bif Nat.beq k 5000005 then some ([], []) else bif Nat.beq k 6000002 then some ([], []) else none)
set_option maxRecDepth 100000 in
theorem cloneTrkE_ok : ICalls Try.prog 93 ([] ++ .emp :: []) [] (Done (.list 6 (trucks []) none) []) := by
  refine ICalls.of_body Try.func93 rfl Try.call93 rfl (Nat.le_of_ble_eq_true rfl) pl_K15_2 rfl ?_
  repeat' ((conv => whnf); first
    | refine Br.yes rfl ?_
    | refine Br.no rfl ?_
    | refine Br.yes (beq_self_eq_true _) ?_
    | refine Br.not ?_
    | refine Br.yes (decide_eq_true (by assumption)) ?_
    | refine Br.no (decide_eq_false (by assumption)) ?_
    | refine Br.yes (beq_iff_eq.2 (by assumption)) ?_
    | refine Br.no (beq_eq_false_iff_ne.2 (by assumption)) ?_
    | refine Br.yes (bne_iff_ne.2 (by assumption)) ?_
    | (refine Br.dec (fun h => ?_) (fun h => ?_) <;> try dsimp only at h)
    | (refine Br.beqI (fun h => ?_) (fun h => ?_) <;> try dsimp only at h)
    | (refine Br.bneI (fun h => ?_) (fun h => ?_) <;> try dsimp only at h)
    | refine Br.mk (fun h => ?_) (fun h => ?_)
    | refine Need.mk (app_need (by first | (simp only [List.length_append, List.length_map, List.length_nil, List.length_cons, List.nil_append, Nat.zero_add, Nat.add_zero]; done) | (simp only [List.length_append, List.length_map, List.length_nil, List.length_cons, List.nil_append, Nat.zero_add, Nat.add_zero]; omega) | omega) (Nat.le_of_ble_eq_true rfl) (by first | (simp only [List.length_append, List.length_map, List.length_nil, List.length_cons, List.nil_append, Nat.zero_add, Nat.add_zero]; done) | (simp only [List.length_append, List.length_map, List.length_nil, List.length_cons, List.nil_append, Nat.zero_add, Nat.add_zero]; omega) | omega)) ?_
    | refine Need.mk (app_need0 (Nat.le_of_ble_eq_true rfl) (by first | (simp only [List.length_append, List.length_map, List.length_nil, List.length_cons, List.nil_append, Nat.zero_add, Nat.add_zero]; done) | (simp only [List.length_append, List.length_map, List.length_nil, List.length_cons, List.nil_append, Nat.zero_add, Nat.add_zero]; omega) | omega)) ?_
    | refine Need.mk (app_needM rfl (Nat.le_of_ble_eq_true rfl) (by first | (simp only [List.length_append, List.length_map, List.length_nil, List.length_cons, List.nil_append, Nat.zero_add, Nat.add_zero]; done) | (simp only [List.length_append, List.length_map, List.length_nil, List.length_cons, List.nil_append, Nat.zero_add, Nat.add_zero]; omega) | omega)) ?_
    | refine Need.mk (zeros_need (by omega) (Nat.le_of_ble_eq_true rfl) (by omega)) ?_
    | refine Need.mk (by first | kernel_rfl | exact ⟨of_decide_eq_true rfl, of_decide_eq_true rfl⟩ | omega) ?_
    | refine Len.mk ⟨_, by simp only [List.length_cons, List.length_nil, Nat.reduceAdd, Int.cast_ofNat_Int]; rfl, ?_⟩
    | refine Wr.lit _ (by simp only [Int.reduceAdd, Int.reduceSub, Int.reduceMul]; rfl) (by decide) ?_
    | refine Wr.fit (by omega) ?_
    | refine Wr.fit (by dsimp only; omega) ?_
    | refine Elem.mk ⟨_, ⟨of_decide_eq_true rfl, rfl⟩, ?_⟩
    | refine Len.map ?_
    | refine Len.dropM ?_
    | refine Elem.dropM ?_
    | refine Len.takeM ?_
    | refine Elem.takeM ?_
    | refine Elem.mapK (by assumption) ?_
    | refine Elem.mapI (by omega) (by assumption) ?_
    | refine Elem.mapN (by omega) (fun x hx => ?_)
    | refine Elem.map (by omega) (by omega) (fun x hx => ?_)
    | refine Done.mk ⟨rfl, rfl⟩
    | refine Done.mk ⟨congrArg gb ?_, rfl⟩
    | refine Done.mk ⟨?_, rfl⟩
    | refine Done.mk ⟨?_, ?_⟩)
theorem cloneTrk0_ok : ICalls Try.prog 93 [.list 6 (trucks []) none] [] (Done (.list 6 (trucks []) none) []) :=
  ICalls.nils (a := []) (b := []) cloneTrkN_ok cloneTrkE_ok

/-! ### A truck, turned -/
def moreF (at0 : Int) (r : List Rec) (i : Int) (t : Truck) : Truck × Int := if i ≠ at0 then (t, 0) else moreV t (t.Past ++ r)
def restF (m : Int) (t : Truck) : Truck × Int := if pastErr t.Past ≠ 0 ∨ m ≤ endV t.Past then (t, pastErr t.Past) else restedV t m
set_option maxRecDepth 100000 in
set_option maxHeartbeats 1000000 in
theorem moreC_ok (at0 i : Int) (r : List Rec) (t : Truck) (ht : (t.Past.length : Int) ≤ 1000000) (hr : (r.length : Int) ≤ 1000000) : ICalls Try.prog 62 [gi i, t.g, .ptr 0 0, .ptr 1 0] [.cells [gi at0], .cells [.list 3 (recs r) none]] (Done (truckV (moreF at0 r i t)) [.cells [gi at0], .cells [.list 3 (recs r) none]]) := by
  have h1 := more_ok t r ht hr
  unfold moreF
  generalize moreV t (t.Past ++ r) = q at *
  obtain ⟨q1, q2⟩ := q
  obtain ⟨a, b, c, d, e, l⟩ := t
  refine ICalls.of_body Try.func62 rfl Try.call62 rfl (Nat.le_of_ble_eq_true rfl) (fun _ => none) rfl ?_
  repeat' ((conv => whnf); first
    | refine Br.yes rfl ?_
    | refine Br.no rfl ?_
    | refine Br.yes (beq_self_eq_true _) ?_
    | refine Br.not ?_
    | refine Br.yes (decide_eq_true (by assumption)) ?_
    | refine Br.no (decide_eq_false (by assumption)) ?_
    | refine Br.yes (beq_iff_eq.2 (by assumption)) ?_
    | refine Br.no (beq_eq_false_iff_ne.2 (by assumption)) ?_
    | refine Br.yes (bne_iff_ne.2 (by assumption)) ?_
    | (refine Br.dec (fun h => ?_) (fun h => ?_) <;> try dsimp only at h)
    | (refine Br.beqI (fun h => ?_) (fun h => ?_) <;> try dsimp only at h)
    | (refine Br.bneI (fun h => ?_) (fun h => ?_) <;> try dsimp only at h)
    | refine Br.mk (fun h => ?_) (fun h => ?_)
    | refine Need.mk (by first | kernel_rfl | exact ⟨of_decide_eq_true rfl, of_decide_eq_true rfl⟩ | omega) ?_
    | refine Len.mk ⟨_, by simp only [List.length_cons, List.length_nil, Nat.reduceAdd, Int.cast_ofNat_Int]; rfl, ?_⟩
    | refine Wr.lit _ (by simp only [Int.reduceAdd, Int.reduceSub, Int.reduceMul]; rfl) (by decide) ?_
    | refine Wr.fit (by omega) ?_
    | refine Wr.fit (by dsimp only; omega) ?_
    | refine Elem.mk ⟨_, ⟨of_decide_eq_true rfl, rfl⟩, ?_⟩
    | refine Len.map ?_
    | refine Len.dropM ?_
    | refine Elem.dropM ?_
    | refine Len.takeM ?_
    | refine Elem.takeM ?_
    | refine Elem.mapK (by assumption) ?_
    | refine Elem.mapI (by omega) (by assumption) ?_
    | refine Elem.mapN (by omega) (fun x hx => ?_)
    | refine Elem.map (by omega) (by omega) (fun x hx => ?_)
    | refine (h1).use ⟨rfl, ?_⟩
    | refine CallX.mk ⟨_, _, (h1).x, rfl, ?_⟩
    | refine Done.mk ⟨rfl, rfl⟩
    | refine Done.mk ⟨congrArg gb ?_, rfl⟩
    | refine Done.mk ⟨?_, rfl⟩
    | refine Done.mk ⟨?_, ?_⟩)
  all_goals first
    | omega
    | (rw [if_pos (by omega)]; rfl)
    | (rw [if_neg (by omega)]; rfl)
/-! ### All trucks, turned -/
def turnE (F : Int → Truck → Truck × Int) : Int → List Truck → Int
  | _, [] => 0
  | i, t :: r => if (F i t).2 ≠ 0 then (F i t).2 else turnE F (i + 1) r
def turnL (F : Int → Truck → Truck × Int) : Int → List Truck → List Truck
  | _, [] => []
  | i, t :: r => (F i t).1 :: turnL F (i + 1) r
theorem turnL_len {F : Int → Truck → Truck × Int} : ∀ (l : List Truck) (i : Int), (turnL F i l).length = l.length
  | [], _ => rfl
  | t :: r, i => by rw [turnL, List.length_cons, turnL_len r]; rfl
/-- The trucks up to a place are turned. -/
structure TurnI (F : Int → Truck → Truck × Int) (l cur : List Truck) (i : Nat) : Prop where
  le : i ≤ l.length
  eq : cur = (turnL F 0 l).take i ++ l.drop i
theorem turnL_get {F : Int → Truck → Truck × Int} : ∀ (l : List Truck) (j : Int) (i : Nat) (t : Truck), l[i]? = some t → (turnL F j l)[i]? = some (F (j + i) t).1
  | x :: r, j, 0, t, h => by
    simp only [List.getElem?_cons_zero, Option.some.injEq] at h
    subst h
    rw [turnL]; simp
  | x :: r, j, i + 1, t, h => by
    simp only [List.getElem?_cons_succ] at h
    rw [turnL, List.getElem?_cons_succ, turnL_get r (j + 1) i t h, show j + 1 + (i : Int) = j + ((i + 1 : Nat) : Int) by omega]
theorem TurnI.get {F : Int → Truck → Truck × Int} {l cur : List Truck} {i : Nat} (h : TurnI F l cur i) : cur[i]? = l[i]? := by
  have h1 := h.le
  rw [h.eq, List.getElem?_append_right (by rw [List.length_take, turnL_len]; omega), List.length_take, turnL_len, Nat.min_eq_left h1, Nat.sub_self, List.getElem?_drop, Nat.add_zero]
theorem TurnI.len {F : Int → Truck → Truck × Int} {l cur : List Truck} {i : Nat} (h : TurnI F l cur i) : cur.length = l.length := by
  have h1 := h.le
  rw [h.eq]; simp [turnL_len]; omega
theorem TurnI.next {F : Int → Truck → Truck × Int} {l cur : List Truck} {i : Nat} {t : Truck} (h : TurnI F l cur i) (ht : l[i]? = some t) : TurnI F l (cur.set i (F i t).1) (i + 1) := by
  have hi := (List.getElem?_eq_some_iff.1 ht).1
  refine ⟨by omega, ?_⟩
  have hg := turnL_get (F := F) l 0 i t ht
  rw [Int.zero_add] at hg
  rw [h.eq, take_nextK hg, drop_of_get ht]
  have e : ((turnL F 0 l).take i).length = i := by rw [List.length_take, turnL_len]; omega
  rw [List.set_append_right _ _ (by omega), e, Nat.sub_self, List.set_cons_zero, List.append_assoc]
  rfl
theorem TurnI.start (F : Int → Truck → Truck × Int) (l : List Truck) : TurnI F l l 0 := ⟨Nat.zero_le _, by simp⟩
theorem TurnI.fin {F : Int → Truck → Truck × Int} {l cur : List Truck} {i : Nat} (h : TurnI F l cur i) (hi : ¬ (i : Int) < l.length) : cur = turnL F 0 l := by
  rw [h.eq, List.take_of_length_le (by rw [turnL_len]; omega), List.drop_eq_nil_of_le (by omega), List.append_nil]
theorem turnE_bad {F : Int → Truck → Truck × Int} {l : List Truck} {i : Nat} {t : Truck} {E : Int} (ht : l[i]? = some t) (hr : turnE F i (l.drop i) = E) (h : ¬ (F i t).2 = 0) : E = (F i t).2 := by
  rw [drop_of_get ht, turnE, if_pos h] at hr; exact hr.symm
theorem turnE_go {F : Int → Truck → Truck × Int} {l : List Truck} {i : Nat} {t : Truck} {E : Int} (ht : l[i]? = some t) (hr : turnE F i (l.drop i) = E) (h : (F i t).2 = 0) : turnE F (i + 1 : Nat) (l.drop (i + 1)) = E := by
  rw [drop_of_get ht, turnE, if_neg (by simp [h])] at hr; exact hr
theorem turnE_end {F : Int → Truck → Truck × Int} {l : List Truck} {i : Nat} {E : Int} (hi : ¬ (i : Int) < l.length) (hr : turnE F i (l.drop i) = E) : E = 0 := by
  rw [List.drop_eq_nil_of_le (by omega), turnE] at hr; exact hr.symm
def turnD (F : Int → Truck → Truck × Int) (d : Depot) : Depot := ⟨d.Book, d.Ways, d.Orders, turnL F 0 d.Trucks⟩
theorem trucks_set (l : List Truck) (i : Nat) (t : Truck) : (trucks l).set i t.g = trucks (l.set i t) := by simp [trucks, List.map_set]

def pl_K15_3 : Nat → Option (List Nat × List Nat) := (fun k => bif Nat.beq k 4 then some ([1000004, 1, 6, 20, 21], [0, 106, 116]) else bif Nat.beq k 4000000 then some ([145], []) else none)
def pl_K15_4 : Nat → Option (List Nat × List Nat) := (fun k => bif Nat.beq k 4 then some ([1000004, 1, 6, 20, 21], [0, 106, 116]) else bif Nat.beq k 7000011 then some ([106], [21]) else bif Nat.beq k 4000000 then some ([145], []) else none)
def pl_K15_5 : Nat → Option (List Nat × List Nat) := (fun k => bif Nat.beq k 4 then some ([1000004, 1, 6, 20, 21], [0, 106, 116]) else none)
end Go.Hl

/- Chapter 30: yards in which one truck's past goes on.  -/
set_option linter.unusedVariables false
set_option linter.unusedSimpArgs false
namespace Go.Hl
open Go.Gh Go.Proofs

def pl_K16_1 : Nat → Option (List Nat × List Nat) := (fun k => bif Nat.beq k 4 then some ([1000004, 1, 6, 20, 21], [0, 1, 2, 106, 116]) else bif Nat.beq k 4000000 then some ([145], []) else none)
def pl_K16_2 : Nat → Option (List Nat × List Nat) := (fun k => bif Nat.beq k 4 then some ([1000004, 1, 6, 20, 21], [0, 1, 2, 106, 116]) else bif Nat.beq k 7000011 then some ([106], [21]) else bif Nat.beq k 4000000 then some ([145], []) else none)
def pl_K16_3 : Nat → Option (List Nat × List Nat) := (fun k => bif Nat.beq k 4 then some ([1000004, 1, 6, 20, 21], [0, 1, 2, 106, 116]) else none)
def pl_K16_4 : Nat → Option (List Nat × List Nat) := (fun k => bif Nat.beq k 4 then some ([1000004, 1, 6, 20, 21], [0, 1, 2, 106, 116]) else bif Nat.beq k 7000011 then some ([106], [21]) else none)
def pl_K16_5 : Nat → Option (List Nat × List Nat) := (fun k => bif Nat.beq k 4 then some ([1000004, 1, 6, 20, 21], [0, 1, 2, 106, 116]) else none)
end Go.Hl

/- Chapter 30: yards turned: More, Rest; the reference's.  -/
set_option linter.unusedVariables false
set_option linter.unusedSimpArgs false
namespace Go.Hl
open Go.Gh Go.Proofs

def atT (d : Depot) (id : Int) : Int := idxFrom (isID id) 0 d.Trucks
def moreD (d : Depot) (id : Int) (r : List Rec) : Depot := turnD (moreF (atT d id) r) d
def moreE (d : Depot) (id : Int) (r : List Rec) : Int := if atT d id < 0 then 10 else if turnE (moreF (atT d id) r) 0 d.Trucks ≠ 0 then turnE (moreF (atT d id) r) 0 d.Trucks else (metersV (moreD d id r)).2.2
def restD (d : Depot) (m : Int) : Depot := turnD (fun _ => restF m) d

def pl_K17_1 : Nat → Option (List Nat × List Nat) := (fun k => bif Nat.beq k 4000000 then some ([118], []) else none)
set_option maxRecDepth 100000 in
set_option maxHeartbeats 2000000 in
theorem yardMoreNil_ok (id : Int) (r : List Rec) : ICalls Try.prog 26 [nilP, gi id, .list 3 (recs r) none] [] (Done (.tup [nilP, gi 13]) []) := by
  refine ICalls.of_body Try.func26 rfl Try.call26 rfl (Nat.le_of_ble_eq_true rfl) (fun _ => none) rfl ?_
  repeat' ((conv => whnf); first
    | refine Br.yes rfl ?_
    | refine Br.no rfl ?_
    | refine Br.yes (beq_self_eq_true _) ?_
    | refine Br.not ?_
    | refine Br.yes (decide_eq_true (by assumption)) ?_
    | refine Br.no (decide_eq_false (by assumption)) ?_
    | refine Br.yes (beq_iff_eq.2 (by assumption)) ?_
    | refine Br.no (beq_eq_false_iff_ne.2 (by assumption)) ?_
    | refine Br.yes (bne_iff_ne.2 (by assumption)) ?_
    | (refine Br.dec (fun h => ?_) (fun h => ?_) <;> try dsimp only at h)
    | (refine Br.beqI (fun h => ?_) (fun h => ?_) <;> try dsimp only at h)
    | (refine Br.bneI (fun h => ?_) (fun h => ?_) <;> try dsimp only at h)
    | refine Br.mk (fun h => ?_) (fun h => ?_)
    | refine Need.mk (by first | kernel_rfl | exact ⟨of_decide_eq_true rfl, of_decide_eq_true rfl⟩ | omega) ?_
    | refine Len.mk ⟨_, by simp only [List.length_cons, List.length_nil, Nat.reduceAdd, Int.cast_ofNat_Int]; rfl, ?_⟩
    | refine Wr.lit _ (by simp only [Int.reduceAdd, Int.reduceSub, Int.reduceMul]; rfl) (by decide) ?_
    | refine Wr.fit (by omega) ?_
    | refine Wr.fit (by dsimp only; omega) ?_
    | refine Elem.mk ⟨_, ⟨of_decide_eq_true rfl, rfl⟩, ?_⟩
    | refine Len.map ?_
    | refine Len.dropM ?_
    | refine Elem.dropM ?_
    | refine Len.takeM ?_
    | refine Elem.takeM ?_
    | refine Elem.mapK (by assumption) ?_
    | refine Elem.mapI (by omega) (by assumption) ?_
    | refine Elem.mapN (by omega) (fun x hx => ?_)
    | refine Elem.map (by omega) (by omega) (fun x hx => ?_)
    | refine Done.mk ⟨rfl, rfl⟩
    | refine Done.mk ⟨congrArg gb ?_, rfl⟩
    | refine Done.mk ⟨?_, rfl⟩
    | refine Done.mk ⟨?_, ?_⟩)
  all_goals first
    | omega
    | rfl

def pl_K17_2 : Nat → Option (List Nat × List Nat) := (fun k => bif Nat.beq k 4000000 then some ([119], []) else none)
end Go.Hl
