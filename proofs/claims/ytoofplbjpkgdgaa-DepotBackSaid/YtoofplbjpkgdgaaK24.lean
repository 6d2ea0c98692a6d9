/- Contracts of functions, bundle K24; proved for whatever the arguments' types allow, as each theorem says. -/
import Derived.Test.YtoofplbjpkgdgaaK15
import Derived.Test.YtoofplbjpkgdgaaGh20

/- Chapter 30: yards that nobody changes, as values: what they tell, what is made of them.  -/
set_option linter.unusedVariables false
set_option linter.unusedSimpArgs false
namespace Go.Hl
open Go.Gh Go.Proofs

/-- A yard, as a value. -/
def yardR (d : Depot) (ms : List Meter) : GV := .ref (yardC d ms) 0
theorem newR_ok (d : Depot) (hd : d.Ok) (he : (depotE d).2.2 = 0) : ICalls Try.prog 21 [d.g] [] (Done (.tup [yardR d (metersV d).1, gi 0]) []) := (new_ok d hd he).still rfl rfl
theorem yardNewR_ok (d : Depot) (hd : d.Ok) (he : (metersV d).2.2 = 0) : ICalls Try.prog 48 [d.g] [] (Done (.tup [yardR d (metersV d).1, gi 0]) []) := (yard_ok d hd he).still rfl rfl

set_option maxRecDepth 100000 in
set_option maxHeartbeats 2000000 in
theorem toldR_ok (d : Depot) (ms : List Meter) (hd : d.Ok) : ICalls Try.prog 25 [yardR d ms] [] (Done d.g []) := by
  have h2 := depotOwn_ok d hd
  obtain ⟨b, w, o, l⟩ := d
  clear hd
  show ICalls _ _ (.ref (b.c ++ [.list 1 (w.map rowG) none, .list 5 (o.map Order.g) none, .list 6 (l.map Truck.g) none] ++ [.list 14 (ms.map Meter.g) none]) 0 :: _) [] _
  refine ICalls.of_body Try.func25 rfl Try.call25 rfl (Nat.le_of_ble_eq_true rfl) (fun _ => none) rfl ?_
  repeat' ((conv => whnf); first
    | refine Br.yes rfl ?_
    | refine Br.no rfl ?_
    | refine Br.yes (beq_self_eq_true _) ?_
    | refine Br.not ?_
    | refine Br.yes (decide_eq_true (by assumption)) ?_
    | refine Br.no (decide_eq_false (by assumption)) ?_
    | refine Br.yes (beq_iff_eq.2 (by assumption)) ?_
    | refine Br.no (beq_eq_false_iff_ne.2 (by assumption)) ?_
    | refine Br.yes (bne_iff_ne.2 (by assumption)) ?_
    | (refine Br.dec (fun h => ?_) (fun h => ?_) <;> try dsimp only at h)
    | (refine Br.beqI (fun h => ?_) (fun h => ?_) <;> try dsimp only at h)
    | (refine Br.bneI (fun h => ?_) (fun h => ?_) <;> try dsimp only at h)
    | refine Br.mk (fun h => ?_) (fun h => ?_)
    | refine Need.mk (by first | kernel_rfl | exact ⟨of_decide_eq_true rfl, of_decide_eq_true rfl⟩ | omega) ?_
    | refine Len.mk ⟨_, by simp only [List.length_cons, List.length_nil, Nat.reduceAdd, Int.cast_ofNat_Int]; rfl, ?_⟩
    | refine Wr.lit _ (by simp only [Int.reduceAdd, Int.reduceSub, Int.reduceMul]; rfl) (by decide) ?_
    | refine Wr.fit (by omega) ?_
    | refine Wr.fit (by dsimp only; omega) ?_
    | refine Elem.mk ⟨_, ⟨of_decide_eq_true rfl, rfl⟩, ?_⟩
    | refine Len.map ?_
    | refine Len.dropM ?_
    | refine Elem.dropM ?_
    | refine Len.takeM ?_
    | refine Elem.takeM ?_
    | refine Elem.mapK (by assumption) ?_
    | refine Elem.mapI (by omega) (by assumption) ?_
    | refine Elem.mapN (by omega) (fun x hx => ?_)
    | refine Elem.map (by omega) (by omega) (fun x hx => ?_)
    | refine (h2).use ⟨rfl, ?_⟩
    | refine CallX.mk ⟨_, _, (h2).x, rfl, ?_⟩
    | refine Done.mk ⟨rfl, rfl⟩
    | refine Done.mk ⟨congrArg gb ?_, rfl⟩
    | refine Done.mk ⟨?_, rfl⟩
    | refine Done.mk ⟨?_, ?_⟩)
  all_goals first
    | omega
    | rfl
set_option maxRecDepth 100000 in
set_option maxHeartbeats 2000000 in
theorem yardAtR_ok (d : Depot) (ms : List Meter) (id : Int) (hd : d.Ok) : ICalls Try.prog 60 [yardR d ms, gi id] [] (Done (gi (idxFrom (isID id) 0 d.Trucks)) []) := by
  have h2 := idxTruck_ok 92 id (isID id) (fun s => yardAtC_ok s id) d.Trucks (by have := hd.tl; omega)
  obtain ⟨b, w, o, l⟩ := d
  simp only at *
  clear hd
  generalize idxFrom (isID id) 0 l = q at *
  show ICalls _ _ (.ref (b.c ++ [.list 1 (w.map rowG) none, .list 5 (o.map Order.g) none, .list 6 (l.map Truck.g) none] ++ [.list 14 (ms.map Meter.g) none]) 0 :: _) [] _
  refine ICalls.of_body Try.func60 rfl Try.call60 rfl (Nat.le_of_ble_eq_true rfl) (fun _ => none) rfl ?_
  repeat' ((conv => whnf); first
    | refine Br.yes rfl ?_
    | refine Br.no rfl ?_
    | refine Br.yes (beq_self_eq_true _) ?_
    | refine Br.not ?_
    | refine Br.yes (decide_eq_true (by assumption)) ?_
    | refine Br.no (decide_eq_false (by assumption)) ?_
    | refine Br.yes (beq_iff_eq.2 (by assumption)) ?_
    | refine Br.no (beq_eq_false_iff_ne.2 (by assumption)) ?_
    | refine Br.yes (bne_iff_ne.2 (by assumption)) ?_
    | (refine Br.dec (fun h => ?_) (fun h => ?_) <;> try dsimp only at h)
    | (refine Br.beqI (fun h => ?_) (fun h => ?_) <;> try dsimp only at h)
    | (refine Br.bneI (fun h => ?_) (fun h => ?_) <;> try dsimp only at h)
    | refine Br.mk (fun h => ?_) (fun h => ?_)
    | refine Need.mk (by first | kernel_rfl | exact ⟨of_decide_eq_true rfl, of_decide_eq_true rfl⟩ | omega) ?_
    | refine Len.mk ⟨_, by simp only [List.length_cons, List.length_nil, Nat.reduceAdd, Int.cast_ofNat_Int]; rfl, ?_⟩
    | refine Wr.lit _ (by simp only [Int.reduceAdd, Int.reduceSub, Int.reduceMul]; rfl) (by decide) ?_
    | refine Wr.fit (by omega) ?_
    | refine Wr.fit (by dsimp only; omega) ?_
    | refine Elem.mk ⟨_, ⟨of_decide_eq_true rfl, rfl⟩, ?_⟩
    | refine Len.map ?_
    | refine Len.dropM ?_
    | refine Elem.dropM ?_
    | refine Len.takeM ?_
    | refine Elem.takeM ?_
    | refine Elem.mapK (by assumption) ?_
    | refine Elem.mapI (by omega) (by assumption) ?_
    | refine Elem.mapN (by omega) (fun x hx => ?_)
    | refine Elem.map (by omega) (by omega) (fun x hx => ?_)
    | refine (h2).use ⟨rfl, ?_⟩
    | refine CallX.mk ⟨_, _, (h2).x, rfl, ?_⟩
    | refine Done.mk ⟨rfl, rfl⟩
    | refine Done.mk ⟨congrArg gb ?_, rfl⟩
    | refine Done.mk ⟨?_, rfl⟩
    | refine Done.mk ⟨?_, ?_⟩)
  all_goals first
    | omega
    | rfl
set_option maxRecDepth 100000 in
set_option maxHeartbeats 2000000 in
theorem yardAddR_err (d : Depot) (ms : List Meter) (o : Order) (hd : d.Ok) (ho : (o.Open.length : Int) ≤ 1000000) (he : ¬ addE d o = 0) : ICalls Try.prog 22 [yardR d ms, o.g] [] (Done (.tup [nilP, gi (addE d o)]) []) := by
  have h1 := orderCheck_ok o d.Ways.length
  have h2 := orderAdd_ok d.Orders o hd.ol hd.op ho
  unfold addE at he ⊢
  generalize orderErr o d.Ways.length = e1 at *
  generalize addO d.Orders o = q at *
  obtain ⟨q1, q2⟩ := q
  obtain ⟨b, w, oo, l⟩ := d
  obtain ⟨oa, ob, oc, od, ol⟩ := o
  simp only at *
  clear hd
  show ICalls _ _ (.ref (b.c ++ [.list 1 (w.map rowG) none, .list 5 (oo.map Order.g) none, .list 6 (l.map Truck.g) none] ++ [.list 14 (ms.map Meter.g) none]) 0 :: _) [] _
  refine ICalls.of_body Try.func22 rfl Try.call22 rfl (Nat.le_of_ble_eq_true rfl) (fun _ => none) rfl ?_
  repeat' ((conv => whnf); first
    | refine Br.yes rfl ?_
    | refine Br.no rfl ?_
    | (refine Len.map ?_)
    | refine Br.yes (beq_self_eq_true _) ?_
    | refine Br.not ?_
    | refine Br.yes (decide_eq_true (by assumption)) ?_
    | refine Br.no (decide_eq_false (by assumption)) ?_
    | refine Br.yes (beq_iff_eq.2 (by assumption)) ?_
    | refine Br.no (beq_eq_false_iff_ne.2 (by assumption)) ?_
    | refine Br.yes (bne_iff_ne.2 (by assumption)) ?_
    | (refine Br.dec (fun h => ?_) (fun h => ?_) <;> try dsimp only at h)
    | (refine Br.beqI (fun h => ?_) (fun h => ?_) <;> try dsimp only at h)
    | (refine Br.bneI (fun h => ?_) (fun h => ?_) <;> try dsimp only at h)
    | refine Br.mk (fun h => ?_) (fun h => ?_)
    | refine Need.mk (by first | kernel_rfl | exact ⟨of_decide_eq_true rfl, of_decide_eq_true rfl⟩ | omega) ?_
    | refine Len.mk ⟨_, by simp only [List.length_cons, List.length_nil, Nat.reduceAdd, Int.cast_ofNat_Int]; rfl, ?_⟩
    | refine Wr.lit _ (by simp only [Int.reduceAdd, Int.reduceSub, Int.reduceMul]; rfl) (by decide) ?_
    | refine Wr.fit (by omega) ?_
    | refine Wr.fit (by dsimp only; omega) ?_
    | refine Elem.mk ⟨_, ⟨of_decide_eq_true rfl, rfl⟩, ?_⟩
    | refine Len.map ?_
    | refine Len.dropM ?_
    | refine Elem.dropM ?_
    | refine Len.takeM ?_
    | refine Elem.takeM ?_
    | refine Elem.mapK (by assumption) ?_
    | refine Elem.mapI (by omega) (by assumption) ?_
    | refine Elem.mapN (by omega) (fun x hx => ?_)
    | refine Elem.map (by omega) (by omega) (fun x hx => ?_)
    | refine (h1).use ⟨rfl, ?_⟩
    | refine (h2).use ⟨rfl, ?_⟩
    | refine CallX.mk ⟨_, _, (h1).x, rfl, ?_⟩
    | refine CallX.mk ⟨_, _, (h2).x, rfl, ?_⟩
    | refine Done.mk ⟨rfl, rfl⟩
    | refine Done.mk ⟨congrArg gb ?_, rfl⟩
    | refine Done.mk ⟨?_, rfl⟩
    | refine Done.mk ⟨?_, ?_⟩)
  all_goals first
    | omega
    | (rw [if_pos (by omega)]; rfl)
    | (rw [if_neg (by omega)]; rfl)
    | (rw [if_neg (by omega)] at he; exfalso; omega)
def pl_K24_1 : Nat → Option (List Nat × List Nat) := (fun k => bif Nat.beq k 5 then some ([1000005, 0, 6, 17, 18, 19], [106]) else none)
def pl_K24_2 : Nat → Option (List Nat × List Nat) := (fun k => bif Nat.beq k 4000000 then some ([148], []) else none)
set_option maxRecDepth 100000 in
set_option maxHeartbeats 2000000 in
theorem yardAddR_ok0 (d : Depot) (ms : List Meter) (o : Order) (hd : d.Ok) (ho : (o.Open.length : Int) ≤ 1000000) (he : addE d o = 0) : ICalls Try.prog 22 [yardR d ms, o.g] [] (Done (.tup [.ptr 0 0, gi 0]) [.cells (yardC (addD d o) ms)]) := by
  have h1 := orderCheck_ok o d.Ways.length
  have h2 := orderAdd_ok d.Orders o hd.ol hd.op ho
  obtain ⟨e1, e2⟩ := addE_0 he
  unfold addD
  rw [e1] at h1
  generalize addO d.Orders o = q at *
  obtain ⟨q1, q2⟩ := q
  simp only at e2
  subst e2
  obtain ⟨b, w, oo, l⟩ := d
  obtain ⟨oa, ob, oc, od, ol⟩ := o
  simp only at *
  clear hd he
  show ICalls _ _ (.ref (b.c ++ [.list 1 (w.map rowG) none, .list 5 (oo.map Order.g) none, .list 6 (l.map Truck.g) none] ++ [.list 14 (ms.map Meter.g) none]) 0 :: _) [] _
  refine ICalls.of_body Try.func22 rfl Try.call22 rfl (Nat.le_of_ble_eq_true rfl) pl_K24_2 rfl ?_
  repeat' ((conv => whnf); first
    | refine Br.yes rfl ?_
    | refine Br.no rfl ?_
    | (refine Len.map ?_)
    | refine Br.yes (beq_self_eq_true _) ?_
    | refine Br.not ?_
    | refine Br.yes (decide_eq_true (by assumption)) ?_
    | refine Br.no (decide_eq_false (by assumption)) ?_
    | refine Br.yes (beq_iff_eq.2 (by assumption)) ?_
    | refine Br.no (beq_eq_false_iff_ne.2 (by assumption)) ?_
    | refine Br.yes (bne_iff_ne.2 (by assumption)) ?_
    | (refine Br.dec (fun h => ?_) (fun h => ?_) <;> try dsimp only at h)
    | (refine Br.beqI (fun h => ?_) (fun h => ?_) <;> try dsimp only at h)
    | (refine Br.bneI (fun h => ?_) (fun h => ?_) <;> try dsimp only at h)
    | refine Br.mk (fun h => ?_) (fun h => ?_)
    | refine Need.mk (by first | kernel_rfl | exact ⟨of_decide_eq_true rfl, of_decide_eq_true rfl⟩ | omega) ?_
    | refine Len.mk ⟨_, by simp only [List.length_cons, List.length_nil, Nat.reduceAdd, Int.cast_ofNat_Int]; rfl, ?_⟩
    | refine Wr.lit _ (by simp only [Int.reduceAdd, Int.reduceSub, Int.reduceMul]; rfl) (by decide) ?_
    | refine Wr.fit (by omega) ?_
    | refine Wr.fit (by dsimp only; omega) ?_
    | refine Elem.mk ⟨_, ⟨of_decide_eq_true rfl, rfl⟩, ?_⟩
    | refine Len.map ?_
    | refine Len.dropM ?_
    | refine Elem.dropM ?_
    | refine Len.takeM ?_
    | refine Elem.takeM ?_
    | refine Elem.mapK (by assumption) ?_
    | refine Elem.mapI (by omega) (by assumption) ?_
    | refine Elem.mapN (by omega) (fun x hx => ?_)
    | refine Elem.map (by omega) (by omega) (fun x hx => ?_)
    | refine (h1).use ⟨rfl, ?_⟩
    | refine (h2).use ⟨rfl, ?_⟩
    | refine CallX.mk ⟨_, _, (h1).x, rfl, ?_⟩
    | refine CallX.mk ⟨_, _, (h2).x, rfl, ?_⟩
    | refine Done.mk ⟨rfl, rfl⟩
    | refine Done.mk ⟨congrArg gb ?_, rfl⟩
    | refine Done.mk ⟨?_, rfl⟩
    | refine Done.mk ⟨?_, ?_⟩)
  all_goals first
    | omega
    | rfl
theorem yardAddR_ok (d : Depot) (ms : List Meter) (o : Order) (hd : d.Ok) (ho : (o.Open.length : Int) ≤ 1000000) (he : addE d o = 0) : ICalls Try.prog 22 [yardR d ms, o.g] [] (Done (.tup [yardR (addD d o) ms, gi 0]) []) := (yardAddR_ok0 d ms o hd ho he).still rfl rfl
def pl_K24_3 : Nat → Option (List Nat × List Nat) := (fun k => bif Nat.beq k 5 then some ([1000005, 0, 6, 17, 18, 19], [106]) else bif Nat.beq k 4000000 then some ([141], []) else none)
set_option maxRecDepth 100000 in
set_option maxHeartbeats 2000000 in
theorem yardDropR_ok0 (d : Depot) (ms : List Meter) (ids : List Int) (hd : d.Ok) (hi9 : (ids.length : Int) ≤ 1000000) (he : (dropsO d.Orders ids).2 = 0) : ICalls Try.prog 23 [yardR d ms, .list 1 (ints ids) none] [] (Done (.tup [.ptr 0 0, gi 0]) [.cells (yardC (dropD d ids) ms)]) := by
  have hdr := fun l id h1 h2 => orderDrop_ok l id h1 h2
  have hol := hd.ol
  have hop := hd.op
  unfold dropD
  generalize hR : dropsO d.Orders ids = R at *
  obtain ⟨b, w, oo, l⟩ := d
  simp only at *
  clear hd
  show ICalls _ _ (.ref (b.c ++ [.list 1 (w.map rowG) none, .list 5 (oo.map Order.g) none, .list 6 (l.map Truck.g) none] ++ [.list 14 (ms.map Meter.g) none]) 0 :: _) [] _
  refine ICalls.of_body Try.func23 rfl Try.call23 rfl (Nat.le_of_ble_eq_true rfl) pl_K24_3 rfl ?_
  repeat' ((conv => whnf); first
    | refine Br.yes rfl ?_
    | refine Br.no rfl ?_
    | (refine Elem.mapN (by omega) (fun x hx => ?_))
    | (refine ILoop.ov 1000005 (fun ((cur, i) : List Order × Nat) => [(19, gi i)]) (fun ((cur, i) : List Order × Nat) => [(106, .cells (b.c ++ [.list 1 (w.map rowG) none, .list 5 (cur.map Order.g) none, .list 6 (l.map Truck.g) none]))]) (fun ((cur, i) : List Order × Nat) => (i ≤ ids.length ∧ (cur.length : Int) ≤ 1000000 ∧ Opens cur) ∧ dropsO cur (ids.drop i) = R) (fun ((cur, i) : List Order × Nat) => ids.length - i) ((oo, 0)) (by exact rfl) ?_; (conv => whnf); refine Start.mk rfl ?_ ?_; (try dsimp only); rotate_left; rintro ⟨cur, i⟩ ⟨⟨hi, hcl, hco⟩, hr⟩)
    | (refine Again.mk ⟨(((dropO cur x).1, i + 1)), rfl, ?_, ?_⟩ <;> try dsimp only)
    | refine Br.yes (beq_self_eq_true _) ?_
    | refine Br.not ?_
    | refine Br.yes (decide_eq_true (by assumption)) ?_
    | refine Br.no (decide_eq_false (by assumption)) ?_
    | refine Br.yes (beq_iff_eq.2 (by assumption)) ?_
    | refine Br.no (beq_eq_false_iff_ne.2 (by assumption)) ?_
    | refine Br.yes (bne_iff_ne.2 (by assumption)) ?_
    | (refine Br.dec (fun h => ?_) (fun h => ?_) <;> try dsimp only at h)
    | (refine Br.beqI (fun h => ?_) (fun h => ?_) <;> try dsimp only at h)
    | (refine Br.bneI (fun h => ?_) (fun h => ?_) <;> try dsimp only at h)
    | refine Br.mk (fun h => ?_) (fun h => ?_)
    | refine Need.mk (by first | kernel_rfl | exact ⟨of_decide_eq_true rfl, of_decide_eq_true rfl⟩ | omega) ?_
    | refine Len.mk ⟨_, by simp only [List.length_cons, List.length_nil, Nat.reduceAdd, Int.cast_ofNat_Int]; rfl, ?_⟩
    | refine Wr.lit _ (by simp only [Int.reduceAdd, Int.reduceSub, Int.reduceMul]; rfl) (by decide) ?_
    | refine Wr.fit (by omega) ?_
    | refine Wr.fit (by dsimp only; omega) ?_
    | refine Elem.mk ⟨_, ⟨of_decide_eq_true rfl, rfl⟩, ?_⟩
    | refine Len.map ?_
    | refine Len.dropM ?_
    | refine Elem.dropM ?_
    | refine Len.takeM ?_
    | refine Elem.takeM ?_
    | refine Elem.mapK (by assumption) ?_
    | refine Elem.mapI (by omega) (by assumption) ?_
    | refine Elem.mapN (by omega) (fun x hx => ?_)
    | refine Elem.map (by omega) (by omega) (fun x hx => ?_)
    | refine (hdr cur x hcl hco).use ⟨rfl, ?_⟩
    | refine CallX.mk ⟨_, _, (hdr cur x hcl hco).x, rfl, ?_⟩
    | refine Done.mk ⟨rfl, rfl⟩
    | refine Done.mk ⟨congrArg gb ?_, rfl⟩
    | refine Done.mk ⟨?_, rfl⟩
    | refine Done.mk ⟨?_, ?_⟩)
  all_goals first
    | omega
    | (have e := drops_bad hx hr (by assumption); rw [e] at he; exact absurd he (by decide))
    | exact ⟨⟨by omega, dropO_fits hcl hco⟩, drops_go hx hr (by omega)⟩
    | (rw [drops_end (by assumption) hr]; rfl)
    | exact ⟨⟨Nat.zero_le _, hol, hop⟩, hR⟩
    | rfl
theorem yardDropR_ok (d : Depot) (ms : List Meter) (ids : List Int) (hd : d.Ok) (hi9 : (ids.length : Int) ≤ 1000000) (he : (dropsO d.Orders ids).2 = 0) : ICalls Try.prog 23 [yardR d ms, .list 1 (ints ids) none] [] (Done (.tup [yardR (dropD d ids) ms, gi 0]) []) := (yardDropR_ok0 d ms ids hd hi9 he).still rfl rfl
def pl_K24_4 : Nat → Option (List Nat × List Nat) := (fun k => bif Nat.beq k 4 then some ([1000004, 1, 6, 20, 21], [106, 116]) else none)
def pl_K24_5 : Nat → Option (List Nat × List Nat) := (fun k => bif Nat.beq k 4 then some ([1000004, 1, 6, 20, 21], [106, 116]) else bif Nat.beq k 7000011 then some ([106], [21]) else none)
def pl_K24_6 : Nat → Option (List Nat × List Nat) := (fun k => bif Nat.beq k 4 then some ([1000004, 1, 6, 20, 21], [106, 116]) else none)
def pl_K24_7 : Nat → Option (List Nat × List Nat) := (fun k => bif Nat.beq k 4 then some ([1000004, 1, 6, 20, 21], [0, 1, 106, 116]) else none)
def pl_K24_8 : Nat → Option (List Nat × List Nat) := (fun k => bif Nat.beq k 4 then some ([1000004, 1, 6, 20, 21], [0, 1, 106, 116]) else bif Nat.beq k 7000011 then some ([106], [21]) else none)
set_option maxRecDepth 100000 in
set_option maxHeartbeats 4000000 in
theorem withMoreR_ok (d : Depot) (ms : List Meter) (at0 : Int) (r : List Rec) (hr9 : (r.length : Int) ≤ 1000000) (hd : d.Ok) (hD : (turnD (moreF at0 r) d).Ok) (he : turnE (moreF at0 r) 0 d.Trucks = 0) (hm : (metersV (turnD (moreF at0 r) d)).2.2 = 0) :
    ICalls Try.prog 61 [yardR d ms, .fn (.func 62) [] [.ptr 0 0, .ptr 1 0]] [.cells [gi at0], .cells [.list 3 (recs r) none]]
      (Done (.tup [yardR (turnD (moreF at0 r) d) (metersV (turnD (moreF at0 r) d)).1, gi 0]) [.cells [gi at0], .cells [.list 3 (recs r) none]]) := by
  have h1 := fun (i : Nat) (t : Truck) (ht : d.Trucks[i]? = some t) => moreC_ok at0 i r t (hd.tp t (List.mem_of_getElem? ht)) hr9
  have h2 := yardNewR_ok _ hD hm
  have htl := hd.tl
  generalize (metersV (turnD (moreF at0 r) d)).1 = ms' at *
  obtain ⟨b, w, oo, l⟩ := d
  unfold turnD at *
  simp only at *
  clear hd hD hm
  show ICalls _ _ (.ref (b.c ++ [.list 1 (w.map rowG) none, .list 5 (oo.map Order.g) none, .list 6 (l.map Truck.g) none] ++ [.list 14 (ms.map Meter.g) none]) 0 :: _) [.cells [gi at0], .cells [.list 3 (recs r) none]] _
  cases l with
  | nil =>
    have h0 := cloneTrk0_ok
    refine ICalls.of_body Try.func61 rfl Try.call61 rfl (Nat.le_of_ble_eq_true rfl) pl_K24_7 rfl ?_
    repeat' ((conv => whnf); first
      | refine Br.yes rfl ?_
      | refine Br.no rfl ?_
      | (refine Len.map ?_)
      | refine Br.yes (beq_self_eq_true _) ?_
      | refine Br.not ?_
      | refine Br.yes (decide_eq_true (by assumption)) ?_
      | refine Br.no (decide_eq_false (by assumption)) ?_
      | refine Br.yes (beq_iff_eq.2 (by assumption)) ?_
      | refine Br.no (beq_eq_false_iff_ne.2 (by assumption)) ?_
      | refine Br.yes (bne_iff_ne.2 (by assumption)) ?_
      | (refine Br.dec (fun h => ?_) (fun h => ?_) <;> try dsimp only at h)
      | (refine Br.beqI (fun h => ?_) (fun h => ?_) <;> try dsimp only at h)
      | (refine Br.bneI (fun h => ?_) (fun h => ?_) <;> try dsimp only at h)
      | refine Br.mk (fun h => ?_) (fun h => ?_)
      | refine Need.mk (by first | kernel_rfl | exact ⟨of_decide_eq_true rfl, of_decide_eq_true rfl⟩ | omega) ?_
      | refine Len.mk ⟨_, by simp only [List.length_cons, List.length_nil, Nat.reduceAdd, Int.cast_ofNat_Int]; rfl, ?_⟩
      | refine Wr.lit _ (by simp only [Int.reduceAdd, Int.reduceSub, Int.reduceMul]; rfl) (by decide) ?_
      | refine Wr.fit (by omega) ?_
      | refine Wr.fit (by dsimp only; omega) ?_
      | refine Elem.mk ⟨_, ⟨of_decide_eq_true rfl, rfl⟩, ?_⟩
      | refine Len.map ?_
      | refine Len.dropM ?_
      | refine Elem.dropM ?_
      | refine Len.takeM ?_
      | refine Elem.takeM ?_
      | refine Elem.mapK (by assumption) ?_
      | refine Elem.mapI (by omega) (by assumption) ?_
      | refine Elem.mapN (by omega) (fun x hx => ?_)
      | refine Elem.map (by omega) (by omega) (fun x hx => ?_)
      | refine (h0).use ⟨rfl, ?_⟩
      | refine (h2).use ⟨rfl, ?_⟩
      | refine CallX.mk ⟨_, _, (h0).x, rfl, ?_⟩
      | refine CallX.mk ⟨_, _, (h2).x, rfl, ?_⟩
      | refine ILoop.unroll 2 ?_
      | refine Done.mk ⟨rfl, rfl⟩
      | refine Done.mk ⟨congrArg gb ?_, rfl⟩
      | refine Done.mk ⟨?_, rfl⟩
      | refine Done.mk ⟨?_, ?_⟩)
    all_goals first
      | omega
      | rfl
      | (simp at *; done)
      | trace_state
  | cons s q =>
    have h0 := cloneTrk_ok s q (by simp at htl; omega)
    generalize s :: q = l at *
    have h2c : ∀ cur, cur = turnL (moreF at0 r) 0 l → ICalls Try.prog 48 [.agg (b.c ++ [.list 1 (w.map rowG) none, .list 5 (oo.map Order.g) none, .list 6 (cur.map Truck.g) none])] [] (Done (.tup [yardR ⟨b, w, oo, turnL (moreF at0 r) 0 l⟩ ms', gi 0]) []) := fun cur e => by subst e; exact h2
    clear h2
    refine ICalls.of_body Try.func61 rfl Try.call61 rfl (Nat.le_of_ble_eq_true rfl) pl_K24_8 rfl ?_
    repeat' ((conv => whnf); first
      | refine Br.yes rfl ?_
      | refine Br.no rfl ?_
      | (refine Len.map ?_)
      | (refine Elem.mapK hcur ?_)
      | (refine Elem.mapN (by have := hI.len; omega) (fun t hcur => ?_); have ht := hI.get.symm.trans hcur)
      | (refine ILoop.ov 1000004 (fun ((i, cur, G, v) : Nat × List Truck × List GV × Nat) => [(21, gi i)]) (fun ((i, cur, G, v) : Nat × List Truck × List GV × Nat) => [(106, .cells (b.c ++ [.list 1 (w.map rowG) none, .list 5 (oo.map Order.g) none, .ms 6 116 v l.length])), (116, .mvec 111 6 G v)]) (fun ((i, cur, G, v) : Nat × List Truck × List GV × Nat) => (G = trucks cur ∧ TurnI (moreF at0 r) l cur i) ∧ turnE (moreF at0 r) i (l.drop i) = 0) (fun ((i, cur, G, v) : Nat × List Truck × List GV × Nat) => l.length - i) ((0, l, trucks l, 1)) (by exact rfl) ?_; (conv => whnf); refine Start.mk rfl ?_ ?_; (try dsimp only); rotate_left; rintro ⟨i, cur, G, v⟩ ⟨⟨rfl, hI⟩, hr⟩)
      | (refine Again.mk ⟨((i + 1, cur.set i (moreF at0 r i t).1, _, v)), rfl, ?_, ?_⟩ <;> try dsimp only)
      | refine Br.yes (beq_self_eq_true _) ?_
      | refine Br.not ?_
      | refine Br.yes (decide_eq_true (by assumption)) ?_
      | refine Br.no (decide_eq_false (by assumption)) ?_
      | refine Br.yes (beq_iff_eq.2 (by assumption)) ?_
      | refine Br.no (beq_eq_false_iff_ne.2 (by assumption)) ?_
      | refine Br.yes (bne_iff_ne.2 (by assumption)) ?_
      | (refine Br.dec (fun h => ?_) (fun h => ?_) <;> try dsimp only at h)
      | (refine Br.beqI (fun h => ?_) (fun h => ?_) <;> try dsimp only at h)
      | (refine Br.bneI (fun h => ?_) (fun h => ?_) <;> try dsimp only at h)
      | refine Br.mk (fun h => ?_) (fun h => ?_)
      | refine Need.mk (by first | kernel_rfl | exact ⟨of_decide_eq_true rfl, of_decide_eq_true rfl⟩ | omega) ?_
      | refine Len.mk ⟨_, by simp only [List.length_cons, List.length_nil, Nat.reduceAdd, Int.cast_ofNat_Int]; rfl, ?_⟩
      | refine Wr.lit _ (by simp only [Int.reduceAdd, Int.reduceSub, Int.reduceMul]; rfl) (by decide) ?_
      | refine Wr.fit (by omega) ?_
      | refine Wr.fit (by dsimp only; omega) ?_
      | refine Elem.mk ⟨_, ⟨of_decide_eq_true rfl, rfl⟩, ?_⟩
      | refine Len.map ?_
      | refine Len.dropM ?_
      | refine Elem.dropM ?_
      | refine Len.takeM ?_
      | refine Elem.takeM ?_
      | refine Elem.mapK (by assumption) ?_
      | refine Elem.mapI (by omega) (by assumption) ?_
      | refine Elem.mapN (by omega) (fun x hx => ?_)
      | refine Elem.map (by omega) (by omega) (fun x hx => ?_)
      | refine (h0).use ⟨rfl, ?_⟩
      | refine (h1 i t ht).use ⟨rfl, ?_⟩
      | refine (h2c cur (hI.fin (by assumption))).use ⟨rfl, ?_⟩
      | refine CallX.mk ⟨_, _, (h0).x, rfl, ?_⟩
      | refine CallX.mk ⟨_, _, (h1 i t ht).x, rfl, ?_⟩
      | refine CallX.mk ⟨_, _, (h2c cur (hI.fin (by assumption))).x, rfl, ?_⟩
      | refine Done.mk ⟨rfl, rfl⟩
      | refine Done.mk ⟨congrArg gb ?_, rfl⟩
      | refine Done.mk ⟨?_, rfl⟩
      | refine Done.mk ⟨?_, ?_⟩)
    all_goals first
      | omega
      | exact ⟨⟨by rw [Int.toNat_natCast]; exact trucks_set cur i (moreF at0 r i t).1, hI.next ht⟩, turnE_go ht hr (by assumption)⟩
      | exact absurd (turnE_bad ht hr (by assumption)).symm (by assumption)
      | exact ⟨⟨rfl, .start _ _⟩, he⟩
      | rfl
def pl_K24_9 : Nat → Option (List Nat × List Nat) := (fun k => bif Nat.beq k 4 then some ([1000004, 1, 6, 20, 21], [0, 1, 106, 116]) else none)
def pl_K24_10 : Nat → Option (List Nat × List Nat) := (fun k => bif Nat.beq k 4 then some ([1000004, 1, 6, 20, 21], [0, 1, 106, 116]) else bif Nat.beq k 7000011 then some ([106], [21]) else none)
set_option maxRecDepth 100000 in
set_option maxHeartbeats 4000000 in
theorem withMoreR_yard (d : Depot) (ms : List Meter) (at0 : Int) (r : List Rec) (hr9 : (r.length : Int) ≤ 1000000) (hd : d.Ok) (hD : (turnD (moreF at0 r) d).Ok) (he : turnE (moreF at0 r) 0 d.Trucks = 0) (hm : ¬ (metersV (turnD (moreF at0 r) d)).2.2 = 0) :
    ICalls Try.prog 61 [yardR d ms, .fn (.func 62) [] [.ptr 0 0, .ptr 1 0]] [.cells [gi at0], .cells [.list 3 (recs r) none]]
      (Done (.tup [nilP, gi (metersV (turnD (moreF at0 r) d)).2.2]) [.cells [gi at0], .cells [.list 3 (recs r) none]]) := by
  have h1 := fun (i : Nat) (t : Truck) (ht : d.Trucks[i]? = some t) => moreC_ok at0 i r t (hd.tp t (List.mem_of_getElem? ht)) hr9
  have h2 := yard_err _ hD hm
  have htl := hd.tl
  generalize (metersV (turnD (moreF at0 r) d)).2.2 = ee at *
  obtain ⟨b, w, oo, l⟩ := d
  unfold turnD at *
  simp only at *
  clear hd hD hm
  show ICalls _ _ (.ref (b.c ++ [.list 1 (w.map rowG) none, .list 5 (oo.map Order.g) none, .list 6 (l.map Truck.g) none] ++ [.list 14 (ms.map Meter.g) none]) 0 :: _) [.cells [gi at0], .cells [.list 3 (recs r) none]] _
  cases l with
  | nil =>
    have h0 := cloneTrk0_ok
    refine ICalls.of_body Try.func61 rfl Try.call61 rfl (Nat.le_of_ble_eq_true rfl) pl_K24_9 rfl ?_
    repeat' ((conv => whnf); first
      | refine Br.yes rfl ?_
      | refine Br.no rfl ?_
      | (refine Len.map ?_)
      | refine Br.yes (beq_self_eq_true _) ?_
      | refine Br.not ?_
      | refine Br.yes (decide_eq_true (by assumption)) ?_
      | refine Br.no (decide_eq_false (by assumption)) ?_
      | refine Br.yes (beq_iff_eq.2 (by assumption)) ?_
      | refine Br.no (beq_eq_false_iff_ne.2 (by assumption)) ?_
      | refine Br.yes (bne_iff_ne.2 (by assumption)) ?_
      | (refine Br.dec (fun h => ?_) (fun h => ?_) <;> try dsimp only at h)
      | (refine Br.beqI (fun h => ?_) (fun h => ?_) <;> try dsimp only at h)
      | (refine Br.bneI (fun h => ?_) (fun h => ?_) <;> try dsimp only at h)
      | refine Br.mk (fun h => ?_) (fun h => ?_)
      | refine Need.mk (by first | kernel_rfl | exact ⟨of_decide_eq_true rfl, of_decide_eq_true rfl⟩ | omega) ?_
      | refine Len.mk ⟨_, by simp only [List.length_cons, List.length_nil, Nat.reduceAdd, Int.cast_ofNat_Int]; rfl, ?_⟩
      | refine Wr.lit _ (by simp only [Int.reduceAdd, Int.reduceSub, Int.reduceMul]; rfl) (by decide) ?_
      | refine Wr.fit (by omega) ?_
      | refine Wr.fit (by dsimp only; omega) ?_
      | refine Elem.mk ⟨_, ⟨of_decide_eq_true rfl, rfl⟩, ?_⟩
      | refine Len.map ?_
      | refine Len.dropM ?_
      | refine Elem.dropM ?_
      | refine Len.takeM ?_
      | refine Elem.takeM ?_
      | refine Elem.mapK (by assumption) ?_
      | refine Elem.mapI (by omega) (by assumption) ?_
      | refine Elem.mapN (by omega) (fun x hx => ?_)
      | refine Elem.map (by omega) (by omega) (fun x hx => ?_)
      | refine (h0).use ⟨rfl, ?_⟩
      | refine (h2).use ⟨rfl, ?_⟩
      | refine CallX.mk ⟨_, _, (h0).x, rfl, ?_⟩
      | refine CallX.mk ⟨_, _, (h2).x, rfl, ?_⟩
      | refine ILoop.unroll 2 ?_
      | refine Done.mk ⟨rfl, rfl⟩
      | refine Done.mk ⟨congrArg gb ?_, rfl⟩
      | refine Done.mk ⟨?_, rfl⟩
      | refine Done.mk ⟨?_, ?_⟩)
    all_goals first
      | omega
      | rfl
      | (simp at *; done)
      | trace_state
  | cons s q =>
    have h0 := cloneTrk_ok s q (by simp at htl; omega)
    generalize s :: q = l at *
    have h2c : ∀ cur, cur = turnL (moreF at0 r) 0 l → ICalls Try.prog 48 [.agg (b.c ++ [.list 1 (w.map rowG) none, .list 5 (oo.map Order.g) none, .list 6 (cur.map Truck.g) none])] [] (Done (.tup [nilP, gi ee]) []) := fun cur e => by subst e; exact h2
    clear h2
    refine ICalls.of_body Try.func61 rfl Try.call61 rfl (Nat.le_of_ble_eq_true rfl) pl_K24_10 rfl ?_
    repeat' ((conv => whnf); first
      | refine Br.yes rfl ?_
      | refine Br.no rfl ?_
      | (refine Len.map ?_)
      | (refine Elem.mapK hcur ?_)
      | (refine Elem.mapN (by have := hI.len; omega) (fun t hcur => ?_); have ht := hI.get.symm.trans hcur)
      | (refine ILoop.ov 1000004 (fun ((i, cur, G, v) : Nat × List Truck × List GV × Nat) => [(21, gi i)]) (fun ((i, cur, G, v) : Nat × List Truck × List GV × Nat) => [(106, .cells (b.c ++ [.list 1 (w.map rowG) none, .list 5 (oo.map Order.g) none, .ms 6 116 v l.length])), (116, .mvec 111 6 G v)]) (fun ((i, cur, G, v) : Nat × List Truck × List GV × Nat) => (G = trucks cur ∧ TurnI (moreF at0 r) l cur i) ∧ turnE (moreF at0 r) i (l.drop i) = 0) (fun ((i, cur, G, v) : Nat × List Truck × List GV × Nat) => l.length - i) ((0, l, trucks l, 1)) (by exact rfl) ?_; (conv => whnf); refine Start.mk rfl ?_ ?_; (try dsimp only); rotate_left; rintro ⟨i, cur, G, v⟩ ⟨⟨rfl, hI⟩, hr⟩)
      | (refine Again.mk ⟨((i + 1, cur.set i (moreF at0 r i t).1, _, v)), rfl, ?_, ?_⟩ <;> try dsimp only)
      | refine Br.yes (beq_self_eq_true _) ?_
      | refine Br.not ?_
      | refine Br.yes (decide_eq_true (by assumption)) ?_
      | refine Br.no (decide_eq_false (by assumption)) ?_
      | refine Br.yes (beq_iff_eq.2 (by assumption)) ?_
      | refine Br.no (beq_eq_false_iff_ne.2 (by assumption)) ?_
      | refine Br.yes (bne_iff_ne.2 (by assumption)) ?_
      | (refine Br.dec (fun h => ?_) (fun h => ?_) <;> try dsimp only at h)
      | (refine Br.beqI (fun h => ?_) (fun h => ?_) <;> try dsimp only at h)
      | (refine Br.bneI (fun h => ?_) (fun h => ?_) <;> try dsimp only at h)
      | refine Br.mk (fun h => ?_) (fun h => ?_)
      | refine Need.mk (by first | kernel_rfl | exact ⟨of_decide_eq_true rfl, of_decide_eq_true rfl⟩ | omega) ?_
      | refine Len.mk ⟨_, by simp only [List.length_cons, List.length_nil, Nat.reduceAdd, Int.cast_ofNat_Int]; rfl, ?_⟩
      | refine Wr.lit _ (by simp only [Int.reduceAdd, Int.reduceSub, Int.reduceMul]; rfl) (by decide) ?_
      | refine Wr.fit (by omega) ?_
      | refine Wr.fit (by dsimp only; omega) ?_
      | refine Elem.mk ⟨_, ⟨of_decide_eq_true rfl, rfl⟩, ?_⟩
      | refine Len.map ?_
      | refine Len.dropM ?_
      | refine Elem.dropM ?_
      | refine Len.takeM ?_
      | refine Elem.takeM ?_
      | refine Elem.mapK (by assumption) ?_
      | refine Elem.mapI (by omega) (by assumption) ?_
      | refine Elem.mapN (by omega) (fun x hx => ?_)
      | refine Elem.map (by omega) (by omega) (fun x hx => ?_)
      | refine (h0).use ⟨rfl, ?_⟩
      | refine (h1 i t ht).use ⟨rfl, ?_⟩
      | refine (h2c cur (hI.fin (by assumption))).use ⟨rfl, ?_⟩
      | refine CallX.mk ⟨_, _, (h0).x, rfl, ?_⟩
      | refine CallX.mk ⟨_, _, (h1 i t ht).x, rfl, ?_⟩
      | refine CallX.mk ⟨_, _, (h2c cur (hI.fin (by assumption))).x, rfl, ?_⟩
      | refine Done.mk ⟨rfl, rfl⟩
      | refine Done.mk ⟨congrArg gb ?_, rfl⟩
      | refine Done.mk ⟨?_, rfl⟩
      | refine Done.mk ⟨?_, ?_⟩)
    all_goals first
      | omega
      | exact ⟨⟨by rw [Int.toNat_natCast]; exact trucks_set cur i (moreF at0 r i t).1, hI.next ht⟩, turnE_go ht hr (by assumption)⟩
      | exact absurd (turnE_bad ht hr (by assumption)).symm (by assumption)
      | exact ⟨⟨rfl, .start _ _⟩, he⟩
      | rfl
def pl_K24_11 : Nat → Option (List Nat × List Nat) := (fun k => bif Nat.beq k 4 then some ([1000004, 1, 6, 20, 21], [0, 1, 106, 116]) else none)
set_option maxRecDepth 100000 in
set_option maxHeartbeats 4000000 in
theorem withMoreR_err (d : Depot) (ms : List Meter) (at0 : Int) (r : List Rec) (hr9 : (r.length : Int) ≤ 1000000) (hd : d.Ok) (he : ¬ turnE (moreF at0 r) 0 d.Trucks = 0) :
    ICalls Try.prog 61 [yardR d ms, .fn (.func 62) [] [.ptr 0 0, .ptr 1 0]] [.cells [gi at0], .cells [.list 3 (recs r) none]]
      (Done (.tup [nilP, gi (turnE (moreF at0 r) 0 d.Trucks)]) [.cells [gi at0], .cells [.list 3 (recs r) none]]) := by
  have h1 := fun (i : Nat) (t : Truck) (ht : d.Trucks[i]? = some t) => moreC_ok at0 i r t (hd.tp t (List.mem_of_getElem? ht)) hr9
  have htl := hd.tl
  generalize hE : turnE (moreF at0 r) 0 d.Trucks = E at *
  obtain ⟨b, w, oo, l⟩ := d
  simp only at *
  clear hd
  show ICalls _ _ (.ref (b.c ++ [.list 1 (w.map rowG) none, .list 5 (oo.map Order.g) none, .list 6 (l.map Truck.g) none] ++ [.list 14 (ms.map Meter.g) none]) 0 :: _) [.cells [gi at0], .cells [.list 3 (recs r) none]] _
  cases l with
  | nil => exact absurd hE.symm he
  | cons s q =>
    have h0 := cloneTrk_ok s q (by simp at htl; omega)
    generalize s :: q = l at *
    refine ICalls.of_body Try.func61 rfl Try.call61 rfl (Nat.le_of_ble_eq_true rfl) pl_K24_11 rfl ?_
    repeat' ((conv => whnf); first
      | refine Br.yes rfl ?_
      | refine Br.no rfl ?_
      | (refine Len.map ?_)
      | (refine Elem.mapK hcur ?_)
      | (refine Elem.mapN (by have := hI.len; omega) (fun t hcur => ?_); have ht := hI.get.symm.trans hcur)
      | (exact absurd (turnE_end (by assumption) hr) he)
      | (refine ILoop.ov 1000004 (fun ((i, cur, G, v) : Nat × List Truck × List GV × Nat) => [(21, gi i)]) (fun ((i, cur, G, v) : Nat × List Truck × List GV × Nat) => [(106, .cells (b.c ++ [.list 1 (w.map rowG) none, .list 5 (oo.map Order.g) none, .ms 6 116 v l.length])), (116, .mvec 111 6 G v)]) (fun ((i, cur, G, v) : Nat × List Truck × List GV × Nat) => (G = trucks cur ∧ TurnI (moreF at0 r) l cur i) ∧ turnE (moreF at0 r) i (l.drop i) = E) (fun ((i, cur, G, v) : Nat × List Truck × List GV × Nat) => l.length - i) ((0, l, trucks l, 1)) (by exact rfl) ?_; (conv => whnf); refine Start.mk rfl ?_ ?_; (try dsimp only); rotate_left; rintro ⟨i, cur, G, v⟩ ⟨⟨rfl, hI⟩, hr⟩)
      | (refine Again.mk ⟨((i + 1, cur.set i (moreF at0 r i t).1, _, v)), rfl, ?_, ?_⟩ <;> try dsimp only)
      | refine Br.yes (beq_self_eq_true _) ?_
      | refine Br.not ?_
      | refine Br.yes (decide_eq_true (by assumption)) ?_
      | refine Br.no (decide_eq_false (by assumption)) ?_
      | refine Br.yes (beq_iff_eq.2 (by assumption)) ?_
      | refine Br.no (beq_eq_false_iff_ne.2 (by assumption)) ?_
      | refine Br.yes (bne_iff_ne.2 (by assumption)) ?_
      | (refine Br.dec (fun h => ?_) (fun h => ?_) <;> try dsimp only at h)
      | (refine Br.beqI (fun h => ?_) (fun h => ?_) <;> try dsimp only at h)
      | (refine Br.bneI (fun h => ?_) (fun h => ?_) <;> try dsimp only at h)
      | refine Br.mk (fun h => ?_) (fun h => ?_)
      | refine Need.mk (by first | kernel_rfl | exact ⟨of_decide_eq_true rfl, of_decide_eq_true rfl⟩ | omega) ?_
      | refine Len.mk ⟨_, by simp only [List.length_cons, List.length_nil, Nat.reduceAdd, Int.cast_ofNat_Int]; rfl, ?_⟩
      | refine Wr.lit _ (by simp only [Int.reduceAdd, Int.reduceSub, Int.reduceMul]; rfl) (by decide) ?_
      | refine Wr.fit (by omega) ?_
      | refine Wr.fit (by dsimp only; omega) ?_
      | refine Elem.mk ⟨_, ⟨of_decide_eq_true rfl, rfl⟩, ?_⟩
      | refine Len.map ?_
      | refine Len.dropM ?_
      | refine Elem.dropM ?_
      | refine Len.takeM ?_
      | refine Elem.takeM ?_
      | refine Elem.mapK (by assumption) ?_
      | refine Elem.mapI (by omega) (by assumption) ?_
      | refine Elem.mapN (by omega) (fun x hx => ?_)
      | refine Elem.map (by omega) (by omega) (fun x hx => ?_)
      | refine (h0).use ⟨rfl, ?_⟩
      | refine (h1 i t ht).use ⟨rfl, ?_⟩
      | refine CallX.mk ⟨_, _, (h0).x, rfl, ?_⟩
      | refine CallX.mk ⟨_, _, (h1 i t ht).x, rfl, ?_⟩
      | refine Done.mk ⟨rfl, rfl⟩
      | refine Done.mk ⟨congrArg gb ?_, rfl⟩
      | refine Done.mk ⟨?_, rfl⟩
      | refine Done.mk ⟨?_, ?_⟩)
    all_goals first
      | omega
      | exact ⟨⟨by rw [Int.toNat_natCast]; exact trucks_set cur i (moreF at0 r i t).1, hI.next ht⟩, turnE_go ht hr (by assumption)⟩
      | (rw [turnE_bad ht hr (by assumption)]; rfl)
      | exact ⟨⟨rfl, .start _ _⟩, hE⟩
      | rfl
set_option maxRecDepth 100000 in
set_option maxHeartbeats 2000000 in
theorem yardMoreR_ok (d : Depot) (ms : List Meter) (id : Int) (r : List Rec) (hr9 : (r.length : Int) ≤ 1000000) (hd : d.Ok) (hD : (moreD d id r).Ok) (he : moreE d id r = 0) :
    ICalls Try.prog 26 [yardR d ms, gi id, .list 3 (recs r) none] [] (Done (.tup [yardR (moreD d id r) (metersV (moreD d id r)).1, gi 0]) []) := by
  have h1 := yardAtR_ok d ms id hd
  have h2 := fun h3 h4 => withMoreR_ok d ms (atT d id) r hr9 hd hD h3 h4
  unfold moreE at he
  by_cases ha : atT d id < 0
  case pos => rw [if_pos ha] at he; cases he
  rw [if_neg ha] at he
  by_cases hb : turnE (moreF (atT d id) r) 0 d.Trucks = 0
  case neg => rw [if_pos hb] at he; exact absurd he hb
  rw [if_neg (by simp [hb])] at he
  have h2 := h2 hb he
  unfold moreD at *
  change ICalls _ _ _ _ (Done (gi (atT d id)) _) at h1
  generalize (metersV (turnD (moreF (atT d id) r) d)).1 = ms' at *
  generalize turnD (moreF (atT d id) r) d = D at *
  generalize atT d id = ix at *
  clear he hb hD hd
  obtain ⟨b, w, oo, l⟩ := d
  obtain ⟨b', w', oo', l'⟩ := D
  show ICalls _ _ (.ref (b.c ++ [.list 1 (w.map rowG) none, .list 5 (oo.map Order.g) none, .list 6 (l.map Truck.g) none] ++ [.list 14 (ms.map Meter.g) none]) 0 :: _) [] _
  refine ICalls.of_body Try.func26 rfl Try.call26 rfl (Nat.le_of_ble_eq_true rfl) (fun _ => none) rfl ?_
  repeat' ((conv => whnf); first
    | refine Br.yes rfl ?_
    | refine Br.no rfl ?_
    | refine Br.yes (beq_self_eq_true _) ?_
    | refine Br.not ?_
    | refine Br.yes (decide_eq_true (by assumption)) ?_
    | refine Br.no (decide_eq_false (by assumption)) ?_
    | refine Br.yes (beq_iff_eq.2 (by assumption)) ?_
    | refine Br.no (beq_eq_false_iff_ne.2 (by assumption)) ?_
    | refine Br.yes (bne_iff_ne.2 (by assumption)) ?_
    | (refine Br.dec (fun h => ?_) (fun h => ?_) <;> try dsimp only at h)
    | (refine Br.beqI (fun h => ?_) (fun h => ?_) <;> try dsimp only at h)
    | (refine Br.bneI (fun h => ?_) (fun h => ?_) <;> try dsimp only at h)
    | refine Br.mk (fun h => ?_) (fun h => ?_)
    | refine Need.mk (by first | kernel_rfl | exact ⟨of_decide_eq_true rfl, of_decide_eq_true rfl⟩ | omega) ?_
    | refine Len.mk ⟨_, by simp only [List.length_cons, List.length_nil, Nat.reduceAdd, Int.cast_ofNat_Int]; rfl, ?_⟩
    | refine Wr.lit _ (by simp only [Int.reduceAdd, Int.reduceSub, Int.reduceMul]; rfl) (by decide) ?_
    | refine Wr.fit (by omega) ?_
    | refine Wr.fit (by dsimp only; omega) ?_
    | refine Elem.mk ⟨_, ⟨of_decide_eq_true rfl, rfl⟩, ?_⟩
    | refine Len.map ?_
    | refine Len.dropM ?_
    | refine Elem.dropM ?_
    | refine Len.takeM ?_
    | refine Elem.takeM ?_
    | refine Elem.mapK (by assumption) ?_
    | refine Elem.mapI (by omega) (by assumption) ?_
    | refine Elem.mapN (by omega) (fun x hx => ?_)
    | refine Elem.map (by omega) (by omega) (fun x hx => ?_)
    | refine (h1).use ⟨rfl, ?_⟩
    | refine (h2).use ⟨rfl, ?_⟩
    | refine CallX.mk ⟨_, _, (h1).x, rfl, ?_⟩
    | refine CallX.mk ⟨_, _, (h2).x, rfl, ?_⟩
    | refine Done.mk ⟨rfl, rfl⟩
    | refine Done.mk ⟨congrArg gb ?_, rfl⟩
    | refine Done.mk ⟨?_, rfl⟩
    | refine Done.mk ⟨?_, ?_⟩)
  all_goals first
    | omega
    | rfl
set_option maxRecDepth 100000 in
set_option maxHeartbeats 2000000 in
theorem yardMoreR_err (d : Depot) (ms : List Meter) (id : Int) (r : List Rec) (hr9 : (r.length : Int) ≤ 1000000) (hd : d.Ok) (hD : (moreD d id r).Ok) (he : ¬ moreE d id r = 0) :
    ICalls Try.prog 26 [yardR d ms, gi id, .list 3 (recs r) none] [] (Done (.tup [nilP, gi (moreE d id r)]) []) := by
  have h1 := yardAtR_ok d ms id hd
  change ICalls _ _ _ _ (Done (gi (atT d id)) _) at h1
  unfold moreE at he ⊢
  by_cases ha : atT d id < 0
  case pos =>
    rw [if_pos ha]
    generalize atT d id = ix at *
    clear he hd
    obtain ⟨b, w, oo, l⟩ := d
    show ICalls _ _ (.ref (b.c ++ [.list 1 (w.map rowG) none, .list 5 (oo.map Order.g) none, .list 6 (l.map Truck.g) none] ++ [.list 14 (ms.map Meter.g) none]) 0 :: _) [] _
    refine ICalls.of_body Try.func26 rfl Try.call26 rfl (Nat.le_of_ble_eq_true rfl) (fun _ => none) rfl ?_
    repeat' ((conv => whnf); first
      | refine Br.yes rfl ?_
      | refine Br.no rfl ?_
      | refine Br.yes (beq_self_eq_true _) ?_
      | refine Br.not ?_
      | refine Br.yes (decide_eq_true (by assumption)) ?_
      | refine Br.no (decide_eq_false (by assumption)) ?_
      | refine Br.yes (beq_iff_eq.2 (by assumption)) ?_
      | refine Br.no (beq_eq_false_iff_ne.2 (by assumption)) ?_
      | refine Br.yes (bne_iff_ne.2 (by assumption)) ?_
      | (refine Br.dec (fun h => ?_) (fun h => ?_) <;> try dsimp only at h)
      | (refine Br.beqI (fun h => ?_) (fun h => ?_) <;> try dsimp only at h)
      | (refine Br.bneI (fun h => ?_) (fun h => ?_) <;> try dsimp only at h)
      | refine Br.mk (fun h => ?_) (fun h => ?_)
      | refine Need.mk (by first | kernel_rfl | exact ⟨of_decide_eq_true rfl, of_decide_eq_true rfl⟩ | omega) ?_
      | refine Len.mk ⟨_, by simp only [List.length_cons, List.length_nil, Nat.reduceAdd, Int.cast_ofNat_Int]; rfl, ?_⟩
      | refine Wr.lit _ (by simp only [Int.reduceAdd, Int.reduceSub, Int.reduceMul]; rfl) (by decide) ?_
      | refine Wr.fit (by omega) ?_
      | refine Wr.fit (by dsimp only; omega) ?_
      | refine Elem.mk ⟨_, ⟨of_decide_eq_true rfl, rfl⟩, ?_⟩
      | refine Len.map ?_
      | refine Len.dropM ?_
      | refine Elem.dropM ?_
      | refine Len.takeM ?_
      | refine Elem.takeM ?_
      | refine Elem.mapK (by assumption) ?_
      | refine Elem.mapI (by omega) (by assumption) ?_
      | refine Elem.mapN (by omega) (fun x hx => ?_)
      | refine Elem.map (by omega) (by omega) (fun x hx => ?_)
      | refine (h1).use ⟨rfl, ?_⟩
      | refine CallX.mk ⟨_, _, (h1).x, rfl, ?_⟩
      | refine Done.mk ⟨rfl, rfl⟩
      | refine Done.mk ⟨congrArg gb ?_, rfl⟩
      | refine Done.mk ⟨?_, rfl⟩
      | refine Done.mk ⟨?_, ?_⟩)
    all_goals first
      | omega
      | rfl
  case neg =>
  rw [if_neg ha] at he ⊢
  by_cases hb : turnE (moreF (atT d id) r) 0 d.Trucks = 0
  case neg =>
    have h2 := withMoreR_err d ms (atT d id) r hr9 hd hb
    rw [if_pos hb]
    generalize turnE (moreF (atT d id) r) 0 d.Trucks = E at *
    generalize atT d id = ix at *
    clear he hd
    obtain ⟨b, w, oo, l⟩ := d
    show ICalls _ _ (.ref (b.c ++ [.list 1 (w.map rowG) none, .list 5 (oo.map Order.g) none, .list 6 (l.map Truck.g) none] ++ [.list 14 (ms.map Meter.g) none]) 0 :: _) [] _
    refine ICalls.of_body Try.func26 rfl Try.call26 rfl (Nat.le_of_ble_eq_true rfl) (fun _ => none) rfl ?_
    repeat' ((conv => whnf); first
      | refine Br.yes rfl ?_
      | refine Br.no rfl ?_
      | refine Br.yes (beq_self_eq_true _) ?_
      | refine Br.not ?_
      | refine Br.yes (decide_eq_true (by assumption)) ?_
      | refine Br.no (decide_eq_false (by assumption)) ?_
      | refine Br.yes (beq_iff_eq.2 (by assumption)) ?_
      | refine Br.no (beq_eq_false_iff_ne.2 (by assumption)) ?_
      | refine Br.yes (bne_iff_ne.2 (by assumption)) ?_
      | (refine Br.dec (fun h => ?_) (fun h => ?_) <;> try dsimp only at h)
      | (refine Br.beqI (fun h => ?_) (fun h => ?_) <;> try dsimp only at h)
      | (refine Br.bneI (fun h => ?_) (fun h => ?_) <;> try dsimp only at h)
      | refine Br.mk (fun h => ?_) (fun h => ?_)
      | refine Need.mk (by first | kernel_rfl | exact ⟨of_decide_eq_true rfl, of_decide_eq_true rfl⟩ | omega) ?_
      | refine Len.mk ⟨_, by simp only [List.length_cons, List.length_nil, Nat.reduceAdd, Int.cast_ofNat_Int]; rfl, ?_⟩
      | refine Wr.lit _ (by simp only [Int.reduceAdd, Int.reduceSub, Int.reduceMul]; rfl) (by decide) ?_
      | refine Wr.fit (by omega) ?_
      | refine Wr.fit (by dsimp only; omega) ?_
      | refine Elem.mk ⟨_, ⟨of_decide_eq_true rfl, rfl⟩, ?_⟩
      | refine Len.map ?_
      | refine Len.dropM ?_
      | refine Elem.dropM ?_
      | refine Len.takeM ?_
      | refine Elem.takeM ?_
      | refine Elem.mapK (by assumption) ?_
      | refine Elem.mapI (by omega) (by assumption) ?_
      | refine Elem.mapN (by omega) (fun x hx => ?_)
      | refine Elem.map (by omega) (by omega) (fun x hx => ?_)
      | refine (h1).use ⟨rfl, ?_⟩
      | refine (h2).use ⟨rfl, ?_⟩
      | refine CallX.mk ⟨_, _, (h1).x, rfl, ?_⟩
      | refine CallX.mk ⟨_, _, (h2).x, rfl, ?_⟩
      | refine Done.mk ⟨rfl, rfl⟩
      | refine Done.mk ⟨congrArg gb ?_, rfl⟩
      | refine Done.mk ⟨?_, rfl⟩
      | refine Done.mk ⟨?_, ?_⟩)
    all_goals first
      | omega
      | rfl
  case pos =>
    rw [if_neg (by simp [hb])] at he ⊢
    have h2 := withMoreR_yard d ms (atT d id) r hr9 hd hD hb he
    unfold moreD at *
    generalize (metersV (turnD (moreF (atT d id) r) d)).2.2 = E at *
    generalize atT d id = ix at *
    clear he hd hb
    obtain ⟨b, w, oo, l⟩ := d
    show ICalls _ _ (.ref (b.c ++ [.list 1 (w.map rowG) none, .list 5 (oo.map Order.g) none, .list 6 (l.map Truck.g) none] ++ [.list 14 (ms.map Meter.g) none]) 0 :: _) [] _
    refine ICalls.of_body Try.func26 rfl Try.call26 rfl (Nat.le_of_ble_eq_true rfl) (fun _ => none) rfl ?_
    repeat' ((conv => whnf); first
      | refine Br.yes rfl ?_
      | refine Br.no rfl ?_
      | refine Br.yes (beq_self_eq_true _) ?_
      | refine Br.not ?_
      | refine Br.yes (decide_eq_true (by assumption)) ?_
      | refine Br.no (decide_eq_false (by assumption)) ?_
      | refine Br.yes (beq_iff_eq.2 (by assumption)) ?_
      | refine Br.no (beq_eq_false_iff_ne.2 (by assumption)) ?_
      | refine Br.yes (bne_iff_ne.2 (by assumption)) ?_
      | (refine Br.dec (fun h => ?_) (fun h => ?_) <;> try dsimp only at h)
      | (refine Br.beqI (fun h => ?_) (fun h => ?_) <;> try dsimp only at h)
      | (refine Br.bneI (fun h => ?_) (fun h => ?_) <;> try dsimp only at h)
      | refine Br.mk (fun h => ?_) (fun h => ?_)
      | refine Need.mk (by first | kernel_rfl | exact ⟨of_decide_eq_true rfl, of_decide_eq_true rfl⟩ | omega) ?_
      | refine Len.mk ⟨_, by simp only [List.length_cons, List.length_nil, Nat.reduceAdd, Int.cast_ofNat_Int]; rfl, ?_⟩
      | refine Wr.lit _ (by simp only [Int.reduceAdd, Int.reduceSub, Int.reduceMul]; rfl) (by decide) ?_
      | refine Wr.fit (by omega) ?_
      | refine Wr.fit (by dsimp only; omega) ?_
      | refine Elem.mk ⟨_, ⟨of_decide_eq_true rfl, rfl⟩, ?_⟩
      | refine Len.map ?_
      | refine Len.dropM ?_
      | refine Elem.dropM ?_
      | refine Len.takeM ?_
      | refine Elem.takeM ?_
      | refine Elem.mapK (by assumption) ?_
      | refine Elem.mapI (by omega) (by assumption) ?_
      | refine Elem.mapN (by omega) (fun x hx => ?_)
      | refine Elem.map (by omega) (by omega) (fun x hx => ?_)
      | refine (h1).use ⟨rfl, ?_⟩
      | refine (h2).use ⟨rfl, ?_⟩
      | refine CallX.mk ⟨_, _, (h1).x, rfl, ?_⟩
      | refine CallX.mk ⟨_, _, (h2).x, rfl, ?_⟩
      | refine Done.mk ⟨rfl, rfl⟩
      | refine Done.mk ⟨congrArg gb ?_, rfl⟩
      | refine Done.mk ⟨?_, rfl⟩
      | refine Done.mk ⟨?_, ?_⟩)
    all_goals first
      | omega
      | rfl
end Go.Hl
