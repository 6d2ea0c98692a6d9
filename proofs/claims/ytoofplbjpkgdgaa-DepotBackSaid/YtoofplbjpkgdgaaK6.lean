/- Contracts of functions, bundle K6; proved for whatever the arguments' types allow, as each theorem says. -/
import Derived.Test.YtoofplbjpkgdgaaK3
import Derived.Test.YtoofplbjpkgdgaaH1

/- Chapter 30: depots that are the same.  -/
set_option linter.unusedVariables false
set_option linter.unusedSimpArgs false
namespace Go.Hl
open Go.Gh Go.Proofs

section
variable {α : Type} {a b : List α} {i : Nat} {x y : α}
theorem take_eqK (h : a.take i = b.take i) (hx : a[i]? = some x) (hy : b[i]? = some y) (e : x = y) : a.take (i + 1) = b.take (i + 1) := by
  rw [take_nextK hx, take_nextK hy, h, e]
theorem not_eqK [DecidableEq α] (hx : a[i]? = some x) (hy : b[i]? = some y) (e : x ≠ y) : false = decide (a = b) := by
  symm; apply decide_eq_false
  intro h; subst h; rw [hx] at hy; exact e (Option.some.inj hy)
theorem len_eqK [DecidableEq α] (h : ¬ ((a.length : Nat) : Int) = ((b.length : Nat) : Int)) : false = decide (a = b) := by
  symm; apply decide_eq_false; intro e; subst e; exact h rfl
theorem end_eqK [DecidableEq α] (hi : ¬ (i : Int) < a.length) (hab : a.length = b.length) (h : a.take i = b.take i) : true = decide (a = b) := by
  symm; apply decide_eq_true
  rw [List.take_of_length_le (by omega), List.take_of_length_le (by omega)] at h; exact h
end

/-! ### Rows -/
def pl_K6_1 : Nat → Option (List Nat × List Nat) := (fun k => bif Nat.beq k 4 then some ([1000004, 0, 1, 12, 13], []) else none)
set_option maxRecDepth 100000 in
set_option maxHeartbeats 1000000 in
theorem equalInt_ok (a b : List Int) (ha : (a.length : Int) ≤ 1000000000) : ICalls Try.prog 54 [.list 1 (ints a) none, .list 1 (ints b) none] [] (Done (gb (decide (a = b))) []) := by
  refine ICalls.of_body Try.func54 rfl Try.call54 rfl (Nat.le_of_ble_eq_true rfl) pl_K6_1 rfl ?_
  repeat' ((conv => whnf); first
    | refine Br.yes rfl ?_
    | refine Br.no rfl ?_
    | (refine Elem.mapN (xs := b) (by omega) (fun y hy => ?_))
    | (refine Elem.mapN (xs := a) (by omega) (fun x hx => ?_))
    | (refine ILoop.ov 1000004 (fun (i : Nat) => [(13, gi i)]) (fun (i : Nat) => []) (fun (i : Nat) => (i ≤ a.length ∧ a.length = b.length) ∧ a.take i = b.take i) (fun (i : Nat) => a.length - i) (0) (by exact rfl) ?_; (conv => whnf); refine Start.mk rfl ?_ ?_; (try dsimp only); rotate_left; rintro i ⟨⟨hi, hab⟩, hp⟩)
    | (refine Again.mk ⟨(i + 1), rfl, ?_, ?_⟩ <;> try dsimp only)
    | refine Br.yes (beq_self_eq_true _) ?_
    | refine Br.not ?_
    | refine Br.yes (decide_eq_true (by assumption)) ?_
    | refine Br.no (decide_eq_false (by assumption)) ?_
    | refine Br.yes (beq_iff_eq.2 (by assumption)) ?_
    | refine Br.no (beq_eq_false_iff_ne.2 (by assumption)) ?_
    | refine Br.yes (bne_iff_ne.2 (by assumption)) ?_
    | (refine Br.dec (fun h => ?_) (fun h => ?_) <;> try dsimp only at h)
    | (refine Br.beqI (fun h => ?_) (fun h => ?_) <;> try dsimp only at h)
    | (refine Br.bneI (fun h => ?_) (fun h => ?_) <;> try dsimp only at h)
    | refine Br.mk (fun h => ?_) (fun h => ?_)
    | refine Need.mk (by first | kernel_rfl | exact ⟨of_decide_eq_true rfl, of_decide_eq_true rfl⟩ | omega) ?_
    | refine Len.mk ⟨_, by simp only [List.length_cons, List.length_nil, Nat.reduceAdd, Int.cast_ofNat_Int]; rfl, ?_⟩
    | refine Wr.lit _ (by simp only [Int.reduceAdd, Int.reduceSub, Int.reduceMul]; rfl) (by decide) ?_
    | refine Wr.fit (by omega) ?_
    | refine Wr.fit (by dsimp only; omega) ?_
    | refine Elem.mk ⟨_, ⟨of_decide_eq_true rfl, rfl⟩, ?_⟩
    | refine Len.map ?_
    | refine Len.dropM ?_
    | refine Elem.dropM ?_
    | refine Len.takeM ?_
    | refine Elem.takeM ?_
    | refine Elem.mapK (by assumption) ?_
    | refine Elem.mapI (by omega) (by assumption) ?_
    | refine Elem.mapN (by omega) (fun x hx => ?_)
    | refine Elem.map (by omega) (by omega) (fun x hx => ?_)
    | refine Done.mk ⟨rfl, rfl⟩
    | refine Done.mk ⟨congrArg gb ?_, rfl⟩
    | refine Done.mk ⟨?_, rfl⟩
    | refine Done.mk ⟨?_, ?_⟩)
  all_goals first
    | omega
    | exact congrArg gb (len_eqK (by omega))
    | exact len_eqK (by omega)
    | exact not_eqK hx hy (by assumption)
    | exact end_eqK (by assumption) hab hp
    | exact ⟨⟨by omega, hab⟩, take_eqK hp hx hy (by assumption)⟩
    | exact ⟨⟨by omega, by omega⟩, rfl⟩
set_option maxRecDepth 100000 in
theorem sameRow_ok (a b : List Int) (ha : (a.length : Int) ≤ 1000000) : ICalls Try.prog 53 [rowG a, rowG b] [] (Done (gb (decide (a = b))) []) := by
  have h := equalInt_ok a b (by omega)
  unfold rowG
  refine ICalls.of_body Try.func53 rfl Try.call53 rfl (Nat.le_of_ble_eq_true rfl) (fun _ => none) rfl ?_
  repeat' ((conv => whnf); first
    | refine Br.yes rfl ?_
    | refine Br.no rfl ?_
    | refine Br.yes (beq_self_eq_true _) ?_
    | refine Br.not ?_
    | refine Br.yes (decide_eq_true (by assumption)) ?_
    | refine Br.no (decide_eq_false (by assumption)) ?_
    | refine Br.yes (beq_iff_eq.2 (by assumption)) ?_
    | refine Br.no (beq_eq_false_iff_ne.2 (by assumption)) ?_
    | refine Br.yes (bne_iff_ne.2 (by assumption)) ?_
    | (refine Br.dec (fun h => ?_) (fun h => ?_) <;> try dsimp only at h)
    | (refine Br.beqI (fun h => ?_) (fun h => ?_) <;> try dsimp only at h)
    | (refine Br.bneI (fun h => ?_) (fun h => ?_) <;> try dsimp only at h)
    | refine Br.mk (fun h => ?_) (fun h => ?_)
    | refine Need.mk (by first | kernel_rfl | exact ⟨of_decide_eq_true rfl, of_decide_eq_true rfl⟩ | omega) ?_
    | refine Len.mk ⟨_, by simp only [List.length_cons, List.length_nil, Nat.reduceAdd, Int.cast_ofNat_Int]; rfl, ?_⟩
    | refine Wr.lit _ (by simp only [Int.reduceAdd, Int.reduceSub, Int.reduceMul]; rfl) (by decide) ?_
    | refine Wr.fit (by omega) ?_
    | refine Wr.fit (by dsimp only; omega) ?_
    | refine Elem.mk ⟨_, ⟨of_decide_eq_true rfl, rfl⟩, ?_⟩
    | refine Len.map ?_
    | refine Len.dropM ?_
    | refine Elem.dropM ?_
    | refine Len.takeM ?_
    | refine Elem.takeM ?_
    | refine Elem.mapK (by assumption) ?_
    | refine Elem.mapI (by omega) (by assumption) ?_
    | refine Elem.mapN (by omega) (fun x hx => ?_)
    | refine Elem.map (by omega) (by omega) (fun x hx => ?_)
    | refine (h).use ⟨rfl, ?_⟩
    | refine CallX.mk ⟨_, _, (h).x, rfl, ?_⟩
    | refine Done.mk ⟨rfl, rfl⟩
    | refine Done.mk ⟨congrArg gb ?_, rfl⟩
    | refine Done.mk ⟨?_, rfl⟩
    | refine Done.mk ⟨?_, ?_⟩)
def pl_K6_2 : Nat → Option (List Nat × List Nat) := (fun k => bif Nat.beq k 4 then some ([1000004, 1, 2, 15, 16, 17], []) else none)
set_option maxRecDepth 100000 in
set_option maxHeartbeats 1000000 in
theorem equalRows_ok (a b : List (List Int)) (hr : Rows a) (ha : (a.length : Int) ≤ 1000000) : ICalls Try.prog 55 [.list 1 (waysG a) none, .list 1 (waysG b) none, .fn (.func 53) [] []] [] (Done (gb (decide (a = b))) []) := by
  refine ICalls.of_body Try.func55 rfl Try.call55 rfl (Nat.le_of_ble_eq_true rfl) pl_K6_2 rfl ?_
  repeat' ((conv => whnf); first
    | refine Br.yes rfl ?_
    | refine Br.no rfl ?_
    | (refine Elem.mapK (by assumption) ?_)
    | (refine Elem.mapN (xs := b) (by omega) (fun y hy => ?_))
    | (refine Elem.mapN (xs := a) (by omega) (fun x hx => ?_))
    | (refine ILoop.ov 1000004 (fun (i : Nat) => [(17, gi i)]) (fun (i : Nat) => []) (fun (i : Nat) => (i ≤ a.length ∧ a.length = b.length) ∧ a.take i = b.take i) (fun (i : Nat) => a.length - i) (0) (by exact rfl) ?_; (conv => whnf); refine Start.mk rfl ?_ ?_; (try dsimp only); rotate_left; rintro i ⟨⟨hi, hab⟩, hp⟩)
    | (refine Again.mk ⟨(i + 1), rfl, ?_, ?_⟩ <;> try dsimp only)
    | refine Br.yes (beq_self_eq_true _) ?_
    | refine Br.not ?_
    | refine Br.yes (decide_eq_true (by assumption)) ?_
    | refine Br.no (decide_eq_false (by assumption)) ?_
    | refine Br.yes (beq_iff_eq.2 (by assumption)) ?_
    | refine Br.no (beq_eq_false_iff_ne.2 (by assumption)) ?_
    | refine Br.yes (bne_iff_ne.2 (by assumption)) ?_
    | (refine Br.dec (fun h => ?_) (fun h => ?_) <;> try dsimp only at h)
    | (refine Br.beqI (fun h => ?_) (fun h => ?_) <;> try dsimp only at h)
    | (refine Br.bneI (fun h => ?_) (fun h => ?_) <;> try dsimp only at h)
    | refine Br.mk (fun h => ?_) (fun h => ?_)
    | refine Need.mk (by first | kernel_rfl | exact ⟨of_decide_eq_true rfl, of_decide_eq_true rfl⟩ | omega) ?_
    | refine Len.mk ⟨_, by simp only [List.length_cons, List.length_nil, Nat.reduceAdd, Int.cast_ofNat_Int]; rfl, ?_⟩
    | refine Wr.lit _ (by simp only [Int.reduceAdd, Int.reduceSub, Int.reduceMul]; rfl) (by decide) ?_
    | refine Wr.fit (by omega) ?_
    | refine Wr.fit (by dsimp only; omega) ?_
    | refine Elem.mk ⟨_, ⟨of_decide_eq_true rfl, rfl⟩, ?_⟩
    | refine Len.map ?_
    | refine Len.dropM ?_
    | refine Elem.dropM ?_
    | refine Len.takeM ?_
    | refine Elem.takeM ?_
    | refine Elem.mapK (by assumption) ?_
    | refine Elem.mapI (by omega) (by assumption) ?_
    | refine Elem.mapN (by omega) (fun x hx => ?_)
    | refine Elem.map (by omega) (by omega) (fun x hx => ?_)
    | refine (sameRow_ok x y (hr x (List.mem_of_getElem? hx))).use ⟨rfl, ?_⟩
    | refine CallX.mk ⟨_, _, (sameRow_ok x y (hr x (List.mem_of_getElem? hx))).x, rfl, ?_⟩
    | refine Done.mk ⟨rfl, rfl⟩
    | refine Done.mk ⟨congrArg gb ?_, rfl⟩
    | refine Done.mk ⟨?_, rfl⟩
    | refine Done.mk ⟨?_, ?_⟩)
  all_goals first
    | omega
    | exact len_eqK (by omega)
    | exact not_eqK hx hy (by simpa using (by assumption))
    | exact end_eqK (by assumption) hab hp
    | exact ⟨⟨by omega, hab⟩, take_eqK hp hx hy (by simpa using (by assumption))⟩
    | exact ⟨⟨by omega, by omega⟩, rfl⟩

/-! ### Orders -/
theorem spB_true {x y : Span} (h : ((x.From == y.From) && ((x.To == y.To) && true)) = true) : x = y := by
  simp at h; cases x; cases y; simp_all
theorem spB_false {x y : Span} (h : ((x.From == y.From) && ((x.To == y.To) && true)) = false) : x ≠ y := by
  intro e; subst e; simp at h
theorem order_eq (s t : Order) : decide (s = t) = (decide (s.ID = t.ID) && (decide (s.Place = t.Place) && (decide (s.Load = t.Load) && (decide (s.Serve = t.Serve) && decide (s.Open = t.Open))))) := by
  cases s; cases t; simp [Bool.decide_and]

def pl_K6_3 : Nat → Option (List Nat × List Nat) := (fun k => bif Nat.beq k 4 then some ([1000004, 2, 3, 43, 44], [102, 103]) else none)
set_option maxRecDepth 100000 in
set_option maxHeartbeats 1000000 in
theorem sameOrder_ok (s t : Order) (hs : (s.Open.length : Int) ≤ 1000000) : ICalls Try.prog 57 [s.g, t.g] [] (Done (gb (decide (s = t))) []) := by
  rw [order_eq]
  obtain ⟨a, b, c, d, l⟩ := s
  obtain ⟨a', b', c', d', l'⟩ := t
  simp only at *
  have h0 := fun h => @len_eqK _ l l' _ h
  have h1 := fun {i} h1 h2 h3 => @end_eqK _ l l' i _ h1 h2 h3
  have h2 := fun {i x y} h1 h2 h3 => (@not_eqK _ l l' i x y _ h1 h2 h3).symm
  generalize decide (l = l') = q at *
  show ICalls _ _ [.agg [gi a, gi b, gi c, gi d, .list 2 (l.map Span.g) none], .agg [gi a', gi b', gi c', gi d', .list 2 (l'.map Span.g) none]] _ _
  refine ICalls.of_body Try.func57 rfl Try.call57 rfl (Nat.le_of_ble_eq_true rfl) pl_K6_3 rfl ?_
  repeat' ((conv => whnf); first
    | refine Br.yes rfl ?_
    | refine Br.no rfl ?_
    | refine Need.mk (EqRun.flat (by kernel_rfl) rfl) ?_
    | (refine Len.map ?_)
    | (refine ILoop.ov 1000004 (fun (i : Nat) => [(44, gi i)]) (fun (i : Nat) => []) (fun (i : Nat) => (i ≤ l.length ∧ l.length = l'.length) ∧ l.take i = l'.take i) (fun (i : Nat) => l.length - i) (0) (by exact rfl) ?_; (conv => whnf); refine Start.mk rfl ?_ ?_; (try dsimp only); rotate_left; rintro i ⟨⟨hi, hab⟩, hp⟩)
    | (refine Again.mk ⟨(i + 1), rfl, ?_, ?_⟩ <;> try dsimp only)
    | refine Br.yes (beq_self_eq_true _) ?_
    | refine Br.not ?_
    | refine Br.yes (decide_eq_true (by assumption)) ?_
    | refine Br.no (decide_eq_false (by assumption)) ?_
    | refine Br.yes (beq_iff_eq.2 (by assumption)) ?_
    | refine Br.no (beq_eq_false_iff_ne.2 (by assumption)) ?_
    | refine Br.yes (bne_iff_ne.2 (by assumption)) ?_
    | (refine Br.dec (fun h => ?_) (fun h => ?_) <;> try dsimp only at h)
    | (refine Br.beqI (fun h => ?_) (fun h => ?_) <;> try dsimp only at h)
    | (refine Br.bneI (fun h => ?_) (fun h => ?_) <;> try dsimp only at h)
    | refine Br.mk (fun h => ?_) (fun h => ?_)
    | refine Need.mk (by first | kernel_rfl | exact ⟨of_decide_eq_true rfl, of_decide_eq_true rfl⟩ | omega) ?_
    | refine Len.mk ⟨_, by simp only [List.length_cons, List.length_nil, Nat.reduceAdd, Int.cast_ofNat_Int]; rfl, ?_⟩
    | refine Wr.lit _ (by simp only [Int.reduceAdd, Int.reduceSub, Int.reduceMul]; rfl) (by decide) ?_
    | refine Wr.fit (by omega) ?_
    | refine Wr.fit (by dsimp only; omega) ?_
    | refine Elem.mk ⟨_, ⟨of_decide_eq_true rfl, rfl⟩, ?_⟩
    | refine Len.map ?_
    | refine Len.dropM ?_
    | refine Elem.dropM ?_
    | refine Len.takeM ?_
    | refine Elem.takeM ?_
    | refine Elem.mapK (by assumption) ?_
    | refine Elem.mapI (by omega) (by assumption) ?_
    | refine Elem.mapN (by omega) (fun x hx => ?_)
    | refine Elem.map (by omega) (by omega) (fun x hx => ?_)
    | refine Done.mk ⟨rfl, rfl⟩
    | refine Done.mk ⟨congrArg gb ?_, rfl⟩
    | refine Done.mk ⟨?_, rfl⟩
    | refine Done.mk ⟨?_, ?_⟩)
  all_goals first
    | omega
    | exact ⟨⟨by omega, by omega⟩, rfl⟩
    | exact ⟨⟨by omega, by omega⟩, take_eqK hp (by assumption) hx (spB_true h)⟩
    | (have e := h2 (by assumption) hx (spB_false h); simp [e]; done)
    | (have e := h1 h hab hp; rw [← e]; simp [*]; done)
    | (have e := h0 h; rw [← e]; simp; done)
    | (simp [*]; done)

def pl_K6_4 : Nat → Option (List Nat × List Nat) := (fun k => bif Nat.beq k 4 then some ([1000004, 1, 2, 15, 16, 17], []) else none)
set_option maxRecDepth 100000 in
set_option maxHeartbeats 1000000 in
theorem equalOrders_ok (a b : List Order) (hr : Opens a) (ha : (a.length : Int) ≤ 1000000) : ICalls Try.prog 56 [.list 5 (orders a) none, .list 5 (orders b) none, .fn (.func 57) [] []] [] (Done (gb (decide (a = b))) []) := by
  refine ICalls.of_body Try.func56 rfl Try.call56 rfl (Nat.le_of_ble_eq_true rfl) pl_K6_4 rfl ?_
  repeat' ((conv => whnf); first
    | refine Br.yes rfl ?_
    | refine Br.no rfl ?_
    | (refine Elem.mapK (by assumption) ?_)
    | (refine Elem.mapN (xs := b) (by omega) (fun y hy => ?_))
    | (refine Elem.mapN (xs := a) (by omega) (fun x hx => ?_))
    | (refine ILoop.ov 1000004 (fun (i : Nat) => [(17, gi i)]) (fun (i : Nat) => []) (fun (i : Nat) => (i ≤ a.length ∧ a.length = b.length) ∧ a.take i = b.take i) (fun (i : Nat) => a.length - i) (0) (by exact rfl) ?_; (conv => whnf); refine Start.mk rfl ?_ ?_; (try dsimp only); rotate_left; rintro i ⟨⟨hi, hab⟩, hp⟩)
    | (refine Again.mk ⟨(i + 1), rfl, ?_, ?_⟩ <;> try dsimp only)
    | refine Br.yes (beq_self_eq_true _) ?_
    | refine Br.not ?_
    | refine Br.yes (decide_eq_true (by assumption)) ?_
    | refine Br.no (decide_eq_false (by assumption)) ?_
    | refine Br.yes (beq_iff_eq.2 (by assumption)) ?_
    | refine Br.no (beq_eq_false_iff_ne.2 (by assumption)) ?_
    | refine Br.yes (bne_iff_ne.2 (by assumption)) ?_
    | (refine Br.dec (fun h => ?_) (fun h => ?_) <;> try dsimp only at h)
    | (refine Br.beqI (fun h => ?_) (fun h => ?_) <;> try dsimp only at h)
    | (refine Br.bneI (fun h => ?_) (fun h => ?_) <;> try dsimp only at h)
    | refine Br.mk (fun h => ?_) (fun h => ?_)
    | refine Need.mk (by first | kernel_rfl | exact ⟨of_decide_eq_true rfl, of_decide_eq_true rfl⟩ | omega) ?_
    | refine Len.mk ⟨_, by simp only [List.length_cons, List.length_nil, Nat.reduceAdd, Int.cast_ofNat_Int]; rfl, ?_⟩
    | refine Wr.lit _ (by simp only [Int.reduceAdd, Int.reduceSub, Int.reduceMul]; rfl) (by decide) ?_
    | refine Wr.fit (by omega) ?_
    | refine Wr.fit (by dsimp only; omega) ?_
    | refine Elem.mk ⟨_, ⟨of_decide_eq_true rfl, rfl⟩, ?_⟩
    | refine Len.map ?_
    | refine Len.dropM ?_
    | refine Elem.dropM ?_
    | refine Len.takeM ?_
    | refine Elem.takeM ?_
    | refine Elem.mapK (by assumption) ?_
    | refine Elem.mapI (by omega) (by assumption) ?_
    | refine Elem.mapN (by omega) (fun x hx => ?_)
    | refine Elem.map (by omega) (by omega) (fun x hx => ?_)
    | refine (sameOrder_ok x y (hr x (List.mem_of_getElem? hx))).use ⟨rfl, ?_⟩
    | refine CallX.mk ⟨_, _, (sameOrder_ok x y (hr x (List.mem_of_getElem? hx))).x, rfl, ?_⟩
    | refine Done.mk ⟨rfl, rfl⟩
    | refine Done.mk ⟨congrArg gb ?_, rfl⟩
    | refine Done.mk ⟨?_, rfl⟩
    | refine Done.mk ⟨?_, ?_⟩)
  all_goals first
    | omega
    | exact len_eqK (by omega)
    | exact not_eqK hx hy (by simpa using (by assumption))
    | exact end_eqK (by assumption) hab hp
    | exact ⟨⟨by omega, hab⟩, take_eqK hp hx hy (by simpa using (by assumption))⟩
    | exact ⟨⟨by omega, by omega⟩, rfl⟩
def Pasts (l : List Truck) : Prop := ∀ t, t ∈ l → (t.Past.length : Int) ≤ 1000000
def pl_K6_5 : Nat → Option (List Nat × List Nat) := (fun k => bif Nat.beq k 4 then some ([1000004, 1, 2, 15, 16, 17], []) else none)
set_option maxRecDepth 100000 in
set_option maxHeartbeats 1000000 in
theorem equalTrucks_ok (a b : List Truck) (hr : Pasts a) (hs : Pasts b) (ha : (a.length : Int) ≤ 1000000) : ICalls Try.prog 58 [.list 6 (trucks a) none, .list 6 (trucks b) none, .fn (.func 59) [] []] [] (Done (gb (decide (a = b))) []) := by
  have hsame : ∀ (x y : Truck) (i : Nat), a[i]? = some x → b[i]? = some y → _ := fun x y i hx hy => sameTruck_ok x y (by have := hr x (List.mem_of_getElem? hx); omega) (by have := hs y (List.mem_of_getElem? hy); omega)
  refine ICalls.of_body Try.func58 rfl Try.call58 rfl (Nat.le_of_ble_eq_true rfl) pl_K6_5 rfl ?_
  repeat' ((conv => whnf); first
    | refine Br.yes rfl ?_
    | refine Br.no rfl ?_
    | (refine Elem.mapK (by assumption) ?_)
    | (refine Elem.mapN (xs := b) (by omega) (fun y hy => ?_))
    | (refine Elem.mapN (xs := a) (by omega) (fun x hx => ?_))
    | (refine ILoop.ov 1000004 (fun (i : Nat) => [(17, gi i)]) (fun (i : Nat) => []) (fun (i : Nat) => (i ≤ a.length ∧ a.length = b.length) ∧ a.take i = b.take i) (fun (i : Nat) => a.length - i) (0) (by exact rfl) ?_; (conv => whnf); refine Start.mk rfl ?_ ?_; (try dsimp only); rotate_left; rintro i ⟨⟨hi, hab⟩, hp⟩)
    | (refine Again.mk ⟨(i + 1), rfl, ?_, ?_⟩ <;> try dsimp only)
    | refine Br.yes (beq_self_eq_true _) ?_
    | refine Br.not ?_
    | refine Br.yes (decide_eq_true (by assumption)) ?_
    | refine Br.no (decide_eq_false (by assumption)) ?_
    | refine Br.yes (beq_iff_eq.2 (by assumption)) ?_
    | refine Br.no (beq_eq_false_iff_ne.2 (by assumption)) ?_
    | refine Br.yes (bne_iff_ne.2 (by assumption)) ?_
    | (refine Br.dec (fun h => ?_) (fun h => ?_) <;> try dsimp only at h)
    | (refine Br.beqI (fun h => ?_) (fun h => ?_) <;> try dsimp only at h)
    | (refine Br.bneI (fun h => ?_) (fun h => ?_) <;> try dsimp only at h)
    | refine Br.mk (fun h => ?_) (fun h => ?_)
    | refine Need.mk (by first | kernel_rfl | exact ⟨of_decide_eq_true rfl, of_decide_eq_true rfl⟩ | omega) ?_
    | refine Len.mk ⟨_, by simp only [List.length_cons, List.length_nil, Nat.reduceAdd, Int.cast_ofNat_Int]; rfl, ?_⟩
    | refine Wr.lit _ (by simp only [Int.reduceAdd, Int.reduceSub, Int.reduceMul]; rfl) (by decide) ?_
    | refine Wr.fit (by omega) ?_
    | refine Wr.fit (by dsimp only; omega) ?_
    | refine Elem.mk ⟨_, ⟨of_decide_eq_true rfl, rfl⟩, ?_⟩
    | refine Len.map ?_
    | refine Len.dropM ?_
    | refine Elem.dropM ?_
    | refine Len.takeM ?_
    | refine Elem.takeM ?_
    | refine Elem.mapK (by assumption) ?_
    | refine Elem.mapI (by omega) (by assumption) ?_
    | refine Elem.mapN (by omega) (fun x hx => ?_)
    | refine Elem.map (by omega) (by omega) (fun x hx => ?_)
    | refine (hsame x y i hx hy).use ⟨rfl, ?_⟩
    | refine CallX.mk ⟨_, _, (hsame x y i hx hy).x, rfl, ?_⟩
    | refine Done.mk ⟨rfl, rfl⟩
    | refine Done.mk ⟨congrArg gb ?_, rfl⟩
    | refine Done.mk ⟨?_, rfl⟩
    | refine Done.mk ⟨?_, ?_⟩)
  all_goals first
    | omega
    | exact len_eqK (by omega)
    | exact not_eqK hx hy (by simpa using (by assumption))
    | exact end_eqK (by assumption) hab hp
    | exact ⟨⟨by omega, hab⟩, take_eqK hp hx hy (by simpa using (by assumption))⟩
    | exact ⟨⟨by omega, by omega⟩, rfl⟩
end Go.Hl

/- Chapter 30: depots that are the same; the reference's check; light ones; the example.  -/
set_option linter.unusedVariables false
set_option linter.unusedSimpArgs false
namespace Go.Hl
open Go.Gh Go.Proofs

def bookB (a b : Book) : Bool := (a.Drive == b.Drive) && ((a.Break == b.Break) && ((a.First == b.First) && ((a.Second == b.Second) && ((a.Day == b.Day) && ((a.Longer == b.Longer) && ((a.Longers == b.Longers) && ((a.Regular == b.Regular) && ((a.Reduced == b.Reduced) && ((a.Reduces == b.Reduces) && ((a.Part == b.Part) && ((a.Round == b.Round) && ((a.Weekly == b.Weekly) && ((a.Short == b.Short) && ((a.Rounds == b.Rounds) && ((a.Week == b.Week) && ((a.Fortnight == b.Fortnight) && ((a.Labour == b.Labour) && ((a.Length == b.Length) && true))))))))))))))))))
theorem bookB_self (a : Book) : bookB a a = true := by unfold bookB; simp
def sameD (a b : Depot) : Bool := bookB a.Book b.Book && (decide (a.Ways = b.Ways) && (decide (a.Orders = b.Orders) && decide (a.Trucks = b.Trucks)))
theorem sameD_self (a : Depot) : sameD a a = true := by unfold sameD; rw [bookB_self]; simp
theorem same_d1 {a b : Book} {q1 q2 q3 r : Bool} (h : bookB a b = true) (e : r = (q1 && (q2 && q3))) : r = (bookB a b && (q1 && (q2 && q3))) := by rw [h, e]; rfl
theorem same_d0 {a b : Book} {q : Bool} (h : bookB a b = false) : false = (bookB a b && q) := by rw [h]; rfl
set_option maxRecDepth 100000 in
set_option maxHeartbeats 2000000 in
theorem depotSame_ok (d e : Depot) (hd : d.Ok) (he : e.Ok) : ICalls Try.prog 24 [d.g, e.g] [] (Done (gb (sameD d e)) []) := by
  have h1 := equalRows_ok d.Ways e.Ways hd.rows hd.wl
  have h2 := equalOrders_ok d.Orders e.Orders hd.op hd.ol
  have h3 := equalTrucks_ok d.Trucks e.Trucks hd.tp he.tp hd.tl
  unfold sameD
  generalize decide (d.Ways = e.Ways) = q1 at *
  generalize decide (d.Orders = e.Orders) = q2 at *
  generalize decide (d.Trucks = e.Trucks) = q3 at *
  obtain ⟨b, w, o, l⟩ := d
  obtain ⟨b', w', o', l'⟩ := e
  simp only at *
  clear hd he
  show ICalls _ _ [.agg (b.c ++ [.list 1 (w.map rowG) none, .list 5 (o.map Order.g) none, .list 6 (l.map Truck.g) none]), .agg (b'.c ++ [.list 1 (w'.map rowG) none, .list 5 (o'.map Order.g) none, .list 6 (l'.map Truck.g) none])] _ _
  refine ICalls.of_body Try.func24 rfl Try.call24 rfl (Nat.le_of_ble_eq_true rfl) (fun _ => none) rfl ?_
  repeat' ((conv => whnf); first
    | refine Br.yes rfl ?_
    | refine Br.no rfl ?_
    | refine Need.mk (EqRun.flat (by kernel_rfl) rfl) ?_
    | refine Br.yes (beq_self_eq_true _) ?_
    | refine Br.not ?_
    | refine Br.yes (decide_eq_true (by assumption)) ?_
    | refine Br.no (decide_eq_false (by assumption)) ?_
    | refine Br.yes (beq_iff_eq.2 (by assumption)) ?_
    | refine Br.no (beq_eq_false_iff_ne.2 (by assumption)) ?_
    | refine Br.yes (bne_iff_ne.2 (by assumption)) ?_
    | (refine Br.dec (fun h => ?_) (fun h => ?_) <;> try dsimp only at h)
    | (refine Br.beqI (fun h => ?_) (fun h => ?_) <;> try dsimp only at h)
    | (refine Br.bneI (fun h => ?_) (fun h => ?_) <;> try dsimp only at h)
    | refine Br.mk (fun h => ?_) (fun h => ?_)
    | refine Need.mk (by first | kernel_rfl | exact ⟨of_decide_eq_true rfl, of_decide_eq_true rfl⟩ | omega) ?_
    | refine Len.mk ⟨_, by simp only [List.length_cons, List.length_nil, Nat.reduceAdd, Int.cast_ofNat_Int]; rfl, ?_⟩
    | refine Wr.lit _ (by simp only [Int.reduceAdd, Int.reduceSub, Int.reduceMul]; rfl) (by decide) ?_
    | refine Wr.fit (by omega) ?_
    | refine Wr.fit (by dsimp only; omega) ?_
    | refine Elem.mk ⟨_, ⟨of_decide_eq_true rfl, rfl⟩, ?_⟩
    | refine Len.map ?_
    | refine Len.dropM ?_
    | refine Elem.dropM ?_
    | refine Len.takeM ?_
    | refine Elem.takeM ?_
    | refine Elem.mapK (by assumption) ?_
    | refine Elem.mapI (by omega) (by assumption) ?_
    | refine Elem.mapN (by omega) (fun x hx => ?_)
    | refine Elem.map (by omega) (by omega) (fun x hx => ?_)
    | refine (h1).use ⟨rfl, ?_⟩
    | refine (h2).use ⟨rfl, ?_⟩
    | refine (h3).use ⟨rfl, ?_⟩
    | refine CallX.mk ⟨_, _, (h1).x, rfl, ?_⟩
    | refine CallX.mk ⟨_, _, (h2).x, rfl, ?_⟩
    | refine CallX.mk ⟨_, _, (h3).x, rfl, ?_⟩
    | refine Done.mk ⟨rfl, rfl⟩
    | refine Done.mk ⟨congrArg gb ?_, rfl⟩
    | refine Done.mk ⟨?_, rfl⟩
    | refine Done.mk ⟨?_, ?_⟩)
  all_goals first
    | exact same_d0 (by assumption)
    | (refine same_d1 (by assumption) ?_; simp only [cond_true, cond_false] at *; simp [*]; done)
def light27 (w : List (List Int)) (n : Int) : Bool := decide ((w.length : Int) ≤ n) && w.all fun l => decide ((l.length : Int) ≤ n)
def light28 (l : List Order) : Bool := decide (l.length ≤ 2010) && l.all fun t => decide (t.Open.length ≤ 20)
def light30 (d : Depot) : Bool := light27 d.Ways 40 && (light28 d.Orders && light29 d.Trucks)
theorem all_no {α : Type} {p : α → Bool} {l : List α} {i : Nat} {x : α} {z : Bool} (hx : l[i]? = some x) (hp : p x = false) : false = (z && l.all p) := by
  symm
  rw [Bool.and_eq_false_iff]
  right
  rw [List.all_eq_false]
  exact ⟨x, List.mem_of_getElem? hx, by rw [hp]; decide⟩
theorem all_endK {α : Type} {p : α → Bool} {l : List α} {i : Nat} {z : Bool} (hz : z = true) (hi : ¬ (i : Int) < l.length) (h : (l.take i).all p = true) : true = (z && l.all p) := by
  rw [List.take_of_length_le (by omega)] at h
  rw [hz, h]; rfl
theorem all_stepK {α : Type} {p : α → Bool} {l : List α} {i : Nat} {x : α} (hx : l[i]? = some x) (h : (l.take i).all p = true) (hp : p x = true) : (l.take (i + 1)).all p = true := by
  rw [take_nextK hx, List.all_append, h]; simp [hp]
def pl_K7_1 : Nat → Option (List Nat × List Nat) := (fun k => bif Nat.beq k 4 then some ([1000004, 1, 11, 12, 13], []) else none)
set_option maxRecDepth 100000 in
set_option maxHeartbeats 1000000 in
theorem light27_ok (w : List (List Int)) (n : Int) (hn : n ≤ 1000000) : ICalls Try.prog 45 [.list 1 (waysG w) none, gi n] [] (Done (gb (light27 w n)) []) := by
  unfold light27
  refine ICalls.of_body Try.func45 rfl Try.call45 rfl (Nat.le_of_ble_eq_true rfl) pl_K7_1 rfl ?_
  repeat' ((conv => whnf); first
    | refine Br.yes rfl ?_
    | refine Br.no rfl ?_
    | (refine Elem.mapN (by omega) (fun x hx => ?_))
    | (refine ILoop.ov 1000004 (fun (i : Nat) => [(13, gi i)]) (fun (i : Nat) => []) (fun (i : Nat) => i ≤ w.length ∧ (w.take i).all (fun l => decide ((l.length : Int) ≤ n)) = true) (fun (i : Nat) => w.length - i) (0) (by exact rfl) ?_; (conv => whnf); refine Start.mk rfl ?_ ?_; (try dsimp only); rotate_left; rintro i ⟨hi, hp⟩)
    | (refine Again.mk ⟨(i + 1), rfl, ?_, ?_⟩ <;> try dsimp only)
    | refine Br.yes (beq_self_eq_true _) ?_
    | refine Br.not ?_
    | refine Br.yes (decide_eq_true (by assumption)) ?_
    | refine Br.no (decide_eq_false (by assumption)) ?_
    | refine Br.yes (beq_iff_eq.2 (by assumption)) ?_
    | refine Br.no (beq_eq_false_iff_ne.2 (by assumption)) ?_
    | refine Br.yes (bne_iff_ne.2 (by assumption)) ?_
    | (refine Br.dec (fun h => ?_) (fun h => ?_) <;> try dsimp only at h)
    | (refine Br.beqI (fun h => ?_) (fun h => ?_) <;> try dsimp only at h)
    | (refine Br.bneI (fun h => ?_) (fun h => ?_) <;> try dsimp only at h)
    | refine Br.mk (fun h => ?_) (fun h => ?_)
    | refine Need.mk (by first | kernel_rfl | exact ⟨of_decide_eq_true rfl, of_decide_eq_true rfl⟩ | omega) ?_
    | refine Len.mk ⟨_, by simp only [List.length_cons, List.length_nil, Nat.reduceAdd, Int.cast_ofNat_Int]; rfl, ?_⟩
    | refine Wr.lit _ (by simp only [Int.reduceAdd, Int.reduceSub, Int.reduceMul]; rfl) (by decide) ?_
    | refine Wr.fit (by omega) ?_
    | refine Wr.fit (by dsimp only; omega) ?_
    | refine Elem.mk ⟨_, ⟨of_decide_eq_true rfl, rfl⟩, ?_⟩
    | refine Len.map ?_
    | refine Len.dropM ?_
    | refine Elem.dropM ?_
    | refine Len.takeM ?_
    | refine Elem.takeM ?_
    | refine Elem.mapK (by assumption) ?_
    | refine Elem.mapI (by omega) (by assumption) ?_
    | refine Elem.mapN (by omega) (fun x hx => ?_)
    | refine Elem.map (by omega) (by omega) (fun x hx => ?_)
    | refine Done.mk ⟨rfl, rfl⟩
    | refine Done.mk ⟨congrArg gb ?_, rfl⟩
    | refine Done.mk ⟨?_, rfl⟩
    | refine Done.mk ⟨?_, ?_⟩)
  all_goals first
    | omega
    | (rw [decide_eq_false (by omega)]; rfl)
    | exact all_no hx (by simp only [decide_eq_false_iff_not]; omega)
    | exact all_endK (by simp only [decide_eq_true_eq]; omega) (by assumption) hp
    | exact ⟨by omega, all_stepK hx hp (by simp only [decide_eq_true_eq]; omega)⟩
    | exact ⟨by omega, rfl⟩
def pl_K7_2 : Nat → Option (List Nat × List Nat) := (fun k => bif Nat.beq k 4 then some ([1000004, 8, 9, 10], []) else none)
set_option maxRecDepth 100000 in
set_option maxHeartbeats 1000000 in
theorem light28_ok (w : List Order) : ICalls Try.prog 46 [.list 5 (orders w) none] [] (Done (gb (light28 w)) []) := by
  unfold light28
  refine ICalls.of_body Try.func46 rfl Try.call46 rfl (Nat.le_of_ble_eq_true rfl) pl_K7_2 rfl ?_
  repeat' ((conv => whnf); first
    | refine Br.yes rfl ?_
    | refine Br.no rfl ?_
    | (refine Elem.mapN (by omega) (fun x hx => ?_))
    | (refine ILoop.ov 1000004 (fun (i : Nat) => [(10, gi i)]) (fun (i : Nat) => []) (fun (i : Nat) => i ≤ w.length ∧ (w.take i).all (fun t => decide (t.Open.length ≤ 20)) = true) (fun (i : Nat) => w.length - i) (0) (by exact rfl) ?_; (conv => whnf); refine Start.mk rfl ?_ ?_; (try dsimp only); rotate_left; rintro i ⟨hi, hp⟩)
    | (refine Again.mk ⟨(i + 1), rfl, ?_, ?_⟩ <;> try dsimp only)
    | refine Br.yes (beq_self_eq_true _) ?_
    | refine Br.not ?_
    | refine Br.yes (decide_eq_true (by assumption)) ?_
    | refine Br.no (decide_eq_false (by assumption)) ?_
    | refine Br.yes (beq_iff_eq.2 (by assumption)) ?_
    | refine Br.no (beq_eq_false_iff_ne.2 (by assumption)) ?_
    | refine Br.yes (bne_iff_ne.2 (by assumption)) ?_
    | (refine Br.dec (fun h => ?_) (fun h => ?_) <;> try dsimp only at h)
    | (refine Br.beqI (fun h => ?_) (fun h => ?_) <;> try dsimp only at h)
    | (refine Br.bneI (fun h => ?_) (fun h => ?_) <;> try dsimp only at h)
    | refine Br.mk (fun h => ?_) (fun h => ?_)
    | refine Need.mk (by first | kernel_rfl | exact ⟨of_decide_eq_true rfl, of_decide_eq_true rfl⟩ | omega) ?_
    | refine Len.mk ⟨_, by simp only [List.length_cons, List.length_nil, Nat.reduceAdd, Int.cast_ofNat_Int]; rfl, ?_⟩
    | refine Wr.lit _ (by simp only [Int.reduceAdd, Int.reduceSub, Int.reduceMul]; rfl) (by decide) ?_
    | refine Wr.fit (by omega) ?_
    | refine Wr.fit (by dsimp only; omega) ?_
    | refine Elem.mk ⟨_, ⟨of_decide_eq_true rfl, rfl⟩, ?_⟩
    | refine Len.map ?_
    | refine Len.dropM ?_
    | refine Elem.dropM ?_
    | refine Len.takeM ?_
    | refine Elem.takeM ?_
    | refine Elem.mapK (by assumption) ?_
    | refine Elem.mapI (by omega) (by assumption) ?_
    | refine Elem.mapN (by omega) (fun x hx => ?_)
    | refine Elem.map (by omega) (by omega) (fun x hx => ?_)
    | refine Done.mk ⟨rfl, rfl⟩
    | refine Done.mk ⟨congrArg gb ?_, rfl⟩
    | refine Done.mk ⟨?_, rfl⟩
    | refine Done.mk ⟨?_, ?_⟩)
  all_goals first
    | omega
    | (rw [decide_eq_false (by omega)]; rfl)
    | exact all_no hx (by simp only [decide_eq_false_iff_not]; omega)
    | exact all_endK (by simp only [decide_eq_true_eq]; omega) (by assumption) hp
    | exact ⟨by omega, all_stepK hx hp (by simp only [decide_eq_true_eq]; omega)⟩
    | exact ⟨by omega, rfl⟩
set_option maxRecDepth 100000 in
set_option maxHeartbeats 1000000 in
theorem light30_ok (d : Depot) : ICalls Try.prog 19 [d.g] [] (Done (gb (light30 d)) []) := by
  have h1 := light27_ok d.Ways 40 (by decide)
  have h2 := light28_ok d.Orders
  have h3 := light29_ok d.Trucks
  unfold light30
  obtain ⟨b, w, o, l⟩ := d
  simp only at *
  generalize light27 w 40 = q1 at *
  generalize light28 o = q2 at *
  generalize light29 l = q3 at *
  show ICalls _ _ [.agg (b.c ++ [.list 1 (w.map rowG) none, .list 5 (o.map Order.g) none, .list 6 (l.map Truck.g) none])] _ _
  refine ICalls.of_body Try.func19 rfl Try.call19 rfl (Nat.le_of_ble_eq_true rfl) (fun _ => none) rfl ?_
  repeat' ((conv => whnf); first
    | refine Br.yes rfl ?_
    | refine Br.no rfl ?_
    | refine Br.yes (beq_self_eq_true _) ?_
    | refine Br.not ?_
    | refine Br.yes (decide_eq_true (by assumption)) ?_
    | refine Br.no (decide_eq_false (by assumption)) ?_
    | refine Br.yes (beq_iff_eq.2 (by assumption)) ?_
    | refine Br.no (beq_eq_false_iff_ne.2 (by assumption)) ?_
    | refine Br.yes (bne_iff_ne.2 (by assumption)) ?_
    | (refine Br.dec (fun h => ?_) (fun h => ?_) <;> try dsimp only at h)
    | (refine Br.beqI (fun h => ?_) (fun h => ?_) <;> try dsimp only at h)
    | (refine Br.bneI (fun h => ?_) (fun h => ?_) <;> try dsimp only at h)
    | refine Br.mk (fun h => ?_) (fun h => ?_)
    | refine Need.mk (by first | kernel_rfl | exact ⟨of_decide_eq_true rfl, of_decide_eq_true rfl⟩ | omega) ?_
    | refine Len.mk ⟨_, by simp only [List.length_cons, List.length_nil, Nat.reduceAdd, Int.cast_ofNat_Int]; rfl, ?_⟩
    | refine Wr.lit _ (by simp only [Int.reduceAdd, Int.reduceSub, Int.reduceMul]; rfl) (by decide) ?_
    | refine Wr.fit (by omega) ?_
    | refine Wr.fit (by dsimp only; omega) ?_
    | refine Elem.mk ⟨_, ⟨of_decide_eq_true rfl, rfl⟩, ?_⟩
    | refine Len.map ?_
    | refine Len.dropM ?_
    | refine Elem.dropM ?_
    | refine Len.takeM ?_
    | refine Elem.takeM ?_
    | refine Elem.mapK (by assumption) ?_
    | refine Elem.mapI (by omega) (by assumption) ?_
    | refine Elem.mapN (by omega) (fun x hx => ?_)
    | refine Elem.map (by omega) (by omega) (fun x hx => ?_)
    | refine (h1).use ⟨rfl, ?_⟩
    | refine (h2).use ⟨rfl, ?_⟩
    | refine (h3).use ⟨rfl, ?_⟩
    | refine CallX.mk ⟨_, _, (h1).x, rfl, ?_⟩
    | refine CallX.mk ⟨_, _, (h2).x, rfl, ?_⟩
    | refine CallX.mk ⟨_, _, (h3).x, rfl, ?_⟩
    | refine Done.mk ⟨rfl, rfl⟩
    | refine Done.mk ⟨congrArg gb ?_, rfl⟩
    | refine Done.mk ⟨?_, rfl⟩
    | refine Done.mk ⟨?_, ?_⟩)
  all_goals ((try simp only [cond_true, cond_false] at *); simp [*]; done)
theorem light30_Ok {d : Depot} (h : light30 d = true) : d.Ok := by
  unfold light30 light27 light28 at h
  simp only [Bool.and_eq_true, decide_eq_true_eq, List.all_eq_true] at h
  obtain ⟨⟨h1, h2⟩, ⟨h3, h4⟩, h5⟩ := h
  have h6 := light29_len h5
  exact ⟨fun l hl => by have := h2 l hl; omega, by omega, by omega, fun o ho => by have := h4 o ho; omega, by omega, fun t ht => by have := h6.2 t ht; omega⟩

end Go.Hl

/- Chapter 30: the reference's check; the example; the law Checks.  -/
set_option linter.unusedVariables false
set_option linter.unusedSimpArgs false
namespace Go.Hl
open Go.Gh Go.Proofs

theorem rightL_all {p : Int} : ∀ (l : List Truck) (i last : Int), (rightL p i last l).2 = 0 → ∀ t, t ∈ l → truckErr t p = 0
  | [], _, _, _, t, h => by cases h
  | x :: r, i, last, h, t, ht => by
    rw [rightL] at h
    split at h
    · rename_i h1; exact absurd h h1
    · rename_i h1
      split at h
      · cases h
      split at h
      · cases h
      rcases List.mem_cons.1 ht with e | e
      · subst e; simpa using h1
      · exact rightL_all r _ _ h t e
theorem rightV_all {p : Int} {l : List Truck} (h : (rightV p l).2 = 0) : ∀ t, t ∈ l → truckErr t p = 0 := by
  unfold rightV at h
  split at h
  · cases h
  · exact rightL_all l _ _ h
theorem truckErr_past {p : Int} {t : Truck} (h : truckErr t p = 0) : pastErr t.Past = 0 := by
  unfold truckErr at h
  grind
def mayD (d : Depot) : Bool := decide ((depotE d).2.2 = 0)
def al30 : Depot := ⟨Book.europe, [[0]], [], []⟩
theorem al30_Ok : al30.Ok := ⟨fun l hl => (by cases List.mem_singleton.1 hl; decide), by decide, by decide, fun o h => (by cases h), by decide, fun t h => (by cases h)⟩
theorem al30_E : depotE al30 = (0, 0, 0) := by decide +kernel
theorem al30_sub : SubL (Book.europe.c ++ [.list 1 [rowG [0]] none, .v (.slice none 0 0), .v (.slice none 0 0)]) al30.c := SubL.app Book.europe.c (.cons (.refl _) (.cons (.nil 5) (.cons (.nil 6) .nil)))

set_option maxRecDepth 100000 in
set_option maxHeartbeats 1000000 in
theorem alive30_ok : ICalls Try.prog 20 [] [] (Done (gb true) []) := by
  have h0 := europe_ok
  have h1 := (new_ok al30 al30_Ok (by rw [al30_E])).sub (.cons (.agg al30_sub) .nil)
  have h2 := told_ok al30 (metersV al30).1 al30_Ok
  generalize (metersV al30).1 = ms at *
  refine ICalls.of_body Try.func20 rfl Try.call20 rfl (Nat.le_of_ble_eq_true rfl) (fun _ => none) rfl ?_
  repeat' ((conv => whnf); first
    | refine Br.yes rfl ?_
    | refine Br.no rfl ?_
    | refine Need.mk (EqRun.flat (by kernel_rfl) rfl) ?_
    | refine Br.yes (beq_self_eq_true _) ?_
    | refine Br.not ?_
    | refine Br.yes (decide_eq_true (by assumption)) ?_
    | refine Br.no (decide_eq_false (by assumption)) ?_
    | refine Br.yes (beq_iff_eq.2 (by assumption)) ?_
    | refine Br.no (beq_eq_false_iff_ne.2 (by assumption)) ?_
    | refine Br.yes (bne_iff_ne.2 (by assumption)) ?_
    | (refine Br.dec (fun h => ?_) (fun h => ?_) <;> try dsimp only at h)
    | (refine Br.beqI (fun h => ?_) (fun h => ?_) <;> try dsimp only at h)
    | (refine Br.bneI (fun h => ?_) (fun h => ?_) <;> try dsimp only at h)
    | refine Br.mk (fun h => ?_) (fun h => ?_)
    | refine Need.mk (by first | kernel_rfl | exact ⟨of_decide_eq_true rfl, of_decide_eq_true rfl⟩ | omega) ?_
    | refine Len.mk ⟨_, by simp only [List.length_cons, List.length_nil, Nat.reduceAdd, Int.cast_ofNat_Int]; rfl, ?_⟩
    | refine Wr.lit _ (by simp only [Int.reduceAdd, Int.reduceSub, Int.reduceMul]; rfl) (by decide) ?_
    | refine Wr.fit (by omega) ?_
    | refine Wr.fit (by dsimp only; omega) ?_
    | refine Elem.mk ⟨_, ⟨of_decide_eq_true rfl, rfl⟩, ?_⟩
    | refine Len.map ?_
    | refine Len.dropM ?_
    | refine Elem.dropM ?_
    | refine Len.takeM ?_
    | refine Elem.takeM ?_
    | refine Elem.mapK (by assumption) ?_
    | refine Elem.mapI (by omega) (by assumption) ?_
    | refine Elem.mapN (by omega) (fun x hx => ?_)
    | refine Elem.map (by omega) (by omega) (fun x hx => ?_)
    | refine (h0).use ⟨rfl, ?_⟩
    | refine (h1).use ⟨rfl, ?_⟩
    | refine (h2).use ⟨rfl, ?_⟩
    | refine CallX.mk ⟨_, _, (h0).x, rfl, ?_⟩
    | refine CallX.mk ⟨_, _, (h1).x, rfl, ?_⟩
    | refine CallX.mk ⟨_, _, (h2).x, rfl, ?_⟩
    | refine Done.mk ⟨rfl, rfl⟩
    | refine Done.mk ⟨congrArg gb ?_, rfl⟩
    | refine Done.mk ⟨?_, rfl⟩
    | refine Done.mk ⟨?_, ?_⟩)
  all_goals kernel_rfl

end Go.Hl
