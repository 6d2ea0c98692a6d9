/- Contracts of functions, bundle I2; proved for whatever the arguments' types allow, as each theorem says. -/
import Derived.Test.YtncklikpkliilaaI1

/- Contracts: the set of a list of spans.  -/
set_option linter.unusedVariables false
set_option linter.unusedSimpArgs false
namespace Go.Hl
open Go.Gh Go.Proofs



def ivStep (acc : List Span) (s : Span) : List Span := match acc[acc.length - 1]? with
  | some q => if s.From ≤ q.To then acc.set (acc.length - 1) ⟨q.From, if q.To < s.To then s.To else q.To⟩ else acc ++ [s]
  | none => acc ++ [s]
def ivL (acc l : List Span) : List Span := l.foldl ivStep acc
theorem ivL_next {acc l R : List Span} {i : Nat} {x : Span} (h : l[i]? = some x) (hR : ivL acc (l.drop i) = R) : ivL (ivStep acc x) (l.drop (i + 1)) = R := by
  rw [drop_of_get h] at hR; exact hR
theorem iv_len {acc : List Span} {r : Span} {i : Nat} (h : acc.length ≤ i) : (ivStep acc r).length ≤ i + 1 := by
  unfold ivStep
  split
  · split
    · simp; omega
    · simp; omega
  · simp; omega
theorem spans_app (a b : List Span) : spans (a ++ b) = spans a ++ spans b := List.map_append
theorem spans_len (a : List Span) : (spans a).length = a.length := List.length_map ..
theorem spans_set (acc : List Span) (i : Nat) (r : Span) : (spans acc).set i r.g = spans (acc.set i r) := (List.map_set (f := Span.g)).symm
theorem iv_stepA {acc : List Span} {q r : Span} {i : Int} (h0 : 0 ≤ i) (hi : i = (acc.length : Int) - 1) (h : acc[i.toNat]? = some q) (he : r.From ≤ q.To) :
    (spans acc).set i.toNat (.agg [gi q.From, gi (if q.To < r.To then r.To else q.To)]) = spans (ivStep acc r) ∧ acc.length = (ivStep acc r).length := by
  have hi' : i.toNat = acc.length - 1 := by omega
  unfold ivStep
  rw [← hi', h]
  simp only [if_pos he]
  exact ⟨spans_set acc i.toNat ⟨q.From, if q.To < r.To then r.To else q.To⟩, by simp⟩
theorem iv_stepB {acc : List Span} {q r : Span} {i : Int} (h0 : 0 ≤ i) (hi : i = (acc.length : Int) - 1) (h : acc[i.toNat]? = some q) (he : ¬ r.From ≤ q.To) :
    spans acc ++ [.agg [gi r.From, gi r.To]] = spans (ivStep acc r) ∧ (spans acc).length + 1 = (ivStep acc r).length := by
  have hi' : i.toNat = acc.length - 1 := by omega
  unfold ivStep
  rw [← hi', h]
  simp only [if_neg he]
  exact ⟨by rw [spans_app]; rfl, by simp⟩
theorem iv_stepC {acc : List Span} {r : Span} (h : ¬ 0 ≤ (acc.length : Int) - 1) :
    spans acc ++ [.agg [gi r.From, gi r.To]] = spans (ivStep acc r) ∧ (spans acc).length + 1 = (ivStep acc r).length := by
  have : acc = [] := List.eq_nil_of_length_eq_zero (by omega)
  subst this
  exact ⟨rfl, rfl⟩

/-- The set of a list. -/
def mkL (l : List Span) : List Span := ivL [] (sortL (l.filter (·.right)))

set_option maxRecDepth 100000 in
theorem notRight_ok (s : Span) : ICalls Try.prog 55 [s.g] [] (Done (gb (!s.right)) []) := by
  refine ICalls.of_body Try.func55 rfl Try.call55 rfl (Nat.le_of_ble_eq_true rfl) (fun _ => none) rfl ?_
  repeat' ((conv => whnf); first
    | refine Br.yes rfl ?_
    | refine Br.no rfl ?_
    | refine Br.yes (beq_self_eq_true _) ?_
    | refine Br.not ?_
    | refine Br.yes (decide_eq_true (by assumption)) ?_
    | refine Br.no (decide_eq_false (by assumption)) ?_
    | refine Br.yes (beq_iff_eq.2 (by assumption)) ?_
    | refine Br.no (beq_eq_false_iff_ne.2 (by assumption)) ?_
    | refine Br.yes (bne_iff_ne.2 (by assumption)) ?_
    | (refine Br.dec (fun h => ?_) (fun h => ?_) <;> try dsimp only at h)
    | (refine Br.beqI (fun h => ?_) (fun h => ?_) <;> try dsimp only at h)
    | (refine Br.bneI (fun h => ?_) (fun h => ?_) <;> try dsimp only at h)
    | refine Br.mk (fun h => ?_) (fun h => ?_)
    | refine Need.mk (app_need (by first | (simp only [List.length_append, List.length_map, List.length_nil, List.length_cons, List.nil_append, Nat.zero_add, Nat.add_zero]; done) | (simp only [List.length_append, List.length_map, List.length_nil, List.length_cons, List.nil_append, Nat.zero_add, Nat.add_zero]; omega) | omega) (Nat.le_of_ble_eq_true rfl) (by first | (simp only [List.length_append, List.length_map, List.length_nil, List.length_cons, List.nil_append, Nat.zero_add, Nat.add_zero]; done) | (simp only [List.length_append, List.length_map, List.length_nil, List.length_cons, List.nil_append, Nat.zero_add, Nat.add_zero]; omega) | omega)) ?_
    | refine Need.mk (app_need0 (Nat.le_of_ble_eq_true rfl) (by first | (simp only [List.length_append, List.length_map, List.length_nil, List.length_cons, List.nil_append, Nat.zero_add, Nat.add_zero]; done) | (simp only [List.length_append, List.length_map, List.length_nil, List.length_cons, List.nil_append, Nat.zero_add, Nat.add_zero]; omega) | omega)) ?_
    | refine Need.mk (app_needM rfl (Nat.le_of_ble_eq_true rfl) (by first | (simp only [List.length_append, List.length_map, List.length_nil, List.length_cons, List.nil_append, Nat.zero_add, Nat.add_zero]; done) | (simp only [List.length_append, List.length_map, List.length_nil, List.length_cons, List.nil_append, Nat.zero_add, Nat.add_zero]; omega) | omega)) ?_
    | refine Need.mk (zeros_need (by omega) (Nat.le_of_ble_eq_true rfl) (by omega)) ?_
    | refine Need.mk (by first | kernel_rfl | exact ⟨of_decide_eq_true rfl, of_decide_eq_true rfl⟩ | omega) ?_
    | refine Len.mk ⟨_, by simp only [List.length_cons, List.length_nil, Nat.reduceAdd, Int.cast_ofNat_Int]; rfl, ?_⟩
    | refine Wr.lit _ (by simp only [Int.reduceAdd, Int.reduceSub, Int.reduceMul]; rfl) (by decide) ?_
    | refine Wr.fit (by omega) ?_
    | refine Wr.fit (by dsimp only; omega) ?_
    | refine Elem.mk ⟨_, ⟨of_decide_eq_true rfl, rfl⟩, ?_⟩
    | refine Len.map ?_
    | refine Len.dropM ?_
    | refine Elem.dropM ?_
    | refine Len.takeM ?_
    | refine Elem.takeM ?_
    | refine Elem.mapK (by assumption) ?_
    | refine Elem.mapI (by omega) (by assumption) ?_
    | refine Elem.mapN (by omega) (fun x hx => ?_)
    | refine Elem.map (by omega) (by omega) (fun x hx => ?_)
    | refine (ivalRight_ok s).use ⟨rfl, ?_⟩
    | refine CallX.mk ⟨_, _, (ivalRight_ok s).x, rfl, ?_⟩
    | refine Done.mk ⟨rfl, rfl⟩
    | refine Done.mk ⟨congrArg gb ?_, rfl⟩
    | refine Done.mk ⟨?_, rfl⟩
    | refine Done.mk ⟨?_, ?_⟩)

theorem sortL_len (l : List Span) : (sortL l).length = l.length := List.length_mergeSort ..
theorem filter2 (l : List Span) : (l.filter fun s => !(!s.right)) = l.filter (·.right) := by simp

def pl_P3_1 : Nat → Option (List Nat × List Nat) := (fun k => bif Nat.beq k 5 then some ([1000005, 4, 13, 14, 15, 5000004, 6000002], [104, 109, 149]) else bif Nat.beq k 5000004 then some ([], []) else bif Nat.beq k 6000002 then some ([], []) else none)
set_option maxRecDepth 100000 in
set_option maxHeartbeats 1000000 in
theorem makeCons_ok (s : Span) (r : List Span) (hl : (r.length : Int) ≤ 100000000) :
    ICalls Try.prog 20 [.list 2 (spans (s :: r)) none] [] (Done (.list 2 (spans (mkL (s :: r))) none) []) := by
  have hC := cloneSpan_ok s r (by omega)
  have hD := delSpan_ok 55 (fun s => !s.right) notRight_ok (s :: r) 1 (by simp only [List.length_cons]; omega)
  rw [filter2] at hD
  have hf : ((s :: r).filter (·.right)).length ≤ r.length + 1 := List.length_filter_le ..
  have hS := sortSpan_ok ((s :: r).filter (·.right)) (delV (fun s => !s.right) (s :: r) 1) (by omega)
  generalize hR : mkL (s :: r) = R
  unfold mkL at hR
  have hSl := sortL_len ((s :: r).filter (·.right))
  generalize sortL ((s :: r).filter (·.right)) = S at *
  generalize delV (fun s => !s.right) (s :: r) 1 = v0 at *
  generalize (s :: r).filter (·.right) = F at *
  refine ICalls.of_body Try.func20 rfl Try.call20 rfl (Nat.le_of_ble_eq_true rfl) pl_P3_1 rfl ?_
  repeat' ((conv => whnf); first
    | refine Br.yes rfl ?_
    | refine Br.no rfl ?_
    | (refine Elem.mapN (i := i) (by omega) (fun x hx => ?_))
    | (refine Elem.mapI (by assumption) (by assumption) ?_)
    | (refine Elem.map (by omega) (by omega) (fun q hq => ?_))
    | (refine ILoop.ov 1000005 (fun ((i, acc, g, k, v) : Nat × List Span × List GV × Nat × Nat) => [(15, gi i), (4, .ms 2 104 v k)]) (fun ((i, acc, g, k, v) : Nat × List Span × List GV × Nat × Nat) => [(104, .mvec 26 2 g v)]) (fun ((i, acc, g, k, v) : Nat × List Span × List GV × Nat × Nat) => (i ≤ S.length ∧ acc.length ≤ i) ∧ (g = spans acc ∧ k = acc.length) ∧ ivL acc (S.drop i) = R) (fun ((i, acc, g, k, v) : Nat × List Span × List GV × Nat × Nat) => S.length - i) ((0, [], [], 0, 0)) (by exact rfl) ?_; (conv => whnf); refine Start.mk rfl ?_ ?_; (try dsimp only); rotate_left; rintro ⟨i, acc, g, k, v⟩ ⟨⟨hi, ha⟩, ⟨rfl, rfl⟩, hr⟩)
    | (refine Again.mk ⟨((i + 1, ivStep acc x, _, _, _)), rfl, ?_, ?_⟩ <;> try dsimp only)
    | refine Br.yes (beq_self_eq_true _) ?_
    | refine Br.not ?_
    | refine Br.yes (decide_eq_true (by assumption)) ?_
    | refine Br.no (decide_eq_false (by assumption)) ?_
    | refine Br.yes (beq_iff_eq.2 (by assumption)) ?_
    | refine Br.no (beq_eq_false_iff_ne.2 (by assumption)) ?_
    | refine Br.yes (bne_iff_ne.2 (by assumption)) ?_
    | (refine Br.dec (fun h => ?_) (fun h => ?_) <;> try dsimp only at h)
    | (refine Br.beqI (fun h => ?_) (fun h => ?_) <;> try dsimp only at h)
    | (refine Br.bneI (fun h => ?_) (fun h => ?_) <;> try dsimp only at h)
    | refine Br.mk (fun h => ?_) (fun h => ?_)
    | refine Need.mk (app_need (by first | (simp only [List.length_append, List.length_map, List.length_nil, List.length_cons, List.nil_append, Nat.zero_add, Nat.add_zero]; done) | (simp only [List.length_append, List.length_map, List.length_nil, List.length_cons, List.nil_append, Nat.zero_add, Nat.add_zero]; omega) | omega) (Nat.le_of_ble_eq_true rfl) (by first | (simp only [List.length_append, List.length_map, List.length_nil, List.length_cons, List.nil_append, Nat.zero_add, Nat.add_zero]; done) | (simp only [List.length_append, List.length_map, List.length_nil, List.length_cons, List.nil_append, Nat.zero_add, Nat.add_zero]; omega) | omega)) ?_
    | refine Need.mk (app_need0 (Nat.le_of_ble_eq_true rfl) (by first | (simp only [List.length_append, List.length_map, List.length_nil, List.length_cons, List.nil_append, Nat.zero_add, Nat.add_zero]; done) | (simp only [List.length_append, List.length_map, List.length_nil, List.length_cons, List.nil_append, Nat.zero_add, Nat.add_zero]; omega) | omega)) ?_
    | refine Need.mk (app_needM rfl (Nat.le_of_ble_eq_true rfl) (by first | (simp only [List.length_append, List.length_map, List.length_nil, List.length_cons, List.nil_append, Nat.zero_add, Nat.add_zero]; done) | (simp only [List.length_append, List.length_map, List.length_nil, List.length_cons, List.nil_append, Nat.zero_add, Nat.add_zero]; omega) | omega)) ?_
    | refine Need.mk (zeros_need (by omega) (Nat.le_of_ble_eq_true rfl) (by omega)) ?_
    | refine Need.mk (by first | kernel_rfl | exact ⟨of_decide_eq_true rfl, of_decide_eq_true rfl⟩ | omega) ?_
    | refine Len.mk ⟨_, by simp only [List.length_cons, List.length_nil, Nat.reduceAdd, Int.cast_ofNat_Int]; rfl, ?_⟩
    | refine Wr.lit _ (by simp only [Int.reduceAdd, Int.reduceSub, Int.reduceMul]; rfl) (by decide) ?_
    | refine Wr.fit (by omega) ?_
    | refine Wr.fit (by dsimp only; omega) ?_
    | refine Elem.mk ⟨_, ⟨of_decide_eq_true rfl, rfl⟩, ?_⟩
    | refine Len.map ?_
    | refine Len.dropM ?_
    | refine Elem.dropM ?_
    | refine Len.takeM ?_
    | refine Elem.takeM ?_
    | refine Elem.mapK (by assumption) ?_
    | refine Elem.mapI (by omega) (by assumption) ?_
    | refine Elem.mapN (by omega) (fun x hx => ?_)
    | refine Elem.map (by omega) (by omega) (fun x hx => ?_)
    | refine (hC).use ⟨rfl, ?_⟩
    | refine (hD).use ⟨rfl, ?_⟩
    | refine (hS).use ⟨rfl, ?_⟩
    | refine CallX.mk ⟨_, _, (hC).x, rfl, ?_⟩
    | refine CallX.mk ⟨_, _, (hD).x, rfl, ?_⟩
    | refine CallX.mk ⟨_, _, (hS).x, rfl, ?_⟩
    | refine Done.mk ⟨rfl, rfl⟩
    | refine Done.mk ⟨congrArg gb ?_, rfl⟩
    | refine Done.mk ⟨?_, rfl⟩
    | refine Done.mk ⟨?_, ?_⟩)
  all_goals first
    | omega
    | exact ⟨⟨by omega, iv_len ha⟩, iv_stepA (by assumption) rfl hq h, ivL_next hx hr⟩
    | exact ⟨⟨by omega, iv_len ha⟩, iv_stepB (by assumption) rfl hq h, ivL_next hx hr⟩
    | exact ⟨⟨by omega, iv_len ha⟩, iv_stepC h, ivL_next hx hr⟩
    | exact ⟨⟨by omega, by decide⟩, ⟨rfl, rfl⟩, hR⟩
    | (rw [List.drop_eq_nil_of_le (by omega)] at hr; subst hr; rfl)

def pl_P3_2 : Nat → Option (List Nat × List Nat) := (fun k => bif Nat.beq k 5 then some ([1000005, 4, 13, 14, 15, 5000004, 6000002], [104, 109, 149]) else bif Nat.beq k 5000004 then some ([], []) else bif Nat.beq k 6000002 then some ([], []) else none)
set_option maxRecDepth 100000 in
theorem makeEmp_ok : ICalls Try.prog 20 [.emp] [] (Done (.list 2 [] none) []) := by
  have hC := cloneEmp_ok
  have hD := delSpan_ok 55 (fun s => !s.right) notRight_ok [] 1 (by simp)
  have hS := sortSpan_ok [] (delV (fun s => !s.right) [] 1) (by simp)
  generalize delV (fun s => !s.right) [] 1 = v0 at *
  rw [show sortL [] = [] by simp [sortL]] at hS
  refine ICalls.of_body Try.func20 rfl Try.call20 rfl (Nat.le_of_ble_eq_true rfl) pl_P3_2 rfl ?_
  repeat' ((conv => whnf); first
    | refine Br.yes rfl ?_
    | refine Br.no rfl ?_
    | refine Br.yes (beq_self_eq_true _) ?_
    | refine Br.not ?_
    | refine Br.yes (decide_eq_true (by assumption)) ?_
    | refine Br.no (decide_eq_false (by assumption)) ?_
    | refine Br.yes (beq_iff_eq.2 (by assumption)) ?_
    | refine Br.no (beq_eq_false_iff_ne.2 (by assumption)) ?_
    | refine Br.yes (bne_iff_ne.2 (by assumption)) ?_
    | (refine Br.dec (fun h => ?_) (fun h => ?_) <;> try dsimp only at h)
    | (refine Br.beqI (fun h => ?_) (fun h => ?_) <;> try dsimp only at h)
    | (refine Br.bneI (fun h => ?_) (fun h => ?_) <;> try dsimp only at h)
    | refine Br.mk (fun h => ?_) (fun h => ?_)
    | refine Need.mk (app_need (by first | (simp only [List.length_append, List.length_map, List.length_nil, List.length_cons, List.nil_append, Nat.zero_add, Nat.add_zero]; done) | (simp only [List.length_append, List.length_map, List.length_nil, List.length_cons, List.nil_append, Nat.zero_add, Nat.add_zero]; omega) | omega) (Nat.le_of_ble_eq_true rfl) (by first | (simp only [List.length_append, List.length_map, List.length_nil, List.length_cons, List.nil_append, Nat.zero_add, Nat.add_zero]; done) | (simp only [List.length_append, List.length_map, List.length_nil, List.length_cons, List.nil_append, Nat.zero_add, Nat.add_zero]; omega) | omega)) ?_
    | refine Need.mk (app_need0 (Nat.le_of_ble_eq_true rfl) (by first | (simp only [List.length_append, List.length_map, List.length_nil, List.length_cons, List.nil_append, Nat.zero_add, Nat.add_zero]; done) | (simp only [List.length_append, List.length_map, List.length_nil, List.length_cons, List.nil_append, Nat.zero_add, Nat.add_zero]; omega) | omega)) ?_
    | refine Need.mk (app_needM rfl (Nat.le_of_ble_eq_true rfl) (by first | (simp only [List.length_append, List.length_map, List.length_nil, List.length_cons, List.nil_append, Nat.zero_add, Nat.add_zero]; done) | (simp only [List.length_append, List.length_map, List.length_nil, List.length_cons, List.nil_append, Nat.zero_add, Nat.add_zero]; omega) | omega)) ?_
    | refine Need.mk (zeros_need (by omega) (Nat.le_of_ble_eq_true rfl) (by omega)) ?_
    | refine Need.mk (by first | kernel_rfl | exact ⟨of_decide_eq_true rfl, of_decide_eq_true rfl⟩ | omega) ?_
    | refine Len.mk ⟨_, by simp only [List.length_cons, List.length_nil, Nat.reduceAdd, Int.cast_ofNat_Int]; rfl, ?_⟩
    | refine Wr.lit _ (by simp only [Int.reduceAdd, Int.reduceSub, Int.reduceMul]; rfl) (by decide) ?_
    | refine Wr.fit (by omega) ?_
    | refine Wr.fit (by dsimp only; omega) ?_
    | refine Elem.mk ⟨_, ⟨of_decide_eq_true rfl, rfl⟩, ?_⟩
    | refine Len.map ?_
    | refine Len.dropM ?_
    | refine Elem.dropM ?_
    | refine Len.takeM ?_
    | refine Elem.takeM ?_
    | refine Elem.mapK (by assumption) ?_
    | refine Elem.mapI (by omega) (by assumption) ?_
    | refine Elem.mapN (by omega) (fun x hx => ?_)
    | refine Elem.map (by omega) (by omega) (fun x hx => ?_)
    | refine (hC).use ⟨rfl, ?_⟩
    | refine (hD).use ⟨rfl, ?_⟩
    | refine (hS).use ⟨rfl, ?_⟩
    | refine CallX.mk ⟨_, _, (hC).x, rfl, ?_⟩
    | refine CallX.mk ⟨_, _, (hD).x, rfl, ?_⟩
    | refine CallX.mk ⟨_, _, (hS).x, rfl, ?_⟩
    | refine ILoop.unroll 1 ?_
    | refine Done.mk ⟨rfl, rfl⟩
    | refine Done.mk ⟨congrArg gb ?_, rfl⟩
    | refine Done.mk ⟨?_, rfl⟩
    | refine Done.mk ⟨?_, ?_⟩)

def pl_P3_3 : Nat → Option (List Nat × List Nat) := (fun k => bif Nat.beq k 5 then some ([1000005, 0, 1, 5, 6], []) else none)
set_option maxRecDepth 100000 in
theorem delNil_ok (g : Nat) (p : Span → Bool) (hp : ∀ s : Span, ICalls Try.prog g [s.g] [] (Done (gb (p s)) [])) :
    ICalls Try.prog 53 [.list 2 [] none, .fn (.func g) [] []] [] (Done (.list 2 [] none) []) := by
  have hix := idxSpan0_ok g p hp [] (by simp)
  refine ICalls.of_body Try.func53 rfl Try.call53 rfl (Nat.le_of_ble_eq_true rfl) pl_P3_3 rfl ?_
  repeat' ((conv => whnf); first
    | refine Br.yes rfl ?_
    | refine Br.no rfl ?_
    | refine Br.yes (beq_self_eq_true _) ?_
    | refine Br.not ?_
    | refine Br.yes (decide_eq_true (by assumption)) ?_
    | refine Br.no (decide_eq_false (by assumption)) ?_
    | refine Br.yes (beq_iff_eq.2 (by assumption)) ?_
    | refine Br.no (beq_eq_false_iff_ne.2 (by assumption)) ?_
    | refine Br.yes (bne_iff_ne.2 (by assumption)) ?_
    | (refine Br.dec (fun h => ?_) (fun h => ?_) <;> try dsimp only at h)
    | (refine Br.beqI (fun h => ?_) (fun h => ?_) <;> try dsimp only at h)
    | (refine Br.bneI (fun h => ?_) (fun h => ?_) <;> try dsimp only at h)
    | refine Br.mk (fun h => ?_) (fun h => ?_)
    | refine Need.mk (app_need (by first | (simp only [List.length_append, List.length_map, List.length_nil, List.length_cons, List.nil_append, Nat.zero_add, Nat.add_zero]; done) | (simp only [List.length_append, List.length_map, List.length_nil, List.length_cons, List.nil_append, Nat.zero_add, Nat.add_zero]; omega) | omega) (Nat.le_of_ble_eq_true rfl) (by first | (simp only [List.length_append, List.length_map, List.length_nil, List.length_cons, List.nil_append, Nat.zero_add, Nat.add_zero]; done) | (simp only [List.length_append, List.length_map, List.length_nil, List.length_cons, List.nil_append, Nat.zero_add, Nat.add_zero]; omega) | omega)) ?_
    | refine Need.mk (app_need0 (Nat.le_of_ble_eq_true rfl) (by first | (simp only [List.length_append, List.length_map, List.length_nil, List.length_cons, List.nil_append, Nat.zero_add, Nat.add_zero]; done) | (simp only [List.length_append, List.length_map, List.length_nil, List.length_cons, List.nil_append, Nat.zero_add, Nat.add_zero]; omega) | omega)) ?_
    | refine Need.mk (app_needM rfl (Nat.le_of_ble_eq_true rfl) (by first | (simp only [List.length_append, List.length_map, List.length_nil, List.length_cons, List.nil_append, Nat.zero_add, Nat.add_zero]; done) | (simp only [List.length_append, List.length_map, List.length_nil, List.length_cons, List.nil_append, Nat.zero_add, Nat.add_zero]; omega) | omega)) ?_
    | refine Need.mk (zeros_need (by omega) (Nat.le_of_ble_eq_true rfl) (by omega)) ?_
    | refine Need.mk (by first | kernel_rfl | exact ⟨of_decide_eq_true rfl, of_decide_eq_true rfl⟩ | omega) ?_
    | refine Len.mk ⟨_, by simp only [List.length_cons, List.length_nil, Nat.reduceAdd, Int.cast_ofNat_Int]; rfl, ?_⟩
    | refine Wr.lit _ (by simp only [Int.reduceAdd, Int.reduceSub, Int.reduceMul]; rfl) (by decide) ?_
    | refine Wr.fit (by omega) ?_
    | refine Wr.fit (by dsimp only; omega) ?_
    | refine Elem.mk ⟨_, ⟨of_decide_eq_true rfl, rfl⟩, ?_⟩
    | refine Len.map ?_
    | refine Len.dropM ?_
    | refine Elem.dropM ?_
    | refine Len.takeM ?_
    | refine Elem.takeM ?_
    | refine Elem.mapK (by assumption) ?_
    | refine Elem.mapI (by omega) (by assumption) ?_
    | refine Elem.mapN (by omega) (fun x hx => ?_)
    | refine Elem.map (by omega) (by omega) (fun x hx => ?_)
    | refine (hix).use ⟨rfl, ?_⟩
    | refine CallX.mk ⟨_, _, (hix).x, rfl, ?_⟩
    | refine Done.mk ⟨rfl, rfl⟩
    | refine Done.mk ⟨congrArg gb ?_, rfl⟩
    | refine Done.mk ⟨?_, rfl⟩
    | refine Done.mk ⟨?_, ?_⟩)

theorem sortNone_ok : ICalls Try.prog 57 [.list 2 [] none, .fn (.func 58) [] []] [] (Done (.tup []) []) := by
  unfold ICalls
  refine ⟨fun vals w => Try.sortSpan.f6.enters rfl vals w, fun w I T vals hr hsz hrel => ?_⟩
  obtain ⟨r0, r1, rfl⟩ : ∃ r0 r1, vals = #[r0, r1] := by
    obtain ⟨lst⟩ := vals
    match lst, hsz with
    | [a, b], _ => exact ⟨a, b, rfl⟩
  have v0 := hrel 0 _ r0 rfl rfl
  have hz : ∃ b c, r0 = .slice b 0 c := by
    generalize hg : GV.list 2 [] none = g at v0
    cases v0 <;> cases hg
    · exact ⟨_, _, rfl⟩
    · exact ⟨_, _, rfl⟩
  obtain ⟨b, c, rfl⟩ := hz
  refine (AnyF.slices_SortFunc_none Try.sortSpan b c r1 w).mono ?_
  rintro ee w' ⟨rfl, rfl⟩
  exact ⟨_, _, _, I, T, ⟨rfl, rfl⟩, rfl, .refl _ _ _, .tup rfl fun i c r hc => by simp at hc, hr⟩

def pl_P3_4 : Nat → Option (List Nat × List Nat) := (fun k => bif Nat.beq k 5 then some ([1000005, 4, 13, 14, 15, 5000004, 6000002], [104, 109, 149]) else bif Nat.beq k 5000004 then some ([], []) else bif Nat.beq k 6000002 then some ([], []) else none)
set_option maxRecDepth 100000 in
theorem makeNil_ok : ICalls Try.prog 20 [.v (.slice none 0 0)] [] (Done (.list 2 [] none) []) := by
  have hD := delNil_ok 55 (fun s => !s.right) notRight_ok
  refine ICalls.of_body Try.func20 rfl Try.call20 rfl (Nat.le_of_ble_eq_true rfl) pl_P3_4 rfl ?_
  repeat' ((conv => whnf); first
    | refine Br.yes rfl ?_
    | refine Br.no rfl ?_
    | refine Br.yes (beq_self_eq_true _) ?_
    | refine Br.not ?_
    | refine Br.yes (decide_eq_true (by assumption)) ?_
    | refine Br.no (decide_eq_false (by assumption)) ?_
    | refine Br.yes (beq_iff_eq.2 (by assumption)) ?_
    | refine Br.no (beq_eq_false_iff_ne.2 (by assumption)) ?_
    | refine Br.yes (bne_iff_ne.2 (by assumption)) ?_
    | (refine Br.dec (fun h => ?_) (fun h => ?_) <;> try dsimp only at h)
    | (refine Br.beqI (fun h => ?_) (fun h => ?_) <;> try dsimp only at h)
    | (refine Br.bneI (fun h => ?_) (fun h => ?_) <;> try dsimp only at h)
    | refine Br.mk (fun h => ?_) (fun h => ?_)
    | refine Need.mk (app_need (by first | (simp only [List.length_append, List.length_map, List.length_nil, List.length_cons, List.nil_append, Nat.zero_add, Nat.add_zero]; done) | (simp only [List.length_append, List.length_map, List.length_nil, List.length_cons, List.nil_append, Nat.zero_add, Nat.add_zero]; omega) | omega) (Nat.le_of_ble_eq_true rfl) (by first | (simp only [List.length_append, List.length_map, List.length_nil, List.length_cons, List.nil_append, Nat.zero_add, Nat.add_zero]; done) | (simp only [List.length_append, List.length_map, List.length_nil, List.length_cons, List.nil_append, Nat.zero_add, Nat.add_zero]; omega) | omega)) ?_
    | refine Need.mk (app_need0 (Nat.le_of_ble_eq_true rfl) (by first | (simp only [List.length_append, List.length_map, List.length_nil, List.length_cons, List.nil_append, Nat.zero_add, Nat.add_zero]; done) | (simp only [List.length_append, List.length_map, List.length_nil, List.length_cons, List.nil_append, Nat.zero_add, Nat.add_zero]; omega) | omega)) ?_
    | refine Need.mk (app_needM rfl (Nat.le_of_ble_eq_true rfl) (by first | (simp only [List.length_append, List.length_map, List.length_nil, List.length_cons, List.nil_append, Nat.zero_add, Nat.add_zero]; done) | (simp only [List.length_append, List.length_map, List.length_nil, List.length_cons, List.nil_append, Nat.zero_add, Nat.add_zero]; omega) | omega)) ?_
    | refine Need.mk (zeros_need (by omega) (Nat.le_of_ble_eq_true rfl) (by omega)) ?_
    | refine Need.mk (by first | kernel_rfl | exact ⟨of_decide_eq_true rfl, of_decide_eq_true rfl⟩ | omega) ?_
    | refine Len.mk ⟨_, by simp only [List.length_cons, List.length_nil, Nat.reduceAdd, Int.cast_ofNat_Int]; rfl, ?_⟩
    | refine Wr.lit _ (by simp only [Int.reduceAdd, Int.reduceSub, Int.reduceMul]; rfl) (by decide) ?_
    | refine Wr.fit (by omega) ?_
    | refine Wr.fit (by dsimp only; omega) ?_
    | refine Elem.mk ⟨_, ⟨of_decide_eq_true rfl, rfl⟩, ?_⟩
    | refine Len.map ?_
    | refine Len.dropM ?_
    | refine Elem.dropM ?_
    | refine Len.takeM ?_
    | refine Elem.takeM ?_
    | refine Elem.mapK (by assumption) ?_
    | refine Elem.mapI (by omega) (by assumption) ?_
    | refine Elem.mapN (by omega) (fun x hx => ?_)
    | refine Elem.map (by omega) (by omega) (fun x hx => ?_)
    | refine (cloneNil_ok).use ⟨rfl, ?_⟩
    | refine (hD).use ⟨rfl, ?_⟩
    | refine (sortNone_ok).use ⟨rfl, ?_⟩
    | refine CallX.mk ⟨_, _, (cloneNil_ok).x, rfl, ?_⟩
    | refine CallX.mk ⟨_, _, (hD).x, rfl, ?_⟩
    | refine CallX.mk ⟨_, _, (sortNone_ok).x, rfl, ?_⟩
    | refine ILoop.unroll 1 ?_
    | refine Done.mk ⟨rfl, rfl⟩
    | refine Done.mk ⟨congrArg gb ?_, rfl⟩
    | refine Done.mk ⟨?_, rfl⟩
    | refine Done.mk ⟨?_, ?_⟩)

theorem mkL_nil : mkL [] = [] := by simp [mkL, sortL, ivL]
theorem make_ok (l : List Span) (hl : (l.length : Int) ≤ 100000000) : ICalls Try.prog 20 [.list 2 (spans l) none] [] (Done (.list 2 (spans (mkL l)) none) []) := by
  cases l with
  | nil => rw [mkL_nil]; exact ICalls.nils (a := []) makeNil_ok makeEmp_ok
  | cons s r => exact makeCons_ok s r (by simp only [List.length_cons] at hl; omega)

end Go.Hl
