/- Contracts of functions, bundle H6; proved for whatever the arguments' types allow, as each theorem says. -/
import Derived.Test.YtoofplbjpkgdgaaH1
import Derived.Test.YtoofplbjpkgdgaaGh16

/- Tasks, and how far they are done: plain Lean. -/
set_option linter.unusedVariables false
set_option linter.unusedSimpArgs false
namespace Go.Hl
open Go.Gh

def firstErr {α : Type} (f : α → Int) : List α → Int
  | [] => 0
  | x :: r => if f x ≠ 0 then f x else firstErr f r
def taskErr (t : Task) : Int := if t.Drive < 0 ∨ 10080 < t.Drive ∨ t.Serve < 0 ∨ 1440 < t.Serve then 4 else if 0 < t.Serve then winCheck t.Open else if 0 < t.Open.length then 1 else 0
def tasksErr (l : List Task) : Int := if 2001 < l.length then 12 else firstErr taskErr l

structure Task.May (t : Task) : Prop where
  drive : 0 ≤ t.Drive ∧ t.Drive ≤ 10080
  serve : 0 ≤ t.Serve ∧ t.Serve ≤ 1440
  len : t.Open.length ≤ 8
def tAt (l : List Task) (i : Int) : Task := (l[i.toNat]?).getD ⟨0, 0, []⟩
def overT (t : Task) (s : Spot) : Bool := decide (s.Driven = t.Drive) && decide (s.Served = t.Serve)
def fitsS (l : List Task) (s : Spot) : Bool :=
  if s.Task < 0 ∨ (l.length : Int) ≤ s.Task then decide (s.Task = l.length ∧ s.Driven = 0 ∧ s.Served = 0)
  else decide (0 ≤ s.Driven ∧ s.Driven ≤ (tAt l s.Task).Drive ∧ 0 ≤ s.Served ∧ s.Served ≤ (tAt l s.Task).Serve ∧ (s.Served = 0 ∨ s.Driven = (tAt l s.Task).Drive) ∧ ¬ (s.Driven = (tAt l s.Task).Drive ∧ s.Served = (tAt l s.Task).Serve))
def pastN (l : List Task) : Nat → Spot → Spot
  | 0, s => s
  | n + 1, s => if s.Task < l.length ∧ s.Driven = (tAt l s.Task).Drive ∧ s.Served = (tAt l s.Task).Serve then pastN l n ⟨s.Task + 1, 0, 0⟩ else s
def pastS (l : List Task) (s : Spot) : Spot := pastN l (l.length - s.Task.toNat) s
def errCheck (l : List Task) (s : Spot) : Int := if tasksErr l ≠ 0 then tasksErr l else if fitsS l s then 0 else 1

def sumDrive : List Task → Int
  | [] => 0
  | t :: r => t.Drive + sumDrive r
def sumServe : List Task → Int
  | [] => 0
  | t :: r => t.Serve + sumServe r
def leftD (l : List Task) (s : Spot) : Int := sumDrive (l.drop s.Task.toNat) - s.Driven
def leftS (l : List Task) (s : Spot) : Int := sumServe (l.drop s.Task.toNat) - s.Served

structure B4 where
  b0 : Bool
  b1 : Bool
  b2 : Bool
  b3 : Bool
  deriving DecidableEq
def B4.c (b : B4) : List GV := [gb b.b0, gb b.b1, gb b.b2, gb b.b3]
def minuteS (l : List Task) (s : Spot) (m k : Int) : Spot × B4 :=
  if k = 3 then (if s.Driven < (tAt l s.Task).Drive then (pastS l ⟨s.Task, s.Driven + 1, s.Served⟩, ⟨false, false, false, decide (0 < s.Served)⟩) else (pastS l s, ⟨true, false, false, decide (0 < s.Served)⟩))
  else if k = 2 then (if s.Driven = (tAt l s.Task).Drive ∧ s.Served < (tAt l s.Task).Serve then (pastS l ⟨s.Task, s.Driven, s.Served + 1⟩, ⟨false, false, decide (s.Served = 0) && !hasL (tAt l s.Task).Open m, false⟩) else (pastS l s, ⟨false, true, false, false⟩))
  else (pastS l s, ⟨false, false, false, decide (0 < s.Served)⟩)
def minG' (r : Spot × B4) : GV := .tup [r.1.g, .agg r.2.c]

/-- A spot that may be, though all of its task may be done. -/
structure Mid (l : List Task) (s : Spot) : Prop where
  task : 0 ≤ s.Task ∧ s.Task ≤ l.length
  driven : 0 ≤ s.Driven ∧ s.Driven ≤ (tAt l s.Task).Drive
  served : 0 ≤ s.Served ∧ s.Served ≤ (tAt l s.Task).Serve
  order : s.Served = 0 ∨ s.Driven = (tAt l s.Task).Drive
end Go.Hl

/- Contracts: spans, and lists of them.  -/
set_option linter.unusedVariables false
set_option linter.unusedSimpArgs false
namespace Go.Hl
open Go.Gh Go.Proofs

set_option maxRecDepth 100000 in
theorem ivalRight_ok (s : Span) : ICalls Try.prog 114 [s.g] [] (Done (gb s.right) []) := by
  refine ICalls.of_body Try.func114 rfl Try.call114 rfl (Nat.le_of_ble_eq_true rfl) (fun _ => none) rfl ?_
  repeat' ((conv => whnf); first
    | refine Br.yes rfl ?_
    | refine Br.no rfl ?_
    | refine Br.yes (beq_self_eq_true _) ?_
    | refine Br.not ?_
    | refine Br.yes (decide_eq_true (by assumption)) ?_
    | refine Br.no (decide_eq_false (by assumption)) ?_
    | refine Br.yes (beq_iff_eq.2 (by assumption)) ?_
    | refine Br.no (beq_eq_false_iff_ne.2 (by assumption)) ?_
    | refine Br.yes (bne_iff_ne.2 (by assumption)) ?_
    | (refine Br.dec (fun h => ?_) (fun h => ?_) <;> try dsimp only at h)
    | (refine Br.beqI (fun h => ?_) (fun h => ?_) <;> try dsimp only at h)
    | (refine Br.bneI (fun h => ?_) (fun h => ?_) <;> try dsimp only at h)
    | refine Br.mk (fun h => ?_) (fun h => ?_)
    | refine Need.mk (by first | kernel_rfl | exact ⟨of_decide_eq_true rfl, of_decide_eq_true rfl⟩ | omega) ?_
    | refine Len.mk ⟨_, by simp only [List.length_cons, List.length_nil, Nat.reduceAdd, Int.cast_ofNat_Int]; rfl, ?_⟩
    | refine Wr.lit _ (by simp only [Int.reduceAdd, Int.reduceSub, Int.reduceMul]; rfl) (by decide) ?_
    | refine Wr.fit (by omega) ?_
    | refine Wr.fit (by dsimp only; omega) ?_
    | refine Elem.mk ⟨_, ⟨of_decide_eq_true rfl, rfl⟩, ?_⟩
    | refine Len.map ?_
    | refine Len.dropM ?_
    | refine Elem.dropM ?_
    | refine Len.takeM ?_
    | refine Elem.takeM ?_
    | refine Elem.mapK (by assumption) ?_
    | refine Elem.mapI (by omega) (by assumption) ?_
    | refine Elem.mapN (by omega) (fun x hx => ?_)
    | refine Elem.map (by omega) (by omega) (fun x hx => ?_)
    | refine Done.mk ⟨rfl, rfl⟩
    | refine Done.mk ⟨congrArg gb ?_, rfl⟩
    | refine Done.mk ⟨?_, rfl⟩
    | refine Done.mk ⟨?_, ?_⟩)
set_option maxRecDepth 100000 in
theorem wrongC_ok (s : Span) : ICalls Try.prog 113 [s.g] [] (Done (gb (!s.right)) []) := by
  refine ICalls.of_body Try.func113 rfl Try.call113 rfl (Nat.le_of_ble_eq_true rfl) (fun _ => none) rfl ?_
  repeat' ((conv => whnf); first
    | refine Br.yes rfl ?_
    | refine Br.no rfl ?_
    | refine Br.yes (beq_self_eq_true _) ?_
    | refine Br.not ?_
    | refine Br.yes (decide_eq_true (by assumption)) ?_
    | refine Br.no (decide_eq_false (by assumption)) ?_
    | refine Br.yes (beq_iff_eq.2 (by assumption)) ?_
    | refine Br.no (beq_eq_false_iff_ne.2 (by assumption)) ?_
    | refine Br.yes (bne_iff_ne.2 (by assumption)) ?_
    | (refine Br.dec (fun h => ?_) (fun h => ?_) <;> try dsimp only at h)
    | (refine Br.beqI (fun h => ?_) (fun h => ?_) <;> try dsimp only at h)
    | (refine Br.bneI (fun h => ?_) (fun h => ?_) <;> try dsimp only at h)
    | refine Br.mk (fun h => ?_) (fun h => ?_)
    | refine Need.mk (by first | kernel_rfl | exact ⟨of_decide_eq_true rfl, of_decide_eq_true rfl⟩ | omega) ?_
    | refine Len.mk ⟨_, by simp only [List.length_cons, List.length_nil, Nat.reduceAdd, Int.cast_ofNat_Int]; rfl, ?_⟩
    | refine Wr.lit _ (by simp only [Int.reduceAdd, Int.reduceSub, Int.reduceMul]; rfl) (by decide) ?_
    | refine Wr.fit (by omega) ?_
    | refine Wr.fit (by dsimp only; omega) ?_
    | refine Elem.mk ⟨_, ⟨of_decide_eq_true rfl, rfl⟩, ?_⟩
    | refine Len.map ?_
    | refine Len.dropM ?_
    | refine Elem.dropM ?_
    | refine Len.takeM ?_
    | refine Elem.takeM ?_
    | refine Elem.mapK (by assumption) ?_
    | refine Elem.mapI (by omega) (by assumption) ?_
    | refine Elem.mapN (by omega) (fun x hx => ?_)
    | refine Elem.map (by omega) (by omega) (fun x hx => ?_)
    | refine (ivalRight_ok s).use ⟨rfl, ?_⟩
    | refine CallX.mk ⟨_, _, (ivalRight_ok s).x, rfl, ?_⟩
    | refine Done.mk ⟨rfl, rfl⟩
    | refine Done.mk ⟨congrArg gb ?_, rfl⟩
    | refine Done.mk ⟨?_, rfl⟩
    | refine Done.mk ⟨?_, ?_⟩)
set_option maxRecDepth 100000 in
theorem beyondC_ok (s : Span) : ICalls Try.prog 115 [s.g] [] (Done (gb (beyond s)) []) := by
  refine ICalls.of_body Try.func115 rfl Try.call115 rfl (Nat.le_of_ble_eq_true rfl) (fun _ => none) rfl ?_
  repeat' ((conv => whnf); first
    | refine Br.yes rfl ?_
    | refine Br.no rfl ?_
    | refine Br.yes (beq_self_eq_true _) ?_
    | refine Br.not ?_
    | refine Br.yes (decide_eq_true (by assumption)) ?_
    | refine Br.no (decide_eq_false (by assumption)) ?_
    | refine Br.yes (beq_iff_eq.2 (by assumption)) ?_
    | refine Br.no (beq_eq_false_iff_ne.2 (by assumption)) ?_
    | refine Br.yes (bne_iff_ne.2 (by assumption)) ?_
    | (refine Br.dec (fun h => ?_) (fun h => ?_) <;> try dsimp only at h)
    | (refine Br.beqI (fun h => ?_) (fun h => ?_) <;> try dsimp only at h)
    | (refine Br.bneI (fun h => ?_) (fun h => ?_) <;> try dsimp only at h)
    | refine Br.mk (fun h => ?_) (fun h => ?_)
    | refine Need.mk (by first | kernel_rfl | exact ⟨of_decide_eq_true rfl, of_decide_eq_true rfl⟩ | omega) ?_
    | refine Len.mk ⟨_, by simp only [List.length_cons, List.length_nil, Nat.reduceAdd, Int.cast_ofNat_Int]; rfl, ?_⟩
    | refine Wr.lit _ (by simp only [Int.reduceAdd, Int.reduceSub, Int.reduceMul]; rfl) (by decide) ?_
    | refine Wr.fit (by omega) ?_
    | refine Wr.fit (by dsimp only; omega) ?_
    | refine Elem.mk ⟨_, ⟨of_decide_eq_true rfl, rfl⟩, ?_⟩
    | refine Len.map ?_
    | refine Len.dropM ?_
    | refine Elem.dropM ?_
    | refine Len.takeM ?_
    | refine Elem.takeM ?_
    | refine Elem.mapK (by assumption) ?_
    | refine Elem.mapI (by omega) (by assumption) ?_
    | refine Elem.mapN (by omega) (fun x hx => ?_)
    | refine Elem.map (by omega) (by omega) (fun x hx => ?_)
    | refine Done.mk ⟨rfl, rfl⟩
    | refine Done.mk ⟨congrArg gb ?_, rfl⟩
    | refine Done.mk ⟨?_, rfl⟩
    | refine Done.mk ⟨?_, ?_⟩)
  all_goals simp [beyond, *]

def pl_D1_1 : Nat → Option (List Nat × List Nat) := (fun k => bif Nat.beq k 2 then some ([1000002, 0, 1, 7, 8], []) else none)
set_option maxRecDepth 100000 in
theorem idxSpan0_ok (g : Nat) (p : Span → Bool) (hp : ∀ s : Span, ICalls Try.prog g [s.g] [] (Done (gb (p s)) [])) (l : List Span) (hl : (l.length : Int) ≤ 1000000000) :
    ICalls Try.prog 133 [.list 2 (spans l) none, .fn (.func g) [] []] [] (Done (gi (idxFrom p 0 l)) []) := by
  refine ICalls.of_body Try.func133 rfl Try.call133 rfl (Nat.le_of_ble_eq_true rfl) pl_D1_1 rfl ?_
  repeat' ((conv => whnf); first
    | refine Br.yes rfl ?_
    | refine Br.no rfl ?_
    | (refine ILoop.ov 1000002 (fun (i : Nat) => [(8, gi i)]) (fun (i : Nat) => []) (fun (i : Nat) => i ≤ l.length ∧ idxFrom p i (l.drop i) = idxFrom p 0 l) (fun (i : Nat) => l.length - i) (0) (by exact rfl) ?_; (conv => whnf); refine Start.mk rfl ?_ ?_; (try dsimp only); rotate_left; rintro i ⟨hi, hr⟩)
    | (refine Again.mk ⟨(i + 1), rfl, ?_, ?_⟩ <;> try dsimp only)
    | refine Br.yes (beq_self_eq_true _) ?_
    | refine Br.not ?_
    | refine Br.yes (decide_eq_true (by assumption)) ?_
    | refine Br.no (decide_eq_false (by assumption)) ?_
    | refine Br.yes (beq_iff_eq.2 (by assumption)) ?_
    | refine Br.no (beq_eq_false_iff_ne.2 (by assumption)) ?_
    | refine Br.yes (bne_iff_ne.2 (by assumption)) ?_
    | (refine Br.dec (fun h => ?_) (fun h => ?_) <;> try dsimp only at h)
    | (refine Br.beqI (fun h => ?_) (fun h => ?_) <;> try dsimp only at h)
    | (refine Br.bneI (fun h => ?_) (fun h => ?_) <;> try dsimp only at h)
    | refine Br.mk (fun h => ?_) (fun h => ?_)
    | refine Need.mk (by first | kernel_rfl | exact ⟨of_decide_eq_true rfl, of_decide_eq_true rfl⟩ | omega) ?_
    | refine Len.mk ⟨_, by simp only [List.length_cons, List.length_nil, Nat.reduceAdd, Int.cast_ofNat_Int]; rfl, ?_⟩
    | refine Wr.lit _ (by simp only [Int.reduceAdd, Int.reduceSub, Int.reduceMul]; rfl) (by decide) ?_
    | refine Wr.fit (by omega) ?_
    | refine Wr.fit (by dsimp only; omega) ?_
    | refine Elem.mk ⟨_, ⟨of_decide_eq_true rfl, rfl⟩, ?_⟩
    | refine Len.map ?_
    | refine Len.dropM ?_
    | refine Elem.dropM ?_
    | refine Len.takeM ?_
    | refine Elem.takeM ?_
    | refine Elem.mapK (by assumption) ?_
    | refine Elem.mapI (by omega) (by assumption) ?_
    | refine Elem.mapN (by omega) (fun x hx => ?_)
    | refine Elem.map (by omega) (by omega) (fun x hx => ?_)
    | refine (hp x).use ⟨rfl, ?_⟩
    | refine CallX.mk ⟨_, _, (hp x).x, rfl, ?_⟩
    | refine Done.mk ⟨rfl, rfl⟩
    | refine Done.mk ⟨congrArg gb ?_, rfl⟩
    | refine Done.mk ⟨?_, rfl⟩
    | refine Done.mk ⟨?_, ?_⟩)
  · rw [drop_of_get hx, idxFrom, if_pos h] at hr
    rw [hr]
  · rw [drop_of_get hx, idxFrom, if_neg (by simp [h])] at hr
    exact ⟨by omega, hr⟩
  · omega
  · rw [List.drop_eq_nil_of_le (by omega), idxFrom] at hr
    rw [← hr]
  · exact ⟨by omega, rfl⟩
def pl_D1_2 : Nat → Option (List Nat × List Nat) := (fun k => bif Nat.beq k 2 then some ([1000002, 0, 1, 7, 8], [0]) else none)
set_option maxRecDepth 100000 in
theorem conSpan0_ok (g : Nat) (p : Span → Bool) (hp : ∀ s : Span, ICalls Try.prog g [s.g] [] (Done (gb (p s)) [])) (l : List Span) (hl : (l.length : Int) ≤ 1000000000) :
    ICalls Try.prog 116 [.list 2 (spans l) none, .fn (.func g) [] []] [] (Done (gb (l.any p)) []) := by
  refine ICalls.of_body Try.func116 rfl Try.call116 rfl (Nat.le_of_ble_eq_true rfl) (fun _ => none) rfl ?_
  repeat' ((conv => whnf); first
    | refine Br.yes rfl ?_
    | refine Br.no rfl ?_
    | refine Br.yes (beq_self_eq_true _) ?_
    | refine Br.not ?_
    | refine Br.yes (decide_eq_true (by assumption)) ?_
    | refine Br.no (decide_eq_false (by assumption)) ?_
    | refine Br.yes (beq_iff_eq.2 (by assumption)) ?_
    | refine Br.no (beq_eq_false_iff_ne.2 (by assumption)) ?_
    | refine Br.yes (bne_iff_ne.2 (by assumption)) ?_
    | (refine Br.dec (fun h => ?_) (fun h => ?_) <;> try dsimp only at h)
    | (refine Br.beqI (fun h => ?_) (fun h => ?_) <;> try dsimp only at h)
    | (refine Br.bneI (fun h => ?_) (fun h => ?_) <;> try dsimp only at h)
    | refine Br.mk (fun h => ?_) (fun h => ?_)
    | refine Need.mk (by first | kernel_rfl | exact ⟨of_decide_eq_true rfl, of_decide_eq_true rfl⟩ | omega) ?_
    | refine Len.mk ⟨_, by simp only [List.length_cons, List.length_nil, Nat.reduceAdd, Int.cast_ofNat_Int]; rfl, ?_⟩
    | refine Wr.lit _ (by simp only [Int.reduceAdd, Int.reduceSub, Int.reduceMul]; rfl) (by decide) ?_
    | refine Wr.fit (by omega) ?_
    | refine Wr.fit (by dsimp only; omega) ?_
    | refine Elem.mk ⟨_, ⟨of_decide_eq_true rfl, rfl⟩, ?_⟩
    | refine Len.map ?_
    | refine Len.dropM ?_
    | refine Elem.dropM ?_
    | refine Len.takeM ?_
    | refine Elem.takeM ?_
    | refine Elem.mapK (by assumption) ?_
    | refine Elem.mapI (by omega) (by assumption) ?_
    | refine Elem.mapN (by omega) (fun x hx => ?_)
    | refine Elem.map (by omega) (by omega) (fun x hx => ?_)
    | refine (idxSpan0_ok g p hp l hl).use ⟨rfl, ?_⟩
    | refine CallX.mk ⟨_, _, (idxSpan0_ok g p hp l hl).x, rfl, ?_⟩
    | refine Done.mk ⟨rfl, rfl⟩
    | refine Done.mk ⟨congrArg gb ?_, rfl⟩
    | refine Done.mk ⟨?_, rfl⟩
    | refine Done.mk ⟨?_, ?_⟩)
  exact idxFrom_any p l 0 (by omega)
end Go.Hl

/- Contracts: sets of spans, windows.  -/
set_option linter.unusedVariables false
set_option linter.unusedSimpArgs false
namespace Go.Hl
open Go.Gh Go.Proofs

/-- Where the span ahead of the i-th one ends. -/
def prevTo (l : List Span) (i : Nat) : Option Int := if i = 0 then none else (l[i - 1]?).map (·.To)
theorem prevTo_next {l : List Span} {i : Nat} {x : Span} (h : l[i]? = some x) : prevTo l (i + 1) = some x.To := by
  simp [prevTo, h]
theorem prevTo_pos {l : List Span} {i : Nat} {y : Span} (hi : 0 < (i : Int)) (h : l[((i : Int) - 1).toNat]? = some y) : prevTo l i = some y.To := by
  have e : ((i : Int) - 1).toNat = i - 1 := by omega
  rw [e] at h
  simp [prevTo, show i ≠ 0 by omega, h]
theorem prevTo_zero {l : List Span} {i : Nat} (hi : ¬ 0 < (i : Int)) : prevTo l i = none := by simp [prevTo, show i = 0 by omega]
theorem right_bad1 {l : List Span} {i : Nat} {x y : Span} {R : Bool} (hr : rightFrom (l.drop i) (prevTo l i) = R) (hx : l[i]? = some x) (hi : 0 < (i : Int)) (hy : l[((i : Int) - 1).toNat]? = some y) (h : x.From ≤ y.To) : false = R := by
  rw [drop_of_get hx, prevTo_pos hi hy, rightFrom, if_neg (by simp [okAfter, h])] at hr
  exact hr
theorem right_bad2 {l : List Span} {i : Nat} {x : Span} {R : Bool} (hr : rightFrom (l.drop i) (prevTo l i) = R) (hx : l[i]? = some x) (h : ¬ x.From < x.To) : false = R := by
  rw [drop_of_get hx, rightFrom, if_neg (by simp [Span.right]; omega)] at hr
  exact hr
theorem right_step1 {l : List Span} {i : Nat} {x y : Span} {R : Bool} (hr : rightFrom (l.drop i) (prevTo l i) = R) (hx : l[i]? = some x) (hi : 0 < (i : Int)) (hy : l[((i : Int) - 1).toNat]? = some y) (h1 : x.From < x.To) (h : ¬ x.From ≤ y.To) : rightFrom (l.drop (i + 1)) (prevTo l (i + 1)) = R := by
  rw [drop_of_get hx, prevTo_pos hi hy, rightFrom, if_pos (by simp [okAfter, Span.right]; omega)] at hr
  rw [prevTo_next hx]; exact hr
theorem right_step2 {l : List Span} {i : Nat} {x : Span} {R : Bool} (hr : rightFrom (l.drop i) (prevTo l i) = R) (hx : l[i]? = some x) (hi : ¬ 0 < (i : Int)) (h1 : x.From < x.To) : rightFrom (l.drop (i + 1)) (prevTo l (i + 1)) = R := by
  rw [drop_of_get hx, prevTo_zero hi, rightFrom, if_pos (by simp [okAfter, Span.right]; omega)] at hr
  rw [prevTo_next hx]; exact hr

def pl_D2_1 : Nat → Option (List Nat × List Nat) := (fun k => bif Nat.beq k 2 then some ([1000002, 0, 5, 6, 7], []) else none)
set_option maxRecDepth 100000 in
theorem ivalsRight_ok (l : List Span) (hl : (l.length : Int) ≤ 1000000000) : ICalls Try.prog 117 [.list 2 (spans l) none] [] (Done (gb (rightFrom l none)) []) := by
  refine ICalls.of_body Try.func117 rfl Try.call117 rfl (Nat.le_of_ble_eq_true rfl) pl_D2_1 rfl ?_
  repeat' ((conv => whnf); first
    | refine Br.yes rfl ?_
    | refine Br.no rfl ?_
    | (refine ILoop.ov 1000002 (fun (i : Nat) => [(7, gi i)]) (fun (i : Nat) => []) (fun (i : Nat) => i ≤ l.length ∧ rightFrom (l.drop i) (prevTo l i) = rightFrom l none) (fun (i : Nat) => l.length - i) (0) (by exact rfl) ?_; (conv => whnf); refine Start.mk rfl ?_ ?_; (try dsimp only); rotate_left; rintro i ⟨hi, hr⟩)
    | (refine Again.mk ⟨(i + 1), rfl, ?_, ?_⟩ <;> try dsimp only)
    | refine Br.yes (beq_self_eq_true _) ?_
    | refine Br.not ?_
    | refine Br.yes (decide_eq_true (by assumption)) ?_
    | refine Br.no (decide_eq_false (by assumption)) ?_
    | refine Br.yes (beq_iff_eq.2 (by assumption)) ?_
    | refine Br.no (beq_eq_false_iff_ne.2 (by assumption)) ?_
    | refine Br.yes (bne_iff_ne.2 (by assumption)) ?_
    | (refine Br.dec (fun h => ?_) (fun h => ?_) <;> try dsimp only at h)
    | (refine Br.beqI (fun h => ?_) (fun h => ?_) <;> try dsimp only at h)
    | (refine Br.bneI (fun h => ?_) (fun h => ?_) <;> try dsimp only at h)
    | refine Br.mk (fun h => ?_) (fun h => ?_)
    | refine Need.mk (by first | kernel_rfl | exact ⟨of_decide_eq_true rfl, of_decide_eq_true rfl⟩ | omega) ?_
    | refine Len.mk ⟨_, by simp only [List.length_cons, List.length_nil, Nat.reduceAdd, Int.cast_ofNat_Int]; rfl, ?_⟩
    | refine Wr.lit _ (by simp only [Int.reduceAdd, Int.reduceSub, Int.reduceMul]; rfl) (by decide) ?_
    | refine Wr.fit (by omega) ?_
    | refine Wr.fit (by dsimp only; omega) ?_
    | refine Elem.mk ⟨_, ⟨of_decide_eq_true rfl, rfl⟩, ?_⟩
    | refine Len.map ?_
    | refine Len.dropM ?_
    | refine Elem.dropM ?_
    | refine Len.takeM ?_
    | refine Elem.takeM ?_
    | refine Elem.mapK (by assumption) ?_
    | refine Elem.mapI (by omega) (by assumption) ?_
    | refine Elem.mapN (by omega) (fun x hx => ?_)
    | refine Elem.map (by omega) (by omega) (fun x hx => ?_)
    | refine (ivalRight_ok x).use ⟨rfl, ?_⟩
    | refine CallX.mk ⟨_, _, (ivalRight_ok x).x, rfl, ?_⟩
    | refine Done.mk ⟨rfl, rfl⟩
    | refine Done.mk ⟨congrArg gb ?_, rfl⟩
    | refine Done.mk ⟨?_, rfl⟩
    | refine Done.mk ⟨?_, ?_⟩)
  · exact right_bad1 hr (by assumption) (by assumption) hx h
  · exact ⟨by omega, right_step1 hr (by assumption) (by assumption) hx (by assumption) h⟩
  · omega
  · exact ⟨by omega, right_step2 hr hx h (by assumption)⟩
  · omega
  · exact right_bad2 hr hx h
  · rw [List.drop_eq_nil_of_le (by omega)] at hr; exact hr
  · exact ⟨by omega, rfl⟩
set_option maxRecDepth 100000 in
theorem winCheck_ok (l : List Span) : ICalls Try.prog 85 [.list 2 (spans l) none] [] (Done (gi (winCheck l)) []) := by
  refine ICalls.of_body Try.func85 rfl Try.call85 rfl (Nat.le_of_ble_eq_true rfl) (fun _ => none) rfl ?_
  repeat' ((conv => whnf); first
    | refine Br.yes rfl ?_
    | refine Br.no rfl ?_
    | refine Br.yes (beq_self_eq_true _) ?_
    | refine Br.not ?_
    | refine Br.yes (decide_eq_true (by assumption)) ?_
    | refine Br.no (decide_eq_false (by assumption)) ?_
    | refine Br.yes (beq_iff_eq.2 (by assumption)) ?_
    | refine Br.no (beq_eq_false_iff_ne.2 (by assumption)) ?_
    | refine Br.yes (bne_iff_ne.2 (by assumption)) ?_
    | (refine Br.dec (fun h => ?_) (fun h => ?_) <;> try dsimp only at h)
    | (refine Br.beqI (fun h => ?_) (fun h => ?_) <;> try dsimp only at h)
    | (refine Br.bneI (fun h => ?_) (fun h => ?_) <;> try dsimp only at h)
    | refine Br.mk (fun h => ?_) (fun h => ?_)
    | refine Need.mk (by first | kernel_rfl | exact ⟨of_decide_eq_true rfl, of_decide_eq_true rfl⟩ | omega) ?_
    | refine Len.mk ⟨_, by simp only [List.length_cons, List.length_nil, Nat.reduceAdd, Int.cast_ofNat_Int]; rfl, ?_⟩
    | refine Wr.lit _ (by simp only [Int.reduceAdd, Int.reduceSub, Int.reduceMul]; rfl) (by decide) ?_
    | refine Wr.fit (by omega) ?_
    | refine Wr.fit (by dsimp only; omega) ?_
    | refine Elem.mk ⟨_, ⟨of_decide_eq_true rfl, rfl⟩, ?_⟩
    | refine Len.map ?_
    | refine Len.dropM ?_
    | refine Elem.dropM ?_
    | refine Len.takeM ?_
    | refine Elem.takeM ?_
    | refine Elem.mapK (by assumption) ?_
    | refine Elem.mapI (by omega) (by assumption) ?_
    | refine Elem.mapN (by omega) (fun x hx => ?_)
    | refine Elem.map (by omega) (by omega) (fun x hx => ?_)
    | refine (conSpan0_ok 113 (fun s => !s.right) wrongC_ok l (by omega)).use ⟨rfl, ?_⟩
    | refine (conSpan0_ok 115 beyond beyondC_ok l (by omega)).use ⟨rfl, ?_⟩
    | refine (ivalsRight_ok l (by omega)).use ⟨rfl, ?_⟩
    | refine CallX.mk ⟨_, _, (conSpan0_ok 113 (fun s => !s.right) wrongC_ok l (by omega)).x, rfl, ?_⟩
    | refine CallX.mk ⟨_, _, (conSpan0_ok 115 beyond beyondC_ok l (by omega)).x, rfl, ?_⟩
    | refine CallX.mk ⟨_, _, (ivalsRight_ok l (by omega)).x, rfl, ?_⟩
    | refine Done.mk ⟨rfl, rfl⟩
    | refine Done.mk ⟨congrArg gb ?_, rfl⟩
    | refine Done.mk ⟨?_, rfl⟩
    | refine Done.mk ⟨?_, ?_⟩)
  all_goals (unfold winCheck; congr 1; grind)
end Go.Hl

/- Contracts: tasks, spots.  -/
set_option linter.unusedVariables false
set_option linter.unusedSimpArgs false
namespace Go.Hl
open Go.Gh Go.Proofs

end Go.Hl

/- Contracts: how far tasks are done; a minute more.  -/
set_option linter.unusedVariables false
set_option linter.unusedSimpArgs false
namespace Go.Hl
open Go.Gh Go.Proofs

def zeroSpot : Spot := ⟨0, 0, 0⟩
def startS (l : List Task) : Spot := if tasksErr l = 0 then pastS l zeroSpot else zeroSpot
end Go.Hl
