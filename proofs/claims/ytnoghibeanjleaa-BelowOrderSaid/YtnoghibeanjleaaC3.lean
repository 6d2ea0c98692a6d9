/- Contracts: what may be, told the long way; which meter is nowhere worse. -/
import Derived.Test.YtnoghibeanjleaaC2
set_option linter.unusedVariables false
set_option linter.unusedSimpArgs false
namespace Go.Hl
open Go.Gh Go.Proofs

def Book.row (b : Book) : GV := .list 1 b.c none

set_option maxRecDepth 100000 in
theorem numbers_ok (b : Book) : ICalls Try.prog 54 [b.g] [] (Done b.row []) := by
  refine ICalls.of_body Try.func54 rfl Try.call54 rfl (Nat.le_of_ble_eq_true rfl) (fun _ => none) ?_
  repeat' ((conv => whnf); first
    | refine Br.yes rfl ?_
    | refine Br.no rfl ?_
    | refine Br.mk (fun h => ?_) (fun h => ?_)
    | refine Need.mk (by first | kernel_rfl | exact ⟨of_decide_eq_true rfl, of_decide_eq_true rfl⟩ | omega) ?_
    | refine Len.mk ⟨_, by simp only [List.length_cons, List.length_nil, Nat.reduceAdd, Int.cast_ofNat_Int]; rfl, ?_⟩
    | refine Wr.lit _ (by simp only [Int.reduceAdd, Int.reduceSub, Int.reduceMul]; rfl) (by decide) ?_
    | refine Wr.fit (by omega) ?_
    | refine Elem.mk ⟨_, ⟨of_decide_eq_true rfl, rfl⟩, ?_⟩
    | refine Done.mk ⟨congrArg gb ?_, rfl⟩
    | refine Done.mk ⟨rfl, rfl⟩)

set_option maxRecDepth 100000 in
set_option maxHeartbeats 1000000 in
theorem bookMay_ok (b : Book) : ICalls Try.prog 18 [b.g] [] (Done (gb (decide b.May)) []) := by
  refine ICalls.of_body Try.func18 rfl Try.call18 rfl (Nat.le_of_ble_eq_true rfl) (fun _ => none) ?_
  repeat' ((conv => whnf); first
    | refine Br.yes rfl ?_
    | refine Br.no rfl ?_
    | refine Br.mk (fun h => ?_) (fun h => ?_)
    | refine Need.mk (by first | kernel_rfl | exact ⟨of_decide_eq_true rfl, of_decide_eq_true rfl⟩ | omega) ?_
    | refine Len.mk ⟨_, by simp only [List.length_cons, List.length_nil, Nat.reduceAdd, Int.cast_ofNat_Int]; rfl, ?_⟩
    | refine Wr.lit _ (by simp only [Int.reduceAdd, Int.reduceSub, Int.reduceMul]; rfl) (by decide) ?_
    | refine Wr.fit (by omega) ?_
    | refine Elem.mk ⟨_, ⟨of_decide_eq_true rfl, rfl⟩, ?_⟩
    | refine (numbers_ok b).use ⟨rfl, ?_⟩
    | refine CallX.mk ⟨_, _, (numbers_ok b).x, rfl, ?_⟩
    | refine ILoop.unroll 20 ?_
    | refine Done.mk ⟨congrArg gb ?_, rfl⟩
    | refine Done.mk ⟨rfl, rfl⟩)
  all_goals (refine leaf ?_; simp only [cond_true, cond_false, decide_eq_true_eq, decide_eq_false_iff_not, Bool.false_eq_true, false_iff, true_iff, Book.May_iff, Book.within] at *; omega)

set_option maxRecDepth 100000 in
set_option maxHeartbeats 1000000 in
theorem meterMay_ok (m : Meter) : ICalls Try.prog 19 [m.g] [] (Done (gb (decide m.May)) []) := by
  refine ICalls.of_body Try.func19 rfl Try.call19 rfl (Nat.le_of_ble_eq_true rfl) (fun _ => none) ?_
  repeat' ((conv => whnf); first
    | refine Br.yes rfl ?_
    | refine Br.no rfl ?_
    | refine Br.mk (fun h => ?_) (fun h => ?_)
    | refine Need.mk (by first | kernel_rfl | exact ⟨of_decide_eq_true rfl, of_decide_eq_true rfl⟩ | omega) ?_
    | refine Len.mk ⟨_, by simp only [List.length_cons, List.length_nil, Nat.reduceAdd, Int.cast_ofNat_Int]; rfl, ?_⟩
    | refine Wr.lit _ (by simp only [Int.reduceAdd, Int.reduceSub, Int.reduceMul]; rfl) (by decide) ?_
    | refine Wr.fit (by omega) ?_
    | refine Elem.mk ⟨_, ⟨of_decide_eq_true rfl, rfl⟩, ?_⟩
    | refine ILoop.unroll 11 ?_
    | refine Done.mk ⟨congrArg gb ?_, rfl⟩
    | refine Done.mk ⟨rfl, rfl⟩)
  all_goals (refine leaf ?_; simp only [cond_true, cond_false, decide_eq_true_eq, decide_eq_false_iff_not, Bool.false_eq_true, false_iff, true_iff, Meter.May_iff] at *; omega)

def Kept (x y : Meter) : Prop := x.Now = y.Now ∧ x.Lie = y.Lie ∧ x.Half = y.Half
instance (x y : Meter) : Decidable (Kept x y) := by unfold Kept; infer_instance
def Counted (x y : Meter) : Prop := x.Acc ≤ y.Acc ∧ x.Day ≤ y.Day ∧ x.Reduces ≤ y.Reduces ∧ x.Week ≤ y.Week ∧ x.Last ≤ y.Last ∧ x.Labour ≤ y.Labour
instance (x y : Meter) : Decidable (Counted x y) := by unfold Counted; infer_instance
def Rested (x y : Meter) : Prop := y.Dawn ≤ x.Dawn ∧ y.Sabbath ≤ x.Sabbath ∧ (y.Split = true → x.Split = true) ∧ (x.Brief = true → y.Brief = true)
instance (x y : Meter) : Decidable (Rested x y) := by unfold Rested; infer_instance
def Spent (b : Book) (x y : Meter) : Prop := if x.Day ≤ b.Day ∧ b.Day < y.Day then x.Longers < y.Longers ∧ x.Longers < b.Longers else x.Longers ≤ y.Longers
instance (b : Book) (x y : Meter) : Decidable (Spent b x y) := by unfold Spent; infer_instance
theorem Under_iff (b : Book) (x y : Meter) : Under b x y ↔ b.May ∧ x.May ∧ y.May ∧ Kept x y ∧ Counted x y ∧ Rested x y ∧ Spent b x y := by
  constructor
  · intro h; exact ⟨h.book, h.mx, h.my, ⟨h.now, h.lie, h.half⟩, ⟨h.acc, h.day, h.reduces, h.week, h.last, h.labour⟩, ⟨h.dawn, h.sabbath, h.split, h.brief⟩, h.spent⟩
  · rintro ⟨h1, h2, h3, ⟨h4, h5, h6⟩, ⟨g1, g2, g3, g4, g5, g6⟩, ⟨f1, f2, f3, f4⟩, h7⟩
    exact ⟨h1, h2, h3, h4, h5, h6, g1, g2, g3, g4, g5, g6, f1, f2, f3, f4, h7⟩

instance (b : Book) (x y : Meter) : Decidable (Under b x y) := decidable_of_iff _ (Under_iff b x y).symm

set_option maxRecDepth 100000 in
theorem kept_ok (x y : Meter) : ICalls Try.prog 49 [x.g, y.g] [] (Done (gb (decide (Kept x y))) []) := by
  refine ICalls.of_body Try.func49 rfl Try.call49 rfl (Nat.le_of_ble_eq_true rfl) (fun _ => none) ?_
  repeat' ((conv => whnf); first
    | refine Br.yes rfl ?_
    | refine Br.no rfl ?_
    | refine Br.mk (fun h => ?_) (fun h => ?_)
    | refine Need.mk (by first | kernel_rfl | exact ⟨of_decide_eq_true rfl, of_decide_eq_true rfl⟩ | omega) ?_
    | refine Len.mk ⟨_, by simp only [List.length_cons, List.length_nil, Nat.reduceAdd, Int.cast_ofNat_Int]; rfl, ?_⟩
    | refine Wr.lit _ (by simp only [Int.reduceAdd, Int.reduceSub, Int.reduceMul]; rfl) (by decide) ?_
    | refine Wr.fit (by omega) ?_
    | refine Elem.mk ⟨_, ⟨of_decide_eq_true rfl, rfl⟩, ?_⟩
    | refine Done.mk ⟨congrArg gb ?_, rfl⟩
    | refine Done.mk ⟨rfl, rfl⟩)
  all_goals (refine leaf ?_; simp only [Kept] at *; grind)

set_option maxRecDepth 100000 in
theorem counted_ok (x y : Meter) : ICalls Try.prog 50 [x.g, y.g] [] (Done (gb (decide (Counted x y))) []) := by
  refine ICalls.of_body Try.func50 rfl Try.call50 rfl (Nat.le_of_ble_eq_true rfl) (fun _ => none) ?_
  repeat' ((conv => whnf); first
    | refine Br.yes rfl ?_
    | refine Br.no rfl ?_
    | refine Br.mk (fun h => ?_) (fun h => ?_)
    | refine Need.mk (by first | kernel_rfl | exact ⟨of_decide_eq_true rfl, of_decide_eq_true rfl⟩ | omega) ?_
    | refine Len.mk ⟨_, by simp only [List.length_cons, List.length_nil, Nat.reduceAdd, Int.cast_ofNat_Int]; rfl, ?_⟩
    | refine Wr.lit _ (by simp only [Int.reduceAdd, Int.reduceSub, Int.reduceMul]; rfl) (by decide) ?_
    | refine Wr.fit (by omega) ?_
    | refine Elem.mk ⟨_, ⟨of_decide_eq_true rfl, rfl⟩, ?_⟩
    | refine Done.mk ⟨congrArg gb ?_, rfl⟩
    | refine Done.mk ⟨rfl, rfl⟩)
  all_goals (refine leaf ?_; simp only [cond_true, cond_false, decide_eq_true_eq, decide_eq_false_iff_not, Bool.false_eq_true, false_iff, true_iff, Counted] at *; omega)

set_option maxRecDepth 100000 in
theorem rested_ok (x y : Meter) : ICalls Try.prog 51 [x.g, y.g] [] (Done (gb (decide (Rested x y))) []) := by
  refine ICalls.of_body Try.func51 rfl Try.call51 rfl (Nat.le_of_ble_eq_true rfl) (fun _ => none) ?_
  repeat' ((conv => whnf); first
    | refine Br.yes rfl ?_
    | refine Br.no rfl ?_
    | refine Br.mk (fun h => ?_) (fun h => ?_)
    | refine Need.mk (by first | kernel_rfl | exact ⟨of_decide_eq_true rfl, of_decide_eq_true rfl⟩ | omega) ?_
    | refine Len.mk ⟨_, by simp only [List.length_cons, List.length_nil, Nat.reduceAdd, Int.cast_ofNat_Int]; rfl, ?_⟩
    | refine Wr.lit _ (by simp only [Int.reduceAdd, Int.reduceSub, Int.reduceMul]; rfl) (by decide) ?_
    | refine Wr.fit (by omega) ?_
    | refine Elem.mk ⟨_, ⟨of_decide_eq_true rfl, rfl⟩, ?_⟩
    | refine Done.mk ⟨congrArg gb ?_, rfl⟩
    | refine Done.mk ⟨rfl, rfl⟩)
  all_goals (refine leaf ?_; simp only [Rested] at *; grind)

set_option maxRecDepth 100000 in
theorem spent_ok (b : Book) (x y : Meter) : ICalls Try.prog 52 [b.g, x.g, y.g] [] (Done (gb (decide (Spent b x y))) []) := by
  refine ICalls.of_body Try.func52 rfl Try.call52 rfl (Nat.le_of_ble_eq_true rfl) (fun _ => none) ?_
  repeat' ((conv => whnf); first
    | refine Br.yes rfl ?_
    | refine Br.no rfl ?_
    | refine Br.mk (fun h => ?_) (fun h => ?_)
    | refine Need.mk (by first | kernel_rfl | exact ⟨of_decide_eq_true rfl, of_decide_eq_true rfl⟩ | omega) ?_
    | refine Len.mk ⟨_, by simp only [List.length_cons, List.length_nil, Nat.reduceAdd, Int.cast_ofNat_Int]; rfl, ?_⟩
    | refine Wr.lit _ (by simp only [Int.reduceAdd, Int.reduceSub, Int.reduceMul]; rfl) (by decide) ?_
    | refine Wr.fit (by omega) ?_
    | refine Elem.mk ⟨_, ⟨of_decide_eq_true rfl, rfl⟩, ?_⟩
    | refine Done.mk ⟨congrArg gb ?_, rfl⟩
    | refine Done.mk ⟨rfl, rfl⟩)
  all_goals (refine leaf ?_; simp only [Spent] at *; grind)

set_option maxRecDepth 100000 in
theorem europe_ok : ICalls Try.prog 53 [] [] (Done Book.europe.g []) := by
  refine ICalls.of_body Try.func53 rfl Try.call53 rfl (Nat.le_of_ble_eq_true rfl) (fun _ => none) ?_
  repeat' ((conv => whnf); first
    | refine Br.yes rfl ?_
    | refine Br.no rfl ?_
    | refine Br.mk (fun h => ?_) (fun h => ?_)
    | refine Need.mk (by first | kernel_rfl | exact ⟨of_decide_eq_true rfl, of_decide_eq_true rfl⟩ | omega) ?_
    | refine Len.mk ⟨_, by simp only [List.length_cons, List.length_nil, Nat.reduceAdd, Int.cast_ofNat_Int]; rfl, ?_⟩
    | refine Wr.lit _ (by simp only [Int.reduceAdd, Int.reduceSub, Int.reduceMul]; rfl) (by decide) ?_
    | refine Wr.fit (by omega) ?_
    | refine Elem.mk ⟨_, ⟨of_decide_eq_true rfl, rfl⟩, ?_⟩
    | refine Done.mk ⟨congrArg gb ?_, rfl⟩
    | refine Done.mk ⟨rfl, rfl⟩)

end Go.Hl
