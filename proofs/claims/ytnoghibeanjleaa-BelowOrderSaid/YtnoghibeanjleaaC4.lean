/- Contracts: Under, twice over; the law of it. -/
import Derived.Test.YtnoghibeanjleaaC3
set_option linter.unusedVariables false
set_option linter.unusedSimpArgs false
namespace Go.Hl
open Go.Gh Go.Proofs

set_option maxRecDepth 100000 in
theorem under_ok (b : Book) (x y : Meter) : ICalls Try.prog 15 [b.g, x.g, y.g] [] (Done (gb (decide (Under b x y))) []) := by
  refine ICalls.of_body Try.func15 rfl Try.call15 rfl (Nat.le_of_ble_eq_true rfl) (fun _ => none) ?_
  repeat' ((conv => whnf); first
    | refine Br.yes rfl ?_
    | refine Br.no rfl ?_
    | refine Br.mk (fun h => ?_) (fun h => ?_)
    | refine Need.mk (by first | kernel_rfl | exact ⟨of_decide_eq_true rfl, of_decide_eq_true rfl⟩ | omega) ?_
    | refine Len.mk ⟨_, by simp only [List.length_cons, List.length_nil, Nat.reduceAdd, Int.cast_ofNat_Int]; rfl, ?_⟩
    | refine Wr.lit _ (by simp only [Int.reduceAdd, Int.reduceSub, Int.reduceMul]; rfl) (by decide) ?_
    | refine Wr.fit (by omega) ?_
    | refine Elem.mk ⟨_, ⟨of_decide_eq_true rfl, rfl⟩, ?_⟩
    | refine (bookCheck_ok b).use ⟨rfl, ?_⟩
    | refine (meterCheck_ok x).use ⟨rfl, ?_⟩
    | refine (meterCheck_ok y).use ⟨rfl, ?_⟩
    | refine (kept_ok x y).use ⟨rfl, ?_⟩
    | refine (counted_ok x y).use ⟨rfl, ?_⟩
    | refine (rested_ok x y).use ⟨rfl, ?_⟩
    | refine (spent_ok b x y).use ⟨rfl, ?_⟩
    | refine CallX.mk ⟨_, _, (bookCheck_ok b).x, rfl, ?_⟩
    | refine CallX.mk ⟨_, _, (meterCheck_ok x).x, rfl, ?_⟩
    | refine CallX.mk ⟨_, _, (meterCheck_ok y).x, rfl, ?_⟩
    | refine CallX.mk ⟨_, _, (kept_ok x y).x, rfl, ?_⟩
    | refine CallX.mk ⟨_, _, (counted_ok x y).x, rfl, ?_⟩
    | refine CallX.mk ⟨_, _, (rested_ok x y).x, rfl, ?_⟩
    | refine CallX.mk ⟨_, _, (spent_ok b x y).x, rfl, ?_⟩
    | refine Done.mk ⟨congrArg gb ?_, rfl⟩
    | refine Done.mk ⟨rfl, rfl⟩)
  all_goals (refine leaf ?_; simp only [Book.code_ne, Meter.code_ne, Under_iff, cond_true, cond_false] at *; grind)

set_option maxRecDepth 100000 in
set_option maxHeartbeats 1000000 in
theorem refUnder_ok (b : Book) (x y : Meter) : ICalls Try.prog 16 [b.g, x.g, y.g] [] (Done (gb (decide (Under b x y))) []) := by
  refine ICalls.of_body Try.func16 rfl Try.call16 rfl (Nat.le_of_ble_eq_true rfl) (fun _ => none) ?_
  repeat' ((conv => whnf); first
    | refine Br.yes rfl ?_
    | refine Br.no rfl ?_
    | refine Br.mk (fun h => ?_) (fun h => ?_)
    | refine Need.mk (by first | kernel_rfl | exact ⟨of_decide_eq_true rfl, of_decide_eq_true rfl⟩ | omega) ?_
    | refine Len.mk ⟨_, by simp only [List.length_cons, List.length_nil, Nat.reduceAdd, Int.cast_ofNat_Int]; rfl, ?_⟩
    | refine Wr.lit _ (by simp only [Int.reduceAdd, Int.reduceSub, Int.reduceMul]; rfl) (by decide) ?_
    | refine Wr.fit (by omega) ?_
    | refine Elem.mk ⟨_, ⟨of_decide_eq_true rfl, rfl⟩, ?_⟩
    | refine (bookMay_ok b).use ⟨rfl, ?_⟩
    | refine (meterMay_ok x).use ⟨rfl, ?_⟩
    | refine (meterMay_ok y).use ⟨rfl, ?_⟩
    | refine CallX.mk ⟨_, _, (bookMay_ok b).x, rfl, ?_⟩
    | refine CallX.mk ⟨_, _, (meterMay_ok x).x, rfl, ?_⟩
    | refine CallX.mk ⟨_, _, (meterMay_ok y).x, rfl, ?_⟩
    | refine Done.mk ⟨congrArg gb ?_, rfl⟩
    | refine Done.mk ⟨rfl, rfl⟩)
  all_goals (refine leaf ?_; simp only [Under_iff, cond_true, cond_false, Kept, Counted, Rested, Spent] at *; grind)

def al1 : Meter := ⟨300, 100, false, 0, 0, 200, 0, false, 0, 0, false, 200, 0, 200⟩
def al2 : Meter := ⟨300, 200, false, 0, 0, 200, 0, false, 0, 0, false, 200, 0, 200⟩

set_option maxRecDepth 100000 in
theorem alive17_ok : ICalls Try.prog 17 [] [] (Done (gb true) []) := by
  refine ICalls.of_body Try.func17 rfl Try.call17 rfl (Nat.le_of_ble_eq_true rfl) (fun _ => none) ?_
  repeat' ((conv => whnf); first
    | refine Br.yes rfl ?_
    | refine Br.no rfl ?_
    | refine Br.mk (fun h => ?_) (fun h => ?_)
    | refine Need.mk (by first | kernel_rfl | exact ⟨of_decide_eq_true rfl, of_decide_eq_true rfl⟩ | omega) ?_
    | refine Len.mk ⟨_, by simp only [List.length_cons, List.length_nil, Nat.reduceAdd, Int.cast_ofNat_Int]; rfl, ?_⟩
    | refine Wr.lit _ (by simp only [Int.reduceAdd, Int.reduceSub, Int.reduceMul]; rfl) (by decide) ?_
    | refine Wr.fit (by omega) ?_
    | refine Elem.mk ⟨_, ⟨of_decide_eq_true rfl, rfl⟩, ?_⟩
    | refine (europe_ok).use ⟨rfl, ?_⟩
    | refine (under_ok Book.europe al1 al2).use ⟨rfl, ?_⟩
    | refine (under_ok Book.europe al2 al1).use ⟨rfl, ?_⟩
    | refine CallX.mk ⟨_, _, (europe_ok).x, rfl, ?_⟩
    | refine CallX.mk ⟨_, _, (under_ok Book.europe al1 al2).x, rfl, ?_⟩
    | refine CallX.mk ⟨_, _, (under_ok Book.europe al2 al1).x, rfl, ?_⟩
    | refine Done.mk ⟨congrArg gb ?_, rfl⟩
    | refine Done.mk ⟨rfl, rfl⟩)
  all_goals kernel_rfl

set_option maxRecDepth 100000 in
theorem belowUnder_ok (b : Book) (x y : Meter) : ICalls Try.prog 3 [b.g, x.g, y.g] [] (Done (gb true) []) := by
  refine ICalls.of_body Try.func3 rfl Try.call3 rfl (Nat.le_of_ble_eq_true rfl) (fun _ => none) ?_
  repeat' ((conv => whnf); first
    | refine Br.yes rfl ?_
    | refine Br.no rfl ?_
    | refine Br.mk (fun h => ?_) (fun h => ?_)
    | refine Need.mk (by first | kernel_rfl | exact ⟨of_decide_eq_true rfl, of_decide_eq_true rfl⟩ | omega) ?_
    | refine Len.mk ⟨_, by simp only [List.length_cons, List.length_nil, Nat.reduceAdd, Int.cast_ofNat_Int]; rfl, ?_⟩
    | refine Wr.lit _ (by simp only [Int.reduceAdd, Int.reduceSub, Int.reduceMul]; rfl) (by decide) ?_
    | refine Wr.fit (by omega) ?_
    | refine Elem.mk ⟨_, ⟨of_decide_eq_true rfl, rfl⟩, ?_⟩
    | refine (under_ok b x y).use ⟨rfl, ?_⟩
    | refine (refUnder_ok b x y).use ⟨rfl, ?_⟩
    | refine (alive17_ok).use ⟨rfl, ?_⟩
    | refine CallX.mk ⟨_, _, (under_ok b x y).x, rfl, ?_⟩
    | refine CallX.mk ⟨_, _, (refUnder_ok b x y).x, rfl, ?_⟩
    | refine CallX.mk ⟨_, _, (alive17_ok).x, rfl, ?_⟩
    | refine Done.mk ⟨congrArg gb ?_, rfl⟩
    | refine Done.mk ⟨rfl, rfl⟩)
  all_goals (simp at *)

end Go.Hl
