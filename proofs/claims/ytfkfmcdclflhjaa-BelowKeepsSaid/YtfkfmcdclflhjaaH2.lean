/- Contracts of functions, bundle H2; proved for whatever the arguments' types allow, as each theorem says. -/
import Derived.Test.YtfkfmcdclflhjaaH1

/- Contracts: Under, twice over; the law of it. -/
set_option linter.unusedVariables false
set_option linter.unusedSimpArgs false
namespace Go.Hl
open Go.Gh Go.Proofs

set_option maxRecDepth 100000 in
theorem under_ok (b : Book) (x y : Meter) : ICalls Try.prog 15 [b.g, x.g, y.g] [] (Done (gb (decide (Under b x y))) []) := by
  refine ICalls.of_body Try.func15 rfl Try.call15 rfl (Nat.le_of_ble_eq_true rfl) (fun _ => none) ?_
  repeat' ((conv => whnf); first
    | refine Br.yes rfl ?_
    | refine Br.no rfl ?_
    | refine Br.mk (fun h => ?_) (fun h => ?_)
    | refine Need.mk (by first | kernel_rfl | exact ⟨of_decide_eq_true rfl, of_decide_eq_true rfl⟩ | omega) ?_
    | refine Len.mk ⟨_, by simp only [List.length_cons, List.length_nil, Nat.reduceAdd, Int.cast_ofNat_Int]; rfl, ?_⟩
    | refine Wr.lit _ (by simp only [Int.reduceAdd, Int.reduceSub, Int.reduceMul]; rfl) (by decide) ?_
    | refine Wr.fit (by omega) ?_
    | refine Elem.mk ⟨_, ⟨of_decide_eq_true rfl, rfl⟩, ?_⟩
    | refine (bookCheck_ok b).use ⟨rfl, ?_⟩
    | refine (meterCheck_ok x).use ⟨rfl, ?_⟩
    | refine (meterCheck_ok y).use ⟨rfl, ?_⟩
    | refine (kept_ok x y).use ⟨rfl, ?_⟩
    | refine (counted_ok x y).use ⟨rfl, ?_⟩
    | refine (rested_ok x y).use ⟨rfl, ?_⟩
    | refine (spent_ok b x y).use ⟨rfl, ?_⟩
    | refine CallX.mk ⟨_, _, (bookCheck_ok b).x, rfl, ?_⟩
    | refine CallX.mk ⟨_, _, (meterCheck_ok x).x, rfl, ?_⟩
    | refine CallX.mk ⟨_, _, (meterCheck_ok y).x, rfl, ?_⟩
    | refine CallX.mk ⟨_, _, (kept_ok x y).x, rfl, ?_⟩
    | refine CallX.mk ⟨_, _, (counted_ok x y).x, rfl, ?_⟩
    | refine CallX.mk ⟨_, _, (rested_ok x y).x, rfl, ?_⟩
    | refine CallX.mk ⟨_, _, (spent_ok b x y).x, rfl, ?_⟩
    | refine Done.mk ⟨congrArg gb ?_, rfl⟩
    | refine Done.mk ⟨rfl, rfl⟩)
  all_goals (refine leaf ?_; simp only [Book.code_ne, Meter.code_ne, Under_iff, cond_true, cond_false] at *; grind)

set_option maxRecDepth 100000 in
set_option maxHeartbeats 1000000 in
theorem refUnder_ok (b : Book) (x y : Meter) : ICalls Try.prog 16 [b.g, x.g, y.g] [] (Done (gb (decide (Under b x y))) []) := by
  refine ICalls.of_body Try.func16 rfl Try.call16 rfl (Nat.le_of_ble_eq_true rfl) (fun _ => none) ?_
  repeat' ((conv => whnf); first
    | refine Br.yes rfl ?_
    | refine Br.no rfl ?_
    | refine Br.mk (fun h => ?_) (fun h => ?_)
    | refine Need.mk (by first | kernel_rfl | exact ⟨of_decide_eq_true rfl, of_decide_eq_true rfl⟩ | omega) ?_
    | refine Len.mk ⟨_, by simp only [List.length_cons, List.length_nil, Nat.reduceAdd, Int.cast_ofNat_Int]; rfl, ?_⟩
    | refine Wr.lit _ (by simp only [Int.reduceAdd, Int.reduceSub, Int.reduceMul]; rfl) (by decide) ?_
    | refine Wr.fit (by omega) ?_
    | refine Elem.mk ⟨_, ⟨of_decide_eq_true rfl, rfl⟩, ?_⟩
    | refine (bookMay_ok b).use ⟨rfl, ?_⟩
    | refine (meterMay_ok x).use ⟨rfl, ?_⟩
    | refine (meterMay_ok y).use ⟨rfl, ?_⟩
    | refine CallX.mk ⟨_, _, (bookMay_ok b).x, rfl, ?_⟩
    | refine CallX.mk ⟨_, _, (meterMay_ok x).x, rfl, ?_⟩
    | refine CallX.mk ⟨_, _, (meterMay_ok y).x, rfl, ?_⟩
    | refine Done.mk ⟨congrArg gb ?_, rfl⟩
    | refine Done.mk ⟨rfl, rfl⟩)
  all_goals (refine leaf ?_; simp only [Under_iff, cond_true, cond_false, Kept, Counted, Rested, Spent] at *; grind)

def al1 : Meter := ⟨300, 100, false, 0, 0, 200, 0, false, 0, 0, false, 200, 0, 200⟩
def al2 : Meter := ⟨300, 200, false, 0, 0, 200, 0, false, 0, 0, false, 200, 0, 200⟩

set_option maxRecDepth 100000 in
theorem alive17_ok : ICalls Try.prog 17 [] [] (Done (gb true) []) := by
  refine ICalls.of_body Try.func17 rfl Try.call17 rfl (Nat.le_of_ble_eq_true rfl) (fun _ => none) ?_
  repeat' ((conv => whnf); first
    | refine Br.yes rfl ?_
    | refine Br.no rfl ?_
    | refine Br.mk (fun h => ?_) (fun h => ?_)
    | refine Need.mk (by first | kernel_rfl | exact ⟨of_decide_eq_true rfl, of_decide_eq_true rfl⟩ | omega) ?_
    | refine Len.mk ⟨_, by simp only [List.length_cons, List.length_nil, Nat.reduceAdd, Int.cast_ofNat_Int]; rfl, ?_⟩
    | refine Wr.lit _ (by simp only [Int.reduceAdd, Int.reduceSub, Int.reduceMul]; rfl) (by decide) ?_
    | refine Wr.fit (by omega) ?_
    | refine Elem.mk ⟨_, ⟨of_decide_eq_true rfl, rfl⟩, ?_⟩
    | refine (europe_ok).use ⟨rfl, ?_⟩
    | refine (under_ok Book.europe al1 al2).use ⟨rfl, ?_⟩
    | refine (under_ok Book.europe al2 al1).use ⟨rfl, ?_⟩
    | refine CallX.mk ⟨_, _, (europe_ok).x, rfl, ?_⟩
    | refine CallX.mk ⟨_, _, (under_ok Book.europe al1 al2).x, rfl, ?_⟩
    | refine CallX.mk ⟨_, _, (under_ok Book.europe al2 al1).x, rfl, ?_⟩
    | refine Done.mk ⟨congrArg gb ?_, rfl⟩
    | refine Done.mk ⟨rfl, rfl⟩)
  all_goals kernel_rfl

set_option maxRecDepth 100000 in
theorem belowUnder_ok (b : Book) (x y : Meter) : ICalls Try.prog 3 [b.g, x.g, y.g] [] (Done (gb true) []) := by
  refine ICalls.of_body Try.func3 rfl Try.call3 rfl (Nat.le_of_ble_eq_true rfl) (fun _ => none) ?_
  repeat' ((conv => whnf); first
    | refine Br.yes rfl ?_
    | refine Br.no rfl ?_
    | refine Br.mk (fun h => ?_) (fun h => ?_)
    | refine Need.mk (by first | kernel_rfl | exact ⟨of_decide_eq_true rfl, of_decide_eq_true rfl⟩ | omega) ?_
    | refine Len.mk ⟨_, by simp only [List.length_cons, List.length_nil, Nat.reduceAdd, Int.cast_ofNat_Int]; rfl, ?_⟩
    | refine Wr.lit _ (by simp only [Int.reduceAdd, Int.reduceSub, Int.reduceMul]; rfl) (by decide) ?_
    | refine Wr.fit (by omega) ?_
    | refine Elem.mk ⟨_, ⟨of_decide_eq_true rfl, rfl⟩, ?_⟩
    | refine (under_ok b x y).use ⟨rfl, ?_⟩
    | refine (refUnder_ok b x y).use ⟨rfl, ?_⟩
    | refine (alive17_ok).use ⟨rfl, ?_⟩
    | refine CallX.mk ⟨_, _, (under_ok b x y).x, rfl, ?_⟩
    | refine CallX.mk ⟨_, _, (refUnder_ok b x y).x, rfl, ?_⟩
    | refine CallX.mk ⟨_, _, (alive17_ok).x, rfl, ?_⟩
    | refine Done.mk ⟨congrArg gb ?_, rfl⟩
    | refine Done.mk ⟨rfl, rfl⟩)
  all_goals (simp at *)

end Go.Hl

/- Contracts: the order of meters. -/
set_option linter.unusedVariables false
set_option linter.unusedSimpArgs false
namespace Go.Hl
open Go.Gh Go.Proofs

theorem Under.refl_iff (b : Book) (z : Meter) : Under b z z ↔ b.May ∧ z.May := by
  rw [Under_iff]
  constructor
  · intro h; exact ⟨h.1, h.2.1⟩
  · rintro ⟨h1, h2⟩
    refine ⟨h1, h2, h2, ⟨rfl, rfl, rfl⟩, ⟨Int.le_refl _, Int.le_refl _, Int.le_refl _, Int.le_refl _, Int.le_refl _, Int.le_refl _⟩, ⟨Int.le_refl _, Int.le_refl _, id, id⟩, ?_⟩
    unfold Spent; split <;> omega
theorem Under.trans {b : Book} {x y z : Meter} (h : Under b x y) (k : Under b y z) : Under b x z := by
  rw [Under_iff] at *
  obtain ⟨h1, h2, h3, ⟨h4, h5, h6⟩, ⟨g1, g2, g3, g4, g5, g6⟩, ⟨f1, f2, f3, f4⟩, h7⟩ := h
  obtain ⟨_, _, k3, ⟨k4, k5, k6⟩, ⟨l1, l2, l3, l4, l5, l6⟩, ⟨m1, m2, m3, m4⟩, k7⟩ := k
  refine ⟨h1, h2, k3, ⟨h4.trans k4, h5.trans k5, h6.trans k6⟩, ⟨by omega, by omega, by omega, by omega, by omega, by omega⟩, ⟨by omega, by omega, fun e => f3 (m3 e), fun e => m4 (f4 e)⟩, ?_⟩
  unfold Spent at *
  split at h7 <;> split at k7 <;> split <;> omega
theorem Under.anti {b : Book} {x y : Meter} (h : Under b x y) (k : Under b y x) : x = y := by
  rw [Under_iff] at *
  obtain ⟨h1, h2, h3, ⟨h4, h5, h6⟩, ⟨g1, g2, g3, g4, g5, g6⟩, ⟨f1, f2, f3, f4⟩, h7⟩ := h
  obtain ⟨_, _, k3, ⟨k4, k5, k6⟩, ⟨l1, l2, l3, l4, l5, l6⟩, ⟨m1, m2, m3, m4⟩, k7⟩ := k
  have e7 : x.Longers = y.Longers := by
    unfold Spent at *
    split at h7 <;> split at k7 <;> omega
  have e8 : x.Split = y.Split := by cases hx : x.Split <;> cases hy : y.Split <;> simp_all
  have e9 : x.Brief = y.Brief := by cases hx : x.Brief <;> cases hy : y.Brief <;> simp_all
  cases x; cases y; simp only [Meter.mk.injEq] at *
  refine ⟨by omega, by omega, h6, by omega, by omega, by omega, by omega, e8, by omega, by omega, e9, by omega, by omega, by omega⟩

set_option maxRecDepth 100000 in
theorem belowOrder_ok (b : Book) (x y z : Meter) : ICalls Try.prog 4 [b.g, .agg (x.c ++ y.c), z.g] [] (Done (gb true) []) := by
  refine ICalls.of_body Try.func4 rfl Try.call4 rfl (Nat.le_of_ble_eq_true rfl) (fun _ => none) ?_
  repeat' ((conv => whnf); first
    | refine Br.yes rfl ?_
    | refine Br.no rfl ?_
    | refine Need.mk (EqRun.flat (by kernel_rfl) rfl) ?_
    | refine Br.mk (fun h => ?_) (fun h => ?_)
    | refine Need.mk (by first | kernel_rfl | exact ⟨of_decide_eq_true rfl, of_decide_eq_true rfl⟩ | omega) ?_
    | refine Len.mk ⟨_, by simp only [List.length_cons, List.length_nil, Nat.reduceAdd, Int.cast_ofNat_Int]; rfl, ?_⟩
    | refine Wr.lit _ (by simp only [Int.reduceAdd, Int.reduceSub, Int.reduceMul]; rfl) (by decide) ?_
    | refine Wr.fit (by omega) ?_
    | refine Elem.mk ⟨_, ⟨of_decide_eq_true rfl, rfl⟩, ?_⟩
    | refine (under_ok b z z).use ⟨rfl, ?_⟩
    | refine (bookMay_ok b).use ⟨rfl, ?_⟩
    | refine (meterMay_ok z).use ⟨rfl, ?_⟩
    | refine (under_ok b x y).use ⟨rfl, ?_⟩
    | refine (under_ok b y z).use ⟨rfl, ?_⟩
    | refine (under_ok b x z).use ⟨rfl, ?_⟩
    | refine (under_ok b y x).use ⟨rfl, ?_⟩
    | refine (alive17_ok).use ⟨rfl, ?_⟩
    | refine CallX.mk ⟨_, _, (under_ok b z z).x, rfl, ?_⟩
    | refine CallX.mk ⟨_, _, (bookMay_ok b).x, rfl, ?_⟩
    | refine CallX.mk ⟨_, _, (meterMay_ok z).x, rfl, ?_⟩
    | refine CallX.mk ⟨_, _, (under_ok b x y).x, rfl, ?_⟩
    | refine CallX.mk ⟨_, _, (under_ok b y z).x, rfl, ?_⟩
    | refine CallX.mk ⟨_, _, (under_ok b x z).x, rfl, ?_⟩
    | refine CallX.mk ⟨_, _, (under_ok b y x).x, rfl, ?_⟩
    | refine CallX.mk ⟨_, _, (alive17_ok).x, rfl, ?_⟩
    | refine Done.mk ⟨congrArg gb ?_, rfl⟩
    | refine Done.mk ⟨rfl, rfl⟩)
  all_goals first
    | rfl
    | (exfalso
       have r := Under.refl_iff b z
       have t : Under b x y → Under b y z → Under b x z := Under.trans
       have a : Under b x y → Under b y x → x = y := Under.anti
       by_cases e : x = y
       · subst e; simp at * <;> grind
       · simp at * <;> grind)

end Go.Hl

/- Laws of chapter 17, as contracts over all arguments. -/
set_option linter.unusedVariables false
namespace Go.Hl
open Go.Gh Go.Proofs


theorem belowUnder_law (g0 : GV) (h0 : ArgOk bookTy g0) (g1 : GV) (h1 : ArgOk meterTy g1) (g2 : GV) (h2 : ArgOk meterTy g2) :
    ICalls Try.prog 3 [g0, g1, g2] [] (Done (gb true) []) := by
  obtain ⟨b, rfl, _⟩ := book_of h0
  obtain ⟨x, rfl, _⟩ := meter_of h1
  obtain ⟨y, rfl, _⟩ := meter_of h2
  exact belowUnder_ok b x y

theorem both_of {g : GV} (h : ArgOk (.agg [meterTy, meterTy]) g) : ∃ x y : Meter, g = .agg (x.c ++ y.c) ∧ x.Fits ∧ y.Fits := by
  obtain ⟨cs, rfl, hw⟩ := h.1 rfl
  obtain ⟨a, r, rfl, ha, hr⟩ := hw
  obtain ⟨c, r, rfl, hc, hr⟩ := hr
  cases WTs.nil hr
  obtain ⟨x, rfl, hx⟩ := meter_wt ha
  obtain ⟨y, rfl, hy⟩ := meter_wt hc
  exact ⟨x, y, by simp, hx, hy⟩

theorem belowOrder_law (g0 : GV) (h0 : ArgOk bookTy g0) (g1 : GV) (h1 : ArgOk (.agg [meterTy, meterTy]) g1) (g2 : GV) (h2 : ArgOk meterTy g2) :
    ICalls Try.prog 4 [g0, g1, g2] [] (Done (gb true) []) := by
  obtain ⟨b, rfl, _⟩ := book_of h0
  obtain ⟨x, y, rfl, _, _⟩ := both_of h1
  obtain ⟨z, rfl, _⟩ := meter_of h2
  exact belowOrder_ok b x y z

end Go.Hl
