/- Contracts: the order of meters. -/
import Derived.Test.YtnoghibeanjleaaC4
set_option linter.unusedVariables false
set_option linter.unusedSimpArgs false
namespace Go.Hl
open Go.Gh Go.Proofs

theorem Under.refl_iff (b : Book) (z : Meter) : Under b z z ↔ b.May ∧ z.May := by
  rw [Under_iff]
  constructor
  · intro h; exact ⟨h.1, h.2.1⟩
  · rintro ⟨h1, h2⟩
    refine ⟨h1, h2, h2, ⟨rfl, rfl, rfl⟩, ⟨Int.le_refl _, Int.le_refl _, Int.le_refl _, Int.le_refl _, Int.le_refl _, Int.le_refl _⟩, ⟨Int.le_refl _, Int.le_refl _, id, id⟩, ?_⟩
    unfold Spent; split <;> omega
theorem Under.trans {b : Book} {x y z : Meter} (h : Under b x y) (k : Under b y z) : Under b x z := by
  rw [Under_iff] at *
  obtain ⟨h1, h2, h3, ⟨h4, h5, h6⟩, ⟨g1, g2, g3, g4, g5, g6⟩, ⟨f1, f2, f3, f4⟩, h7⟩ := h
  obtain ⟨_, _, k3, ⟨k4, k5, k6⟩, ⟨l1, l2, l3, l4, l5, l6⟩, ⟨m1, m2, m3, m4⟩, k7⟩ := k
  refine ⟨h1, h2, k3, ⟨h4.trans k4, h5.trans k5, h6.trans k6⟩, ⟨by omega, by omega, by omega, by omega, by omega, by omega⟩, ⟨by omega, by omega, fun e => f3 (m3 e), fun e => m4 (f4 e)⟩, ?_⟩
  unfold Spent at *
  split at h7 <;> split at k7 <;> split <;> omega
theorem Under.anti {b : Book} {x y : Meter} (h : Under b x y) (k : Under b y x) : x = y := by
  rw [Under_iff] at *
  obtain ⟨h1, h2, h3, ⟨h4, h5, h6⟩, ⟨g1, g2, g3, g4, g5, g6⟩, ⟨f1, f2, f3, f4⟩, h7⟩ := h
  obtain ⟨_, _, k3, ⟨k4, k5, k6⟩, ⟨l1, l2, l3, l4, l5, l6⟩, ⟨m1, m2, m3, m4⟩, k7⟩ := k
  have e7 : x.Longers = y.Longers := by
    unfold Spent at *
    split at h7 <;> split at k7 <;> omega
  have e8 : x.Split = y.Split := by cases hx : x.Split <;> cases hy : y.Split <;> simp_all
  have e9 : x.Brief = y.Brief := by cases hx : x.Brief <;> cases hy : y.Brief <;> simp_all
  cases x; cases y; simp only [Meter.mk.injEq] at *
  refine ⟨by omega, by omega, h6, by omega, by omega, by omega, by omega, e8, by omega, by omega, e9, by omega, by omega, by omega⟩

set_option maxRecDepth 100000 in
theorem belowOrder_ok (b : Book) (x y z : Meter) : ICalls Try.prog 4 [b.g, .agg (x.c ++ y.c), z.g] [] (Done (gb true) []) := by
  refine ICalls.of_body Try.func4 rfl Try.call4 rfl (Nat.le_of_ble_eq_true rfl) (fun _ => none) ?_
  repeat' ((conv => whnf); first
    | refine Br.yes rfl ?_
    | refine Br.no rfl ?_
    | refine Br.mk (fun h => ?_) (fun h => ?_)
    | refine Need.mk (EqRun.flat (by kernel_rfl) rfl) ?_
    | refine Need.mk (by first | kernel_rfl | exact ⟨of_decide_eq_true rfl, of_decide_eq_true rfl⟩ | omega) ?_
    | refine Len.mk ⟨_, by simp only [List.length_cons, List.length_nil, Nat.reduceAdd, Int.cast_ofNat_Int]; rfl, ?_⟩
    | refine Wr.lit _ (by simp only [Int.reduceAdd, Int.reduceSub, Int.reduceMul]; rfl) (by decide) ?_
    | refine Wr.fit (by omega) ?_
    | refine Elem.mk ⟨_, ⟨of_decide_eq_true rfl, rfl⟩, ?_⟩
    | refine (under_ok b z z).use ⟨rfl, ?_⟩
    | refine (bookMay_ok b).use ⟨rfl, ?_⟩
    | refine (meterMay_ok z).use ⟨rfl, ?_⟩
    | refine (under_ok b x y).use ⟨rfl, ?_⟩
    | refine (under_ok b y z).use ⟨rfl, ?_⟩
    | refine (under_ok b x z).use ⟨rfl, ?_⟩
    | refine (under_ok b y x).use ⟨rfl, ?_⟩
    | refine (alive17_ok).use ⟨rfl, ?_⟩
    | refine CallX.mk ⟨_, _, (under_ok b z z).x, rfl, ?_⟩
    | refine CallX.mk ⟨_, _, (bookMay_ok b).x, rfl, ?_⟩
    | refine CallX.mk ⟨_, _, (meterMay_ok z).x, rfl, ?_⟩
    | refine CallX.mk ⟨_, _, (under_ok b x y).x, rfl, ?_⟩
    | refine CallX.mk ⟨_, _, (under_ok b y z).x, rfl, ?_⟩
    | refine CallX.mk ⟨_, _, (under_ok b x z).x, rfl, ?_⟩
    | refine CallX.mk ⟨_, _, (under_ok b y x).x, rfl, ?_⟩
    | refine CallX.mk ⟨_, _, (alive17_ok).x, rfl, ?_⟩
    | refine Done.mk ⟨congrArg gb ?_, rfl⟩
    | refine Done.mk ⟨rfl, rfl⟩)
  all_goals first
    | rfl
    | (exfalso
       have r := Under.refl_iff b z
       have t : Under b x y → Under b y z → Under b x z := Under.trans
       have a : Under b x y → Under b y x → x = y := Under.anti
       by_cases e : x = y
       · subst e; simp at * <;> grind
       · simp at * <;> grind)
    | (trace_state; sorry)

end Go.Hl
