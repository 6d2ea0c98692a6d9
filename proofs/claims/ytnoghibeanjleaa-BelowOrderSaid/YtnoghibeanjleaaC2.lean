/- Contracts: the checks of book and meter, twice over. -/
import Derived.Test.YtnoghibeanjleaaC1
set_option linter.unusedVariables false
set_option linter.unusedSimpArgs false
namespace Go.Hl
open Go.Gh Go.Proofs

theorem leafI {p : Prop} [Decidable p] {x y z : Int} (h1 : p → x = y) (h2 : ¬ p → x = z) : x = if p then y else z := by
  by_cases hp : p
  · rw [if_pos hp, h1 hp]
  · rw [if_neg hp, h2 hp]

def Book.code (b : Book) : Int := if b.May then 0 else 14
def Meter.code (m : Meter) : Int := if m.May then 0 else 1
theorem Book.code_ne (b : Book) : (b.code != 0) = decide (¬ b.May) := by
  unfold Book.code; by_cases h : b.May <;> simp [h]
theorem Meter.code_ne (m : Meter) : (m.code != 0) = decide (¬ m.May) := by
  unfold Meter.code; by_cases h : m.May <;> simp [h]

set_option maxRecDepth 100000 in
theorem bookCheck_ok (b : Book) : ICalls Try.prog 48 [b.g] [] (Done (gi b.code) []) := by
  refine ICalls.of_body Try.func48 rfl Try.call48 rfl (Nat.le_of_ble_eq_true rfl) (fun _ => none) ?_
  repeat' ((conv => whnf); first
    | refine Br.yes rfl ?_
    | refine Br.no rfl ?_
    | refine Br.mk (fun h => ?_) (fun h => ?_)
    | refine Done.mk ⟨congrArg gi ?_, rfl⟩
    | refine Need.mk (by first | kernel_rfl | exact ⟨of_decide_eq_true rfl, of_decide_eq_true rfl⟩ | omega) ?_
    | refine Len.mk ⟨_, by simp only [List.length_cons, List.length_nil, Nat.reduceAdd, Int.cast_ofNat_Int]; rfl, ?_⟩
    | refine Wr.lit _ (by simp only [Int.reduceAdd, Int.reduceSub, Int.reduceMul]; rfl) (by decide) ?_
    | refine Wr.fit (by omega) ?_
    | refine Elem.mk ⟨_, ⟨of_decide_eq_true rfl, rfl⟩, ?_⟩
    | refine (within_ok b).use ⟨rfl, ?_⟩
    | refine (sorted_ok _ _ _ _ _ _ _).use ⟨rfl, ?_⟩
    | refine CallX.mk ⟨_, _, (within_ok b).x, rfl, ?_⟩
    | refine CallX.mk ⟨_, _, (sorted_ok _ _ _ _ _ _ _).x, rfl, ?_⟩
    | refine Done.mk ⟨congrArg gb ?_, rfl⟩
    | refine Done.mk ⟨rfl, rfl⟩)
  all_goals (refine leafI (fun hp => ?_) (fun hp => ?_) <;> simp only [Book.May_iff] at hp <;> simp only [cond_true, cond_false, Bool.not_eq_true', Bool.not_eq_false', decide_eq_true_eq, decide_eq_false_iff_not, sorted7] at * <;> first | rfl | (exfalso; omega) | (exfalso; grind) | trace_state)

set_option maxRecDepth 100000 in
theorem meterCheck_ok (m : Meter) : ICalls Try.prog 22 [m.g] [] (Done (gi m.code) []) := by
  refine ICalls.of_body Try.func22 rfl Try.call22 rfl (Nat.le_of_ble_eq_true rfl) (fun _ => none) ?_
  repeat' ((conv => whnf); first
    | refine Br.yes rfl ?_
    | refine Br.no rfl ?_
    | refine Br.mk (fun h => ?_) (fun h => ?_)
    | refine Done.mk ⟨congrArg gi ?_, rfl⟩
    | refine Need.mk (by first | kernel_rfl | exact ⟨of_decide_eq_true rfl, of_decide_eq_true rfl⟩ | omega) ?_
    | refine Len.mk ⟨_, by simp only [List.length_cons, List.length_nil, Nat.reduceAdd, Int.cast_ofNat_Int]; rfl, ?_⟩
    | refine Wr.lit _ (by simp only [Int.reduceAdd, Int.reduceSub, Int.reduceMul]; rfl) (by decide) ?_
    | refine Wr.fit (by omega) ?_
    | refine Elem.mk ⟨_, ⟨of_decide_eq_true rfl, rfl⟩, ?_⟩
    | refine ILoop.unroll 11 ?_
    | refine Done.mk ⟨congrArg gb ?_, rfl⟩
    | refine Done.mk ⟨rfl, rfl⟩)
  all_goals (refine leafI (fun hp => ?_) (fun hp => ?_) <;> simp only [Meter.May_iff] at hp <;> simp only [cond_true, cond_false, decide_eq_true_eq, decide_eq_false_iff_not] at * <;> first | rfl | (exfalso; omega))

end Go.Hl
