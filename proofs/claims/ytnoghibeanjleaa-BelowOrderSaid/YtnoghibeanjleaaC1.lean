/- Contracts: books and meters, and what may be. -/
import Derived.Test.YtnoghibeanjleaaS1
import Derived.Test.YtnoghibeanjleaaProg
set_option linter.unusedVariables false
set_option linter.unusedSimpArgs false
namespace Go.Hl
open Go.Gh Go.Proofs

theorem leaf {p : Prop} [Decidable p] {x : Bool} (h : x = true ↔ p) : x = decide p := by
  by_cases hp : p
  · simp [hp, h.2 hp]
  · have : x ≠ true := fun e => hp (h.1 e)
    simp [hp, this]

set_option maxRecDepth 100000 in
theorem all_ok (b : Book) : ICalls Try.prog 86 [b.g] [] (Done b.g []) := by
  refine ICalls.of_body Try.func86 rfl Try.call86 rfl (Nat.le_of_ble_eq_true rfl) (fun _ => none) ?_
  repeat' ((conv => whnf); first
    | refine Br.yes rfl ?_
    | refine Br.no rfl ?_
    | refine Br.mk (fun h => ?_) (fun h => ?_)
    | refine Need.mk (by first | kernel_rfl | exact ⟨of_decide_eq_true rfl, of_decide_eq_true rfl⟩ | omega) ?_
    | refine Len.mk ⟨_, by simp only [List.length_cons, List.length_nil, Nat.reduceAdd, Int.cast_ofNat_Int]; rfl, ?_⟩
    | refine Wr.lit _ (by simp only [Int.reduceAdd, Int.reduceSub, Int.reduceMul]; rfl) (by decide) ?_
    | refine Wr.fit (by omega) ?_
    | refine Elem.mk ⟨_, ⟨of_decide_eq_true rfl, rfl⟩, ?_⟩
    | refine Done.mk ⟨congrArg gb ?_, rfl⟩
    | refine Done.mk ⟨rfl, rfl⟩)

set_option maxRecDepth 100000 in
theorem within_ok (b : Book) : ICalls Try.prog 72 [b.g] [] (Done (gb (decide b.within)) []) := by
  refine ICalls.of_body Try.func72 rfl Try.call72 rfl (Nat.le_of_ble_eq_true rfl) (fun _ => none) ?_
  repeat' ((conv => whnf); first
    | refine Br.yes rfl ?_
    | refine Br.no rfl ?_
    | refine Br.mk (fun h => ?_) (fun h => ?_)
    | refine Need.mk (by first | kernel_rfl | exact ⟨of_decide_eq_true rfl, of_decide_eq_true rfl⟩ | omega) ?_
    | refine Len.mk ⟨_, by simp only [List.length_cons, List.length_nil, Nat.reduceAdd, Int.cast_ofNat_Int]; rfl, ?_⟩
    | refine Wr.lit _ (by simp only [Int.reduceAdd, Int.reduceSub, Int.reduceMul]; rfl) (by decide) ?_
    | refine Wr.fit (by omega) ?_
    | refine Elem.mk ⟨_, ⟨of_decide_eq_true rfl, rfl⟩, ?_⟩
    | refine (all_ok b).use ⟨rfl, ?_⟩
    | refine CallX.mk ⟨_, _, (all_ok b).x, rfl, ?_⟩
    | refine ILoop.unroll 20 ?_
    | refine Done.mk ⟨congrArg gb ?_, rfl⟩
    | refine Done.mk ⟨rfl, rfl⟩)
  all_goals (refine leaf ?_; simp only [cond_true, cond_false, decide_eq_true_eq, decide_eq_false_iff_not, Bool.false_eq_true, false_iff, true_iff, Book.within] at *; omega)

set_option maxRecDepth 100000 in
theorem nan_ok (n : Int) : ICalls Try.prog 98 [gi n] [] (Done (gb false) []) := by
  refine ICalls.of_body Try.func98 rfl Try.call98 rfl (Nat.le_of_ble_eq_true rfl) (fun _ => none) ?_
  repeat' ((conv => whnf); first
    | refine Br.yes rfl ?_
    | refine Br.no rfl ?_
    | refine Br.mk (fun h => ?_) (fun h => ?_)
    | refine Need.mk (by first | kernel_rfl | exact ⟨of_decide_eq_true rfl, of_decide_eq_true rfl⟩ | omega) ?_
    | refine Len.mk ⟨_, by simp only [List.length_cons, List.length_nil, Nat.reduceAdd, Int.cast_ofNat_Int]; rfl, ?_⟩
    | refine Wr.lit _ (by simp only [Int.reduceAdd, Int.reduceSub, Int.reduceMul]; rfl) (by decide) ?_
    | refine Wr.fit (by omega) ?_
    | refine Elem.mk ⟨_, ⟨of_decide_eq_true rfl, rfl⟩, ?_⟩
    | refine Done.mk ⟨congrArg gb ?_, rfl⟩
    | refine Done.mk ⟨rfl, rfl⟩)
  simp

set_option maxRecDepth 100000 in
theorem less_ok (n m : Int) : ICalls Try.prog 87 [gi n, gi m] [] (Done (gb (decide (n < m))) []) := by
  refine ICalls.of_body Try.func87 rfl Try.call87 rfl (Nat.le_of_ble_eq_true rfl) (fun _ => none) ?_
  repeat' ((conv => whnf); first
    | refine Br.yes rfl ?_
    | refine Br.no rfl ?_
    | refine Br.mk (fun h => ?_) (fun h => ?_)
    | refine Need.mk (by first | kernel_rfl | exact ⟨of_decide_eq_true rfl, of_decide_eq_true rfl⟩ | omega) ?_
    | refine Len.mk ⟨_, by simp only [List.length_cons, List.length_nil, Nat.reduceAdd, Int.cast_ofNat_Int]; rfl, ?_⟩
    | refine Wr.lit _ (by simp only [Int.reduceAdd, Int.reduceSub, Int.reduceMul]; rfl) (by decide) ?_
    | refine Wr.fit (by omega) ?_
    | refine Elem.mk ⟨_, ⟨of_decide_eq_true rfl, rfl⟩, ?_⟩
    | refine (nan_ok _).use ⟨rfl, ?_⟩
    | refine CallX.mk ⟨_, _, (nan_ok _).x, rfl, ?_⟩
    | refine Done.mk ⟨congrArg gb ?_, rfl⟩
    | refine Done.mk ⟨rfl, rfl⟩)
  simp

def sorted7 (a b c d e f g : Int) : Prop := a ≤ b ∧ b ≤ c ∧ c ≤ d ∧ d ≤ e ∧ e ≤ f ∧ f ≤ g
instance (a b c d e f g : Int) : Decidable (sorted7 a b c d e f g) := by unfold sorted7; infer_instance

set_option maxRecDepth 100000 in
theorem sorted_ok (a b c d e f g : Int) : ICalls Try.prog 73 [.list 1 [gi a, gi b, gi c, gi d, gi e, gi f, gi g] none] [] (Done (gb (decide (sorted7 a b c d e f g))) []) := by
  refine ICalls.of_body Try.func73 rfl Try.call73 rfl (Nat.le_of_ble_eq_true rfl) (fun _ => none) ?_
  repeat' ((conv => whnf); first
    | refine Br.yes rfl ?_
    | refine Br.no rfl ?_
    | refine Br.mk (fun h => ?_) (fun h => ?_)
    | refine Need.mk (by first | kernel_rfl | exact ⟨of_decide_eq_true rfl, of_decide_eq_true rfl⟩ | omega) ?_
    | refine Len.mk ⟨_, by simp only [List.length_cons, List.length_nil, Nat.reduceAdd, Int.cast_ofNat_Int]; rfl, ?_⟩
    | refine Wr.lit _ (by simp only [Int.reduceAdd, Int.reduceSub, Int.reduceMul]; rfl) (by decide) ?_
    | refine Wr.fit (by omega) ?_
    | refine Elem.mk ⟨_, ⟨of_decide_eq_true rfl, rfl⟩, ?_⟩
    | refine (less_ok _ _).use ⟨rfl, ?_⟩
    | refine CallX.mk ⟨_, _, (less_ok _ _).x, rfl, ?_⟩
    | refine ILoop.unroll 8 ?_
    | refine Done.mk ⟨congrArg gb ?_, rfl⟩
    | refine Done.mk ⟨rfl, rfl⟩)
  all_goals (refine leaf ?_; simp only [cond_true, cond_false, decide_eq_true_eq, decide_eq_false_iff_not, Bool.false_eq_true, false_iff, true_iff, sorted7] at *; omega)

end Go.Hl
