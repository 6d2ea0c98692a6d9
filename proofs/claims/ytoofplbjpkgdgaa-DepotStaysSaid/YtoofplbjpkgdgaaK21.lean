/- Contracts of functions, bundle K21; proved for whatever the arguments' types allow, as each theorem says. -/
import Derived.Test.YtoofplbjpkgdgaaK18
import Derived.Test.YtoofplbjpkgdgaaK22p
import Derived.Test.YtoofplbjpkgdgaaK9

/- Chapter 30: a law's steps: turn, want.  -/
set_option linter.unusedVariables false
set_option linter.unusedSimpArgs false
namespace Go.Hl
open Go.Gh Go.Proofs

set_option maxRecDepth 100000 in
set_option maxHeartbeats 1000000 in
theorem few_ok (s : StepS) : ICalls Try.prog 27 [s.g] [] (Done (gb (fewS s)) []) := by
  unfold fewS
  obtain ⟨k, ⟨oa, ob, oc, od, ol⟩, ids, id, p, m⟩ := s
  simp only
  show ICalls _ _ [.agg [gi k, gi oa, gi ob, gi oc, gi od, .list 2 (ol.map Span.g) none, .list 1 (ids.map gi) none, gi id, .list 3 (p.map Rec.g) none, gi m]] _ _
  refine ICalls.of_body Try.func27 rfl Try.call27 rfl (Nat.le_of_ble_eq_true rfl) (fun _ => none) rfl ?_
  repeat' ((conv => whnf); first
    | refine Br.yes rfl ?_
    | refine Br.no rfl ?_
    | (refine Len.map ?_)
    | refine Br.yes (beq_self_eq_true _) ?_
    | refine Br.not ?_
    | refine Br.yes (decide_eq_true (by assumption)) ?_
    | refine Br.no (decide_eq_false (by assumption)) ?_
    | refine Br.yes (beq_iff_eq.2 (by assumption)) ?_
    | refine Br.no (beq_eq_false_iff_ne.2 (by assumption)) ?_
    | refine Br.yes (bne_iff_ne.2 (by assumption)) ?_
    | (refine Br.dec (fun h => ?_) (fun h => ?_) <;> try dsimp only at h)
    | (refine Br.beqI (fun h => ?_) (fun h => ?_) <;> try dsimp only at h)
    | (refine Br.bneI (fun h => ?_) (fun h => ?_) <;> try dsimp only at h)
    | refine Br.mk (fun h => ?_) (fun h => ?_)
    | refine Need.mk (by first | kernel_rfl | exact ⟨of_decide_eq_true rfl, of_decide_eq_true rfl⟩ | omega) ?_
    | refine Len.mk ⟨_, by simp only [List.length_cons, List.length_nil, Nat.reduceAdd, Int.cast_ofNat_Int]; rfl, ?_⟩
    | refine Wr.lit _ (by simp only [Int.reduceAdd, Int.reduceSub, Int.reduceMul]; rfl) (by decide) ?_
    | refine Wr.fit (by omega) ?_
    | refine Wr.fit (by dsimp only; omega) ?_
    | refine Elem.mk ⟨_, ⟨of_decide_eq_true rfl, rfl⟩, ?_⟩
    | refine Len.map ?_
    | refine Len.dropM ?_
    | refine Elem.dropM ?_
    | refine Len.takeM ?_
    | refine Elem.takeM ?_
    | refine Elem.mapK (by assumption) ?_
    | refine Elem.mapI (by omega) (by assumption) ?_
    | refine Elem.mapN (by omega) (fun x hx => ?_)
    | refine Elem.map (by omega) (by omega) (fun x hx => ?_)
    | refine Done.mk ⟨rfl, rfl⟩
    | refine Done.mk ⟨congrArg gb ?_, rfl⟩
    | refine Done.mk ⟨?_, rfl⟩
    | refine Done.mk ⟨?_, ?_⟩)
  all_goals first
    | (rw [decide_eq_true (by omega : ol.length ≤ 20), decide_eq_true (by omega : ids.length ≤ 60), Bool.true_and, Bool.true_and]; exact decide_eq_decide.2 (by omega))
    | (rw [decide_eq_true (by omega : ol.length ≤ 20), decide_eq_false (by omega : ¬ ids.length ≤ 60)]; rfl)
    | (rw [decide_eq_false (by omega : ¬ ol.length ≤ 20)]; rfl)

def pl_K21_1 : Nat → Option (List Nat × List Nat) := (fun k => bif Nat.beq k 4000000 then some ([113], []) else none)
def pl_K21_2 : Nat → Option (List Nat × List Nat) := (fun k => bif Nat.beq k 4000000 then some ([121], []) else none)
def pl_K21_3 : Nat → Option (List Nat × List Nat) := (fun k => bif Nat.beq k 4000000 then some ([131], []) else none)
def pl_K21_4 : Nat → Option (List Nat × List Nat) := (fun k => bif Nat.beq k 4000000 then some ([137], []) else none)
end Go.Hl
