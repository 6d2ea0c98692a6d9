/- Contracts of functions, bundle H5; proved for whatever the arguments' types allow, as each theorem says. -/
import Derived.Test.YtfghmggonjnbcaaH4

/- The reference's run of minutes.  -/
set_option linter.unusedVariables false
set_option linter.unusedSimpArgs false
namespace Go.Hl
open Go.Gh Go.Proofs

set_option maxRecDepth 100000 in
theorem step_ok (b : Book) (m : Meter) (k : Int) : ICalls Try.prog 80 [b.g, m.g, gi k] [] (Done (runV (runAll b m [k])) []) := by
  refine ICalls.of_body Try.func80 rfl Try.call80 rfl (Nat.le_of_ble_eq_true rfl) (fun _ => none) rfl ?_
  repeat' ((conv => whnf); first
    | refine Br.yes rfl ?_
    | refine Br.no rfl ?_
    | refine Br.yes (beq_self_eq_true _) ?_
    | refine Br.not ?_
    | refine Br.yes (decide_eq_true (by assumption)) ?_
    | refine Br.no (decide_eq_false (by assumption)) ?_
    | refine Br.yes (beq_iff_eq.2 (by assumption)) ?_
    | refine Br.no (beq_eq_false_iff_ne.2 (by assumption)) ?_
    | refine Br.yes (bne_iff_ne.2 (by assumption)) ?_
    | (refine Br.dec (fun h => ?_) (fun h => ?_) <;> try dsimp only at h)
    | (refine Br.beqI (fun h => ?_) (fun h => ?_) <;> try dsimp only at h)
    | (refine Br.bneI (fun h => ?_) (fun h => ?_) <;> try dsimp only at h)
    | refine Br.mk (fun h => ?_) (fun h => ?_)
    | refine Need.mk (by first | kernel_rfl | exact ⟨of_decide_eq_true rfl, of_decide_eq_true rfl⟩ | omega) ?_
    | refine Len.mk ⟨_, by simp only [List.length_cons, List.length_nil, Nat.reduceAdd, Int.cast_ofNat_Int]; rfl, ?_⟩
    | refine Wr.lit _ (by simp only [Int.reduceAdd, Int.reduceSub, Int.reduceMul]; rfl) (by decide) ?_
    | refine Wr.fit (by omega) ?_
    | refine Wr.fit (by dsimp only; omega) ?_
    | refine Elem.mk ⟨_, ⟨of_decide_eq_true rfl, rfl⟩, ?_⟩
    | refine Len.map ?_
    | refine Len.dropM ?_
    | refine Elem.dropM ?_
    | refine Len.takeM ?_
    | refine Elem.takeM ?_
    | refine Elem.mapK (by assumption) ?_
    | refine Elem.mapI (by omega) (by assumption) ?_
    | refine Elem.mapN (by omega) (fun x hx => ?_)
    | refine Elem.map (by omega) (by omega) (fun x hx => ?_)
    | refine (run_ok b m [k] (by simp)).use ⟨rfl, ?_⟩
    | refine CallX.mk ⟨_, _, (run_ok b m [k] (by simp)).x, rfl, ?_⟩
    | refine Done.mk ⟨rfl, rfl⟩
    | refine Done.mk ⟨congrArg gb ?_, rfl⟩
    | refine Done.mk ⟨?_, rfl⟩
    | refine Done.mk ⟨?_, ?_⟩)

def al13 : Meter := ⟨300, 270, false, 0, 30, 270, 0, false, 0, 30, false, 270, 0, 270⟩
theorem runM_cons (b : Book) (k : Int) (r : List Int) (m : Meter) (bits : Int) : runM b (k :: r) m bits = if k < 0 ∨ 4 ≤ k then (Meter.zero, 0, 2) else if m.Now = 40320 then (Meter.zero, 0, 4) else runM b r (m.step b k) (stepBits b m k bits) := rfl
end Go.Hl

/- The law MeterParts.  -/
set_option linter.unusedVariables false
set_option linter.unusedSimpArgs false
namespace Go.Hl
open Go.Gh Go.Proofs

end Go.Hl
