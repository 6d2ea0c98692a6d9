/- Contracts of functions, bundle K26; proved for whatever the arguments' types allow, as each theorem says. -/
import Derived.Test.YtoofplbjpkgdgaaK24
import Derived.Test.YtoofplbjpkgdgaaK25
import Derived.Test.YtoofplbjpkgdgaaK21
import Derived.Test.YtoofplbjpkgdgaaK6
import Derived.Test.YtoofplbjpkgdgaaK3

/- Chapter 30: a yard that is turned, time and again: the law Stays.  -/
set_option linter.unusedVariables false
set_option linter.unusedSimpArgs false
namespace Go.Hl
open Go.Gh Go.Proofs

set_option maxRecDepth 100000 in
set_option maxHeartbeats 4000000 in
theorem lawTurnR_ok (d : Depot) (s : StepS) (hd : d.Ok) (hM : d.May) (hs : s.Fit) (he : stepE d s = 0) : ICalls Try.prog 28 [yardR d (metersV d).1, s.g] [] (Done (.tup [yardR (stepD d s) (metersV (stepD d s)).1, gi 0]) []) := by
  unfold stepE at he
  unfold stepD
  obtain ⟨so, si, sp⟩ := hs
  obtain ⟨k, o, ids, id, p, m⟩ := s
  simp only at *
  by_cases h0 : k = 0
  case pos =>
    rw [if_pos h0] at he
    rw [if_pos h0]
    have h1 := yardAddR_ok d (metersV d).1 o hd so he
    rw [metersV_add]
    generalize addD d o = D at *
    generalize (metersV d).1 = ms at *
    subst h0
    clear he hd hM
    obtain ⟨b, w, oo, l⟩ := d
    obtain ⟨b', w', oo', l'⟩ := D
    obtain ⟨oa, ob, oc, od, ol⟩ := o
    refine ICalls.of_body Try.func28 rfl Try.call28 rfl (Nat.le_of_ble_eq_true rfl) (fun _ => none) rfl ?_
    repeat' ((conv => whnf); first
      | refine Br.yes rfl ?_
      | refine Br.no rfl ?_
      | refine Br.yes (beq_self_eq_true _) ?_
      | refine Br.not ?_
      | refine Br.yes (decide_eq_true (by assumption)) ?_
      | refine Br.no (decide_eq_false (by assumption)) ?_
      | refine Br.yes (beq_iff_eq.2 (by assumption)) ?_
      | refine Br.no (beq_eq_false_iff_ne.2 (by assumption)) ?_
      | refine Br.yes (bne_iff_ne.2 (by assumption)) ?_
      | (refine Br.dec (fun h => ?_) (fun h => ?_) <;> try dsimp only at h)
      | (refine Br.beqI (fun h => ?_) (fun h => ?_) <;> try dsimp only at h)
      | (refine Br.bneI (fun h => ?_) (fun h => ?_) <;> try dsimp only at h)
      | refine Br.mk (fun h => ?_) (fun h => ?_)
      | refine Need.mk (by first | kernel_rfl | exact ⟨of_decide_eq_true rfl, of_decide_eq_true rfl⟩ | omega) ?_
      | refine Len.mk ⟨_, by simp only [List.length_cons, List.length_nil, Nat.reduceAdd, Int.cast_ofNat_Int]; rfl, ?_⟩
      | refine Wr.lit _ (by simp only [Int.reduceAdd, Int.reduceSub, Int.reduceMul]; rfl) (by decide) ?_
      | refine Wr.fit (by omega) ?_
      | refine Wr.fit (by dsimp only; omega) ?_
      | refine Elem.mk ⟨_, ⟨of_decide_eq_true rfl, rfl⟩, ?_⟩
      | refine Len.map ?_
      | refine Len.dropM ?_
      | refine Elem.dropM ?_
      | refine Len.takeM ?_
      | refine Elem.takeM ?_
      | refine Elem.mapK (by assumption) ?_
      | refine Elem.mapI (by omega) (by assumption) ?_
      | refine Elem.mapN (by omega) (fun x hx => ?_)
      | refine Elem.map (by omega) (by omega) (fun x hx => ?_)
      | refine (h1).use ⟨rfl, ?_⟩
      | refine CallX.mk ⟨_, _, (h1).x, rfl, ?_⟩
      | refine Done.mk ⟨rfl, rfl⟩
      | refine Done.mk ⟨congrArg gb ?_, rfl⟩
      | refine Done.mk ⟨?_, rfl⟩
      | refine Done.mk ⟨?_, ?_⟩)
    all_goals first
      | omega
      | rfl
  case neg =>
  rw [if_neg h0] at he
  rw [if_neg h0]
  by_cases k1 : k = 1
  case pos =>
    rw [if_pos k1] at he
    rw [if_pos k1]
    have h1 := yardDropR_ok d (metersV d).1 ids hd si he
    rw [metersV_drop]
    generalize dropD d ids = D at *
    generalize (metersV d).1 = ms at *
    subst k1
    clear he hd hM
    obtain ⟨b, w, oo, l⟩ := d
    obtain ⟨b', w', oo', l'⟩ := D
    obtain ⟨oa, ob, oc, od, ol⟩ := o
    refine ICalls.of_body Try.func28 rfl Try.call28 rfl (Nat.le_of_ble_eq_true rfl) (fun _ => none) rfl ?_
    repeat' ((conv => whnf); first
      | refine Br.yes rfl ?_
      | refine Br.no rfl ?_
      | refine Br.yes (beq_self_eq_true _) ?_
      | refine Br.not ?_
      | refine Br.yes (decide_eq_true (by assumption)) ?_
      | refine Br.no (decide_eq_false (by assumption)) ?_
      | refine Br.yes (beq_iff_eq.2 (by assumption)) ?_
      | refine Br.no (beq_eq_false_iff_ne.2 (by assumption)) ?_
      | refine Br.yes (bne_iff_ne.2 (by assumption)) ?_
      | (refine Br.dec (fun h => ?_) (fun h => ?_) <;> try dsimp only at h)
      | (refine Br.beqI (fun h => ?_) (fun h => ?_) <;> try dsimp only at h)
      | (refine Br.bneI (fun h => ?_) (fun h => ?_) <;> try dsimp only at h)
      | refine Br.mk (fun h => ?_) (fun h => ?_)
      | refine Need.mk (by first | kernel_rfl | exact ⟨of_decide_eq_true rfl, of_decide_eq_true rfl⟩ | omega) ?_
      | refine Len.mk ⟨_, by simp only [List.length_cons, List.length_nil, Nat.reduceAdd, Int.cast_ofNat_Int]; rfl, ?_⟩
      | refine Wr.lit _ (by simp only [Int.reduceAdd, Int.reduceSub, Int.reduceMul]; rfl) (by decide) ?_
      | refine Wr.fit (by omega) ?_
      | refine Wr.fit (by dsimp only; omega) ?_
      | refine Elem.mk ⟨_, ⟨of_decide_eq_true rfl, rfl⟩, ?_⟩
      | refine Len.map ?_
      | refine Len.dropM ?_
      | refine Elem.dropM ?_
      | refine Len.takeM ?_
      | refine Elem.takeM ?_
      | refine Elem.mapK (by assumption) ?_
      | refine Elem.mapI (by omega) (by assumption) ?_
      | refine Elem.mapN (by omega) (fun x hx => ?_)
      | refine Elem.map (by omega) (by omega) (fun x hx => ?_)
      | refine (h1).use ⟨rfl, ?_⟩
      | refine CallX.mk ⟨_, _, (h1).x, rfl, ?_⟩
      | refine Done.mk ⟨rfl, rfl⟩
      | refine Done.mk ⟨congrArg gb ?_, rfl⟩
      | refine Done.mk ⟨?_, rfl⟩
      | refine Done.mk ⟨?_, ?_⟩)
    all_goals first
      | omega
      | rfl
  case neg =>
  rw [if_neg k1] at he
  rw [if_neg k1]
  by_cases k2 : k = 2
  case pos =>
    rw [if_pos k2] at he
    rw [if_pos k2]
    have h1 := yardMoreR_ok d (metersV d).1 id p (by omega) hd (more_Ok hd hM id sp) he
    generalize (metersV (moreD d id p)).1 = ms' at *
    generalize moreD d id p = D at *
    generalize (metersV d).1 = ms at *
    subst k2
    clear he hd hM
    obtain ⟨b, w, oo, l⟩ := d
    obtain ⟨b', w', oo', l'⟩ := D
    obtain ⟨oa, ob, oc, od, ol⟩ := o
    refine ICalls.of_body Try.func28 rfl Try.call28 rfl (Nat.le_of_ble_eq_true rfl) (fun _ => none) rfl ?_
    repeat' ((conv => whnf); first
      | refine Br.yes rfl ?_
      | refine Br.no rfl ?_
      | refine Br.yes (beq_self_eq_true _) ?_
      | refine Br.not ?_
      | refine Br.yes (decide_eq_true (by assumption)) ?_
      | refine Br.no (decide_eq_false (by assumption)) ?_
      | refine Br.yes (beq_iff_eq.2 (by assumption)) ?_
      | refine Br.no (beq_eq_false_iff_ne.2 (by assumption)) ?_
      | refine Br.yes (bne_iff_ne.2 (by assumption)) ?_
      | (refine Br.dec (fun h => ?_) (fun h => ?_) <;> try dsimp only at h)
      | (refine Br.beqI (fun h => ?_) (fun h => ?_) <;> try dsimp only at h)
      | (refine Br.bneI (fun h => ?_) (fun h => ?_) <;> try dsimp only at h)
      | refine Br.mk (fun h => ?_) (fun h => ?_)
      | refine Need.mk (by first | kernel_rfl | exact ⟨of_decide_eq_true rfl, of_decide_eq_true rfl⟩ | omega) ?_
      | refine Len.mk ⟨_, by simp only [List.length_cons, List.length_nil, Nat.reduceAdd, Int.cast_ofNat_Int]; rfl, ?_⟩
      | refine Wr.lit _ (by simp only [Int.reduceAdd, Int.reduceSub, Int.reduceMul]; rfl) (by decide) ?_
      | refine Wr.fit (by omega) ?_
      | refine Wr.fit (by dsimp only; omega) ?_
      | refine Elem.mk ⟨_, ⟨of_decide_eq_true rfl, rfl⟩, ?_⟩
      | refine Len.map ?_
      | refine Len.dropM ?_
      | refine Elem.dropM ?_
      | refine Len.takeM ?_
      | refine Elem.takeM ?_
      | refine Elem.mapK (by assumption) ?_
      | refine Elem.mapI (by omega) (by assumption) ?_
      | refine Elem.mapN (by omega) (fun x hx => ?_)
      | refine Elem.map (by omega) (by omega) (fun x hx => ?_)
      | refine (h1).use ⟨rfl, ?_⟩
      | refine CallX.mk ⟨_, _, (h1).x, rfl, ?_⟩
      | refine Done.mk ⟨rfl, rfl⟩
      | refine Done.mk ⟨congrArg gb ?_, rfl⟩
      | refine Done.mk ⟨?_, rfl⟩
      | refine Done.mk ⟨?_, ?_⟩)
    all_goals first
      | omega
      | rfl
  case neg =>
    rw [if_neg k2] at he
    rw [if_neg k2]
    by_cases hm : 0 ≤ m ∧ m ≤ 40320
    case neg => rw [if_neg hm] at he; cases he
    have h1 := yardRestR_ok d (metersV d).1 m hd (fun t ht => by have := hM.short ht; omega) (rest_Ok hd hM hm) hm (turnE_rest hm d.Trucks 0 (May.all hM)) (depotE_meters (May_iff.2 (rest_May hM hm)))
    generalize (metersV (restD d m)).1 = ms' at *
    generalize restD d m = D at *
    generalize (metersV d).1 = ms at *
    clear he hd hM
    obtain ⟨b, w, oo, l⟩ := d
    obtain ⟨b', w', oo', l'⟩ := D
    obtain ⟨oa, ob, oc, od, ol⟩ := o
    refine ICalls.of_body Try.func28 rfl Try.call28 rfl (Nat.le_of_ble_eq_true rfl) (fun _ => none) rfl ?_
    repeat' ((conv => whnf); first
      | refine Br.yes rfl ?_
      | refine Br.no rfl ?_
      | refine Br.yes (beq_self_eq_true _) ?_
      | refine Br.not ?_
      | refine Br.yes (decide_eq_true (by assumption)) ?_
      | refine Br.no (decide_eq_false (by assumption)) ?_
      | refine Br.yes (beq_iff_eq.2 (by assumption)) ?_
      | refine Br.no (beq_eq_false_iff_ne.2 (by assumption)) ?_
      | refine Br.yes (bne_iff_ne.2 (by assumption)) ?_
      | (refine Br.dec (fun h => ?_) (fun h => ?_) <;> try dsimp only at h)
      | (refine Br.beqI (fun h => ?_) (fun h => ?_) <;> try dsimp only at h)
      | (refine Br.bneI (fun h => ?_) (fun h => ?_) <;> try dsimp only at h)
      | refine Br.mk (fun h => ?_) (fun h => ?_)
      | refine Need.mk (by first | kernel_rfl | exact ⟨of_decide_eq_true rfl, of_decide_eq_true rfl⟩ | omega) ?_
      | refine Len.mk ⟨_, by simp only [List.length_cons, List.length_nil, Nat.reduceAdd, Int.cast_ofNat_Int]; rfl, ?_⟩
      | refine Wr.lit _ (by simp only [Int.reduceAdd, Int.reduceSub, Int.reduceMul]; rfl) (by decide) ?_
      | refine Wr.fit (by omega) ?_
      | refine Wr.fit (by dsimp only; omega) ?_
      | refine Elem.mk ⟨_, ⟨of_decide_eq_true rfl, rfl⟩, ?_⟩
      | refine Len.map ?_
      | refine Len.dropM ?_
      | refine Elem.dropM ?_
      | refine Len.takeM ?_
      | refine Elem.takeM ?_
      | refine Elem.mapK (by assumption) ?_
      | refine Elem.mapI (by omega) (by assumption) ?_
      | refine Elem.mapN (by omega) (fun x hx => ?_)
      | refine Elem.map (by omega) (by omega) (fun x hx => ?_)
      | refine (h1).use ⟨rfl, ?_⟩
      | refine CallX.mk ⟨_, _, (h1).x, rfl, ?_⟩
      | refine Done.mk ⟨rfl, rfl⟩
      | refine Done.mk ⟨congrArg gb ?_, rfl⟩
      | refine Done.mk ⟨?_, rfl⟩
      | refine Done.mk ⟨?_, ?_⟩)
    all_goals first
      | omega
      | rfl

set_option maxRecDepth 100000 in
set_option maxHeartbeats 4000000 in
theorem lawTurnR_err (d : Depot) (s : StepS) (hd : d.Ok) (hM : d.May) (hs : s.Fit) (he : ¬ stepE d s = 0) : ICalls Try.prog 28 [yardR d (metersV d).1, s.g] [] (Done (.tup [nilP, gi (stepE d s)]) []) := by
  unfold stepE at he ⊢
  obtain ⟨so, si, sp⟩ := hs
  obtain ⟨k, o, ids, id, p, m⟩ := s
  simp only at *
  by_cases h0 : k = 0
  case pos =>
    rw [if_pos h0] at he ⊢
    have h1 := yardAddR_err d (metersV d).1 o hd so he
    generalize addE d o = E at *
    generalize (metersV d).1 = ms at *
    subst h0
    clear he hd hM
    obtain ⟨b, w, oo, l⟩ := d
    obtain ⟨oa, ob, oc, od, ol⟩ := o
    refine ICalls.of_body Try.func28 rfl Try.call28 rfl (Nat.le_of_ble_eq_true rfl) (fun _ => none) rfl ?_
    repeat' ((conv => whnf); first
      | refine Br.yes rfl ?_
      | refine Br.no rfl ?_
      | refine Br.yes (beq_self_eq_true _) ?_
      | refine Br.not ?_
      | refine Br.yes (decide_eq_true (by assumption)) ?_
      | refine Br.no (decide_eq_false (by assumption)) ?_
      | refine Br.yes (beq_iff_eq.2 (by assumption)) ?_
      | refine Br.no (beq_eq_false_iff_ne.2 (by assumption)) ?_
      | refine Br.yes (bne_iff_ne.2 (by assumption)) ?_
      | (refine Br.dec (fun h => ?_) (fun h => ?_) <;> try dsimp only at h)
      | (refine Br.beqI (fun h => ?_) (fun h => ?_) <;> try dsimp only at h)
      | (refine Br.bneI (fun h => ?_) (fun h => ?_) <;> try dsimp only at h)
      | refine Br.mk (fun h => ?_) (fun h => ?_)
      | refine Need.mk (by first | kernel_rfl | exact ⟨of_decide_eq_true rfl, of_decide_eq_true rfl⟩ | omega) ?_
      | refine Len.mk ⟨_, by simp only [List.length_cons, List.length_nil, Nat.reduceAdd, Int.cast_ofNat_Int]; rfl, ?_⟩
      | refine Wr.lit _ (by simp only [Int.reduceAdd, Int.reduceSub, Int.reduceMul]; rfl) (by decide) ?_
      | refine Wr.fit (by omega) ?_
      | refine Wr.fit (by dsimp only; omega) ?_
      | refine Elem.mk ⟨_, ⟨of_decide_eq_true rfl, rfl⟩, ?_⟩
      | refine Len.map ?_
      | refine Len.dropM ?_
      | refine Elem.dropM ?_
      | refine Len.takeM ?_
      | refine Elem.takeM ?_
      | refine Elem.mapK (by assumption) ?_
      | refine Elem.mapI (by omega) (by assumption) ?_
      | refine Elem.mapN (by omega) (fun x hx => ?_)
      | refine Elem.map (by omega) (by omega) (fun x hx => ?_)
      | refine (h1).use ⟨rfl, ?_⟩
      | refine CallX.mk ⟨_, _, (h1).x, rfl, ?_⟩
      | refine Done.mk ⟨rfl, rfl⟩
      | refine Done.mk ⟨congrArg gb ?_, rfl⟩
      | refine Done.mk ⟨?_, rfl⟩
      | refine Done.mk ⟨?_, ?_⟩)
    all_goals first
      | omega
      | rfl
  case neg =>
  rw [if_neg h0] at he ⊢
  by_cases k1 : k = 1
  case pos =>
    rw [if_pos k1] at he ⊢
    have h1 := yardDropR_err d (metersV d).1 ids hd si he
    generalize (dropsO d.Orders ids).2 = E at *
    generalize (metersV d).1 = ms at *
    subst k1
    clear he hd hM
    obtain ⟨b, w, oo, l⟩ := d
    obtain ⟨oa, ob, oc, od, ol⟩ := o
    refine ICalls.of_body Try.func28 rfl Try.call28 rfl (Nat.le_of_ble_eq_true rfl) (fun _ => none) rfl ?_
    repeat' ((conv => whnf); first
      | refine Br.yes rfl ?_
      | refine Br.no rfl ?_
      | refine Br.yes (beq_self_eq_true _) ?_
      | refine Br.not ?_
      | refine Br.yes (decide_eq_true (by assumption)) ?_
      | refine Br.no (decide_eq_false (by assumption)) ?_
      | refine Br.yes (beq_iff_eq.2 (by assumption)) ?_
      | refine Br.no (beq_eq_false_iff_ne.2 (by assumption)) ?_
      | refine Br.yes (bne_iff_ne.2 (by assumption)) ?_
      | (refine Br.dec (fun h => ?_) (fun h => ?_) <;> try dsimp only at h)
      | (refine Br.beqI (fun h => ?_) (fun h => ?_) <;> try dsimp only at h)
      | (refine Br.bneI (fun h => ?_) (fun h => ?_) <;> try dsimp only at h)
      | refine Br.mk (fun h => ?_) (fun h => ?_)
      | refine Need.mk (by first | kernel_rfl | exact ⟨of_decide_eq_true rfl, of_decide_eq_true rfl⟩ | omega) ?_
      | refine Len.mk ⟨_, by simp only [List.length_cons, List.length_nil, Nat.reduceAdd, Int.cast_ofNat_Int]; rfl, ?_⟩
      | refine Wr.lit _ (by simp only [Int.reduceAdd, Int.reduceSub, Int.reduceMul]; rfl) (by decide) ?_
      | refine Wr.fit (by omega) ?_
      | refine Wr.fit (by dsimp only; omega) ?_
      | refine Elem.mk ⟨_, ⟨of_decide_eq_true rfl, rfl⟩, ?_⟩
      | refine Len.map ?_
      | refine Len.dropM ?_
      | refine Elem.dropM ?_
      | refine Len.takeM ?_
      | refine Elem.takeM ?_
      | refine Elem.mapK (by assumption) ?_
      | refine Elem.mapI (by omega) (by assumption) ?_
      | refine Elem.mapN (by omega) (fun x hx => ?_)
      | refine Elem.map (by omega) (by omega) (fun x hx => ?_)
      | refine (h1).use ⟨rfl, ?_⟩
      | refine CallX.mk ⟨_, _, (h1).x, rfl, ?_⟩
      | refine Done.mk ⟨rfl, rfl⟩
      | refine Done.mk ⟨congrArg gb ?_, rfl⟩
      | refine Done.mk ⟨?_, rfl⟩
      | refine Done.mk ⟨?_, ?_⟩)
    all_goals first
      | omega
      | rfl
  case neg =>
  rw [if_neg k1] at he ⊢
  by_cases k2 : k = 2
  case pos =>
    rw [if_pos k2] at he ⊢
    have h1 := yardMoreR_err d (metersV d).1 id p (by omega) hd (more_Ok hd hM id sp) he
    generalize moreE d id p = E at *
    generalize (metersV d).1 = ms at *
    subst k2
    clear he hd hM
    obtain ⟨b, w, oo, l⟩ := d
    obtain ⟨oa, ob, oc, od, ol⟩ := o
    refine ICalls.of_body Try.func28 rfl Try.call28 rfl (Nat.le_of_ble_eq_true rfl) (fun _ => none) rfl ?_
    repeat' ((conv => whnf); first
      | refine Br.yes rfl ?_
      | refine Br.no rfl ?_
      | refine Br.yes (beq_self_eq_true _) ?_
      | refine Br.not ?_
      | refine Br.yes (decide_eq_true (by assumption)) ?_
      | refine Br.no (decide_eq_false (by assumption)) ?_
      | refine Br.yes (beq_iff_eq.2 (by assumption)) ?_
      | refine Br.no (beq_eq_false_iff_ne.2 (by assumption)) ?_
      | refine Br.yes (bne_iff_ne.2 (by assumption)) ?_
      | (refine Br.dec (fun h => ?_) (fun h => ?_) <;> try dsimp only at h)
      | (refine Br.beqI (fun h => ?_) (fun h => ?_) <;> try dsimp only at h)
      | (refine Br.bneI (fun h => ?_) (fun h => ?_) <;> try dsimp only at h)
      | refine Br.mk (fun h => ?_) (fun h => ?_)
      | refine Need.mk (by first | kernel_rfl | exact ⟨of_decide_eq_true rfl, of_decide_eq_true rfl⟩ | omega) ?_
      | refine Len.mk ⟨_, by simp only [List.length_cons, List.length_nil, Nat.reduceAdd, Int.cast_ofNat_Int]; rfl, ?_⟩
      | refine Wr.lit _ (by simp only [Int.reduceAdd, Int.reduceSub, Int.reduceMul]; rfl) (by decide) ?_
      | refine Wr.fit (by omega) ?_
      | refine Wr.fit (by dsimp only; omega) ?_
      | refine Elem.mk ⟨_, ⟨of_decide_eq_true rfl, rfl⟩, ?_⟩
      | refine Len.map ?_
      | refine Len.dropM ?_
      | refine Elem.dropM ?_
      | refine Len.takeM ?_
      | refine Elem.takeM ?_
      | refine Elem.mapK (by assumption) ?_
      | refine Elem.mapI (by omega) (by assumption) ?_
      | refine Elem.mapN (by omega) (fun x hx => ?_)
      | refine Elem.map (by omega) (by omega) (fun x hx => ?_)
      | refine (h1).use ⟨rfl, ?_⟩
      | refine CallX.mk ⟨_, _, (h1).x, rfl, ?_⟩
      | refine Done.mk ⟨rfl, rfl⟩
      | refine Done.mk ⟨congrArg gb ?_, rfl⟩
      | refine Done.mk ⟨?_, rfl⟩
      | refine Done.mk ⟨?_, ?_⟩)
    all_goals first
      | omega
      | rfl
  case neg =>
    rw [if_neg k2] at he ⊢
    by_cases hm : 0 ≤ m ∧ m ≤ 40320
    case pos => rw [if_pos hm] at he; exact absurd rfl he
    rw [if_neg hm]
    have h1 := yardRestR_err d (metersV d).1 m hm
    generalize (metersV d).1 = ms at *
    clear he hd hM
    obtain ⟨b, w, oo, l⟩ := d
    obtain ⟨oa, ob, oc, od, ol⟩ := o
    refine ICalls.of_body Try.func28 rfl Try.call28 rfl (Nat.le_of_ble_eq_true rfl) (fun _ => none) rfl ?_
    repeat' ((conv => whnf); first
      | refine Br.yes rfl ?_
      | refine Br.no rfl ?_
      | refine Br.yes (beq_self_eq_true _) ?_
      | refine Br.not ?_
      | refine Br.yes (decide_eq_true (by assumption)) ?_
      | refine Br.no (decide_eq_false (by assumption)) ?_
      | refine Br.yes (beq_iff_eq.2 (by assumption)) ?_
      | refine Br.no (beq_eq_false_iff_ne.2 (by assumption)) ?_
      | refine Br.yes (bne_iff_ne.2 (by assumption)) ?_
      | (refine Br.dec (fun h => ?_) (fun h => ?_) <;> try dsimp only at h)
      | (refine Br.beqI (fun h => ?_) (fun h => ?_) <;> try dsimp only at h)
      | (refine Br.bneI (fun h => ?_) (fun h => ?_) <;> try dsimp only at h)
      | refine Br.mk (fun h => ?_) (fun h => ?_)
      | refine Need.mk (by first | kernel_rfl | exact ⟨of_decide_eq_true rfl, of_decide_eq_true rfl⟩ | omega) ?_
      | refine Len.mk ⟨_, by simp only [List.length_cons, List.length_nil, Nat.reduceAdd, Int.cast_ofNat_Int]; rfl, ?_⟩
      | refine Wr.lit _ (by simp only [Int.reduceAdd, Int.reduceSub, Int.reduceMul]; rfl) (by decide) ?_
      | refine Wr.fit (by omega) ?_
      | refine Wr.fit (by dsimp only; omega) ?_
      | refine Elem.mk ⟨_, ⟨of_decide_eq_true rfl, rfl⟩, ?_⟩
      | refine Len.map ?_
      | refine Len.dropM ?_
      | refine Elem.dropM ?_
      | refine Len.takeM ?_
      | refine Elem.takeM ?_
      | refine Elem.mapK (by assumption) ?_
      | refine Elem.mapI (by omega) (by assumption) ?_
      | refine Elem.mapN (by omega) (fun x hx => ?_)
      | refine Elem.map (by omega) (by omega) (fun x hx => ?_)
      | refine (h1).use ⟨rfl, ?_⟩
      | refine CallX.mk ⟨_, _, (h1).x, rfl, ?_⟩
      | refine Done.mk ⟨rfl, rfl⟩
      | refine Done.mk ⟨congrArg gb ?_, rfl⟩
      | refine Done.mk ⟨?_, rfl⟩
      | refine Done.mk ⟨?_, ?_⟩)
    all_goals first
      | omega
      | rfl

def pl_K26_1 : Nat → Option (List Nat × List Nat) := (fun k => bif Nat.beq k 10 then some ([1000010, 2, 5, 7, 40, 41, 42], [102]) else none)
def pl_K26_2 : Nat → Option (List Nat × List Nat) := (fun k => bif Nat.beq k 10 then some ([1000010, 2, 5, 7, 40, 41, 42], [102]) else none)
def pl_K26_3 : Nat → Option (List Nat × List Nat) := (fun k => bif Nat.beq k 10 then some ([1000010, 2, 5, 7, 40, 41, 42], [102]) else none)
set_option maxRecDepth 100000 in
set_option maxHeartbeats 4000000 in
theorem depotStays_ok (d : Depot) (l : List StepS) : ICalls Try.prog 6 [d.g, .list 10 (l.map StepS.g) none] [] (Done (gb true) []) := by
  have hL := light30_ok d
  have hal := alive30_ok
  by_cases hd : light30 d = true
  case neg =>
    rw [Bool.eq_false_iff.2 hd] at hL
    obtain ⟨b, w, oo, ll⟩ := d
    clear hd
    refine ICalls.of_body Try.func6 rfl Try.call6 rfl (Nat.le_of_ble_eq_true rfl) pl_K26_1 rfl ?_
    repeat' ((conv => whnf); first
      | refine Br.yes rfl ?_
      | refine Br.no rfl ?_
      | (refine Len.map ?_)
      | refine Br.yes (beq_self_eq_true _) ?_
      | refine Br.not ?_
      | refine Br.yes (decide_eq_true (by assumption)) ?_
      | refine Br.no (decide_eq_false (by assumption)) ?_
      | refine Br.yes (beq_iff_eq.2 (by assumption)) ?_
      | refine Br.no (beq_eq_false_iff_ne.2 (by assumption)) ?_
      | refine Br.yes (bne_iff_ne.2 (by assumption)) ?_
      | (refine Br.dec (fun h => ?_) (fun h => ?_) <;> try dsimp only at h)
      | (refine Br.beqI (fun h => ?_) (fun h => ?_) <;> try dsimp only at h)
      | (refine Br.bneI (fun h => ?_) (fun h => ?_) <;> try dsimp only at h)
      | refine Br.mk (fun h => ?_) (fun h => ?_)
      | refine Need.mk (by first | kernel_rfl | exact ⟨of_decide_eq_true rfl, of_decide_eq_true rfl⟩ | omega) ?_
      | refine Len.mk ⟨_, by simp only [List.length_cons, List.length_nil, Nat.reduceAdd, Int.cast_ofNat_Int]; rfl, ?_⟩
      | refine Wr.lit _ (by simp only [Int.reduceAdd, Int.reduceSub, Int.reduceMul]; rfl) (by decide) ?_
      | refine Wr.fit (by omega) ?_
      | refine Wr.fit (by dsimp only; omega) ?_
      | refine Elem.mk ⟨_, ⟨of_decide_eq_true rfl, rfl⟩, ?_⟩
      | refine Len.map ?_
      | refine Len.dropM ?_
      | refine Elem.dropM ?_
      | refine Len.takeM ?_
      | refine Elem.takeM ?_
      | refine Elem.mapK (by assumption) ?_
      | refine Elem.mapI (by omega) (by assumption) ?_
      | refine Elem.mapN (by omega) (fun x hx => ?_)
      | refine Elem.map (by omega) (by omega) (fun x hx => ?_)
      | refine (hL).use ⟨rfl, ?_⟩
      | refine (hal).use ⟨rfl, ?_⟩
      | refine CallX.mk ⟨_, _, (hL).x, rfl, ?_⟩
      | refine CallX.mk ⟨_, _, (hal).x, rfl, ?_⟩
      | refine Done.mk ⟨rfl, rfl⟩
      | refine Done.mk ⟨congrArg gb ?_, rfl⟩
      | refine Done.mk ⟨?_, rfl⟩
      | refine Done.mk ⟨?_, ?_⟩)
    all_goals (simp at *; done)
  case pos =>
  rw [hd] at hL
  have hdo := light30_Ok hd
  clear hd
  by_cases he : (depotE d).2.2 = 0
  case neg =>
    have h0 := new_err d hdo he
    generalize (depotE d).2.2 = E at *
    clear hdo
    obtain ⟨b, w, oo, ll⟩ := d
    refine ICalls.of_body Try.func6 rfl Try.call6 rfl (Nat.le_of_ble_eq_true rfl) pl_K26_2 rfl ?_
    repeat' ((conv => whnf); first
      | refine Br.yes rfl ?_
      | refine Br.no rfl ?_
      | (refine Len.map ?_)
      | refine Br.yes (beq_self_eq_true _) ?_
      | refine Br.not ?_
      | refine Br.yes (decide_eq_true (by assumption)) ?_
      | refine Br.no (decide_eq_false (by assumption)) ?_
      | refine Br.yes (beq_iff_eq.2 (by assumption)) ?_
      | refine Br.no (beq_eq_false_iff_ne.2 (by assumption)) ?_
      | refine Br.yes (bne_iff_ne.2 (by assumption)) ?_
      | (refine Br.dec (fun h => ?_) (fun h => ?_) <;> try dsimp only at h)
      | (refine Br.beqI (fun h => ?_) (fun h => ?_) <;> try dsimp only at h)
      | (refine Br.bneI (fun h => ?_) (fun h => ?_) <;> try dsimp only at h)
      | refine Br.mk (fun h => ?_) (fun h => ?_)
      | refine Need.mk (by first | kernel_rfl | exact ⟨of_decide_eq_true rfl, of_decide_eq_true rfl⟩ | omega) ?_
      | refine Len.mk ⟨_, by simp only [List.length_cons, List.length_nil, Nat.reduceAdd, Int.cast_ofNat_Int]; rfl, ?_⟩
      | refine Wr.lit _ (by simp only [Int.reduceAdd, Int.reduceSub, Int.reduceMul]; rfl) (by decide) ?_
      | refine Wr.fit (by omega) ?_
      | refine Wr.fit (by dsimp only; omega) ?_
      | refine Elem.mk ⟨_, ⟨of_decide_eq_true rfl, rfl⟩, ?_⟩
      | refine Len.map ?_
      | refine Len.dropM ?_
      | refine Elem.dropM ?_
      | refine Len.takeM ?_
      | refine Elem.takeM ?_
      | refine Elem.mapK (by assumption) ?_
      | refine Elem.mapI (by omega) (by assumption) ?_
      | refine Elem.mapN (by omega) (fun x hx => ?_)
      | refine Elem.map (by omega) (by omega) (fun x hx => ?_)
      | refine (hL).use ⟨rfl, ?_⟩
      | refine (hal).use ⟨rfl, ?_⟩
      | refine (h0).use ⟨rfl, ?_⟩
      | refine CallX.mk ⟨_, _, (hL).x, rfl, ?_⟩
      | refine CallX.mk ⟨_, _, (hal).x, rfl, ?_⟩
      | refine CallX.mk ⟨_, _, (h0).x, rfl, ?_⟩
      | refine Done.mk ⟨rfl, rfl⟩
      | refine Done.mk ⟨congrArg gb ?_, rfl⟩
      | refine Done.mk ⟨?_, rfl⟩
      | refine Done.mk ⟨?_, ?_⟩)
    all_goals first
      | omega
      | (simp at *; done)
  case pos =>
  have h0 := newR_ok d hdo he
  have hdM := May_iff.1 he
  have hF1 : ∀ s : StepS, fewS s = true → ICalls Try.prog 27 [s.g] [] (Done (gb true) []) := fun s h => h ▸ few_ok s
  have hF0 : ∀ s : StepS, ¬ fewS s = true → ICalls Try.prog 27 [s.g] [] (Done (gb false) []) := fun s h => (Bool.eq_false_iff.2 h) ▸ few_ok s
  have hT := fun (c : Depot) (hO : c.Ok) => toldR_ok c (metersV c).1 hO
  have hS : ∀ c : Depot, c.Ok → ICalls Try.prog 24 [c.g, c.g] [] (Done (gb true) []) := fun c hO => by have := depotSame_ok c c hO hO; rw [sameD_self] at this; exact this
  have hC : ∀ c : Depot, c.Ok → c.May → ICalls Try.prog 29 [c.g] [] (Done (.tup [gi (depotE c).1, gi (depotE c).2.1, gi 0]) []) := fun c hO hM => by
    have h := depotCheck_ok c hO
    unfold tripI at h
    rw [May_iff.2 hM] at h
    exact h
  clear he
  refine ICalls.of_body Try.func6 rfl Try.call6 rfl (Nat.le_of_ble_eq_true rfl) pl_K26_3 rfl ?_
  repeat' ((conv => whnf); first
    | refine Br.yes rfl ?_
    | refine Br.no rfl ?_
    | (refine Len.map ?_)
    | (refine Elem.mapN (by omega) (fun s hs => ?_); by_cases hf : fewS s = true; by_cases he : stepE cur s = 0)
    | (refine ILoop.ov 1000010 (fun ((i, cur) : Nat × Depot) => [(42, gi i), (7, yardR cur (metersV cur).1)]) (fun ((i, cur) : Nat × Depot) => []) (fun ((i, cur) : Nat × Depot) => cur.Ok ∧ cur.May) (fun ((i, cur) : Nat × Depot) => l.length - i) ((0, d)) (by exact rfl) ?_; (conv => whnf); refine Start.mk rfl ?_ ?_; (try dsimp only); rotate_left; rintro ⟨i, cur⟩ ⟨hO, hM⟩)
    | (refine Again.mk ⟨((i + 1, cur)), rfl, ?_, ?_⟩ <;> try dsimp only)
    | (refine Again.mk ⟨((i + 1, stepD cur s)), rfl, ?_, ?_⟩ <;> try dsimp only)
    | refine Br.yes (beq_self_eq_true _) ?_
    | refine Br.not ?_
    | refine Br.yes (decide_eq_true (by assumption)) ?_
    | refine Br.no (decide_eq_false (by assumption)) ?_
    | refine Br.yes (beq_iff_eq.2 (by assumption)) ?_
    | refine Br.no (beq_eq_false_iff_ne.2 (by assumption)) ?_
    | refine Br.yes (bne_iff_ne.2 (by assumption)) ?_
    | (refine Br.dec (fun h => ?_) (fun h => ?_) <;> try dsimp only at h)
    | (refine Br.beqI (fun h => ?_) (fun h => ?_) <;> try dsimp only at h)
    | (refine Br.bneI (fun h => ?_) (fun h => ?_) <;> try dsimp only at h)
    | refine Br.mk (fun h => ?_) (fun h => ?_)
    | refine Need.mk (by first | kernel_rfl | exact ⟨of_decide_eq_true rfl, of_decide_eq_true rfl⟩ | omega) ?_
    | refine Len.mk ⟨_, by simp only [List.length_cons, List.length_nil, Nat.reduceAdd, Int.cast_ofNat_Int]; rfl, ?_⟩
    | refine Wr.lit _ (by simp only [Int.reduceAdd, Int.reduceSub, Int.reduceMul]; rfl) (by decide) ?_
    | refine Wr.fit (by omega) ?_
    | refine Wr.fit (by dsimp only; omega) ?_
    | refine Elem.mk ⟨_, ⟨of_decide_eq_true rfl, rfl⟩, ?_⟩
    | refine Len.map ?_
    | refine Len.dropM ?_
    | refine Elem.dropM ?_
    | refine Len.takeM ?_
    | refine Elem.takeM ?_
    | refine Elem.mapK (by assumption) ?_
    | refine Elem.mapI (by omega) (by assumption) ?_
    | refine Elem.mapN (by omega) (fun x hx => ?_)
    | refine Elem.map (by omega) (by omega) (fun x hx => ?_)
    | refine (hL).use ⟨rfl, ?_⟩
    | refine (hal).use ⟨rfl, ?_⟩
    | refine (h0).use ⟨rfl, ?_⟩
    | refine (hF1 s hf).use ⟨rfl, ?_⟩
    | refine (hF0 s hf).use ⟨rfl, ?_⟩
    | refine (hT cur hO).use ⟨rfl, ?_⟩
    | refine (hT d hdo).use ⟨rfl, ?_⟩
    | refine (hS cur hO).use ⟨rfl, ?_⟩
    | refine (hS d hdo).use ⟨rfl, ?_⟩
    | refine (hC cur hO hM).use ⟨rfl, ?_⟩
    | refine (lawTurnR_ok cur s hO hM (fewS_Fit hf) he).use ⟨rfl, ?_⟩
    | refine (lawTurnR_err cur s hO hM (fewS_Fit hf) he).use ⟨rfl, ?_⟩
    | refine (hT (stepD cur s) (stepD_Ok hO hM (fewS_Fit hf) he)).use ⟨rfl, ?_⟩
    | refine (hC (stepD cur s) (stepD_Ok hO hM (fewS_Fit hf) he) (stepD_May hM he)).use ⟨rfl, ?_⟩
    | refine CallX.mk ⟨_, _, (hL).x, rfl, ?_⟩
    | refine CallX.mk ⟨_, _, (hal).x, rfl, ?_⟩
    | refine CallX.mk ⟨_, _, (h0).x, rfl, ?_⟩
    | refine CallX.mk ⟨_, _, (hF1 s hf).x, rfl, ?_⟩
    | refine CallX.mk ⟨_, _, (hF0 s hf).x, rfl, ?_⟩
    | refine CallX.mk ⟨_, _, (hT cur hO).x, rfl, ?_⟩
    | refine CallX.mk ⟨_, _, (hT d hdo).x, rfl, ?_⟩
    | refine CallX.mk ⟨_, _, (hS cur hO).x, rfl, ?_⟩
    | refine CallX.mk ⟨_, _, (hS d hdo).x, rfl, ?_⟩
    | refine CallX.mk ⟨_, _, (hC cur hO hM).x, rfl, ?_⟩
    | refine CallX.mk ⟨_, _, (lawTurnR_ok cur s hO hM (fewS_Fit hf) he).x, rfl, ?_⟩
    | refine CallX.mk ⟨_, _, (lawTurnR_err cur s hO hM (fewS_Fit hf) he).x, rfl, ?_⟩
    | refine CallX.mk ⟨_, _, (hT (stepD cur s) (stepD_Ok hO hM (fewS_Fit hf) he)).x, rfl, ?_⟩
    | refine CallX.mk ⟨_, _, (hC (stepD cur s) (stepD_Ok hO hM (fewS_Fit hf) he) (stepD_May hM he)).x, rfl, ?_⟩
    | refine Done.mk ⟨rfl, rfl⟩
    | refine Done.mk ⟨congrArg gb ?_, rfl⟩
    | refine Done.mk ⟨?_, rfl⟩
    | refine Done.mk ⟨?_, ?_⟩)
  all_goals first
    | omega
    | exact ⟨hdo, hdM⟩
    | exact ⟨hO, hM⟩
    | exact ⟨stepD_Ok hO hM (fewS_Fit hf) he, stepD_May hM he⟩
    | (exact absurd (by assumption) he)
    | rfl
    | (simp_all)

theorem depotStays_law (g0 : GV) (h0 : ArgOk depotTy g0) (g1 : GV) (h1 : ArgOk (.list stepTy) g1) :
    ICalls Try.prog 6 [g0, g1] [] (Done (gb true) []) := by
  obtain ⟨d, rfl⟩ := depot_of h0
  obtain ⟨s, rfl, _⟩ := list_of (enc := StepS.g) (Good := fun _ => True) (el_agg step_wt) h1
  exact depotStays_ok d s

end Go.Hl
