/- Contracts of functions, bundle K28; proved for whatever the arguments' types allow, as each theorem says. -/
import Derived.Test.YtoofplbjpkgdgaaK24
import Derived.Test.YtoofplbjpkgdgaaK27
import Derived.Test.YtoofplbjpkgdgaaK18
import Derived.Test.YtoofplbjpkgdgaaK9
import Derived.Test.YtoofplbjpkgdgaaK6

/- Chapter 30: the law Back.  -/
set_option linter.unusedVariables false
set_option linter.unusedSimpArgs false
namespace Go.Hl
open Go.Gh Go.Proofs

def partsC (id : Int) (r s : List Rec) : List GV := [gi id, .list 3 (recs r) none, .list 3 (recs s) none]
def partsTy : Ty := .agg [.int, .list recTy, .list recTy]
theorem parts_wt (gs : List GV) (h : WTs [.int, .list recTy, .list recTy] gs) : ∃ x : Int × List Rec × List Rec, gs = partsC x.1 x.2.1 x.2.2 ∧ True := by
  obtain ⟨id, u1, rfl, _, h⟩ := WTs.int h
  obtain ⟨r, u2, rfl, _, h⟩ := WTs.list el_rec h
  obtain ⟨s, u3, rfl, _, h⟩ := WTs.list el_rec h
  cases WTs.nil h
  exact ⟨(id, r, s), rfl, trivial⟩

set_option maxRecDepth 100000 in
set_option maxHeartbeats 4000000 in
theorem depotBack_ok (d : Depot) (o : Order) (id : Int) (r s : List Rec) : ICalls Try.prog 5 [d.g, o.g, .agg (partsC id r s)] [] (Done (gb true) []) := by
  have hL := light30_ok d
  have hal := alive30_ok
  by_cases hd : light30 d = true
  case neg =>
    rw [Bool.eq_false_iff.2 hd] at hL
    obtain ⟨b, w, oo, ll⟩ := d
    obtain ⟨oa, ob, oc, od, ol⟩ := o
    show ICalls _ _ [_, .agg [gi oa, gi ob, gi oc, gi od, .list 2 (ol.map Span.g) none], .agg [gi id, .list 3 (r.map Rec.g) none, .list 3 (s.map Rec.g) none]] _ _
    clear hd
    refine ICalls.of_body Try.func5 rfl Try.call5 rfl (Nat.le_of_ble_eq_true rfl) (fun _ => none) rfl ?_
    repeat' ((conv => whnf); first
      | refine Br.yes rfl ?_
      | refine Br.no rfl ?_
      | (refine Len.map ?_)
      | refine Br.yes (beq_self_eq_true _) ?_
      | refine Br.not ?_
      | refine Br.yes (decide_eq_true (by assumption)) ?_
      | refine Br.no (decide_eq_false (by assumption)) ?_
      | refine Br.yes (beq_iff_eq.2 (by assumption)) ?_
      | refine Br.no (beq_eq_false_iff_ne.2 (by assumption)) ?_
      | refine Br.yes (bne_iff_ne.2 (by assumption)) ?_
      | (refine Br.dec (fun h => ?_) (fun h => ?_) <;> try dsimp only at h)
      | (refine Br.beqI (fun h => ?_) (fun h => ?_) <;> try dsimp only at h)
      | (refine Br.bneI (fun h => ?_) (fun h => ?_) <;> try dsimp only at h)
      | refine Br.mk (fun h => ?_) (fun h => ?_)
      | refine Need.mk (app_need (by first | (simp only [List.length_append, List.length_map, List.length_nil, List.length_cons, List.nil_append, Nat.zero_add, Nat.add_zero]; done) | (simp only [List.length_append, List.length_map, List.length_nil, List.length_cons, List.nil_append, Nat.zero_add, Nat.add_zero]; omega) | omega) (Nat.le_of_ble_eq_true rfl) (by first | (simp only [List.length_append, List.length_map, List.length_nil, List.length_cons, List.nil_append, Nat.zero_add, Nat.add_zero]; done) | (simp only [List.length_append, List.length_map, List.length_nil, List.length_cons, List.nil_append, Nat.zero_add, Nat.add_zero]; omega) | omega)) ?_
      | refine Need.mk (app_need0 (Nat.le_of_ble_eq_true rfl) (by first | (simp only [List.length_append, List.length_map, List.length_nil, List.length_cons, List.nil_append, Nat.zero_add, Nat.add_zero]; done) | (simp only [List.length_append, List.length_map, List.length_nil, List.length_cons, List.nil_append, Nat.zero_add, Nat.add_zero]; omega) | omega)) ?_
      | refine Need.mk (by first | kernel_rfl | exact ⟨of_decide_eq_true rfl, of_decide_eq_true rfl⟩ | omega) ?_
      | refine Len.mk ⟨_, by simp only [List.length_cons, List.length_nil, Nat.reduceAdd, Int.cast_ofNat_Int]; rfl, ?_⟩
      | refine Wr.lit _ (by simp only [Int.reduceAdd, Int.reduceSub, Int.reduceMul]; rfl) (by decide) ?_
      | refine Wr.fit (by omega) ?_
      | refine Wr.fit (by dsimp only; omega) ?_
      | refine Elem.mk ⟨_, ⟨of_decide_eq_true rfl, rfl⟩, ?_⟩
      | refine Len.map ?_
      | refine Len.dropM ?_
      | refine Elem.dropM ?_
      | refine Len.takeM ?_
      | refine Elem.takeM ?_
      | refine Elem.mapK (by assumption) ?_
      | refine Elem.mapI (by omega) (by assumption) ?_
      | refine Elem.mapN (by omega) (fun x hx => ?_)
      | refine Elem.map (by omega) (by omega) (fun x hx => ?_)
      | refine (hL).use ⟨rfl, ?_⟩
      | refine (hal).use ⟨rfl, ?_⟩
      | refine CallX.mk ⟨_, _, (hL).x, rfl, ?_⟩
      | refine CallX.mk ⟨_, _, (hal).x, rfl, ?_⟩
      | refine Done.mk ⟨rfl, rfl⟩
      | refine Done.mk ⟨congrArg gb ?_, rfl⟩
      | refine Done.mk ⟨?_, rfl⟩
      | refine Done.mk ⟨?_, ?_⟩)
    all_goals (simp at *; done)
  case pos =>
  rw [hd] at hL
  have hdo := light30_Ok hd
  clear hd
  by_cases hlen : o.Open.length ≤ 20 ∧ r.length ≤ 30 ∧ s.length ≤ 30
  case neg =>
    obtain ⟨b, w, oo, ll⟩ := d
    obtain ⟨oa, ob, oc, od, ol⟩ := o
    show ICalls _ _ [_, .agg [gi oa, gi ob, gi oc, gi od, .list 2 (ol.map Span.g) none], .agg [gi id, .list 3 (r.map Rec.g) none, .list 3 (s.map Rec.g) none]] _ _
    simp only at hlen
    refine ICalls.of_body Try.func5 rfl Try.call5 rfl (Nat.le_of_ble_eq_true rfl) (fun _ => none) rfl ?_
    repeat' ((conv => whnf); first
      | refine Br.yes rfl ?_
      | refine Br.no rfl ?_
      | (refine Len.map ?_)
      | refine Br.yes (beq_self_eq_true _) ?_
      | refine Br.not ?_
      | refine Br.yes (decide_eq_true (by assumption)) ?_
      | refine Br.no (decide_eq_false (by assumption)) ?_
      | refine Br.yes (beq_iff_eq.2 (by assumption)) ?_
      | refine Br.no (beq_eq_false_iff_ne.2 (by assumption)) ?_
      | refine Br.yes (bne_iff_ne.2 (by assumption)) ?_
      | (refine Br.dec (fun h => ?_) (fun h => ?_) <;> try dsimp only at h)
      | (refine Br.beqI (fun h => ?_) (fun h => ?_) <;> try dsimp only at h)
      | (refine Br.bneI (fun h => ?_) (fun h => ?_) <;> try dsimp only at h)
      | refine Br.mk (fun h => ?_) (fun h => ?_)
      | refine Need.mk (app_need (by first | (simp only [List.length_append, List.length_map, List.length_nil, List.length_cons, List.nil_append, Nat.zero_add, Nat.add_zero]; done) | (simp only [List.length_append, List.length_map, List.length_nil, List.length_cons, List.nil_append, Nat.zero_add, Nat.add_zero]; omega) | omega) (Nat.le_of_ble_eq_true rfl) (by first | (simp only [List.length_append, List.length_map, List.length_nil, List.length_cons, List.nil_append, Nat.zero_add, Nat.add_zero]; done) | (simp only [List.length_append, List.length_map, List.length_nil, List.length_cons, List.nil_append, Nat.zero_add, Nat.add_zero]; omega) | omega)) ?_
      | refine Need.mk (app_need0 (Nat.le_of_ble_eq_true rfl) (by first | (simp only [List.length_append, List.length_map, List.length_nil, List.length_cons, List.nil_append, Nat.zero_add, Nat.add_zero]; done) | (simp only [List.length_append, List.length_map, List.length_nil, List.length_cons, List.nil_append, Nat.zero_add, Nat.add_zero]; omega) | omega)) ?_
      | refine Need.mk (by first | kernel_rfl | exact ⟨of_decide_eq_true rfl, of_decide_eq_true rfl⟩ | omega) ?_
      | refine Len.mk ⟨_, by simp only [List.length_cons, List.length_nil, Nat.reduceAdd, Int.cast_ofNat_Int]; rfl, ?_⟩
      | refine Wr.lit _ (by simp only [Int.reduceAdd, Int.reduceSub, Int.reduceMul]; rfl) (by decide) ?_
      | refine Wr.fit (by omega) ?_
      | refine Wr.fit (by dsimp only; omega) ?_
      | refine Elem.mk ⟨_, ⟨of_decide_eq_true rfl, rfl⟩, ?_⟩
      | refine Len.map ?_
      | refine Len.dropM ?_
      | refine Elem.dropM ?_
      | refine Len.takeM ?_
      | refine Elem.takeM ?_
      | refine Elem.mapK (by assumption) ?_
      | refine Elem.mapI (by omega) (by assumption) ?_
      | refine Elem.mapN (by omega) (fun x hx => ?_)
      | refine Elem.map (by omega) (by omega) (fun x hx => ?_)
      | refine (hL).use ⟨rfl, ?_⟩
      | refine (hal).use ⟨rfl, ?_⟩
      | refine CallX.mk ⟨_, _, (hL).x, rfl, ?_⟩
      | refine CallX.mk ⟨_, _, (hal).x, rfl, ?_⟩
      | refine Done.mk ⟨rfl, rfl⟩
      | refine Done.mk ⟨congrArg gb ?_, rfl⟩
      | refine Done.mk ⟨?_, rfl⟩
      | refine Done.mk ⟨?_, ?_⟩)
    all_goals first
      | omega
      | (simp at *; done)
  case pos =>
  obtain ⟨l1, l2, l3⟩ := hlen
  by_cases he : (depotE d).2.2 = 0
  case neg =>
    have h0 := new_err d hdo he
    generalize (depotE d).2.2 = E at *
    clear hdo
    obtain ⟨b, w, oo, ll⟩ := d
    obtain ⟨oa, ob, oc, od, ol⟩ := o
    show ICalls _ _ [_, .agg [gi oa, gi ob, gi oc, gi od, .list 2 (ol.map Span.g) none], .agg [gi id, .list 3 (r.map Rec.g) none, .list 3 (s.map Rec.g) none]] _ _
    refine ICalls.of_body Try.func5 rfl Try.call5 rfl (Nat.le_of_ble_eq_true rfl) (fun _ => none) rfl ?_
    repeat' ((conv => whnf); first
      | refine Br.yes rfl ?_
      | refine Br.no rfl ?_
      | (refine Len.map ?_)
      | refine Br.yes (beq_self_eq_true _) ?_
      | refine Br.not ?_
      | refine Br.yes (decide_eq_true (by assumption)) ?_
      | refine Br.no (decide_eq_false (by assumption)) ?_
      | refine Br.yes (beq_iff_eq.2 (by assumption)) ?_
      | refine Br.no (beq_eq_false_iff_ne.2 (by assumption)) ?_
      | refine Br.yes (bne_iff_ne.2 (by assumption)) ?_
      | (refine Br.dec (fun h => ?_) (fun h => ?_) <;> try dsimp only at h)
      | (refine Br.beqI (fun h => ?_) (fun h => ?_) <;> try dsimp only at h)
      | (refine Br.bneI (fun h => ?_) (fun h => ?_) <;> try dsimp only at h)
      | refine Br.mk (fun h => ?_) (fun h => ?_)
      | refine Need.mk (app_need (by first | (simp only [List.length_append, List.length_map, List.length_nil, List.length_cons, List.nil_append, Nat.zero_add, Nat.add_zero]; done) | (simp only [List.length_append, List.length_map, List.length_nil, List.length_cons, List.nil_append, Nat.zero_add, Nat.add_zero]; omega) | omega) (Nat.le_of_ble_eq_true rfl) (by first | (simp only [List.length_append, List.length_map, List.length_nil, List.length_cons, List.nil_append, Nat.zero_add, Nat.add_zero]; done) | (simp only [List.length_append, List.length_map, List.length_nil, List.length_cons, List.nil_append, Nat.zero_add, Nat.add_zero]; omega) | omega)) ?_
      | refine Need.mk (app_need0 (Nat.le_of_ble_eq_true rfl) (by first | (simp only [List.length_append, List.length_map, List.length_nil, List.length_cons, List.nil_append, Nat.zero_add, Nat.add_zero]; done) | (simp only [List.length_append, List.length_map, List.length_nil, List.length_cons, List.nil_append, Nat.zero_add, Nat.add_zero]; omega) | omega)) ?_
      | refine Need.mk (by first | kernel_rfl | exact ⟨of_decide_eq_true rfl, of_decide_eq_true rfl⟩ | omega) ?_
      | refine Len.mk ⟨_, by simp only [List.length_cons, List.length_nil, Nat.reduceAdd, Int.cast_ofNat_Int]; rfl, ?_⟩
      | refine Wr.lit _ (by simp only [Int.reduceAdd, Int.reduceSub, Int.reduceMul]; rfl) (by decide) ?_
      | refine Wr.fit (by omega) ?_
      | refine Wr.fit (by dsimp only; omega) ?_
      | refine Elem.mk ⟨_, ⟨of_decide_eq_true rfl, rfl⟩, ?_⟩
      | refine Len.map ?_
      | refine Len.dropM ?_
      | refine Elem.dropM ?_
      | refine Len.takeM ?_
      | refine Elem.takeM ?_
      | refine Elem.mapK (by assumption) ?_
      | refine Elem.mapI (by omega) (by assumption) ?_
      | refine Elem.mapN (by omega) (fun x hx => ?_)
      | refine Elem.map (by omega) (by omega) (fun x hx => ?_)
      | refine (hL).use ⟨rfl, ?_⟩
      | refine (hal).use ⟨rfl, ?_⟩
      | refine (h0).use ⟨rfl, ?_⟩
      | refine CallX.mk ⟨_, _, (hL).x, rfl, ?_⟩
      | refine CallX.mk ⟨_, _, (hal).x, rfl, ?_⟩
      | refine CallX.mk ⟨_, _, (h0).x, rfl, ?_⟩
      | refine Done.mk ⟨rfl, rfl⟩
      | refine Done.mk ⟨congrArg gb ?_, rfl⟩
      | refine Done.mk ⟨?_, rfl⟩
      | refine Done.mk ⟨?_, ?_⟩)
    all_goals first
      | omega
      | (simp at *; done)
  case pos =>
  have h0 := newR_ok d hdo he
  have hM := May_iff.1 he
  have hT := toldR_ok d (metersV d).1 hdo
  have hS : ICalls Try.prog 24 [d.g, d.g] [] (Done (gb true) []) := by have := depotSame_ok d d hdo hdo; rw [sameD_self] at this; exact this
  clear he
  by_cases hA : addE d o = 0
  case neg =>
    have hA1 := yardAddR_err d (metersV d).1 o hdo (by omega) hA
    by_cases hr : moreE d id r = 0
    case neg =>
      have hB := yardMoreR_err d (metersV d).1 id r (by omega) hdo (more_Ok hdo hM id (by omega)) hr
      have hN := yardMoreNil_ok id s
      generalize moreE d id r = E at *
      clear hM hdo
      generalize addE d o = E2 at *
      generalize (metersV d).1 = ms at *
      obtain ⟨b, w, oo, ll⟩ := d
      obtain ⟨oa, ob, oc, od, ol⟩ := o
      show ICalls _ _ [_, .agg [gi oa, gi ob, gi oc, gi od, .list 2 (ol.map Span.g) none], .agg [gi id, .list 3 (r.map Rec.g) none, .list 3 (s.map Rec.g) none]] _ _
      refine ICalls.of_body Try.func5 rfl Try.call5 rfl (Nat.le_of_ble_eq_true rfl) (fun _ => none) rfl ?_
      repeat' ((conv => whnf); first
        | refine Br.yes rfl ?_
        | refine Br.no rfl ?_
        | (refine Len.map ?_)
        | refine Br.yes (beq_self_eq_true _) ?_
        | refine Br.not ?_
        | refine Br.yes (decide_eq_true (by assumption)) ?_
        | refine Br.no (decide_eq_false (by assumption)) ?_
        | refine Br.yes (beq_iff_eq.2 (by assumption)) ?_
        | refine Br.no (beq_eq_false_iff_ne.2 (by assumption)) ?_
        | refine Br.yes (bne_iff_ne.2 (by assumption)) ?_
        | (refine Br.dec (fun h => ?_) (fun h => ?_) <;> try dsimp only at h)
        | (refine Br.beqI (fun h => ?_) (fun h => ?_) <;> try dsimp only at h)
        | (refine Br.bneI (fun h => ?_) (fun h => ?_) <;> try dsimp only at h)
        | refine Br.mk (fun h => ?_) (fun h => ?_)
        | refine Need.mk (app_need (by first | (simp only [List.length_append, List.length_map, List.length_nil, List.length_cons, List.nil_append, Nat.zero_add, Nat.add_zero]; done) | (simp only [List.length_append, List.length_map, List.length_nil, List.length_cons, List.nil_append, Nat.zero_add, Nat.add_zero]; omega) | omega) (Nat.le_of_ble_eq_true rfl) (by first | (simp only [List.length_append, List.length_map, List.length_nil, List.length_cons, List.nil_append, Nat.zero_add, Nat.add_zero]; done) | (simp only [List.length_append, List.length_map, List.length_nil, List.length_cons, List.nil_append, Nat.zero_add, Nat.add_zero]; omega) | omega)) ?_
        | refine Need.mk (app_need0 (Nat.le_of_ble_eq_true rfl) (by first | (simp only [List.length_append, List.length_map, List.length_nil, List.length_cons, List.nil_append, Nat.zero_add, Nat.add_zero]; done) | (simp only [List.length_append, List.length_map, List.length_nil, List.length_cons, List.nil_append, Nat.zero_add, Nat.add_zero]; omega) | omega)) ?_
        | refine Need.mk (by first | kernel_rfl | exact ⟨of_decide_eq_true rfl, of_decide_eq_true rfl⟩ | omega) ?_
        | refine Len.mk ⟨_, by simp only [List.length_cons, List.length_nil, Nat.reduceAdd, Int.cast_ofNat_Int]; rfl, ?_⟩
        | refine Wr.lit _ (by simp only [Int.reduceAdd, Int.reduceSub, Int.reduceMul]; rfl) (by decide) ?_
        | refine Wr.fit (by omega) ?_
        | refine Wr.fit (by dsimp only; omega) ?_
        | refine Elem.mk ⟨_, ⟨of_decide_eq_true rfl, rfl⟩, ?_⟩
        | refine Len.map ?_
        | refine Len.dropM ?_
        | refine Elem.dropM ?_
        | refine Len.takeM ?_
        | refine Elem.takeM ?_
        | refine Elem.mapK (by assumption) ?_
        | refine Elem.mapI (by omega) (by assumption) ?_
        | refine Elem.mapN (by omega) (fun x hx => ?_)
        | refine Elem.map (by omega) (by omega) (fun x hx => ?_)
        | refine (hL).use ⟨rfl, ?_⟩
        | refine (hal).use ⟨rfl, ?_⟩
        | refine (h0).use ⟨rfl, ?_⟩
        | refine (hA1).use ⟨rfl, ?_⟩
        | refine (hB).use ⟨rfl, ?_⟩
        | refine (hN).use ⟨rfl, ?_⟩
        | refine CallX.mk ⟨_, _, (hL).x, rfl, ?_⟩
        | refine CallX.mk ⟨_, _, (hal).x, rfl, ?_⟩
        | refine CallX.mk ⟨_, _, (h0).x, rfl, ?_⟩
        | refine CallX.mk ⟨_, _, (hA1).x, rfl, ?_⟩
        | refine CallX.mk ⟨_, _, (hB).x, rfl, ?_⟩
        | refine CallX.mk ⟨_, _, (hN).x, rfl, ?_⟩
        | refine Done.mk ⟨rfl, rfl⟩
        | refine Done.mk ⟨congrArg gb ?_, rfl⟩
        | refine Done.mk ⟨?_, rfl⟩
        | refine Done.mk ⟨?_, ?_⟩)
      all_goals first
        | omega
        | (simp_all)
    case pos =>
    have hB := yardMoreR_ok d (metersV d).1 id r (by omega) hdo (more_Ok hdo hM id (by omega)) hr
    have hM1 := more_May hM hr
    have hO1 := more_Ok hdo hM id (r := r) (by omega)
    by_cases hs : moreE (moreD d id r) id s = 0
    case neg =>
      have hC := yardMoreR_err (moreD d id r) (metersV (moreD d id r)).1 id s (by omega) hO1 (more_Ok hO1 hM1 id (by omega)) hs
      generalize moreE (moreD d id r) id s = E at *
      clear hM hdo hM1 hO1 hr
      generalize addE d o = E2 at *
      generalize (metersV (moreD d id r)).1 = ms1 at *
      generalize moreD d id r = D1 at *
      generalize (metersV d).1 = ms at *
      obtain ⟨b, w, oo, ll⟩ := d
      obtain ⟨oa, ob, oc, od, ol⟩ := o
      show ICalls _ _ [_, .agg [gi oa, gi ob, gi oc, gi od, .list 2 (ol.map Span.g) none], .agg [gi id, .list 3 (r.map Rec.g) none, .list 3 (s.map Rec.g) none]] _ _
      refine ICalls.of_body Try.func5 rfl Try.call5 rfl (Nat.le_of_ble_eq_true rfl) (fun _ => none) rfl ?_
      repeat' ((conv => whnf); first
        | refine Br.yes rfl ?_
        | refine Br.no rfl ?_
        | (refine Len.map ?_)
        | refine Br.yes (beq_self_eq_true _) ?_
        | refine Br.not ?_
        | refine Br.yes (decide_eq_true (by assumption)) ?_
        | refine Br.no (decide_eq_false (by assumption)) ?_
        | refine Br.yes (beq_iff_eq.2 (by assumption)) ?_
        | refine Br.no (beq_eq_false_iff_ne.2 (by assumption)) ?_
        | refine Br.yes (bne_iff_ne.2 (by assumption)) ?_
        | (refine Br.dec (fun h => ?_) (fun h => ?_) <;> try dsimp only at h)
        | (refine Br.beqI (fun h => ?_) (fun h => ?_) <;> try dsimp only at h)
        | (refine Br.bneI (fun h => ?_) (fun h => ?_) <;> try dsimp only at h)
        | refine Br.mk (fun h => ?_) (fun h => ?_)
        | refine Need.mk (app_need (by first | (simp only [List.length_append, List.length_map, List.length_nil, List.length_cons, List.nil_append, Nat.zero_add, Nat.add_zero]; done) | (simp only [List.length_append, List.length_map, List.length_nil, List.length_cons, List.nil_append, Nat.zero_add, Nat.add_zero]; omega) | omega) (Nat.le_of_ble_eq_true rfl) (by first | (simp only [List.length_append, List.length_map, List.length_nil, List.length_cons, List.nil_append, Nat.zero_add, Nat.add_zero]; done) | (simp only [List.length_append, List.length_map, List.length_nil, List.length_cons, List.nil_append, Nat.zero_add, Nat.add_zero]; omega) | omega)) ?_
        | refine Need.mk (app_need0 (Nat.le_of_ble_eq_true rfl) (by first | (simp only [List.length_append, List.length_map, List.length_nil, List.length_cons, List.nil_append, Nat.zero_add, Nat.add_zero]; done) | (simp only [List.length_append, List.length_map, List.length_nil, List.length_cons, List.nil_append, Nat.zero_add, Nat.add_zero]; omega) | omega)) ?_
        | refine Need.mk (by first | kernel_rfl | exact ⟨of_decide_eq_true rfl, of_decide_eq_true rfl⟩ | omega) ?_
        | refine Len.mk ⟨_, by simp only [List.length_cons, List.length_nil, Nat.reduceAdd, Int.cast_ofNat_Int]; rfl, ?_⟩
        | refine Wr.lit _ (by simp only [Int.reduceAdd, Int.reduceSub, Int.reduceMul]; rfl) (by decide) ?_
        | refine Wr.fit (by omega) ?_
        | refine Wr.fit (by dsimp only; omega) ?_
        | refine Elem.mk ⟨_, ⟨of_decide_eq_true rfl, rfl⟩, ?_⟩
        | refine Len.map ?_
        | refine Len.dropM ?_
        | refine Elem.dropM ?_
        | refine Len.takeM ?_
        | refine Elem.takeM ?_
        | refine Elem.mapK (by assumption) ?_
        | refine Elem.mapI (by omega) (by assumption) ?_
        | refine Elem.mapN (by omega) (fun x hx => ?_)
        | refine Elem.map (by omega) (by omega) (fun x hx => ?_)
        | refine (hL).use ⟨rfl, ?_⟩
        | refine (hal).use ⟨rfl, ?_⟩
        | refine (h0).use ⟨rfl, ?_⟩
        | refine (hA1).use ⟨rfl, ?_⟩
        | refine (hB).use ⟨rfl, ?_⟩
        | refine (hC).use ⟨rfl, ?_⟩
        | refine CallX.mk ⟨_, _, (hL).x, rfl, ?_⟩
        | refine CallX.mk ⟨_, _, (hal).x, rfl, ?_⟩
        | refine CallX.mk ⟨_, _, (h0).x, rfl, ?_⟩
        | refine CallX.mk ⟨_, _, (hA1).x, rfl, ?_⟩
        | refine CallX.mk ⟨_, _, (hB).x, rfl, ?_⟩
        | refine CallX.mk ⟨_, _, (hC).x, rfl, ?_⟩
        | refine Done.mk ⟨rfl, rfl⟩
        | refine Done.mk ⟨congrArg gb ?_, rfl⟩
        | refine Done.mk ⟨?_, rfl⟩
        | refine Done.mk ⟨?_, ?_⟩)
      all_goals first
        | omega
        | (simp_all)
    case pos =>
    have hC := yardMoreR_ok (moreD d id r) (metersV (moreD d id r)).1 id s (by omega) hO1 (more_Ok hO1 hM1 id (by omega)) hs
    obtain ⟨two1, two2⟩ := more_two hM hr hs
    have hD := yardMoreR_ok d (metersV d).1 id (r ++ s) (by rw [List.length_append]; omega) hdo (more_Ok hdo hM id (by rw [List.length_append]; omega)) two1
    rw [two2] at hD
    have hO2 := more_Ok hO1 hM1 id (r := s) (by omega)
    have hT2 := toldR_ok (moreD (moreD d id r) id s) (metersV (moreD (moreD d id r) id s)).1 hO2
    have hS2 : ICalls Try.prog 24 [(moreD (moreD d id r) id s).g, (moreD (moreD d id r) id s).g] [] (Done (gb true) []) := by have := depotSame_ok _ _ hO2 hO2; rw [sameD_self] at this; exact this
    rw [show recs (r ++ s) = r.map Rec.g ++ s.map Rec.g from List.map_append] at hD
    clear hM hdo hM1 hO1 hr two1 two2 hO2 hs
    generalize addE d o = E2 at *
    generalize (metersV (moreD (moreD d id r) id s)).1 = ms2 at *
    generalize moreD (moreD d id r) id s = D3 at *
    generalize (metersV (moreD d id r)).1 = ms1 at *
    generalize moreD d id r = D1 at *
    generalize (metersV d).1 = ms at *
    obtain ⟨b, w, oo, ll⟩ := d
    obtain ⟨oa, ob, oc, od, ol⟩ := o
    show ICalls _ _ [_, .agg [gi oa, gi ob, gi oc, gi od, .list 2 (ol.map Span.g) none], .agg [gi id, .list 3 (r.map Rec.g) none, .list 3 (s.map Rec.g) none]] _ _
    refine ICalls.of_body Try.func5 rfl Try.call5 rfl (Nat.le_of_ble_eq_true rfl) (fun _ => none) rfl ?_
    repeat' ((conv => whnf); first
      | refine Br.yes rfl ?_
      | refine Br.no rfl ?_
      | (refine Len.map ?_)
      | refine Br.yes (beq_self_eq_true _) ?_
      | refine Br.not ?_
      | refine Br.yes (decide_eq_true (by assumption)) ?_
      | refine Br.no (decide_eq_false (by assumption)) ?_
      | refine Br.yes (beq_iff_eq.2 (by assumption)) ?_
      | refine Br.no (beq_eq_false_iff_ne.2 (by assumption)) ?_
      | refine Br.yes (bne_iff_ne.2 (by assumption)) ?_
      | (refine Br.dec (fun h => ?_) (fun h => ?_) <;> try dsimp only at h)
      | (refine Br.beqI (fun h => ?_) (fun h => ?_) <;> try dsimp only at h)
      | (refine Br.bneI (fun h => ?_) (fun h => ?_) <;> try dsimp only at h)
      | refine Br.mk (fun h => ?_) (fun h => ?_)
      | refine Need.mk (app_need (by first | (simp only [List.length_append, List.length_map, List.length_nil, List.length_cons, List.nil_append, Nat.zero_add, Nat.add_zero]; done) | (simp only [List.length_append, List.length_map, List.length_nil, List.length_cons, List.nil_append, Nat.zero_add, Nat.add_zero]; omega) | omega) (Nat.le_of_ble_eq_true rfl) (by first | (simp only [List.length_append, List.length_map, List.length_nil, List.length_cons, List.nil_append, Nat.zero_add, Nat.add_zero]; done) | (simp only [List.length_append, List.length_map, List.length_nil, List.length_cons, List.nil_append, Nat.zero_add, Nat.add_zero]; omega) | omega)) ?_
      | refine Need.mk (app_need0 (Nat.le_of_ble_eq_true rfl) (by first | (simp only [List.length_append, List.length_map, List.length_nil, List.length_cons, List.nil_append, Nat.zero_add, Nat.add_zero]; done) | (simp only [List.length_append, List.length_map, List.length_nil, List.length_cons, List.nil_append, Nat.zero_add, Nat.add_zero]; omega) | omega)) ?_
      | refine Need.mk (by first | kernel_rfl | exact ⟨of_decide_eq_true rfl, of_decide_eq_true rfl⟩ | omega) ?_
      | refine Len.mk ⟨_, by simp only [List.length_cons, List.length_nil, Nat.reduceAdd, Int.cast_ofNat_Int]; rfl, ?_⟩
      | refine Wr.lit _ (by simp only [Int.reduceAdd, Int.reduceSub, Int.reduceMul]; rfl) (by decide) ?_
      | refine Wr.fit (by omega) ?_
      | refine Wr.fit (by dsimp only; omega) ?_
      | refine Elem.mk ⟨_, ⟨of_decide_eq_true rfl, rfl⟩, ?_⟩
      | refine Len.map ?_
      | refine Len.dropM ?_
      | refine Elem.dropM ?_
      | refine Len.takeM ?_
      | refine Elem.takeM ?_
      | refine Elem.mapK (by assumption) ?_
      | refine Elem.mapI (by omega) (by assumption) ?_
      | refine Elem.mapN (by omega) (fun x hx => ?_)
      | refine Elem.map (by omega) (by omega) (fun x hx => ?_)
      | refine (hL).use ⟨rfl, ?_⟩
      | refine (hal).use ⟨rfl, ?_⟩
      | refine (h0).use ⟨rfl, ?_⟩
      | refine (hA1).use ⟨rfl, ?_⟩
      | refine (hB).use ⟨rfl, ?_⟩
      | refine (hC).use ⟨rfl, ?_⟩
      | refine (hD).use ⟨rfl, ?_⟩
      | refine (hT2).use ⟨rfl, ?_⟩
      | refine (hS2).use ⟨rfl, ?_⟩
      | refine CallX.mk ⟨_, _, (hL).x, rfl, ?_⟩
      | refine CallX.mk ⟨_, _, (hal).x, rfl, ?_⟩
      | refine CallX.mk ⟨_, _, (h0).x, rfl, ?_⟩
      | refine CallX.mk ⟨_, _, (hA1).x, rfl, ?_⟩
      | refine CallX.mk ⟨_, _, (hB).x, rfl, ?_⟩
      | refine CallX.mk ⟨_, _, (hC).x, rfl, ?_⟩
      | refine CallX.mk ⟨_, _, (hD).x, rfl, ?_⟩
      | refine CallX.mk ⟨_, _, (hT2).x, rfl, ?_⟩
      | refine CallX.mk ⟨_, _, (hS2).x, rfl, ?_⟩
      | refine Done.mk ⟨rfl, rfl⟩
      | refine Done.mk ⟨congrArg gb ?_, rfl⟩
      | refine Done.mk ⟨?_, rfl⟩
      | refine Done.mk ⟨?_, ?_⟩)
    all_goals first
      | omega
      | (simp_all)
  case pos =>
  have hA1 := yardAddR_ok d (metersV d).1 o hdo (by omega) hA
  obtain ⟨bk1, bk2⟩ := back_D hA
  have hA2 : ICalls Try.prog 23 [yardR (addD d o) (metersV d).1, .list 1 [gi o.ID] none] [] (Done (.tup [yardR d (metersV d).1, gi 0]) []) := by
    have := yardDropR_ok (addD d o) (metersV d).1 [o.ID] (addD_Ok hdo (by omega)) (by simp) bk1
    rw [bk2] at this
    exact this
  clear bk1 bk2
  by_cases hr : moreE d id r = 0
  case neg =>
    have hB := yardMoreR_err d (metersV d).1 id r (by omega) hdo (more_Ok hdo hM id (by omega)) hr
    have hN := yardMoreNil_ok id s
    generalize moreE d id r = E at *
    clear hM hdo
    clear hA
    generalize (metersV d).1 = ms at *
    generalize addD d o = D2 at *
    obtain ⟨b, w, oo, ll⟩ := d
    obtain ⟨oa, ob, oc, od, ol⟩ := o
    show ICalls _ _ [_, .agg [gi oa, gi ob, gi oc, gi od, .list 2 (ol.map Span.g) none], .agg [gi id, .list 3 (r.map Rec.g) none, .list 3 (s.map Rec.g) none]] _ _
    refine ICalls.of_body Try.func5 rfl Try.call5 rfl (Nat.le_of_ble_eq_true rfl) (fun _ => none) rfl ?_
    repeat' ((conv => whnf); first
      | refine Br.yes rfl ?_
      | refine Br.no rfl ?_
      | (refine Len.map ?_)
      | refine Br.yes (beq_self_eq_true _) ?_
      | refine Br.not ?_
      | refine Br.yes (decide_eq_true (by assumption)) ?_
      | refine Br.no (decide_eq_false (by assumption)) ?_
      | refine Br.yes (beq_iff_eq.2 (by assumption)) ?_
      | refine Br.no (beq_eq_false_iff_ne.2 (by assumption)) ?_
      | refine Br.yes (bne_iff_ne.2 (by assumption)) ?_
      | (refine Br.dec (fun h => ?_) (fun h => ?_) <;> try dsimp only at h)
      | (refine Br.beqI (fun h => ?_) (fun h => ?_) <;> try dsimp only at h)
      | (refine Br.bneI (fun h => ?_) (fun h => ?_) <;> try dsimp only at h)
      | refine Br.mk (fun h => ?_) (fun h => ?_)
      | refine Need.mk (app_need (by first | (simp only [List.length_append, List.length_map, List.length_nil, List.length_cons, List.nil_append, Nat.zero_add, Nat.add_zero]; done) | (simp only [List.length_append, List.length_map, List.length_nil, List.length_cons, List.nil_append, Nat.zero_add, Nat.add_zero]; omega) | omega) (Nat.le_of_ble_eq_true rfl) (by first | (simp only [List.length_append, List.length_map, List.length_nil, List.length_cons, List.nil_append, Nat.zero_add, Nat.add_zero]; done) | (simp only [List.length_append, List.length_map, List.length_nil, List.length_cons, List.nil_append, Nat.zero_add, Nat.add_zero]; omega) | omega)) ?_
      | refine Need.mk (app_need0 (Nat.le_of_ble_eq_true rfl) (by first | (simp only [List.length_append, List.length_map, List.length_nil, List.length_cons, List.nil_append, Nat.zero_add, Nat.add_zero]; done) | (simp only [List.length_append, List.length_map, List.length_nil, List.length_cons, List.nil_append, Nat.zero_add, Nat.add_zero]; omega) | omega)) ?_
      | refine Need.mk (by first | kernel_rfl | exact ⟨of_decide_eq_true rfl, of_decide_eq_true rfl⟩ | omega) ?_
      | refine Len.mk ⟨_, by simp only [List.length_cons, List.length_nil, Nat.reduceAdd, Int.cast_ofNat_Int]; rfl, ?_⟩
      | refine Wr.lit _ (by simp only [Int.reduceAdd, Int.reduceSub, Int.reduceMul]; rfl) (by decide) ?_
      | refine Wr.fit (by omega) ?_
      | refine Wr.fit (by dsimp only; omega) ?_
      | refine Elem.mk ⟨_, ⟨of_decide_eq_true rfl, rfl⟩, ?_⟩
      | refine Len.map ?_
      | refine Len.dropM ?_
      | refine Elem.dropM ?_
      | refine Len.takeM ?_
      | refine Elem.takeM ?_
      | refine Elem.mapK (by assumption) ?_
      | refine Elem.mapI (by omega) (by assumption) ?_
      | refine Elem.mapN (by omega) (fun x hx => ?_)
      | refine Elem.map (by omega) (by omega) (fun x hx => ?_)
      | refine (hL).use ⟨rfl, ?_⟩
      | refine (hal).use ⟨rfl, ?_⟩
      | refine (h0).use ⟨rfl, ?_⟩
      | refine (hA1).use ⟨rfl, ?_⟩
      | refine (hA2).use ⟨rfl, ?_⟩
      | refine (hT).use ⟨rfl, ?_⟩
      | refine (hS).use ⟨rfl, ?_⟩
      | refine (hB).use ⟨rfl, ?_⟩
      | refine (hN).use ⟨rfl, ?_⟩
      | refine CallX.mk ⟨_, _, (hL).x, rfl, ?_⟩
      | refine CallX.mk ⟨_, _, (hal).x, rfl, ?_⟩
      | refine CallX.mk ⟨_, _, (h0).x, rfl, ?_⟩
      | refine CallX.mk ⟨_, _, (hA1).x, rfl, ?_⟩
      | refine CallX.mk ⟨_, _, (hA2).x, rfl, ?_⟩
      | refine CallX.mk ⟨_, _, (hT).x, rfl, ?_⟩
      | refine CallX.mk ⟨_, _, (hS).x, rfl, ?_⟩
      | refine CallX.mk ⟨_, _, (hB).x, rfl, ?_⟩
      | refine CallX.mk ⟨_, _, (hN).x, rfl, ?_⟩
      | refine Done.mk ⟨rfl, rfl⟩
      | refine Done.mk ⟨congrArg gb ?_, rfl⟩
      | refine Done.mk ⟨?_, rfl⟩
      | refine Done.mk ⟨?_, ?_⟩)
    all_goals first
      | omega
      | (simp_all)
  case pos =>
  have hB := yardMoreR_ok d (metersV d).1 id r (by omega) hdo (more_Ok hdo hM id (by omega)) hr
  have hM1 := more_May hM hr
  have hO1 := more_Ok hdo hM id (r := r) (by omega)
  by_cases hs : moreE (moreD d id r) id s = 0
  case neg =>
    have hC := yardMoreR_err (moreD d id r) (metersV (moreD d id r)).1 id s (by omega) hO1 (more_Ok hO1 hM1 id (by omega)) hs
    generalize moreE (moreD d id r) id s = E at *
    clear hM hdo hM1 hO1 hr
    clear hA
    generalize (metersV (moreD d id r)).1 = ms1 at *
    generalize moreD d id r = D1 at *
    generalize (metersV d).1 = ms at *
    generalize addD d o = D2 at *
    obtain ⟨b, w, oo, ll⟩ := d
    obtain ⟨oa, ob, oc, od, ol⟩ := o
    show ICalls _ _ [_, .agg [gi oa, gi ob, gi oc, gi od, .list 2 (ol.map Span.g) none], .agg [gi id, .list 3 (r.map Rec.g) none, .list 3 (s.map Rec.g) none]] _ _
    refine ICalls.of_body Try.func5 rfl Try.call5 rfl (Nat.le_of_ble_eq_true rfl) (fun _ => none) rfl ?_
    repeat' ((conv => whnf); first
      | refine Br.yes rfl ?_
      | refine Br.no rfl ?_
      | (refine Len.map ?_)
      | refine Br.yes (beq_self_eq_true _) ?_
      | refine Br.not ?_
      | refine Br.yes (decide_eq_true (by assumption)) ?_
      | refine Br.no (decide_eq_false (by assumption)) ?_
      | refine Br.yes (beq_iff_eq.2 (by assumption)) ?_
      | refine Br.no (beq_eq_false_iff_ne.2 (by assumption)) ?_
      | refine Br.yes (bne_iff_ne.2 (by assumption)) ?_
      | (refine Br.dec (fun h => ?_) (fun h => ?_) <;> try dsimp only at h)
      | (refine Br.beqI (fun h => ?_) (fun h => ?_) <;> try dsimp only at h)
      | (refine Br.bneI (fun h => ?_) (fun h => ?_) <;> try dsimp only at h)
      | refine Br.mk (fun h => ?_) (fun h => ?_)
      | refine Need.mk (app_need (by first | (simp only [List.length_append, List.length_map, List.length_nil, List.length_cons, List.nil_append, Nat.zero_add, Nat.add_zero]; done) | (simp only [List.length_append, List.length_map, List.length_nil, List.length_cons, List.nil_append, Nat.zero_add, Nat.add_zero]; omega) | omega) (Nat.le_of_ble_eq_true rfl) (by first | (simp only [List.length_append, List.length_map, List.length_nil, List.length_cons, List.nil_append, Nat.zero_add, Nat.add_zero]; done) | (simp only [List.length_append, List.length_map, List.length_nil, List.length_cons, List.nil_append, Nat.zero_add, Nat.add_zero]; omega) | omega)) ?_
      | refine Need.mk (app_need0 (Nat.le_of_ble_eq_true rfl) (by first | (simp only [List.length_append, List.length_map, List.length_nil, List.length_cons, List.nil_append, Nat.zero_add, Nat.add_zero]; done) | (simp only [List.length_append, List.length_map, List.length_nil, List.length_cons, List.nil_append, Nat.zero_add, Nat.add_zero]; omega) | omega)) ?_
      | refine Need.mk (by first | kernel_rfl | exact ⟨of_decide_eq_true rfl, of_decide_eq_true rfl⟩ | omega) ?_
      | refine Len.mk ⟨_, by simp only [List.length_cons, List.length_nil, Nat.reduceAdd, Int.cast_ofNat_Int]; rfl, ?_⟩
      | refine Wr.lit _ (by simp only [Int.reduceAdd, Int.reduceSub, Int.reduceMul]; rfl) (by decide) ?_
      | refine Wr.fit (by omega) ?_
      | refine Wr.fit (by dsimp only; omega) ?_
      | refine Elem.mk ⟨_, ⟨of_decide_eq_true rfl, rfl⟩, ?_⟩
      | refine Len.map ?_
      | refine Len.dropM ?_
      | refine Elem.dropM ?_
      | refine Len.takeM ?_
      | refine Elem.takeM ?_
      | refine Elem.mapK (by assumption) ?_
      | refine Elem.mapI (by omega) (by assumption) ?_
      | refine Elem.mapN (by omega) (fun x hx => ?_)
      | refine Elem.map (by omega) (by omega) (fun x hx => ?_)
      | refine (hL).use ⟨rfl, ?_⟩
      | refine (hal).use ⟨rfl, ?_⟩
      | refine (h0).use ⟨rfl, ?_⟩
      | refine (hA1).use ⟨rfl, ?_⟩
      | refine (hA2).use ⟨rfl, ?_⟩
      | refine (hT).use ⟨rfl, ?_⟩
      | refine (hS).use ⟨rfl, ?_⟩
      | refine (hB).use ⟨rfl, ?_⟩
      | refine (hC).use ⟨rfl, ?_⟩
      | refine CallX.mk ⟨_, _, (hL).x, rfl, ?_⟩
      | refine CallX.mk ⟨_, _, (hal).x, rfl, ?_⟩
      | refine CallX.mk ⟨_, _, (h0).x, rfl, ?_⟩
      | refine CallX.mk ⟨_, _, (hA1).x, rfl, ?_⟩
      | refine CallX.mk ⟨_, _, (hA2).x, rfl, ?_⟩
      | refine CallX.mk ⟨_, _, (hT).x, rfl, ?_⟩
      | refine CallX.mk ⟨_, _, (hS).x, rfl, ?_⟩
      | refine CallX.mk ⟨_, _, (hB).x, rfl, ?_⟩
      | refine CallX.mk ⟨_, _, (hC).x, rfl, ?_⟩
      | refine Done.mk ⟨rfl, rfl⟩
      | refine Done.mk ⟨congrArg gb ?_, rfl⟩
      | refine Done.mk ⟨?_, rfl⟩
      | refine Done.mk ⟨?_, ?_⟩)
    all_goals first
      | omega
      | (simp_all)
  case pos =>
  have hC := yardMoreR_ok (moreD d id r) (metersV (moreD d id r)).1 id s (by omega) hO1 (more_Ok hO1 hM1 id (by omega)) hs
  obtain ⟨two1, two2⟩ := more_two hM hr hs
  have hD := yardMoreR_ok d (metersV d).1 id (r ++ s) (by rw [List.length_append]; omega) hdo (more_Ok hdo hM id (by rw [List.length_append]; omega)) two1
  rw [two2] at hD
  have hO2 := more_Ok hO1 hM1 id (r := s) (by omega)
  have hT2 := toldR_ok (moreD (moreD d id r) id s) (metersV (moreD (moreD d id r) id s)).1 hO2
  have hS2 : ICalls Try.prog 24 [(moreD (moreD d id r) id s).g, (moreD (moreD d id r) id s).g] [] (Done (gb true) []) := by have := depotSame_ok _ _ hO2 hO2; rw [sameD_self] at this; exact this
  rw [show recs (r ++ s) = r.map Rec.g ++ s.map Rec.g from List.map_append] at hD
  clear hM hdo hM1 hO1 hr two1 two2 hO2 hs
  clear hA
  generalize (metersV (moreD (moreD d id r) id s)).1 = ms2 at *
  generalize moreD (moreD d id r) id s = D3 at *
  generalize (metersV (moreD d id r)).1 = ms1 at *
  generalize moreD d id r = D1 at *
  generalize (metersV d).1 = ms at *
  generalize addD d o = D2 at *
  obtain ⟨b, w, oo, ll⟩ := d
  obtain ⟨oa, ob, oc, od, ol⟩ := o
  show ICalls _ _ [_, .agg [gi oa, gi ob, gi oc, gi od, .list 2 (ol.map Span.g) none], .agg [gi id, .list 3 (r.map Rec.g) none, .list 3 (s.map Rec.g) none]] _ _
  refine ICalls.of_body Try.func5 rfl Try.call5 rfl (Nat.le_of_ble_eq_true rfl) (fun _ => none) rfl ?_
  repeat' ((conv => whnf); first
    | refine Br.yes rfl ?_
    | refine Br.no rfl ?_
    | (refine Len.map ?_)
    | refine Br.yes (beq_self_eq_true _) ?_
    | refine Br.not ?_
    | refine Br.yes (decide_eq_true (by assumption)) ?_
    | refine Br.no (decide_eq_false (by assumption)) ?_
    | refine Br.yes (beq_iff_eq.2 (by assumption)) ?_
    | refine Br.no (beq_eq_false_iff_ne.2 (by assumption)) ?_
    | refine Br.yes (bne_iff_ne.2 (by assumption)) ?_
    | (refine Br.dec (fun h => ?_) (fun h => ?_) <;> try dsimp only at h)
    | (refine Br.beqI (fun h => ?_) (fun h => ?_) <;> try dsimp only at h)
    | (refine Br.bneI (fun h => ?_) (fun h => ?_) <;> try dsimp only at h)
    | refine Br.mk (fun h => ?_) (fun h => ?_)
    | refine Need.mk (app_need (by first | (simp only [List.length_append, List.length_map, List.length_nil, List.length_cons, List.nil_append, Nat.zero_add, Nat.add_zero]; done) | (simp only [List.length_append, List.length_map, List.length_nil, List.length_cons, List.nil_append, Nat.zero_add, Nat.add_zero]; omega) | omega) (Nat.le_of_ble_eq_true rfl) (by first | (simp only [List.length_append, List.length_map, List.length_nil, List.length_cons, List.nil_append, Nat.zero_add, Nat.add_zero]; done) | (simp only [List.length_append, List.length_map, List.length_nil, List.length_cons, List.nil_append, Nat.zero_add, Nat.add_zero]; omega) | omega)) ?_
    | refine Need.mk (app_need0 (Nat.le_of_ble_eq_true rfl) (by first | (simp only [List.length_append, List.length_map, List.length_nil, List.length_cons, List.nil_append, Nat.zero_add, Nat.add_zero]; done) | (simp only [List.length_append, List.length_map, List.length_nil, List.length_cons, List.nil_append, Nat.zero_add, Nat.add_zero]; omega) | omega)) ?_
    | refine Need.mk (by first | kernel_rfl | exact ⟨of_decide_eq_true rfl, of_decide_eq_true rfl⟩ | omega) ?_
    | refine Len.mk ⟨_, by simp only [List.length_cons, List.length_nil, Nat.reduceAdd, Int.cast_ofNat_Int]; rfl, ?_⟩
    | refine Wr.lit _ (by simp only [Int.reduceAdd, Int.reduceSub, Int.reduceMul]; rfl) (by decide) ?_
    | refine Wr.fit (by omega) ?_
    | refine Wr.fit (by dsimp only; omega) ?_
    | refine Elem.mk ⟨_, ⟨of_decide_eq_true rfl, rfl⟩, ?_⟩
    | refine Len.map ?_
    | refine Len.dropM ?_
    | refine Elem.dropM ?_
    | refine Len.takeM ?_
    | refine Elem.takeM ?_
    | refine Elem.mapK (by assumption) ?_
    | refine Elem.mapI (by omega) (by assumption) ?_
    | refine Elem.mapN (by omega) (fun x hx => ?_)
    | refine Elem.map (by omega) (by omega) (fun x hx => ?_)
    | refine (hL).use ⟨rfl, ?_⟩
    | refine (hal).use ⟨rfl, ?_⟩
    | refine (h0).use ⟨rfl, ?_⟩
    | refine (hA1).use ⟨rfl, ?_⟩
    | refine (hA2).use ⟨rfl, ?_⟩
    | refine (hT).use ⟨rfl, ?_⟩
    | refine (hS).use ⟨rfl, ?_⟩
    | refine (hB).use ⟨rfl, ?_⟩
    | refine (hC).use ⟨rfl, ?_⟩
    | refine (hD).use ⟨rfl, ?_⟩
    | refine (hT2).use ⟨rfl, ?_⟩
    | refine (hS2).use ⟨rfl, ?_⟩
    | refine CallX.mk ⟨_, _, (hL).x, rfl, ?_⟩
    | refine CallX.mk ⟨_, _, (hal).x, rfl, ?_⟩
    | refine CallX.mk ⟨_, _, (h0).x, rfl, ?_⟩
    | refine CallX.mk ⟨_, _, (hA1).x, rfl, ?_⟩
    | refine CallX.mk ⟨_, _, (hA2).x, rfl, ?_⟩
    | refine CallX.mk ⟨_, _, (hT).x, rfl, ?_⟩
    | refine CallX.mk ⟨_, _, (hS).x, rfl, ?_⟩
    | refine CallX.mk ⟨_, _, (hB).x, rfl, ?_⟩
    | refine CallX.mk ⟨_, _, (hC).x, rfl, ?_⟩
    | refine CallX.mk ⟨_, _, (hD).x, rfl, ?_⟩
    | refine CallX.mk ⟨_, _, (hT2).x, rfl, ?_⟩
    | refine CallX.mk ⟨_, _, (hS2).x, rfl, ?_⟩
    | refine Done.mk ⟨rfl, rfl⟩
    | refine Done.mk ⟨congrArg gb ?_, rfl⟩
    | refine Done.mk ⟨?_, rfl⟩
    | refine Done.mk ⟨?_, ?_⟩)
  all_goals first
    | omega
    | (simp_all)

theorem depotBack_law (g0 : GV) (h0 : ArgOk depotTy g0) (g1 : GV) (h1 : ArgOk orderTy g1) (g2 : GV) (h2 : ArgOk partsTy g2) :
    ICalls Try.prog 5 [g0, g1, g2] [] (Done (gb true) []) := by
  obtain ⟨d, rfl⟩ := depot_of h0
  obtain ⟨o, q1, _⟩ := agg_of order_wt h1
  obtain ⟨x, q2, _⟩ := agg_of parts_wt h2
  subst q1
  subst q2
  exact depotBack_ok d o x.1 x.2.1 x.2.2

end Go.Hl
