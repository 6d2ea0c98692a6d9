/- Contracts of functions, bundle K9; proved for whatever the arguments' types allow, as each theorem says. -/
import Derived.Test.YtoofplbjpkgdgaaGreatK6

/- Chapter 30: the laws Checks and Finds.  -/
set_option linter.unusedVariables false
set_option linter.unusedSimpArgs false
namespace Go.Hl
open Go.Gh Go.Proofs

theorem el_row (x : GV) (h : ElOk (.list .int) x) : ∃ l : List Int, x = rowG l ∧ ∀ n, n ∈ l → I64 n := by
  obtain ⟨_, _, h1, h2⟩ := h
  obtain ⟨l, h3, h4⟩ := listWT_of el_int h2
  rw [h1 rfl] at h3
  simp at h3
  exact ⟨l, h3, h4⟩
def depotTy : Ty := .agg [bookTy, .list (.list .int), .list orderTy, .list truckTy]
theorem depot_wt (gs : List GV) (h : WTs [bookTy, .list (.list .int), .list orderTy, .list truckTy] gs) : ∃ d : Depot, gs = d.c ∧ True := by
  obtain ⟨a, r, rfl, ha, h⟩ := h
  obtain ⟨b, rfl, hb⟩ := book_wt ha
  obtain ⟨w, r, rfl, hw, h⟩ := WTs.list el_row h
  obtain ⟨o, r, rfl, ho, h⟩ := WTs.list el_order h
  obtain ⟨t, r, rfl, ht, h⟩ := WTs.list el_truck h
  cases WTs.nil h
  exact ⟨⟨b, w, o, t⟩, rfl, trivial⟩
theorem depot_of {g : GV} (h : ArgOk depotTy g) : ∃ d : Depot, g = d.g := by
  obtain ⟨d, h1, _⟩ := agg_of depot_wt h
  exact ⟨d, h1⟩
theorem Depot.zero_Ok : Depot.zero.Ok := ⟨fun l h => (by cases h), by decide, by decide, fun l h => (by cases h), by decide, fun l h => (by cases h)⟩

set_option maxRecDepth 100000 in
set_option maxHeartbeats 4000000 in
theorem depotChecks_ok (d o : Depot) : ICalls Tryz.prog 3 [d.g, o.g] [] (Done (gb true) []) := by
  have hL := light30_ok d
  have hM := light30_ok o
  have hal := alive30_ok
  by_cases hd : light30 d = true
  case neg =>
    rw [Bool.eq_false_iff.2 hd] at hL
    obtain ⟨b, w, oo, l⟩ := d
    obtain ⟨b', w', o', l'⟩ := o
    show ICalls _ _ [.agg (b.c ++ [.list 1 (w.map rowG) none, .list 5 (oo.map Order.g) none, .list 6 (l.map Truck.g) none]), .agg (b'.c ++ [.list 1 (w'.map rowG) none, .list 5 (o'.map Order.g) none, .list 6 (l'.map Truck.g) none])] _ _
    refine ICalls.of_body Tryz.func3 rfl Tryz.call3 rfl (Nat.le_of_ble_eq_true rfl) (fun _ => none) rfl ?_
    repeat' ((conv => whnf); first
      | refine Br.yes rfl ?_
      | refine Br.no rfl ?_
      | refine Br.yes (beq_self_eq_true _) ?_
      | refine Br.not ?_
      | refine Br.yes (decide_eq_true (by assumption)) ?_
      | refine Br.no (decide_eq_false (by assumption)) ?_
      | refine Br.yes (beq_iff_eq.2 (by assumption)) ?_
      | refine Br.no (beq_eq_false_iff_ne.2 (by assumption)) ?_
      | refine Br.yes (bne_iff_ne.2 (by assumption)) ?_
      | (refine Br.dec (fun h => ?_) (fun h => ?_) <;> try dsimp only at h)
      | (refine Br.beqI (fun h => ?_) (fun h => ?_) <;> try dsimp only at h)
      | (refine Br.bneI (fun h => ?_) (fun h => ?_) <;> try dsimp only at h)
      | refine Br.mk (fun h => ?_) (fun h => ?_)
      | refine Need.mk (by first | kernel_rfl | exact ⟨of_decide_eq_true rfl, of_decide_eq_true rfl⟩ | omega) ?_
      | refine Len.mk ⟨_, by simp only [List.length_cons, List.length_nil, Nat.reduceAdd, Int.cast_ofNat_Int]; rfl, ?_⟩
      | refine Wr.lit _ (by simp only [Int.reduceAdd, Int.reduceSub, Int.reduceMul]; rfl) (by decide) ?_
      | refine Wr.fit (by omega) ?_
      | refine Wr.fit (by dsimp only; omega) ?_
      | refine Elem.mk ⟨_, ⟨of_decide_eq_true rfl, rfl⟩, ?_⟩
      | refine Len.map ?_
      | refine Len.dropM ?_
      | refine Elem.dropM ?_
      | refine Len.takeM ?_
      | refine Elem.takeM ?_
      | refine Elem.mapK (by assumption) ?_
      | refine Elem.mapI (by omega) (by assumption) ?_
      | refine Elem.mapN (by omega) (fun x hx => ?_)
      | refine Elem.map (by omega) (by omega) (fun x hx => ?_)
      | refine (hL).use ⟨rfl, ?_⟩
      | refine (hM).use ⟨rfl, ?_⟩
      | refine (hal).use ⟨rfl, ?_⟩
      | refine CallX.mk ⟨_, _, (hL).x, rfl, ?_⟩
      | refine CallX.mk ⟨_, _, (hM).x, rfl, ?_⟩
      | refine CallX.mk ⟨_, _, (hal).x, rfl, ?_⟩
      | refine Done.mk ⟨rfl, rfl⟩
      | refine Done.mk ⟨congrArg gb ?_, rfl⟩
      | refine Done.mk ⟨?_, rfl⟩
      | refine Done.mk ⟨?_, ?_⟩)
    all_goals (simp at *; done)
  case pos =>
  rw [hd] at hL
  by_cases ho : light30 o = true
  case neg =>
    rw [Bool.eq_false_iff.2 ho] at hM
    obtain ⟨b, w, oo, l⟩ := d
    obtain ⟨b', w', o', l'⟩ := o
    show ICalls _ _ [.agg (b.c ++ [.list 1 (w.map rowG) none, .list 5 (oo.map Order.g) none, .list 6 (l.map Truck.g) none]), .agg (b'.c ++ [.list 1 (w'.map rowG) none, .list 5 (o'.map Order.g) none, .list 6 (l'.map Truck.g) none])] _ _
    refine ICalls.of_body Tryz.func3 rfl Tryz.call3 rfl (Nat.le_of_ble_eq_true rfl) (fun _ => none) rfl ?_
    repeat' ((conv => whnf); first
      | refine Br.yes rfl ?_
      | refine Br.no rfl ?_
      | refine Br.yes (beq_self_eq_true _) ?_
      | refine Br.not ?_
      | refine Br.yes (decide_eq_true (by assumption)) ?_
      | refine Br.no (decide_eq_false (by assumption)) ?_
      | refine Br.yes (beq_iff_eq.2 (by assumption)) ?_
      | refine Br.no (beq_eq_false_iff_ne.2 (by assumption)) ?_
      | refine Br.yes (bne_iff_ne.2 (by assumption)) ?_
      | (refine Br.dec (fun h => ?_) (fun h => ?_) <;> try dsimp only at h)
      | (refine Br.beqI (fun h => ?_) (fun h => ?_) <;> try dsimp only at h)
      | (refine Br.bneI (fun h => ?_) (fun h => ?_) <;> try dsimp only at h)
      | refine Br.mk (fun h => ?_) (fun h => ?_)
      | refine Need.mk (by first | kernel_rfl | exact ⟨of_decide_eq_true rfl, of_decide_eq_true rfl⟩ | omega) ?_
      | refine Len.mk ⟨_, by simp only [List.length_cons, List.length_nil, Nat.reduceAdd, Int.cast_ofNat_Int]; rfl, ?_⟩
      | refine Wr.lit _ (by simp only [Int.reduceAdd, Int.reduceSub, Int.reduceMul]; rfl) (by decide) ?_
      | refine Wr.fit (by omega) ?_
      | refine Wr.fit (by dsimp only; omega) ?_
      | refine Elem.mk ⟨_, ⟨of_decide_eq_true rfl, rfl⟩, ?_⟩
      | refine Len.map ?_
      | refine Len.dropM ?_
      | refine Elem.dropM ?_
      | refine Len.takeM ?_
      | refine Elem.takeM ?_
      | refine Elem.mapK (by assumption) ?_
      | refine Elem.mapI (by omega) (by assumption) ?_
      | refine Elem.mapN (by omega) (fun x hx => ?_)
      | refine Elem.map (by omega) (by omega) (fun x hx => ?_)
      | refine (hL).use ⟨rfl, ?_⟩
      | refine (hM).use ⟨rfl, ?_⟩
      | refine (hal).use ⟨rfl, ?_⟩
      | refine CallX.mk ⟨_, _, (hL).x, rfl, ?_⟩
      | refine CallX.mk ⟨_, _, (hM).x, rfl, ?_⟩
      | refine CallX.mk ⟨_, _, (hal).x, rfl, ?_⟩
      | refine Done.mk ⟨rfl, rfl⟩
      | refine Done.mk ⟨congrArg gb ?_, rfl⟩
      | refine Done.mk ⟨?_, rfl⟩
      | refine Done.mk ⟨?_, ?_⟩)
    all_goals (simp at *; done)
  case pos =>
  rw [ho] at hM
  have hdo := light30_Ok hd
  have hoo := light30_Ok ho
  have h1 := depotCheck_ok d hdo
  have h2 := refDepot_ok d hdo
  have h3 := depotSame_ok d o hdo hoo
  have h4 := refDepotSame_ok d o hdo hoo
  have h5 := depotSame_ok d d hdo hdo
  have h6 := refDepotSame_ok d d hdo hdo
  rw [sameD_self] at h5 h6
  have h7 := toldNil_ok
  have h8 := (refDepotSame_ok Depot.zero Depot.zero Depot.zero_Ok Depot.zero_Ok).sub (.cons (.agg zeroD_sub) (.cons (.agg zeroD_sub) .nil))
  rw [sameD_self] at h8
  have h9 := told_ok d (metersV d).1 hdo
  generalize sameD d o = q at *
  by_cases he : (depotE d).2.2 = 0
  case neg =>
    have h0 := new_err d hdo he
    generalize depotE d = x at *
    obtain ⟨x1, x2, x3⟩ := x
    simp only at he
    clear hdo hoo h9
    obtain ⟨b, w, oo, l⟩ := d
    obtain ⟨b', w', o', l'⟩ := o
    clear hd ho
    show ICalls _ _ [.agg (b.c ++ [.list 1 (w.map rowG) none, .list 5 (oo.map Order.g) none, .list 6 (l.map Truck.g) none]), .agg (b'.c ++ [.list 1 (w'.map rowG) none, .list 5 (o'.map Order.g) none, .list 6 (l'.map Truck.g) none])] _ _
    refine ICalls.of_body Tryz.func3 rfl Tryz.call3 rfl (Nat.le_of_ble_eq_true rfl) (fun _ => none) rfl ?_
    repeat' ((conv => whnf); first
      | refine Br.yes rfl ?_
      | refine Br.no rfl ?_
      | refine Br.yes (beq_self_eq_true _) ?_
      | refine Br.not ?_
      | refine Br.yes (decide_eq_true (by assumption)) ?_
      | refine Br.no (decide_eq_false (by assumption)) ?_
      | refine Br.yes (beq_iff_eq.2 (by assumption)) ?_
      | refine Br.no (beq_eq_false_iff_ne.2 (by assumption)) ?_
      | refine Br.yes (bne_iff_ne.2 (by assumption)) ?_
      | (refine Br.dec (fun h => ?_) (fun h => ?_) <;> try dsimp only at h)
      | (refine Br.beqI (fun h => ?_) (fun h => ?_) <;> try dsimp only at h)
      | (refine Br.bneI (fun h => ?_) (fun h => ?_) <;> try dsimp only at h)
      | refine Br.mk (fun h => ?_) (fun h => ?_)
      | refine Need.mk (by first | kernel_rfl | exact ⟨of_decide_eq_true rfl, of_decide_eq_true rfl⟩ | omega) ?_
      | refine Len.mk ⟨_, by simp only [List.length_cons, List.length_nil, Nat.reduceAdd, Int.cast_ofNat_Int]; rfl, ?_⟩
      | refine Wr.lit _ (by simp only [Int.reduceAdd, Int.reduceSub, Int.reduceMul]; rfl) (by decide) ?_
      | refine Wr.fit (by omega) ?_
      | refine Wr.fit (by dsimp only; omega) ?_
      | refine Elem.mk ⟨_, ⟨of_decide_eq_true rfl, rfl⟩, ?_⟩
      | refine Len.map ?_
      | refine Len.dropM ?_
      | refine Elem.dropM ?_
      | refine Len.takeM ?_
      | refine Elem.takeM ?_
      | refine Elem.mapK (by assumption) ?_
      | refine Elem.mapI (by omega) (by assumption) ?_
      | refine Elem.mapN (by omega) (fun x hx => ?_)
      | refine Elem.map (by omega) (by omega) (fun x hx => ?_)
      | refine (hL).use ⟨rfl, ?_⟩
      | refine (hM).use ⟨rfl, ?_⟩
      | refine (hal).use ⟨rfl, ?_⟩
      | refine (h0).use ⟨rfl, ?_⟩
      | refine (h1).use ⟨rfl, ?_⟩
      | refine (h2).use ⟨rfl, ?_⟩
      | refine (h3).use ⟨rfl, ?_⟩
      | refine (h4).use ⟨rfl, ?_⟩
      | refine (h5).use ⟨rfl, ?_⟩
      | refine (h7).use ⟨rfl, ?_⟩
      | refine (h8).use ⟨rfl, ?_⟩
      | refine CallX.mk ⟨_, _, (hL).x, rfl, ?_⟩
      | refine CallX.mk ⟨_, _, (hM).x, rfl, ?_⟩
      | refine CallX.mk ⟨_, _, (hal).x, rfl, ?_⟩
      | refine CallX.mk ⟨_, _, (h0).x, rfl, ?_⟩
      | refine CallX.mk ⟨_, _, (h1).x, rfl, ?_⟩
      | refine CallX.mk ⟨_, _, (h2).x, rfl, ?_⟩
      | refine CallX.mk ⟨_, _, (h3).x, rfl, ?_⟩
      | refine CallX.mk ⟨_, _, (h4).x, rfl, ?_⟩
      | refine CallX.mk ⟨_, _, (h5).x, rfl, ?_⟩
      | refine CallX.mk ⟨_, _, (h7).x, rfl, ?_⟩
      | refine CallX.mk ⟨_, _, (h8).x, rfl, ?_⟩
      | refine Done.mk ⟨rfl, rfl⟩
      | refine Done.mk ⟨congrArg gb ?_, rfl⟩
      | refine Done.mk ⟨?_, rfl⟩
      | refine Done.mk ⟨?_, ?_⟩)
    all_goals first
      | omega
      | (simp at *; done)
      | (simp_all; done)
  case pos =>
    have h0 := new_ok d hdo he
    generalize (metersV d).1 = ms at *
    generalize depotE d = x at *
    obtain ⟨x1, x2, x3⟩ := x
    simp only at he
    subst he
    clear hdo hoo
    obtain ⟨b, w, oo, l⟩ := d
    obtain ⟨b', w', o', l'⟩ := o
    clear hd ho
    show ICalls _ _ [.agg (b.c ++ [.list 1 (w.map rowG) none, .list 5 (oo.map Order.g) none, .list 6 (l.map Truck.g) none]), .agg (b'.c ++ [.list 1 (w'.map rowG) none, .list 5 (o'.map Order.g) none, .list 6 (l'.map Truck.g) none])] _ _
    refine ICalls.of_body Tryz.func3 rfl Tryz.call3 rfl (Nat.le_of_ble_eq_true rfl) (fun _ => none) rfl ?_
    repeat' ((conv => whnf); first
      | refine Br.yes rfl ?_
      | refine Br.no rfl ?_
      | refine Br.yes (beq_self_eq_true _) ?_
      | refine Br.not ?_
      | refine Br.yes (decide_eq_true (by assumption)) ?_
      | refine Br.no (decide_eq_false (by assumption)) ?_
      | refine Br.yes (beq_iff_eq.2 (by assumption)) ?_
      | refine Br.no (beq_eq_false_iff_ne.2 (by assumption)) ?_
      | refine Br.yes (bne_iff_ne.2 (by assumption)) ?_
      | (refine Br.dec (fun h => ?_) (fun h => ?_) <;> try dsimp only at h)
      | (refine Br.beqI (fun h => ?_) (fun h => ?_) <;> try dsimp only at h)
      | (refine Br.bneI (fun h => ?_) (fun h => ?_) <;> try dsimp only at h)
      | refine Br.mk (fun h => ?_) (fun h => ?_)
      | refine Need.mk (by first | kernel_rfl | exact ⟨of_decide_eq_true rfl, of_decide_eq_true rfl⟩ | omega) ?_
      | refine Len.mk ⟨_, by simp only [List.length_cons, List.length_nil, Nat.reduceAdd, Int.cast_ofNat_Int]; rfl, ?_⟩
      | refine Wr.lit _ (by simp only [Int.reduceAdd, Int.reduceSub, Int.reduceMul]; rfl) (by decide) ?_
      | refine Wr.fit (by omega) ?_
      | refine Wr.fit (by dsimp only; omega) ?_
      | refine Elem.mk ⟨_, ⟨of_decide_eq_true rfl, rfl⟩, ?_⟩
      | refine Len.map ?_
      | refine Len.dropM ?_
      | refine Elem.dropM ?_
      | refine Len.takeM ?_
      | refine Elem.takeM ?_
      | refine Elem.mapK (by assumption) ?_
      | refine Elem.mapI (by omega) (by assumption) ?_
      | refine Elem.mapN (by omega) (fun x hx => ?_)
      | refine Elem.map (by omega) (by omega) (fun x hx => ?_)
      | refine (hL).use ⟨rfl, ?_⟩
      | refine (hM).use ⟨rfl, ?_⟩
      | refine (hal).use ⟨rfl, ?_⟩
      | refine (h0).use ⟨rfl, ?_⟩
      | refine (h1).use ⟨rfl, ?_⟩
      | refine (h2).use ⟨rfl, ?_⟩
      | refine (h3).use ⟨rfl, ?_⟩
      | refine (h4).use ⟨rfl, ?_⟩
      | refine (h5).use ⟨rfl, ?_⟩
      | refine (h6).use ⟨rfl, ?_⟩
      | refine (h9).use ⟨rfl, ?_⟩
      | refine CallX.mk ⟨_, _, (hL).x, rfl, ?_⟩
      | refine CallX.mk ⟨_, _, (hM).x, rfl, ?_⟩
      | refine CallX.mk ⟨_, _, (hal).x, rfl, ?_⟩
      | refine CallX.mk ⟨_, _, (h0).x, rfl, ?_⟩
      | refine CallX.mk ⟨_, _, (h1).x, rfl, ?_⟩
      | refine CallX.mk ⟨_, _, (h2).x, rfl, ?_⟩
      | refine CallX.mk ⟨_, _, (h3).x, rfl, ?_⟩
      | refine CallX.mk ⟨_, _, (h4).x, rfl, ?_⟩
      | refine CallX.mk ⟨_, _, (h5).x, rfl, ?_⟩
      | refine CallX.mk ⟨_, _, (h6).x, rfl, ?_⟩
      | refine CallX.mk ⟨_, _, (h9).x, rfl, ?_⟩
      | refine Done.mk ⟨rfl, rfl⟩
      | refine Done.mk ⟨congrArg gb ?_, rfl⟩
      | refine Done.mk ⟨?_, rfl⟩
      | refine Done.mk ⟨?_, ?_⟩)
    all_goals first
      | omega
      | (simp at *; done)
      | (simp_all; done)

theorem depotChecks_law (g0 : GV) (h0 : ArgOk depotTy g0) (g1 : GV) (h1 : ArgOk depotTy g1) :
    ICalls Tryz.prog 3 [g0, g1] [] (Done (gb true) []) := by
  obtain ⟨d, rfl⟩ := depot_of h0
  obtain ⟨o, rfl⟩ := depot_of h1
  exact depotChecks_ok d o

end Go.Hl
