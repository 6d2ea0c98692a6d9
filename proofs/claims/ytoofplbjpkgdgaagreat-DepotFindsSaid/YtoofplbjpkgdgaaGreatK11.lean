/- Contracts of functions, bundle K11; proved for whatever the arguments' types allow, as each theorem says. -/
import Derived.Test.YtoofplbjpkgdgaaGreatK10

/- Chapter 30: the law Finds, walked.  -/
set_option linter.unusedVariables false
set_option linter.unusedSimpArgs false
namespace Go.Hl
open Go.Gh Go.Proofs

def meterE (m n : Meter) : Bool := ((m.Now == n.Now) && ((m.Acc == n.Acc) && ((m.Half == n.Half) && ((m.Lie == n.Lie) && ((m.Dawn == n.Dawn) && ((m.Day == n.Day) && ((m.Longers == n.Longers) && ((m.Split == n.Split) && ((m.Reduces == n.Reduces) && ((m.Sabbath == n.Sabbath) && ((m.Brief == n.Brief) && ((m.Week == n.Week) && ((m.Last == n.Last) && ((m.Labour == n.Labour) && true))))))))))))))
theorem meterE_self (m : Meter) : meterE m m = true := by unfold meterE; simp

set_option maxRecDepth 100000 in
set_option maxHeartbeats 4000000 in
/-- A yard is there. -/
theorem finds_yes (d : Depot) (p q x y : Int) (hL : ICalls Tryz.prog 6 [d.g] [] (Done (gb true) [])) (hdo : d.Ok) (he : (depotE d).2.2 = 0) (fo : Order × Bool) (hfo : findO d.Orders p = fo) (ft : Truck × Bool) (hft : findV d.Trucks q = ft) (fm : Meter × Bool) (hfm : meterAt d (metersV d).1 q = fm)
    (ho : ICalls Tryz.prog 19 [fo.1.g, (if fo.2 then fo.1.g else zeroO)] [] (Done (gb true) [])) (ht : ICalls Tryz.prog 20 [ft.1.g, (if ft.2 then ft.1.g else zeroT)] [] (Done (gb true) []))
    (hio : if fo.2 = true then 0 ≤ idxFrom (isOID p) 0 d.Orders ∧ d.Orders[(idxFrom (isOID p) 0 d.Orders).toNat]? = some fo.1 else idxFrom (isOID p) 0 d.Orders = -1)
    (hit : if ft.2 = true then 0 ≤ idxFrom (isID q) 0 d.Trucks ∧ d.Trucks[(idxFrom (isID q) 0 d.Trucks).toNat]? = some ft.1 else idxFrom (isID q) 0 d.Trucks = -1)
    (hmt : fm.2 = ft.2) (hmm : ft.2 = true → (truckMeter d.Book ft.1.Past).1 = fm.1) (hmz : ft.2 = false → fm.1 = Meter.zero) :
    ICalls Tryz.prog 4 [d.g, .agg [gi p, gi q, gi x, gi y]] [] (Done (gb true) []) := by
  have hal := alive30_ok
  have h0 := new_ok d hdo he
  have h1 := yardOrder_ok d (metersV d).1 p hdo
  have h2 := yardTruck_ok d (metersV d).1 q hdo
  have h3 := yardMeter_ok d (metersV d).1 q hdo (by rw [metersV_ok (depotE_meters he)]; simp)
  have h4 := yardWay_ok d (metersV d).1 x y hdo (depotE_sq he)
  have h5 := refMayD_ok d hdo
  rw [show mayD d = true from decide_eq_true he] at h5
  have h6 := refOrderAt_ok d.Orders p (by have := hdo.ol; omega)
  have h7 := refAt_ok d.Trucks q (by have := hdo.tl; omega)
  have h8 := refPlace_ok d.Ways x
  have h9 := refPlace_ok d.Ways y
  have hpast : ∀ (i : Nat) (t : Truck), d.Trucks[i]? = some t → (t.Past.length : Int) ≤ 1000000000 := fun i t hx => by have := hdo.tp t (List.mem_of_getElem? hx); omega
  have h10 : ft.2 = true → ICalls Tryz.prog 23 [d.Book.g, ft.1.g] [] (Done (meterV (truckMeter d.Book ft.1.Past)) []) := fun h => refTruckMeter_ok d.Book ft.1 (by rw [if_pos h] at hit; exact hpast _ _ hit.2)
  have hway := fun h => way_some (depotE_sq he) (a := x) (b := y) h
  have hwno : ¬ (0 ≤ x ∧ x < d.Ways.length ∧ 0 ≤ y ∧ y < d.Ways.length) → wayV d.Ways x y = (0, false) := fun h => if_neg h
  rw [hfo] at h1
  rw [hft] at h2
  rw [hfm] at h3
  generalize idxFrom (isOID p) 0 d.Orders = io at *
  generalize idxFrom (isID q) 0 d.Trucks = it at *
  generalize (metersV d).1 = ms at *
  clear hfo hft hfm he hdo hpast
  obtain ⟨fo1, fo2⟩ := fo
  obtain ⟨ft1, ft2⟩ := ft
  obtain ⟨fm1, fm2⟩ := fm
  simp only at *
  subst hmt
  have h11 : fm2 = true → ∃ e, truckMeter d.Book ft1.Past = (fm1, e) := fun h => ⟨(truckMeter d.Book ft1.Past).2, by rw [← hmm h]⟩
  obtain ⟨b, w, oo, l⟩ := d
  simp only at *
  show ICalls _ _ [.agg (b.c ++ [.list 1 (w.map rowG) none, .list 5 (oo.map Order.g) none, .list 6 (l.map Truck.g) none]), .agg [gi p, gi q, gi x, gi y]] _ _
  by_cases hxy : 0 ≤ x ∧ x < w.length ∧ 0 ≤ y ∧ y < w.length
  case pos =>
    obtain ⟨r, n, hr, hn, hv⟩ := hway hxy
    rw [hv] at h4
    rw [decide_eq_true hxy.1, decide_eq_true hxy.2.1] at h8
    rw [decide_eq_true hxy.2.2.1, decide_eq_true hxy.2.2.2] at h9
    clear hway hwno
    obtain ⟨hx0, _, hy0, _⟩ := hxy
    cases fo2 with
    | true =>
      simp only [if_true] at hio ho
      obtain ⟨hio1, hio2⟩ := hio
      cases fm2 with
      | true =>
        simp only [if_true] at hit ht
        obtain ⟨hit1, hit2⟩ := hit
        obtain ⟨e, h12⟩ := h11 rfl
        have h10 := h10 rfl
        rw [h12] at h10
        clear hmm hmz h11
        refine ICalls.of_body Tryz.func4 rfl Tryz.call4 rfl (Nat.le_of_ble_eq_true rfl) (fun _ => none) rfl ?_
        repeat' ((conv => whnf); first
          | refine Br.yes rfl ?_
          | refine Br.no rfl ?_
          | refine Need.mk (EqRun.flat (by kernel_rfl) rfl) ?_
          | (refine Elem.mapI (by omega) (by assumption) ?_)
          | refine Br.yes (beq_self_eq_true _) ?_
          | refine Br.not ?_
          | refine Br.yes (decide_eq_true (by assumption)) ?_
          | refine Br.no (decide_eq_false (by assumption)) ?_
          | refine Br.yes (beq_iff_eq.2 (by assumption)) ?_
          | refine Br.no (beq_eq_false_iff_ne.2 (by assumption)) ?_
          | refine Br.yes (bne_iff_ne.2 (by assumption)) ?_
          | (refine Br.dec (fun h => ?_) (fun h => ?_) <;> try dsimp only at h)
          | (refine Br.beqI (fun h => ?_) (fun h => ?_) <;> try dsimp only at h)
          | (refine Br.bneI (fun h => ?_) (fun h => ?_) <;> try dsimp only at h)
          | refine Br.mk (fun h => ?_) (fun h => ?_)
          | refine Need.mk (by first | kernel_rfl | exact ⟨of_decide_eq_true rfl, of_decide_eq_true rfl⟩ | omega) ?_
          | refine Len.mk ⟨_, by simp only [List.length_cons, List.length_nil, Nat.reduceAdd, Int.cast_ofNat_Int]; rfl, ?_⟩
          | refine Wr.lit _ (by simp only [Int.reduceAdd, Int.reduceSub, Int.reduceMul]; rfl) (by decide) ?_
          | refine Wr.fit (by omega) ?_
          | refine Wr.fit (by dsimp only; omega) ?_
          | refine Elem.mk ⟨_, ⟨of_decide_eq_true rfl, rfl⟩, ?_⟩
          | refine Len.map ?_
          | refine Len.dropM ?_
          | refine Elem.dropM ?_
          | refine Len.takeM ?_
          | refine Elem.takeM ?_
          | refine Elem.mapK (by assumption) ?_
          | refine Elem.mapI (by omega) (by assumption) ?_
          | refine Elem.mapN (by omega) (fun x hx => ?_)
          | refine Elem.map (by omega) (by omega) (fun x hx => ?_)
          | refine (hL).use ⟨rfl, ?_⟩
          | refine (hal).use ⟨rfl, ?_⟩
          | refine (h0).use ⟨rfl, ?_⟩
          | refine (h1).use ⟨rfl, ?_⟩
          | refine (h2).use ⟨rfl, ?_⟩
          | refine (h3).use ⟨rfl, ?_⟩
          | refine (h4).use ⟨rfl, ?_⟩
          | refine (h5).use ⟨rfl, ?_⟩
          | refine (h6).use ⟨rfl, ?_⟩
          | refine (h7).use ⟨rfl, ?_⟩
          | refine (h8).use ⟨rfl, ?_⟩
          | refine (h9).use ⟨rfl, ?_⟩
          | refine (h10).use ⟨rfl, ?_⟩
          | refine (ho).use ⟨rfl, ?_⟩
          | refine (ht).use ⟨rfl, ?_⟩
          | refine CallX.mk ⟨_, _, (hL).x, rfl, ?_⟩
          | refine CallX.mk ⟨_, _, (hal).x, rfl, ?_⟩
          | refine CallX.mk ⟨_, _, (h0).x, rfl, ?_⟩
          | refine CallX.mk ⟨_, _, (h1).x, rfl, ?_⟩
          | refine CallX.mk ⟨_, _, (h2).x, rfl, ?_⟩
          | refine CallX.mk ⟨_, _, (h3).x, rfl, ?_⟩
          | refine CallX.mk ⟨_, _, (h4).x, rfl, ?_⟩
          | refine CallX.mk ⟨_, _, (h5).x, rfl, ?_⟩
          | refine CallX.mk ⟨_, _, (h6).x, rfl, ?_⟩
          | refine CallX.mk ⟨_, _, (h7).x, rfl, ?_⟩
          | refine CallX.mk ⟨_, _, (h8).x, rfl, ?_⟩
          | refine CallX.mk ⟨_, _, (h9).x, rfl, ?_⟩
          | refine CallX.mk ⟨_, _, (h10).x, rfl, ?_⟩
          | refine CallX.mk ⟨_, _, (ho).x, rfl, ?_⟩
          | refine CallX.mk ⟨_, _, (ht).x, rfl, ?_⟩
          | refine Done.mk ⟨rfl, rfl⟩
          | refine Done.mk ⟨congrArg gb ?_, rfl⟩
          | refine Done.mk ⟨?_, rfl⟩
          | refine Done.mk ⟨?_, ?_⟩)
        all_goals first
          | (rename_i h; exact (h (decide_eq_true (by omega)).symm).elim)
          | (rename_i h; exact (h (decide_eq_false (by omega)).symm).elim)
          | (rename_i h; exact absurd ((meterE_self fm1).symm.trans h) (by decide))
          | rfl
          | (rename_i h; exact absurd h (by decide))
          | (rename_i h; exact absurd rfl h)
          | omega
      | false =>
        simp only [Bool.false_eq_true, if_false] at hit ht
        have hmz := hmz rfl
        subst hmz
        clear hmm h11 h10
        refine ICalls.of_body Tryz.func4 rfl Tryz.call4 rfl (Nat.le_of_ble_eq_true rfl) (fun _ => none) rfl ?_
        repeat' ((conv => whnf); first
          | refine Br.yes rfl ?_
          | refine Br.no rfl ?_
          | refine Need.mk (EqRun.flat (by kernel_rfl) rfl) ?_
          | (refine Elem.mapI (by omega) (by assumption) ?_)
          | refine Br.yes (beq_self_eq_true _) ?_
          | refine Br.not ?_
          | refine Br.yes (decide_eq_true (by assumption)) ?_
          | refine Br.no (decide_eq_false (by assumption)) ?_
          | refine Br.yes (beq_iff_eq.2 (by assumption)) ?_
          | refine Br.no (beq_eq_false_iff_ne.2 (by assumption)) ?_
          | refine Br.yes (bne_iff_ne.2 (by assumption)) ?_
          | (refine Br.dec (fun h => ?_) (fun h => ?_) <;> try dsimp only at h)
          | (refine Br.beqI (fun h => ?_) (fun h => ?_) <;> try dsimp only at h)
          | (refine Br.bneI (fun h => ?_) (fun h => ?_) <;> try dsimp only at h)
          | refine Br.mk (fun h => ?_) (fun h => ?_)
          | refine Need.mk (by first | kernel_rfl | exact ⟨of_decide_eq_true rfl, of_decide_eq_true rfl⟩ | omega) ?_
          | refine Len.mk ⟨_, by simp only [List.length_cons, List.length_nil, Nat.reduceAdd, Int.cast_ofNat_Int]; rfl, ?_⟩
          | refine Wr.lit _ (by simp only [Int.reduceAdd, Int.reduceSub, Int.reduceMul]; rfl) (by decide) ?_
          | refine Wr.fit (by omega) ?_
          | refine Wr.fit (by dsimp only; omega) ?_
          | refine Elem.mk ⟨_, ⟨of_decide_eq_true rfl, rfl⟩, ?_⟩
          | refine Len.map ?_
          | refine Len.dropM ?_
          | refine Elem.dropM ?_
          | refine Len.takeM ?_
          | refine Elem.takeM ?_
          | refine Elem.mapK (by assumption) ?_
          | refine Elem.mapI (by omega) (by assumption) ?_
          | refine Elem.mapN (by omega) (fun x hx => ?_)
          | refine Elem.map (by omega) (by omega) (fun x hx => ?_)
          | refine (hL).use ⟨rfl, ?_⟩
          | refine (hal).use ⟨rfl, ?_⟩
          | refine (h0).use ⟨rfl, ?_⟩
          | refine (h1).use ⟨rfl, ?_⟩
          | refine (h2).use ⟨rfl, ?_⟩
          | refine (h3).use ⟨rfl, ?_⟩
          | refine (h4).use ⟨rfl, ?_⟩
          | refine (h5).use ⟨rfl, ?_⟩
          | refine (h6).use ⟨rfl, ?_⟩
          | refine (h7).use ⟨rfl, ?_⟩
          | refine (h8).use ⟨rfl, ?_⟩
          | refine (h9).use ⟨rfl, ?_⟩
          | refine (ho).use ⟨rfl, ?_⟩
          | refine (ht).use ⟨rfl, ?_⟩
          | refine CallX.mk ⟨_, _, (hL).x, rfl, ?_⟩
          | refine CallX.mk ⟨_, _, (hal).x, rfl, ?_⟩
          | refine CallX.mk ⟨_, _, (h0).x, rfl, ?_⟩
          | refine CallX.mk ⟨_, _, (h1).x, rfl, ?_⟩
          | refine CallX.mk ⟨_, _, (h2).x, rfl, ?_⟩
          | refine CallX.mk ⟨_, _, (h3).x, rfl, ?_⟩
          | refine CallX.mk ⟨_, _, (h4).x, rfl, ?_⟩
          | refine CallX.mk ⟨_, _, (h5).x, rfl, ?_⟩
          | refine CallX.mk ⟨_, _, (h6).x, rfl, ?_⟩
          | refine CallX.mk ⟨_, _, (h7).x, rfl, ?_⟩
          | refine CallX.mk ⟨_, _, (h8).x, rfl, ?_⟩
          | refine CallX.mk ⟨_, _, (h9).x, rfl, ?_⟩
          | refine CallX.mk ⟨_, _, (ho).x, rfl, ?_⟩
          | refine CallX.mk ⟨_, _, (ht).x, rfl, ?_⟩
          | refine Done.mk ⟨rfl, rfl⟩
          | refine Done.mk ⟨congrArg gb ?_, rfl⟩
          | refine Done.mk ⟨?_, rfl⟩
          | refine Done.mk ⟨?_, ?_⟩)
        all_goals first
          | (rename_i h; exact (h (decide_eq_true (by omega)).symm).elim)
          | (rename_i h; exact (h (decide_eq_false (by omega)).symm).elim)
          | (rename_i h; exact absurd ((meterE_self Meter.zero).symm.trans h) (by decide))
          | rfl
          | (rename_i h; exact absurd h (by decide))
          | (rename_i h; exact absurd rfl h)
          | omega
    | false =>
      simp only [Bool.false_eq_true, if_false] at hio ho
      cases fm2 with
      | true =>
        simp only [if_true] at hit ht
        obtain ⟨hit1, hit2⟩ := hit
        obtain ⟨e, h12⟩ := h11 rfl
        have h10 := h10 rfl
        rw [h12] at h10
        clear hmm hmz h11
        refine ICalls.of_body Tryz.func4 rfl Tryz.call4 rfl (Nat.le_of_ble_eq_true rfl) (fun _ => none) rfl ?_
        repeat' ((conv => whnf); first
          | refine Br.yes rfl ?_
          | refine Br.no rfl ?_
          | refine Need.mk (EqRun.flat (by kernel_rfl) rfl) ?_
          | (refine Elem.mapI (by omega) (by assumption) ?_)
          | refine Br.yes (beq_self_eq_true _) ?_
          | refine Br.not ?_
          | refine Br.yes (decide_eq_true (by assumption)) ?_
          | refine Br.no (decide_eq_false (by assumption)) ?_
          | refine Br.yes (beq_iff_eq.2 (by assumption)) ?_
          | refine Br.no (beq_eq_false_iff_ne.2 (by assumption)) ?_
          | refine Br.yes (bne_iff_ne.2 (by assumption)) ?_
          | (refine Br.dec (fun h => ?_) (fun h => ?_) <;> try dsimp only at h)
          | (refine Br.beqI (fun h => ?_) (fun h => ?_) <;> try dsimp only at h)
          | (refine Br.bneI (fun h => ?_) (fun h => ?_) <;> try dsimp only at h)
          | refine Br.mk (fun h => ?_) (fun h => ?_)
          | refine Need.mk (by first | kernel_rfl | exact ⟨of_decide_eq_true rfl, of_decide_eq_true rfl⟩ | omega) ?_
          | refine Len.mk ⟨_, by simp only [List.length_cons, List.length_nil, Nat.reduceAdd, Int.cast_ofNat_Int]; rfl, ?_⟩
          | refine Wr.lit _ (by simp only [Int.reduceAdd, Int.reduceSub, Int.reduceMul]; rfl) (by decide) ?_
          | refine Wr.fit (by omega) ?_
          | refine Wr.fit (by dsimp only; omega) ?_
          | refine Elem.mk ⟨_, ⟨of_decide_eq_true rfl, rfl⟩, ?_⟩
          | refine Len.map ?_
          | refine Len.dropM ?_
          | refine Elem.dropM ?_
          | refine Len.takeM ?_
          | refine Elem.takeM ?_
          | refine Elem.mapK (by assumption) ?_
          | refine Elem.mapI (by omega) (by assumption) ?_
          | refine Elem.mapN (by omega) (fun x hx => ?_)
          | refine Elem.map (by omega) (by omega) (fun x hx => ?_)
          | refine (hL).use ⟨rfl, ?_⟩
          | refine (hal).use ⟨rfl, ?_⟩
          | refine (h0).use ⟨rfl, ?_⟩
          | refine (h1).use ⟨rfl, ?_⟩
          | refine (h2).use ⟨rfl, ?_⟩
          | refine (h3).use ⟨rfl, ?_⟩
          | refine (h4).use ⟨rfl, ?_⟩
          | refine (h5).use ⟨rfl, ?_⟩
          | refine (h6).use ⟨rfl, ?_⟩
          | refine (h7).use ⟨rfl, ?_⟩
          | refine (h8).use ⟨rfl, ?_⟩
          | refine (h9).use ⟨rfl, ?_⟩
          | refine (h10).use ⟨rfl, ?_⟩
          | refine (ho).use ⟨rfl, ?_⟩
          | refine (ht).use ⟨rfl, ?_⟩
          | refine CallX.mk ⟨_, _, (hL).x, rfl, ?_⟩
          | refine CallX.mk ⟨_, _, (hal).x, rfl, ?_⟩
          | refine CallX.mk ⟨_, _, (h0).x, rfl, ?_⟩
          | refine CallX.mk ⟨_, _, (h1).x, rfl, ?_⟩
          | refine CallX.mk ⟨_, _, (h2).x, rfl, ?_⟩
          | refine CallX.mk ⟨_, _, (h3).x, rfl, ?_⟩
          | refine CallX.mk ⟨_, _, (h4).x, rfl, ?_⟩
          | refine CallX.mk ⟨_, _, (h5).x, rfl, ?_⟩
          | refine CallX.mk ⟨_, _, (h6).x, rfl, ?_⟩
          | refine CallX.mk ⟨_, _, (h7).x, rfl, ?_⟩
          | refine CallX.mk ⟨_, _, (h8).x, rfl, ?_⟩
          | refine CallX.mk ⟨_, _, (h9).x, rfl, ?_⟩
          | refine CallX.mk ⟨_, _, (h10).x, rfl, ?_⟩
          | refine CallX.mk ⟨_, _, (ho).x, rfl, ?_⟩
          | refine CallX.mk ⟨_, _, (ht).x, rfl, ?_⟩
          | refine Done.mk ⟨rfl, rfl⟩
          | refine Done.mk ⟨congrArg gb ?_, rfl⟩
          | refine Done.mk ⟨?_, rfl⟩
          | refine Done.mk ⟨?_, ?_⟩)
        all_goals first
          | (rename_i h; exact (h (decide_eq_true (by omega)).symm).elim)
          | (rename_i h; exact (h (decide_eq_false (by omega)).symm).elim)
          | (rename_i h; exact absurd ((meterE_self fm1).symm.trans h) (by decide))
          | rfl
          | (rename_i h; exact absurd h (by decide))
          | (rename_i h; exact absurd rfl h)
          | omega
      | false =>
        simp only [Bool.false_eq_true, if_false] at hit ht
        have hmz := hmz rfl
        subst hmz
        clear hmm h11 h10
        refine ICalls.of_body Tryz.func4 rfl Tryz.call4 rfl (Nat.le_of_ble_eq_true rfl) (fun _ => none) rfl ?_
        repeat' ((conv => whnf); first
          | refine Br.yes rfl ?_
          | refine Br.no rfl ?_
          | refine Need.mk (EqRun.flat (by kernel_rfl) rfl) ?_
          | (refine Elem.mapI (by omega) (by assumption) ?_)
          | refine Br.yes (beq_self_eq_true _) ?_
          | refine Br.not ?_
          | refine Br.yes (decide_eq_true (by assumption)) ?_
          | refine Br.no (decide_eq_false (by assumption)) ?_
          | refine Br.yes (beq_iff_eq.2 (by assumption)) ?_
          | refine Br.no (beq_eq_false_iff_ne.2 (by assumption)) ?_
          | refine Br.yes (bne_iff_ne.2 (by assumption)) ?_
          | (refine Br.dec (fun h => ?_) (fun h => ?_) <;> try dsimp only at h)
          | (refine Br.beqI (fun h => ?_) (fun h => ?_) <;> try dsimp only at h)
          | (refine Br.bneI (fun h => ?_) (fun h => ?_) <;> try dsimp only at h)
          | refine Br.mk (fun h => ?_) (fun h => ?_)
          | refine Need.mk (by first | kernel_rfl | exact ⟨of_decide_eq_true rfl, of_decide_eq_true rfl⟩ | omega) ?_
          | refine Len.mk ⟨_, by simp only [List.length_cons, List.length_nil, Nat.reduceAdd, Int.cast_ofNat_Int]; rfl, ?_⟩
          | refine Wr.lit _ (by simp only [Int.reduceAdd, Int.reduceSub, Int.reduceMul]; rfl) (by decide) ?_
          | refine Wr.fit (by omega) ?_
          | refine Wr.fit (by dsimp only; omega) ?_
          | refine Elem.mk ⟨_, ⟨of_decide_eq_true rfl, rfl⟩, ?_⟩
          | refine Len.map ?_
          | refine Len.dropM ?_
          | refine Elem.dropM ?_
          | refine Len.takeM ?_
          | refine Elem.takeM ?_
          | refine Elem.mapK (by assumption) ?_
          | refine Elem.mapI (by omega) (by assumption) ?_
          | refine Elem.mapN (by omega) (fun x hx => ?_)
          | refine Elem.map (by omega) (by omega) (fun x hx => ?_)
          | refine (hL).use ⟨rfl, ?_⟩
          | refine (hal).use ⟨rfl, ?_⟩
          | refine (h0).use ⟨rfl, ?_⟩
          | refine (h1).use ⟨rfl, ?_⟩
          | refine (h2).use ⟨rfl, ?_⟩
          | refine (h3).use ⟨rfl, ?_⟩
          | refine (h4).use ⟨rfl, ?_⟩
          | refine (h5).use ⟨rfl, ?_⟩
          | refine (h6).use ⟨rfl, ?_⟩
          | refine (h7).use ⟨rfl, ?_⟩
          | refine (h8).use ⟨rfl, ?_⟩
          | refine (h9).use ⟨rfl, ?_⟩
          | refine (ho).use ⟨rfl, ?_⟩
          | refine (ht).use ⟨rfl, ?_⟩
          | refine CallX.mk ⟨_, _, (hL).x, rfl, ?_⟩
          | refine CallX.mk ⟨_, _, (hal).x, rfl, ?_⟩
          | refine CallX.mk ⟨_, _, (h0).x, rfl, ?_⟩
          | refine CallX.mk ⟨_, _, (h1).x, rfl, ?_⟩
          | refine CallX.mk ⟨_, _, (h2).x, rfl, ?_⟩
          | refine CallX.mk ⟨_, _, (h3).x, rfl, ?_⟩
          | refine CallX.mk ⟨_, _, (h4).x, rfl, ?_⟩
          | refine CallX.mk ⟨_, _, (h5).x, rfl, ?_⟩
          | refine CallX.mk ⟨_, _, (h6).x, rfl, ?_⟩
          | refine CallX.mk ⟨_, _, (h7).x, rfl, ?_⟩
          | refine CallX.mk ⟨_, _, (h8).x, rfl, ?_⟩
          | refine CallX.mk ⟨_, _, (h9).x, rfl, ?_⟩
          | refine CallX.mk ⟨_, _, (ho).x, rfl, ?_⟩
          | refine CallX.mk ⟨_, _, (ht).x, rfl, ?_⟩
          | refine Done.mk ⟨rfl, rfl⟩
          | refine Done.mk ⟨congrArg gb ?_, rfl⟩
          | refine Done.mk ⟨?_, rfl⟩
          | refine Done.mk ⟨?_, ?_⟩)
        all_goals first
          | (rename_i h; exact (h (decide_eq_true (by omega)).symm).elim)
          | (rename_i h; exact (h (decide_eq_false (by omega)).symm).elim)
          | (rename_i h; exact absurd ((meterE_self Meter.zero).symm.trans h) (by decide))
          | rfl
          | (rename_i h; exact absurd h (by decide))
          | (rename_i h; exact absurd rfl h)
          | omega
  case neg =>
    rw [hwno hxy] at h4
    clear hway hwno
    have hbool : (decide (0 ≤ x) && decide (x < w.length)) = false ∨ ((decide (0 ≤ x) && decide (x < w.length)) = true ∧ (decide (0 ≤ y) && decide (y < w.length)) = false) := by
      by_cases h : 0 ≤ x ∧ x < w.length
      · right
        refine ⟨by rw [decide_eq_true h.1, decide_eq_true h.2]; rfl, ?_⟩
        rw [Bool.and_eq_false_iff, decide_eq_false_iff_not, decide_eq_false_iff_not]; omega
      · left
        rw [Bool.and_eq_false_iff, decide_eq_false_iff_not, decide_eq_false_iff_not]; omega
    clear hxy
    rcases hbool with hb | ⟨hb, hb2⟩
    · rw [hb] at h8
      clear hb
      cases fo2 with
      | true =>
        simp only [if_true] at hio ho
        obtain ⟨hio1, hio2⟩ := hio
        cases fm2 with
        | true =>
          simp only [if_true] at hit ht
          obtain ⟨hit1, hit2⟩ := hit
          obtain ⟨e, h12⟩ := h11 rfl
          have h10 := h10 rfl
          rw [h12] at h10
          clear hmm hmz h11
          refine ICalls.of_body Tryz.func4 rfl Tryz.call4 rfl (Nat.le_of_ble_eq_true rfl) (fun _ => none) rfl ?_
          repeat' ((conv => whnf); first
            | refine Br.yes rfl ?_
            | refine Br.no rfl ?_
            | refine Need.mk (EqRun.flat (by kernel_rfl) rfl) ?_
            | (refine Elem.mapI (by omega) (by assumption) ?_)
            | refine Br.yes (beq_self_eq_true _) ?_
            | refine Br.not ?_
            | refine Br.yes (decide_eq_true (by assumption)) ?_
            | refine Br.no (decide_eq_false (by assumption)) ?_
            | refine Br.yes (beq_iff_eq.2 (by assumption)) ?_
            | refine Br.no (beq_eq_false_iff_ne.2 (by assumption)) ?_
            | refine Br.yes (bne_iff_ne.2 (by assumption)) ?_
            | (refine Br.dec (fun h => ?_) (fun h => ?_) <;> try dsimp only at h)
            | (refine Br.beqI (fun h => ?_) (fun h => ?_) <;> try dsimp only at h)
            | (refine Br.bneI (fun h => ?_) (fun h => ?_) <;> try dsimp only at h)
            | refine Br.mk (fun h => ?_) (fun h => ?_)
            | refine Need.mk (by first | kernel_rfl | exact ⟨of_decide_eq_true rfl, of_decide_eq_true rfl⟩ | omega) ?_
            | refine Len.mk ⟨_, by simp only [List.length_cons, List.length_nil, Nat.reduceAdd, Int.cast_ofNat_Int]; rfl, ?_⟩
            | refine Wr.lit _ (by simp only [Int.reduceAdd, Int.reduceSub, Int.reduceMul]; rfl) (by decide) ?_
            | refine Wr.fit (by omega) ?_
            | refine Wr.fit (by dsimp only; omega) ?_
            | refine Elem.mk ⟨_, ⟨of_decide_eq_true rfl, rfl⟩, ?_⟩
            | refine Len.map ?_
            | refine Len.dropM ?_
            | refine Elem.dropM ?_
            | refine Len.takeM ?_
            | refine Elem.takeM ?_
            | refine Elem.mapK (by assumption) ?_
            | refine Elem.mapI (by omega) (by assumption) ?_
            | refine Elem.mapN (by omega) (fun x hx => ?_)
            | refine Elem.map (by omega) (by omega) (fun x hx => ?_)
            | refine (hL).use ⟨rfl, ?_⟩
            | refine (hal).use ⟨rfl, ?_⟩
            | refine (h0).use ⟨rfl, ?_⟩
            | refine (h1).use ⟨rfl, ?_⟩
            | refine (h2).use ⟨rfl, ?_⟩
            | refine (h3).use ⟨rfl, ?_⟩
            | refine (h4).use ⟨rfl, ?_⟩
            | refine (h5).use ⟨rfl, ?_⟩
            | refine (h6).use ⟨rfl, ?_⟩
            | refine (h7).use ⟨rfl, ?_⟩
            | refine (h8).use ⟨rfl, ?_⟩
            | refine (h9).use ⟨rfl, ?_⟩
            | refine (h10).use ⟨rfl, ?_⟩
            | refine (ho).use ⟨rfl, ?_⟩
            | refine (ht).use ⟨rfl, ?_⟩
            | refine CallX.mk ⟨_, _, (hL).x, rfl, ?_⟩
            | refine CallX.mk ⟨_, _, (hal).x, rfl, ?_⟩
            | refine CallX.mk ⟨_, _, (h0).x, rfl, ?_⟩
            | refine CallX.mk ⟨_, _, (h1).x, rfl, ?_⟩
            | refine CallX.mk ⟨_, _, (h2).x, rfl, ?_⟩
            | refine CallX.mk ⟨_, _, (h3).x, rfl, ?_⟩
            | refine CallX.mk ⟨_, _, (h4).x, rfl, ?_⟩
            | refine CallX.mk ⟨_, _, (h5).x, rfl, ?_⟩
            | refine CallX.mk ⟨_, _, (h6).x, rfl, ?_⟩
            | refine CallX.mk ⟨_, _, (h7).x, rfl, ?_⟩
            | refine CallX.mk ⟨_, _, (h8).x, rfl, ?_⟩
            | refine CallX.mk ⟨_, _, (h9).x, rfl, ?_⟩
            | refine CallX.mk ⟨_, _, (h10).x, rfl, ?_⟩
            | refine CallX.mk ⟨_, _, (ho).x, rfl, ?_⟩
            | refine CallX.mk ⟨_, _, (ht).x, rfl, ?_⟩
            | refine Done.mk ⟨rfl, rfl⟩
            | refine Done.mk ⟨congrArg gb ?_, rfl⟩
            | refine Done.mk ⟨?_, rfl⟩
            | refine Done.mk ⟨?_, ?_⟩)
          all_goals first
            | (rename_i h; exact (h (decide_eq_true (by omega)).symm).elim)
            | (rename_i h; exact (h (decide_eq_false (by omega)).symm).elim)
            | (rename_i h; exact absurd ((meterE_self fm1).symm.trans h) (by decide))
            | rfl
            | (rename_i h; exact absurd h (by decide))
            | (rename_i h; exact absurd rfl h)
            | omega
        | false =>
          simp only [Bool.false_eq_true, if_false] at hit ht
          have hmz := hmz rfl
          subst hmz
          clear hmm h11 h10
          refine ICalls.of_body Tryz.func4 rfl Tryz.call4 rfl (Nat.le_of_ble_eq_true rfl) (fun _ => none) rfl ?_
          repeat' ((conv => whnf); first
            | refine Br.yes rfl ?_
            | refine Br.no rfl ?_
            | refine Need.mk (EqRun.flat (by kernel_rfl) rfl) ?_
            | (refine Elem.mapI (by omega) (by assumption) ?_)
            | refine Br.yes (beq_self_eq_true _) ?_
            | refine Br.not ?_
            | refine Br.yes (decide_eq_true (by assumption)) ?_
            | refine Br.no (decide_eq_false (by assumption)) ?_
            | refine Br.yes (beq_iff_eq.2 (by assumption)) ?_
            | refine Br.no (beq_eq_false_iff_ne.2 (by assumption)) ?_
            | refine Br.yes (bne_iff_ne.2 (by assumption)) ?_
            | (refine Br.dec (fun h => ?_) (fun h => ?_) <;> try dsimp only at h)
            | (refine Br.beqI (fun h => ?_) (fun h => ?_) <;> try dsimp only at h)
            | (refine Br.bneI (fun h => ?_) (fun h => ?_) <;> try dsimp only at h)
            | refine Br.mk (fun h => ?_) (fun h => ?_)
            | refine Need.mk (by first | kernel_rfl | exact ⟨of_decide_eq_true rfl, of_decide_eq_true rfl⟩ | omega) ?_
            | refine Len.mk ⟨_, by simp only [List.length_cons, List.length_nil, Nat.reduceAdd, Int.cast_ofNat_Int]; rfl, ?_⟩
            | refine Wr.lit _ (by simp only [Int.reduceAdd, Int.reduceSub, Int.reduceMul]; rfl) (by decide) ?_
            | refine Wr.fit (by omega) ?_
            | refine Wr.fit (by dsimp only; omega) ?_
            | refine Elem.mk ⟨_, ⟨of_decide_eq_true rfl, rfl⟩, ?_⟩
            | refine Len.map ?_
            | refine Len.dropM ?_
            | refine Elem.dropM ?_
            | refine Len.takeM ?_
            | refine Elem.takeM ?_
            | refine Elem.mapK (by assumption) ?_
            | refine Elem.mapI (by omega) (by assumption) ?_
            | refine Elem.mapN (by omega) (fun x hx => ?_)
            | refine Elem.map (by omega) (by omega) (fun x hx => ?_)
            | refine (hL).use ⟨rfl, ?_⟩
            | refine (hal).use ⟨rfl, ?_⟩
            | refine (h0).use ⟨rfl, ?_⟩
            | refine (h1).use ⟨rfl, ?_⟩
            | refine (h2).use ⟨rfl, ?_⟩
            | refine (h3).use ⟨rfl, ?_⟩
            | refine (h4).use ⟨rfl, ?_⟩
            | refine (h5).use ⟨rfl, ?_⟩
            | refine (h6).use ⟨rfl, ?_⟩
            | refine (h7).use ⟨rfl, ?_⟩
            | refine (h8).use ⟨rfl, ?_⟩
            | refine (h9).use ⟨rfl, ?_⟩
            | refine (ho).use ⟨rfl, ?_⟩
            | refine (ht).use ⟨rfl, ?_⟩
            | refine CallX.mk ⟨_, _, (hL).x, rfl, ?_⟩
            | refine CallX.mk ⟨_, _, (hal).x, rfl, ?_⟩
            | refine CallX.mk ⟨_, _, (h0).x, rfl, ?_⟩
            | refine CallX.mk ⟨_, _, (h1).x, rfl, ?_⟩
            | refine CallX.mk ⟨_, _, (h2).x, rfl, ?_⟩
            | refine CallX.mk ⟨_, _, (h3).x, rfl, ?_⟩
            | refine CallX.mk ⟨_, _, (h4).x, rfl, ?_⟩
            | refine CallX.mk ⟨_, _, (h5).x, rfl, ?_⟩
            | refine CallX.mk ⟨_, _, (h6).x, rfl, ?_⟩
            | refine CallX.mk ⟨_, _, (h7).x, rfl, ?_⟩
            | refine CallX.mk ⟨_, _, (h8).x, rfl, ?_⟩
            | refine CallX.mk ⟨_, _, (h9).x, rfl, ?_⟩
            | refine CallX.mk ⟨_, _, (ho).x, rfl, ?_⟩
            | refine CallX.mk ⟨_, _, (ht).x, rfl, ?_⟩
            | refine Done.mk ⟨rfl, rfl⟩
            | refine Done.mk ⟨congrArg gb ?_, rfl⟩
            | refine Done.mk ⟨?_, rfl⟩
            | refine Done.mk ⟨?_, ?_⟩)
          all_goals first
            | (rename_i h; exact (h (decide_eq_true (by omega)).symm).elim)
            | (rename_i h; exact (h (decide_eq_false (by omega)).symm).elim)
            | (rename_i h; exact absurd ((meterE_self Meter.zero).symm.trans h) (by decide))
            | rfl
            | (rename_i h; exact absurd h (by decide))
            | (rename_i h; exact absurd rfl h)
            | omega
      | false =>
        simp only [Bool.false_eq_true, if_false] at hio ho
        cases fm2 with
        | true =>
          simp only [if_true] at hit ht
          obtain ⟨hit1, hit2⟩ := hit
          obtain ⟨e, h12⟩ := h11 rfl
          have h10 := h10 rfl
          rw [h12] at h10
          clear hmm hmz h11
          refine ICalls.of_body Tryz.func4 rfl Tryz.call4 rfl (Nat.le_of_ble_eq_true rfl) (fun _ => none) rfl ?_
          repeat' ((conv => whnf); first
            | refine Br.yes rfl ?_
            | refine Br.no rfl ?_
            | refine Need.mk (EqRun.flat (by kernel_rfl) rfl) ?_
            | (refine Elem.mapI (by omega) (by assumption) ?_)
            | refine Br.yes (beq_self_eq_true _) ?_
            | refine Br.not ?_
            | refine Br.yes (decide_eq_true (by assumption)) ?_
            | refine Br.no (decide_eq_false (by assumption)) ?_
            | refine Br.yes (beq_iff_eq.2 (by assumption)) ?_
            | refine Br.no (beq_eq_false_iff_ne.2 (by assumption)) ?_
            | refine Br.yes (bne_iff_ne.2 (by assumption)) ?_
            | (refine Br.dec (fun h => ?_) (fun h => ?_) <;> try dsimp only at h)
            | (refine Br.beqI (fun h => ?_) (fun h => ?_) <;> try dsimp only at h)
            | (refine Br.bneI (fun h => ?_) (fun h => ?_) <;> try dsimp only at h)
            | refine Br.mk (fun h => ?_) (fun h => ?_)
            | refine Need.mk (by first | kernel_rfl | exact ⟨of_decide_eq_true rfl, of_decide_eq_true rfl⟩ | omega) ?_
            | refine Len.mk ⟨_, by simp only [List.length_cons, List.length_nil, Nat.reduceAdd, Int.cast_ofNat_Int]; rfl, ?_⟩
            | refine Wr.lit _ (by simp only [Int.reduceAdd, Int.reduceSub, Int.reduceMul]; rfl) (by decide) ?_
            | refine Wr.fit (by omega) ?_
            | refine Wr.fit (by dsimp only; omega) ?_
            | refine Elem.mk ⟨_, ⟨of_decide_eq_true rfl, rfl⟩, ?_⟩
            | refine Len.map ?_
            | refine Len.dropM ?_
            | refine Elem.dropM ?_
            | refine Len.takeM ?_
            | refine Elem.takeM ?_
            | refine Elem.mapK (by assumption) ?_
            | refine Elem.mapI (by omega) (by assumption) ?_
            | refine Elem.mapN (by omega) (fun x hx => ?_)
            | refine Elem.map (by omega) (by omega) (fun x hx => ?_)
            | refine (hL).use ⟨rfl, ?_⟩
            | refine (hal).use ⟨rfl, ?_⟩
            | refine (h0).use ⟨rfl, ?_⟩
            | refine (h1).use ⟨rfl, ?_⟩
            | refine (h2).use ⟨rfl, ?_⟩
            | refine (h3).use ⟨rfl, ?_⟩
            | refine (h4).use ⟨rfl, ?_⟩
            | refine (h5).use ⟨rfl, ?_⟩
            | refine (h6).use ⟨rfl, ?_⟩
            | refine (h7).use ⟨rfl, ?_⟩
            | refine (h8).use ⟨rfl, ?_⟩
            | refine (h9).use ⟨rfl, ?_⟩
            | refine (h10).use ⟨rfl, ?_⟩
            | refine (ho).use ⟨rfl, ?_⟩
            | refine (ht).use ⟨rfl, ?_⟩
            | refine CallX.mk ⟨_, _, (hL).x, rfl, ?_⟩
            | refine CallX.mk ⟨_, _, (hal).x, rfl, ?_⟩
            | refine CallX.mk ⟨_, _, (h0).x, rfl, ?_⟩
            | refine CallX.mk ⟨_, _, (h1).x, rfl, ?_⟩
            | refine CallX.mk ⟨_, _, (h2).x, rfl, ?_⟩
            | refine CallX.mk ⟨_, _, (h3).x, rfl, ?_⟩
            | refine CallX.mk ⟨_, _, (h4).x, rfl, ?_⟩
            | refine CallX.mk ⟨_, _, (h5).x, rfl, ?_⟩
            | refine CallX.mk ⟨_, _, (h6).x, rfl, ?_⟩
            | refine CallX.mk ⟨_, _, (h7).x, rfl, ?_⟩
            | refine CallX.mk ⟨_, _, (h8).x, rfl, ?_⟩
            | refine CallX.mk ⟨_, _, (h9).x, rfl, ?_⟩
            | refine CallX.mk ⟨_, _, (h10).x, rfl, ?_⟩
            | refine CallX.mk ⟨_, _, (ho).x, rfl, ?_⟩
            | refine CallX.mk ⟨_, _, (ht).x, rfl, ?_⟩
            | refine Done.mk ⟨rfl, rfl⟩
            | refine Done.mk ⟨congrArg gb ?_, rfl⟩
            | refine Done.mk ⟨?_, rfl⟩
            | refine Done.mk ⟨?_, ?_⟩)
          all_goals first
            | (rename_i h; exact (h (decide_eq_true (by omega)).symm).elim)
            | (rename_i h; exact (h (decide_eq_false (by omega)).symm).elim)
            | (rename_i h; exact absurd ((meterE_self fm1).symm.trans h) (by decide))
            | rfl
            | (rename_i h; exact absurd h (by decide))
            | (rename_i h; exact absurd rfl h)
            | omega
        | false =>
          simp only [Bool.false_eq_true, if_false] at hit ht
          have hmz := hmz rfl
          subst hmz
          clear hmm h11 h10
          refine ICalls.of_body Tryz.func4 rfl Tryz.call4 rfl (Nat.le_of_ble_eq_true rfl) (fun _ => none) rfl ?_
          repeat' ((conv => whnf); first
            | refine Br.yes rfl ?_
            | refine Br.no rfl ?_
            | refine Need.mk (EqRun.flat (by kernel_rfl) rfl) ?_
            | (refine Elem.mapI (by omega) (by assumption) ?_)
            | refine Br.yes (beq_self_eq_true _) ?_
            | refine Br.not ?_
            | refine Br.yes (decide_eq_true (by assumption)) ?_
            | refine Br.no (decide_eq_false (by assumption)) ?_
            | refine Br.yes (beq_iff_eq.2 (by assumption)) ?_
            | refine Br.no (beq_eq_false_iff_ne.2 (by assumption)) ?_
            | refine Br.yes (bne_iff_ne.2 (by assumption)) ?_
            | (refine Br.dec (fun h => ?_) (fun h => ?_) <;> try dsimp only at h)
            | (refine Br.beqI (fun h => ?_) (fun h => ?_) <;> try dsimp only at h)
            | (refine Br.bneI (fun h => ?_) (fun h => ?_) <;> try dsimp only at h)
            | refine Br.mk (fun h => ?_) (fun h => ?_)
            | refine Need.mk (by first | kernel_rfl | exact ⟨of_decide_eq_true rfl, of_decide_eq_true rfl⟩ | omega) ?_
            | refine Len.mk ⟨_, by simp only [List.length_cons, List.length_nil, Nat.reduceAdd, Int.cast_ofNat_Int]; rfl, ?_⟩
            | refine Wr.lit _ (by simp only [Int.reduceAdd, Int.reduceSub, Int.reduceMul]; rfl) (by decide) ?_
            | refine Wr.fit (by omega) ?_
            | refine Wr.fit (by dsimp only; omega) ?_
            | refine Elem.mk ⟨_, ⟨of_decide_eq_true rfl, rfl⟩, ?_⟩
            | refine Len.map ?_
            | refine Len.dropM ?_
            | refine Elem.dropM ?_
            | refine Len.takeM ?_
            | refine Elem.takeM ?_
            | refine Elem.mapK (by assumption) ?_
            | refine Elem.mapI (by omega) (by assumption) ?_
            | refine Elem.mapN (by omega) (fun x hx => ?_)
            | refine Elem.map (by omega) (by omega) (fun x hx => ?_)
            | refine (hL).use ⟨rfl, ?_⟩
            | refine (hal).use ⟨rfl, ?_⟩
            | refine (h0).use ⟨rfl, ?_⟩
            | refine (h1).use ⟨rfl, ?_⟩
            | refine (h2).use ⟨rfl, ?_⟩
            | refine (h3).use ⟨rfl, ?_⟩
            | refine (h4).use ⟨rfl, ?_⟩
            | refine (h5).use ⟨rfl, ?_⟩
            | refine (h6).use ⟨rfl, ?_⟩
            | refine (h7).use ⟨rfl, ?_⟩
            | refine (h8).use ⟨rfl, ?_⟩
            | refine (h9).use ⟨rfl, ?_⟩
            | refine (ho).use ⟨rfl, ?_⟩
            | refine (ht).use ⟨rfl, ?_⟩
            | refine CallX.mk ⟨_, _, (hL).x, rfl, ?_⟩
            | refine CallX.mk ⟨_, _, (hal).x, rfl, ?_⟩
            | refine CallX.mk ⟨_, _, (h0).x, rfl, ?_⟩
            | refine CallX.mk ⟨_, _, (h1).x, rfl, ?_⟩
            | refine CallX.mk ⟨_, _, (h2).x, rfl, ?_⟩
            | refine CallX.mk ⟨_, _, (h3).x, rfl, ?_⟩
            | refine CallX.mk ⟨_, _, (h4).x, rfl, ?_⟩
            | refine CallX.mk ⟨_, _, (h5).x, rfl, ?_⟩
            | refine CallX.mk ⟨_, _, (h6).x, rfl, ?_⟩
            | refine CallX.mk ⟨_, _, (h7).x, rfl, ?_⟩
            | refine CallX.mk ⟨_, _, (h8).x, rfl, ?_⟩
            | refine CallX.mk ⟨_, _, (h9).x, rfl, ?_⟩
            | refine CallX.mk ⟨_, _, (ho).x, rfl, ?_⟩
            | refine CallX.mk ⟨_, _, (ht).x, rfl, ?_⟩
            | refine Done.mk ⟨rfl, rfl⟩
            | refine Done.mk ⟨congrArg gb ?_, rfl⟩
            | refine Done.mk ⟨?_, rfl⟩
            | refine Done.mk ⟨?_, ?_⟩)
          all_goals first
            | (rename_i h; exact (h (decide_eq_true (by omega)).symm).elim)
            | (rename_i h; exact (h (decide_eq_false (by omega)).symm).elim)
            | (rename_i h; exact absurd ((meterE_self Meter.zero).symm.trans h) (by decide))
            | rfl
            | (rename_i h; exact absurd h (by decide))
            | (rename_i h; exact absurd rfl h)
            | omega
    · rw [hb] at h8
      rw [hb2] at h9
      clear hb hb2
      cases fo2 with
      | true =>
        simp only [if_true] at hio ho
        obtain ⟨hio1, hio2⟩ := hio
        cases fm2 with
        | true =>
          simp only [if_true] at hit ht
          obtain ⟨hit1, hit2⟩ := hit
          obtain ⟨e, h12⟩ := h11 rfl
          have h10 := h10 rfl
          rw [h12] at h10
          clear hmm hmz h11
          refine ICalls.of_body Tryz.func4 rfl Tryz.call4 rfl (Nat.le_of_ble_eq_true rfl) (fun _ => none) rfl ?_
          repeat' ((conv => whnf); first
            | refine Br.yes rfl ?_
            | refine Br.no rfl ?_
            | refine Need.mk (EqRun.flat (by kernel_rfl) rfl) ?_
            | (refine Elem.mapI (by omega) (by assumption) ?_)
            | refine Br.yes (beq_self_eq_true _) ?_
            | refine Br.not ?_
            | refine Br.yes (decide_eq_true (by assumption)) ?_
            | refine Br.no (decide_eq_false (by assumption)) ?_
            | refine Br.yes (beq_iff_eq.2 (by assumption)) ?_
            | refine Br.no (beq_eq_false_iff_ne.2 (by assumption)) ?_
            | refine Br.yes (bne_iff_ne.2 (by assumption)) ?_
            | (refine Br.dec (fun h => ?_) (fun h => ?_) <;> try dsimp only at h)
            | (refine Br.beqI (fun h => ?_) (fun h => ?_) <;> try dsimp only at h)
            | (refine Br.bneI (fun h => ?_) (fun h => ?_) <;> try dsimp only at h)
            | refine Br.mk (fun h => ?_) (fun h => ?_)
            | refine Need.mk (by first | kernel_rfl | exact ⟨of_decide_eq_true rfl, of_decide_eq_true rfl⟩ | omega) ?_
            | refine Len.mk ⟨_, by simp only [List.length_cons, List.length_nil, Nat.reduceAdd, Int.cast_ofNat_Int]; rfl, ?_⟩
            | refine Wr.lit _ (by simp only [Int.reduceAdd, Int.reduceSub, Int.reduceMul]; rfl) (by decide) ?_
            | refine Wr.fit (by omega) ?_
            | refine Wr.fit (by dsimp only; omega) ?_
            | refine Elem.mk ⟨_, ⟨of_decide_eq_true rfl, rfl⟩, ?_⟩
            | refine Len.map ?_
            | refine Len.dropM ?_
            | refine Elem.dropM ?_
            | refine Len.takeM ?_
            | refine Elem.takeM ?_
            | refine Elem.mapK (by assumption) ?_
            | refine Elem.mapI (by omega) (by assumption) ?_
            | refine Elem.mapN (by omega) (fun x hx => ?_)
            | refine Elem.map (by omega) (by omega) (fun x hx => ?_)
            | refine (hL).use ⟨rfl, ?_⟩
            | refine (hal).use ⟨rfl, ?_⟩
            | refine (h0).use ⟨rfl, ?_⟩
            | refine (h1).use ⟨rfl, ?_⟩
            | refine (h2).use ⟨rfl, ?_⟩
            | refine (h3).use ⟨rfl, ?_⟩
            | refine (h4).use ⟨rfl, ?_⟩
            | refine (h5).use ⟨rfl, ?_⟩
            | refine (h6).use ⟨rfl, ?_⟩
            | refine (h7).use ⟨rfl, ?_⟩
            | refine (h8).use ⟨rfl, ?_⟩
            | refine (h9).use ⟨rfl, ?_⟩
            | refine (h10).use ⟨rfl, ?_⟩
            | refine (ho).use ⟨rfl, ?_⟩
            | refine (ht).use ⟨rfl, ?_⟩
            | refine CallX.mk ⟨_, _, (hL).x, rfl, ?_⟩
            | refine CallX.mk ⟨_, _, (hal).x, rfl, ?_⟩
            | refine CallX.mk ⟨_, _, (h0).x, rfl, ?_⟩
            | refine CallX.mk ⟨_, _, (h1).x, rfl, ?_⟩
            | refine CallX.mk ⟨_, _, (h2).x, rfl, ?_⟩
            | refine CallX.mk ⟨_, _, (h3).x, rfl, ?_⟩
            | refine CallX.mk ⟨_, _, (h4).x, rfl, ?_⟩
            | refine CallX.mk ⟨_, _, (h5).x, rfl, ?_⟩
            | refine CallX.mk ⟨_, _, (h6).x, rfl, ?_⟩
            | refine CallX.mk ⟨_, _, (h7).x, rfl, ?_⟩
            | refine CallX.mk ⟨_, _, (h8).x, rfl, ?_⟩
            | refine CallX.mk ⟨_, _, (h9).x, rfl, ?_⟩
            | refine CallX.mk ⟨_, _, (h10).x, rfl, ?_⟩
            | refine CallX.mk ⟨_, _, (ho).x, rfl, ?_⟩
            | refine CallX.mk ⟨_, _, (ht).x, rfl, ?_⟩
            | refine Done.mk ⟨rfl, rfl⟩
            | refine Done.mk ⟨congrArg gb ?_, rfl⟩
            | refine Done.mk ⟨?_, rfl⟩
            | refine Done.mk ⟨?_, ?_⟩)
          all_goals first
            | (rename_i h; exact (h (decide_eq_true (by omega)).symm).elim)
            | (rename_i h; exact (h (decide_eq_false (by omega)).symm).elim)
            | (rename_i h; exact absurd ((meterE_self fm1).symm.trans h) (by decide))
            | rfl
            | (rename_i h; exact absurd h (by decide))
            | (rename_i h; exact absurd rfl h)
            | omega
        | false =>
          simp only [Bool.false_eq_true, if_false] at hit ht
          have hmz := hmz rfl
          subst hmz
          clear hmm h11 h10
          refine ICalls.of_body Tryz.func4 rfl Tryz.call4 rfl (Nat.le_of_ble_eq_true rfl) (fun _ => none) rfl ?_
          repeat' ((conv => whnf); first
            | refine Br.yes rfl ?_
            | refine Br.no rfl ?_
            | refine Need.mk (EqRun.flat (by kernel_rfl) rfl) ?_
            | (refine Elem.mapI (by omega) (by assumption) ?_)
            | refine Br.yes (beq_self_eq_true _) ?_
            | refine Br.not ?_
            | refine Br.yes (decide_eq_true (by assumption)) ?_
            | refine Br.no (decide_eq_false (by assumption)) ?_
            | refine Br.yes (beq_iff_eq.2 (by assumption)) ?_
            | refine Br.no (beq_eq_false_iff_ne.2 (by assumption)) ?_
            | refine Br.yes (bne_iff_ne.2 (by assumption)) ?_
            | (refine Br.dec (fun h => ?_) (fun h => ?_) <;> try dsimp only at h)
            | (refine Br.beqI (fun h => ?_) (fun h => ?_) <;> try dsimp only at h)
            | (refine Br.bneI (fun h => ?_) (fun h => ?_) <;> try dsimp only at h)
            | refine Br.mk (fun h => ?_) (fun h => ?_)
            | refine Need.mk (by first | kernel_rfl | exact ⟨of_decide_eq_true rfl, of_decide_eq_true rfl⟩ | omega) ?_
            | refine Len.mk ⟨_, by simp only [List.length_cons, List.length_nil, Nat.reduceAdd, Int.cast_ofNat_Int]; rfl, ?_⟩
            | refine Wr.lit _ (by simp only [Int.reduceAdd, Int.reduceSub, Int.reduceMul]; rfl) (by decide) ?_
            | refine Wr.fit (by omega) ?_
            | refine Wr.fit (by dsimp only; omega) ?_
            | refine Elem.mk ⟨_, ⟨of_decide_eq_true rfl, rfl⟩, ?_⟩
            | refine Len.map ?_
            | refine Len.dropM ?_
            | refine Elem.dropM ?_
            | refine Len.takeM ?_
            | refine Elem.takeM ?_
            | refine Elem.mapK (by assumption) ?_
            | refine Elem.mapI (by omega) (by assumption) ?_
            | refine Elem.mapN (by omega) (fun x hx => ?_)
            | refine Elem.map (by omega) (by omega) (fun x hx => ?_)
            | refine (hL).use ⟨rfl, ?_⟩
            | refine (hal).use ⟨rfl, ?_⟩
            | refine (h0).use ⟨rfl, ?_⟩
            | refine (h1).use ⟨rfl, ?_⟩
            | refine (h2).use ⟨rfl, ?_⟩
            | refine (h3).use ⟨rfl, ?_⟩
            | refine (h4).use ⟨rfl, ?_⟩
            | refine (h5).use ⟨rfl, ?_⟩
            | refine (h6).use ⟨rfl, ?_⟩
            | refine (h7).use ⟨rfl, ?_⟩
            | refine (h8).use ⟨rfl, ?_⟩
            | refine (h9).use ⟨rfl, ?_⟩
            | refine (ho).use ⟨rfl, ?_⟩
            | refine (ht).use ⟨rfl, ?_⟩
            | refine CallX.mk ⟨_, _, (hL).x, rfl, ?_⟩
            | refine CallX.mk ⟨_, _, (hal).x, rfl, ?_⟩
            | refine CallX.mk ⟨_, _, (h0).x, rfl, ?_⟩
            | refine CallX.mk ⟨_, _, (h1).x, rfl, ?_⟩
            | refine CallX.mk ⟨_, _, (h2).x, rfl, ?_⟩
            | refine CallX.mk ⟨_, _, (h3).x, rfl, ?_⟩
            | refine CallX.mk ⟨_, _, (h4).x, rfl, ?_⟩
            | refine CallX.mk ⟨_, _, (h5).x, rfl, ?_⟩
            | refine CallX.mk ⟨_, _, (h6).x, rfl, ?_⟩
            | refine CallX.mk ⟨_, _, (h7).x, rfl, ?_⟩
            | refine CallX.mk ⟨_, _, (h8).x, rfl, ?_⟩
            | refine CallX.mk ⟨_, _, (h9).x, rfl, ?_⟩
            | refine CallX.mk ⟨_, _, (ho).x, rfl, ?_⟩
            | refine CallX.mk ⟨_, _, (ht).x, rfl, ?_⟩
            | refine Done.mk ⟨rfl, rfl⟩
            | refine Done.mk ⟨congrArg gb ?_, rfl⟩
            | refine Done.mk ⟨?_, rfl⟩
            | refine Done.mk ⟨?_, ?_⟩)
          all_goals first
            | (rename_i h; exact (h (decide_eq_true (by omega)).symm).elim)
            | (rename_i h; exact (h (decide_eq_false (by omega)).symm).elim)
            | (rename_i h; exact absurd ((meterE_self Meter.zero).symm.trans h) (by decide))
            | rfl
            | (rename_i h; exact absurd h (by decide))
            | (rename_i h; exact absurd rfl h)
            | omega
      | false =>
        simp only [Bool.false_eq_true, if_false] at hio ho
        cases fm2 with
        | true =>
          simp only [if_true] at hit ht
          obtain ⟨hit1, hit2⟩ := hit
          obtain ⟨e, h12⟩ := h11 rfl
          have h10 := h10 rfl
          rw [h12] at h10
          clear hmm hmz h11
          refine ICalls.of_body Tryz.func4 rfl Tryz.call4 rfl (Nat.le_of_ble_eq_true rfl) (fun _ => none) rfl ?_
          repeat' ((conv => whnf); first
            | refine Br.yes rfl ?_
            | refine Br.no rfl ?_
            | refine Need.mk (EqRun.flat (by kernel_rfl) rfl) ?_
            | (refine Elem.mapI (by omega) (by assumption) ?_)
            | refine Br.yes (beq_self_eq_true _) ?_
            | refine Br.not ?_
            | refine Br.yes (decide_eq_true (by assumption)) ?_
            | refine Br.no (decide_eq_false (by assumption)) ?_
            | refine Br.yes (beq_iff_eq.2 (by assumption)) ?_
            | refine Br.no (beq_eq_false_iff_ne.2 (by assumption)) ?_
            | refine Br.yes (bne_iff_ne.2 (by assumption)) ?_
            | (refine Br.dec (fun h => ?_) (fun h => ?_) <;> try dsimp only at h)
            | (refine Br.beqI (fun h => ?_) (fun h => ?_) <;> try dsimp only at h)
            | (refine Br.bneI (fun h => ?_) (fun h => ?_) <;> try dsimp only at h)
            | refine Br.mk (fun h => ?_) (fun h => ?_)
            | refine Need.mk (by first | kernel_rfl | exact ⟨of_decide_eq_true rfl, of_decide_eq_true rfl⟩ | omega) ?_
            | refine Len.mk ⟨_, by simp only [List.length_cons, List.length_nil, Nat.reduceAdd, Int.cast_ofNat_Int]; rfl, ?_⟩
            | refine Wr.lit _ (by simp only [Int.reduceAdd, Int.reduceSub, Int.reduceMul]; rfl) (by decide) ?_
            | refine Wr.fit (by omega) ?_
            | refine Wr.fit (by dsimp only; omega) ?_
            | refine Elem.mk ⟨_, ⟨of_decide_eq_true rfl, rfl⟩, ?_⟩
            | refine Len.map ?_
            | refine Len.dropM ?_
            | refine Elem.dropM ?_
            | refine Len.takeM ?_
            | refine Elem.takeM ?_
            | refine Elem.mapK (by assumption) ?_
            | refine Elem.mapI (by omega) (by assumption) ?_
            | refine Elem.mapN (by omega) (fun x hx => ?_)
            | refine Elem.map (by omega) (by omega) (fun x hx => ?_)
            | refine (hL).use ⟨rfl, ?_⟩
            | refine (hal).use ⟨rfl, ?_⟩
            | refine (h0).use ⟨rfl, ?_⟩
            | refine (h1).use ⟨rfl, ?_⟩
            | refine (h2).use ⟨rfl, ?_⟩
            | refine (h3).use ⟨rfl, ?_⟩
            | refine (h4).use ⟨rfl, ?_⟩
            | refine (h5).use ⟨rfl, ?_⟩
            | refine (h6).use ⟨rfl, ?_⟩
            | refine (h7).use ⟨rfl, ?_⟩
            | refine (h8).use ⟨rfl, ?_⟩
            | refine (h9).use ⟨rfl, ?_⟩
            | refine (h10).use ⟨rfl, ?_⟩
            | refine (ho).use ⟨rfl, ?_⟩
            | refine (ht).use ⟨rfl, ?_⟩
            | refine CallX.mk ⟨_, _, (hL).x, rfl, ?_⟩
            | refine CallX.mk ⟨_, _, (hal).x, rfl, ?_⟩
            | refine CallX.mk ⟨_, _, (h0).x, rfl, ?_⟩
            | refine CallX.mk ⟨_, _, (h1).x, rfl, ?_⟩
            | refine CallX.mk ⟨_, _, (h2).x, rfl, ?_⟩
            | refine CallX.mk ⟨_, _, (h3).x, rfl, ?_⟩
            | refine CallX.mk ⟨_, _, (h4).x, rfl, ?_⟩
            | refine CallX.mk ⟨_, _, (h5).x, rfl, ?_⟩
            | refine CallX.mk ⟨_, _, (h6).x, rfl, ?_⟩
            | refine CallX.mk ⟨_, _, (h7).x, rfl, ?_⟩
            | refine CallX.mk ⟨_, _, (h8).x, rfl, ?_⟩
            | refine CallX.mk ⟨_, _, (h9).x, rfl, ?_⟩
            | refine CallX.mk ⟨_, _, (h10).x, rfl, ?_⟩
            | refine CallX.mk ⟨_, _, (ho).x, rfl, ?_⟩
            | refine CallX.mk ⟨_, _, (ht).x, rfl, ?_⟩
            | refine Done.mk ⟨rfl, rfl⟩
            | refine Done.mk ⟨congrArg gb ?_, rfl⟩
            | refine Done.mk ⟨?_, rfl⟩
            | refine Done.mk ⟨?_, ?_⟩)
          all_goals first
            | (rename_i h; exact (h (decide_eq_true (by omega)).symm).elim)
            | (rename_i h; exact (h (decide_eq_false (by omega)).symm).elim)
            | (rename_i h; exact absurd ((meterE_self fm1).symm.trans h) (by decide))
            | rfl
            | (rename_i h; exact absurd h (by decide))
            | (rename_i h; exact absurd rfl h)
            | omega
        | false =>
          simp only [Bool.false_eq_true, if_false] at hit ht
          have hmz := hmz rfl
          subst hmz
          clear hmm h11 h10
          refine ICalls.of_body Tryz.func4 rfl Tryz.call4 rfl (Nat.le_of_ble_eq_true rfl) (fun _ => none) rfl ?_
          repeat' ((conv => whnf); first
            | refine Br.yes rfl ?_
            | refine Br.no rfl ?_
            | refine Need.mk (EqRun.flat (by kernel_rfl) rfl) ?_
            | (refine Elem.mapI (by omega) (by assumption) ?_)
            | refine Br.yes (beq_self_eq_true _) ?_
            | refine Br.not ?_
            | refine Br.yes (decide_eq_true (by assumption)) ?_
            | refine Br.no (decide_eq_false (by assumption)) ?_
            | refine Br.yes (beq_iff_eq.2 (by assumption)) ?_
            | refine Br.no (beq_eq_false_iff_ne.2 (by assumption)) ?_
            | refine Br.yes (bne_iff_ne.2 (by assumption)) ?_
            | (refine Br.dec (fun h => ?_) (fun h => ?_) <;> try dsimp only at h)
            | (refine Br.beqI (fun h => ?_) (fun h => ?_) <;> try dsimp only at h)
            | (refine Br.bneI (fun h => ?_) (fun h => ?_) <;> try dsimp only at h)
            | refine Br.mk (fun h => ?_) (fun h => ?_)
            | refine Need.mk (by first | kernel_rfl | exact ⟨of_decide_eq_true rfl, of_decide_eq_true rfl⟩ | omega) ?_
            | refine Len.mk ⟨_, by simp only [List.length_cons, List.length_nil, Nat.reduceAdd, Int.cast_ofNat_Int]; rfl, ?_⟩
            | refine Wr.lit _ (by simp only [Int.reduceAdd, Int.reduceSub, Int.reduceMul]; rfl) (by decide) ?_
            | refine Wr.fit (by omega) ?_
            | refine Wr.fit (by dsimp only; omega) ?_
            | refine Elem.mk ⟨_, ⟨of_decide_eq_true rfl, rfl⟩, ?_⟩
            | refine Len.map ?_
            | refine Len.dropM ?_
            | refine Elem.dropM ?_
            | refine Len.takeM ?_
            | refine Elem.takeM ?_
            | refine Elem.mapK (by assumption) ?_
            | refine Elem.mapI (by omega) (by assumption) ?_
            | refine Elem.mapN (by omega) (fun x hx => ?_)
            | refine Elem.map (by omega) (by omega) (fun x hx => ?_)
            | refine (hL).use ⟨rfl, ?_⟩
            | refine (hal).use ⟨rfl, ?_⟩
            | refine (h0).use ⟨rfl, ?_⟩
            | refine (h1).use ⟨rfl, ?_⟩
            | refine (h2).use ⟨rfl, ?_⟩
            | refine (h3).use ⟨rfl, ?_⟩
            | refine (h4).use ⟨rfl, ?_⟩
            | refine (h5).use ⟨rfl, ?_⟩
            | refine (h6).use ⟨rfl, ?_⟩
            | refine (h7).use ⟨rfl, ?_⟩
            | refine (h8).use ⟨rfl, ?_⟩
            | refine (h9).use ⟨rfl, ?_⟩
            | refine (ho).use ⟨rfl, ?_⟩
            | refine (ht).use ⟨rfl, ?_⟩
            | refine CallX.mk ⟨_, _, (hL).x, rfl, ?_⟩
            | refine CallX.mk ⟨_, _, (hal).x, rfl, ?_⟩
            | refine CallX.mk ⟨_, _, (h0).x, rfl, ?_⟩
            | refine CallX.mk ⟨_, _, (h1).x, rfl, ?_⟩
            | refine CallX.mk ⟨_, _, (h2).x, rfl, ?_⟩
            | refine CallX.mk ⟨_, _, (h3).x, rfl, ?_⟩
            | refine CallX.mk ⟨_, _, (h4).x, rfl, ?_⟩
            | refine CallX.mk ⟨_, _, (h5).x, rfl, ?_⟩
            | refine CallX.mk ⟨_, _, (h6).x, rfl, ?_⟩
            | refine CallX.mk ⟨_, _, (h7).x, rfl, ?_⟩
            | refine CallX.mk ⟨_, _, (h8).x, rfl, ?_⟩
            | refine CallX.mk ⟨_, _, (h9).x, rfl, ?_⟩
            | refine CallX.mk ⟨_, _, (ho).x, rfl, ?_⟩
            | refine CallX.mk ⟨_, _, (ht).x, rfl, ?_⟩
            | refine Done.mk ⟨rfl, rfl⟩
            | refine Done.mk ⟨congrArg gb ?_, rfl⟩
            | refine Done.mk ⟨?_, rfl⟩
            | refine Done.mk ⟨?_, ?_⟩)
          all_goals first
            | (rename_i h; exact (h (decide_eq_true (by omega)).symm).elim)
            | (rename_i h; exact (h (decide_eq_false (by omega)).symm).elim)
            | (rename_i h; exact absurd ((meterE_self Meter.zero).symm.trans h) (by decide))
            | rfl
            | (rename_i h; exact absurd h (by decide))
            | (rename_i h; exact absurd rfl h)
            | omega

end Go.Hl

/- Chapter 30: the law Finds, whole.  -/
set_option linter.unusedVariables false
set_option linter.unusedSimpArgs false
namespace Go.Hl
open Go.Gh Go.Proofs

set_option maxRecDepth 100000 in
set_option maxHeartbeats 4000000 in
theorem depotFinds_ok (d : Depot) (p q x y : Int) : ICalls Tryz.prog 4 [d.g, .agg [gi p, gi q, gi x, gi y]] [] (Done (gb true) []) := by
  have hL := light30_ok d
  have hal := alive30_ok
  by_cases hd : light30 d = true
  case neg =>
    rw [Bool.eq_false_iff.2 hd] at hL
    obtain ⟨b, w, oo, l⟩ := d
    clear hd
    refine ICalls.of_body Tryz.func4 rfl Tryz.call4 rfl (Nat.le_of_ble_eq_true rfl) (fun _ => none) rfl ?_
    repeat' ((conv => whnf); first
      | refine Br.yes rfl ?_
      | refine Br.no rfl ?_
      | refine Br.yes (beq_self_eq_true _) ?_
      | refine Br.not ?_
      | refine Br.yes (decide_eq_true (by assumption)) ?_
      | refine Br.no (decide_eq_false (by assumption)) ?_
      | refine Br.yes (beq_iff_eq.2 (by assumption)) ?_
      | refine Br.no (beq_eq_false_iff_ne.2 (by assumption)) ?_
      | refine Br.yes (bne_iff_ne.2 (by assumption)) ?_
      | (refine Br.dec (fun h => ?_) (fun h => ?_) <;> try dsimp only at h)
      | (refine Br.beqI (fun h => ?_) (fun h => ?_) <;> try dsimp only at h)
      | (refine Br.bneI (fun h => ?_) (fun h => ?_) <;> try dsimp only at h)
      | refine Br.mk (fun h => ?_) (fun h => ?_)
      | refine Need.mk (by first | kernel_rfl | exact ⟨of_decide_eq_true rfl, of_decide_eq_true rfl⟩ | omega) ?_
      | refine Len.mk ⟨_, by simp only [List.length_cons, List.length_nil, Nat.reduceAdd, Int.cast_ofNat_Int]; rfl, ?_⟩
      | refine Wr.lit _ (by simp only [Int.reduceAdd, Int.reduceSub, Int.reduceMul]; rfl) (by decide) ?_
      | refine Wr.fit (by omega) ?_
      | refine Wr.fit (by dsimp only; omega) ?_
      | refine Elem.mk ⟨_, ⟨of_decide_eq_true rfl, rfl⟩, ?_⟩
      | refine Len.map ?_
      | refine Len.dropM ?_
      | refine Elem.dropM ?_
      | refine Len.takeM ?_
      | refine Elem.takeM ?_
      | refine Elem.mapK (by assumption) ?_
      | refine Elem.mapI (by omega) (by assumption) ?_
      | refine Elem.mapN (by omega) (fun x hx => ?_)
      | refine Elem.map (by omega) (by omega) (fun x hx => ?_)
      | refine (hL).use ⟨rfl, ?_⟩
      | refine (hal).use ⟨rfl, ?_⟩
      | refine CallX.mk ⟨_, _, (hL).x, rfl, ?_⟩
      | refine CallX.mk ⟨_, _, (hal).x, rfl, ?_⟩
      | refine Done.mk ⟨rfl, rfl⟩
      | refine Done.mk ⟨congrArg gb ?_, rfl⟩
      | refine Done.mk ⟨?_, rfl⟩
      | refine Done.mk ⟨?_, ?_⟩)
    all_goals (simp at *; done)
  case pos =>
  rw [hd] at hL
  have hdo := light30_Ok hd
  by_cases he : (depotE d).2.2 = 0
  case neg =>
    have hmay := refMayD_ok d hdo
    rw [show mayD d = false from decide_eq_false he] at hmay
    have h0 := new_err d hdo he
    have h1 := yardOrderNil_ok p
    have h2 := yardTruckNil_ok q
    have h3 := yardWayNil_ok x y
    have h4 := yardMeterNil_ok q
    have h5 := (refSameOrder_ok Order.zero Order.zero (by decide)).sub (.cons (.agg zeroO_sub) (.cons (.agg zeroO_sub) .nil))
    rw [decide_eq_true rfl] at h5
    have h6 := (refSameTruck_ok Truck.zero Truck.zero (by decide) (by decide)).sub (.cons (.agg zeroT_sub) (.cons (.agg zeroT_sub) .nil))
    rw [decide_eq_true rfl] at h6
    generalize (depotE d).2.2 = E at *
    clear hdo hd
    obtain ⟨b, w, oo, l⟩ := d
    refine ICalls.of_body Tryz.func4 rfl Tryz.call4 rfl (Nat.le_of_ble_eq_true rfl) (fun _ => none) rfl ?_
    repeat' ((conv => whnf); first
      | refine Br.yes rfl ?_
      | refine Br.no rfl ?_
      | refine Need.mk (EqRun.flat (by kernel_rfl) rfl) ?_
      | refine Br.yes (beq_self_eq_true _) ?_
      | refine Br.not ?_
      | refine Br.yes (decide_eq_true (by assumption)) ?_
      | refine Br.no (decide_eq_false (by assumption)) ?_
      | refine Br.yes (beq_iff_eq.2 (by assumption)) ?_
      | refine Br.no (beq_eq_false_iff_ne.2 (by assumption)) ?_
      | refine Br.yes (bne_iff_ne.2 (by assumption)) ?_
      | (refine Br.dec (fun h => ?_) (fun h => ?_) <;> try dsimp only at h)
      | (refine Br.beqI (fun h => ?_) (fun h => ?_) <;> try dsimp only at h)
      | (refine Br.bneI (fun h => ?_) (fun h => ?_) <;> try dsimp only at h)
      | refine Br.mk (fun h => ?_) (fun h => ?_)
      | refine Need.mk (by first | kernel_rfl | exact ⟨of_decide_eq_true rfl, of_decide_eq_true rfl⟩ | omega) ?_
      | refine Len.mk ⟨_, by simp only [List.length_cons, List.length_nil, Nat.reduceAdd, Int.cast_ofNat_Int]; rfl, ?_⟩
      | refine Wr.lit _ (by simp only [Int.reduceAdd, Int.reduceSub, Int.reduceMul]; rfl) (by decide) ?_
      | refine Wr.fit (by omega) ?_
      | refine Wr.fit (by dsimp only; omega) ?_
      | refine Elem.mk ⟨_, ⟨of_decide_eq_true rfl, rfl⟩, ?_⟩
      | refine Len.map ?_
      | refine Len.dropM ?_
      | refine Elem.dropM ?_
      | refine Len.takeM ?_
      | refine Elem.takeM ?_
      | refine Elem.mapK (by assumption) ?_
      | refine Elem.mapI (by omega) (by assumption) ?_
      | refine Elem.mapN (by omega) (fun x hx => ?_)
      | refine Elem.map (by omega) (by omega) (fun x hx => ?_)
      | refine (hL).use ⟨rfl, ?_⟩
      | refine (hal).use ⟨rfl, ?_⟩
      | refine (h0).use ⟨rfl, ?_⟩
      | refine (h1).use ⟨rfl, ?_⟩
      | refine (h2).use ⟨rfl, ?_⟩
      | refine (h3).use ⟨rfl, ?_⟩
      | refine (h4).use ⟨rfl, ?_⟩
      | refine (h5).use ⟨rfl, ?_⟩
      | refine (h6).use ⟨rfl, ?_⟩
      | refine (hmay).use ⟨rfl, ?_⟩
      | refine CallX.mk ⟨_, _, (hL).x, rfl, ?_⟩
      | refine CallX.mk ⟨_, _, (hal).x, rfl, ?_⟩
      | refine CallX.mk ⟨_, _, (h0).x, rfl, ?_⟩
      | refine CallX.mk ⟨_, _, (h1).x, rfl, ?_⟩
      | refine CallX.mk ⟨_, _, (h2).x, rfl, ?_⟩
      | refine CallX.mk ⟨_, _, (h3).x, rfl, ?_⟩
      | refine CallX.mk ⟨_, _, (h4).x, rfl, ?_⟩
      | refine CallX.mk ⟨_, _, (h5).x, rfl, ?_⟩
      | refine CallX.mk ⟨_, _, (h6).x, rfl, ?_⟩
      | refine CallX.mk ⟨_, _, (hmay).x, rfl, ?_⟩
      | refine Done.mk ⟨rfl, rfl⟩
      | refine Done.mk ⟨congrArg gb ?_, rfl⟩
      | refine Done.mk ⟨?_, rfl⟩
      | refine Done.mk ⟨?_, ?_⟩)
    all_goals first
      | omega
      | rfl
      | (simp at *; done)
  case pos =>
    have hm := depotE_meters he
    have hO : ∃ fo : Order × Bool, findO d.Orders p = fo ∧ ICalls Tryz.prog 19 [fo.1.g, (if fo.2 then fo.1.g else zeroO)] [] (Done (gb true) []) ∧ (if fo.2 = true then 0 ≤ idxFrom (isOID p) 0 d.Orders ∧ d.Orders[(idxFrom (isOID p) 0 d.Orders).toNat]? = some fo.1 else idxFrom (isOID p) 0 d.Orders = -1) := by
      by_cases hi : 0 ≤ idxFrom (isOID p) 0 d.Orders
      · obtain ⟨t, h1, h2⟩ := findO_idx hi
        have hs := refSameOrder_ok t t (hdo.op t (List.mem_of_getElem? h1))
        rw [decide_eq_true rfl] at hs
        exact ⟨(t, true), h2, hs, ⟨hi, h1⟩⟩
      · have hs := (refSameOrder_ok Order.zero Order.zero (by decide)).sub (.cons (.refl _) (.cons (.agg zeroO_sub) .nil))
        rw [decide_eq_true rfl] at hs
        exact ⟨(Order.zero, false), findO_0 (by omega), hs, idx_neg _ _ (by omega) hi⟩
    have hT : ∃ (ft : Truck × Bool) (fm : Meter × Bool), findV d.Trucks q = ft ∧ meterAt d (metersV d).1 q = fm ∧ ICalls Tryz.prog 20 [ft.1.g, (if ft.2 then ft.1.g else zeroT)] [] (Done (gb true) []) ∧ (if ft.2 = true then 0 ≤ idxFrom (isID q) 0 d.Trucks ∧ d.Trucks[(idxFrom (isID q) 0 d.Trucks).toNat]? = some ft.1 else idxFrom (isID q) 0 d.Trucks = -1) ∧ fm.2 = ft.2 ∧ (ft.2 = true → (truckMeter d.Book ft.1.Past).1 = fm.1) ∧ (ft.2 = false → fm.1 = Meter.zero) := by
      by_cases hi : 0 ≤ idxFrom (isID q) 0 d.Trucks
      · obtain ⟨t, h1, h2⟩ := findV_idx hi
        have hl := hdo.tp t (List.mem_of_getElem? h1)
        have hs := refSameTruck_ok t t (by omega) (by omega)
        rw [decide_eq_true rfl] at hs
        exact ⟨(t, true), _, h2, meterAt_idx hi h1 hm, hs, ⟨hi, h1⟩, rfl, fun _ => rfl, fun h => by cases h⟩
      · have hs := (refSameTruck_ok Truck.zero Truck.zero (by decide) (by decide)).sub (.cons (.refl _) (.cons (.agg zeroT_sub) .nil))
        rw [decide_eq_true rfl] at hs
        exact ⟨(Truck.zero, false), _, findV_0 (by omega), meterAt_none hi, hs, idx_neg _ _ (by omega) hi, rfl, fun h => (by cases h), fun _ => rfl⟩
    obtain ⟨fo, o1, o2, o3⟩ := hO
    obtain ⟨ft, fm, t1, t2, t3, t4, t5, t6, t7⟩ := hT
    exact finds_yes d p q x y hL hdo he fo o1 ft t1 fm t2 o2 t3 o3 t4 t5 t6 t7

theorem depotFinds_law (g0 : GV) (h0 : ArgOk depotTy g0) (g1 : GV) (h1 : ArgOk namedTy g1) :
    ICalls Tryz.prog 4 [g0, g1] [] (Done (gb true) []) := by
  obtain ⟨d, rfl⟩ := depot_of h0
  obtain ⟨a, b, c, e, rfl⟩ := named_of h1
  exact depotFinds_ok d a b c e

end Go.Hl
