/- Contracts of functions, bundle T8; proved for whatever the arguments' types allow, as each theorem says. -/
import Derived.Test.YtagbineecmclnaaT5
import Derived.Test.YtagbineecmclnaaH1

/- Chapter 20: TrailAudits.  -/
set_option linter.unusedVariables false
set_option linter.unusedSimpArgs false
namespace Go.Hl
open Go.Gh Go.Proofs

theorem light20_len {l : List Task} {r : List Rec} (h : light20 l r = true) : l.length ≤ 40 ∧ r.length ≤ 60 := by
  unfold light20 at h
  simp only [Bool.and_eq_true, decide_eq_true_eq] at h
  exact ⟨lightB_len h.1, h.2.1⟩
theorem flN_len (f : F4) : (flN f 0).length ≤ 4 := by
  show (fl1 10 f.a ++ (fl1 11 f.b ++ (fl1 12 f.c ++ fl1 13 f.d))).length ≤ 4
  have : ∀ c a : Int, (fl1 c a).length ≤ 1 := fun c a => by unfold fl1; split <;> simp
  have h1 := this 10 f.a
  have h2 := this 11 f.b
  have h3 := this 12 f.c
  have h4 := this 13 f.d
  simp only [List.length_append]; omega
theorem refT_len (l : List Task) (s : Spot) (R : List Rec) : (refT l s R).2.length ≤ 5 := by
  unfold refT
  split
  · have := flN_len (ov20 l (kindsOf R) s (beginOf R) ⟨-1, -1, -1, -1⟩).2
    simp only [List.length_append]
    split <;> simp <;> omega
  · simp
theorem refT_err {l : List Task} {s : Spot} {R : List Rec} (h : chk20 l s R ≠ 0) : refT l s R = (zeroSpot, []) := if_neg h

set_option maxRecDepth 100000 in
set_option maxHeartbeats 4000000 in
theorem trailAudits_ok (l : List Task) (s : Spot) (R : List Rec) : ICalls Try.prog 5 [.list 3 (tasks l) none, s.g, .list 3 (recs R) none] [] (Done (gb true) []) := by
  by_cases hb : light20 l R = true
  case neg =>
    refine ICalls.of_body Try.func5 rfl Try.call5 rfl (Nat.le_of_ble_eq_true rfl) (fun _ => none) rfl ?_
    repeat' ((conv => whnf); first
      | refine Br.yes rfl ?_
      | refine Br.no rfl ?_
      | refine Br.yes (beq_self_eq_true _) ?_
      | refine Br.not ?_
      | refine Br.yes (decide_eq_true (by assumption)) ?_
      | refine Br.no (decide_eq_false (by assumption)) ?_
      | refine Br.yes (beq_iff_eq.2 (by assumption)) ?_
      | refine Br.no (beq_eq_false_iff_ne.2 (by assumption)) ?_
      | refine Br.yes (bne_iff_ne.2 (by assumption)) ?_
      | (refine Br.dec (fun h => ?_) (fun h => ?_) <;> try dsimp only at h)
      | (refine Br.beqI (fun h => ?_) (fun h => ?_) <;> try dsimp only at h)
      | (refine Br.bneI (fun h => ?_) (fun h => ?_) <;> try dsimp only at h)
      | refine Br.mk (fun h => ?_) (fun h => ?_)
      | refine Need.mk (app_need (by first | (simp only [List.length_append, List.length_map, List.length_nil, List.length_cons, List.nil_append, Nat.zero_add, Nat.add_zero]; done) | (simp only [List.length_append, List.length_map, List.length_nil, List.length_cons, List.nil_append, Nat.zero_add, Nat.add_zero]; omega) | omega) (Nat.le_of_ble_eq_true rfl) (by first | (simp only [List.length_append, List.length_map, List.length_nil, List.length_cons, List.nil_append, Nat.zero_add, Nat.add_zero]; done) | (simp only [List.length_append, List.length_map, List.length_nil, List.length_cons, List.nil_append, Nat.zero_add, Nat.add_zero]; omega) | omega)) ?_
      | refine Need.mk (app_need0 (Nat.le_of_ble_eq_true rfl) (by first | (simp only [List.length_append, List.length_map, List.length_nil, List.length_cons, List.nil_append, Nat.zero_add, Nat.add_zero]; done) | (simp only [List.length_append, List.length_map, List.length_nil, List.length_cons, List.nil_append, Nat.zero_add, Nat.add_zero]; omega) | omega)) ?_
      | refine Need.mk (by first | kernel_rfl | exact ⟨of_decide_eq_true rfl, of_decide_eq_true rfl⟩ | omega) ?_
      | refine Len.mk ⟨_, by simp only [List.length_cons, List.length_nil, Nat.reduceAdd, Int.cast_ofNat_Int]; rfl, ?_⟩
      | refine Wr.lit _ (by simp only [Int.reduceAdd, Int.reduceSub, Int.reduceMul]; rfl) (by decide) ?_
      | refine Wr.fit (by omega) ?_
      | refine Wr.fit (by dsimp only; omega) ?_
      | refine Elem.mk ⟨_, ⟨of_decide_eq_true rfl, rfl⟩, ?_⟩
      | refine Len.map ?_
      | refine Len.dropM ?_
      | refine Elem.dropM ?_
      | refine Len.takeM ?_
      | refine Elem.takeM ?_
      | refine Elem.mapK (by assumption) ?_
      | refine Elem.mapI (by omega) (by assumption) ?_
      | refine Elem.mapN (by omega) (fun x hx => ?_)
      | refine Elem.map (by omega) (by omega) (fun x hx => ?_)
      | refine ((light20_ok l R).to (congrArg gb (Bool.eq_false_iff.2 hb))).use ⟨rfl, ?_⟩
      | refine (alive20_ok).use ⟨rfl, ?_⟩
      | refine CallX.mk ⟨_, _, ((light20_ok l R).to (congrArg gb (Bool.eq_false_iff.2 hb))).x, rfl, ?_⟩
      | refine CallX.mk ⟨_, _, (alive20_ok).x, rfl, ?_⟩
      | refine Done.mk ⟨rfl, rfl⟩
      | refine Done.mk ⟨congrArg gb ?_, rfl⟩
      | refine Done.mk ⟨?_, rfl⟩
      | refine Done.mk ⟨?_, ?_⟩)
  case pos =>
    have hlen := light20_len hb
    have h0 := (light20_ok l R).to (congrArg gb hb)
    have h1 := trailAudit_ok l s R (by omega)
    have h2 := refTrail_ok l s R (by omega)
    have h3 := follows_ok l s R (by omega)
    rw [aud_ref] at h1 h3
    have h4 := sameFnd_self (refT l s R).2 (by have := refT_len l s R; omega)
    by_cases he : chk20 l s R = 0
    case neg =>
      rw [refT_err he] at h1 h2 h3 h4
      rw [decide_eq_false he, Bool.false_and] at h3
      generalize chk20 l s R = e at *
      clear hb
      refine ICalls.of_body Try.func5 rfl Try.call5 rfl (Nat.le_of_ble_eq_true rfl) (fun _ => none) rfl ?_
      repeat' ((conv => whnf); first
        | refine Br.yes rfl ?_
        | refine Br.no rfl ?_
        | refine Need.mk (EqRun.flat (by kernel_rfl) rfl) ?_
        | refine Br.yes (beq_self_eq_true _) ?_
        | refine Br.not ?_
        | refine Br.yes (decide_eq_true (by assumption)) ?_
        | refine Br.no (decide_eq_false (by assumption)) ?_
        | refine Br.yes (beq_iff_eq.2 (by assumption)) ?_
        | refine Br.no (beq_eq_false_iff_ne.2 (by assumption)) ?_
        | refine Br.yes (bne_iff_ne.2 (by assumption)) ?_
        | (refine Br.dec (fun h => ?_) (fun h => ?_) <;> try dsimp only at h)
        | (refine Br.beqI (fun h => ?_) (fun h => ?_) <;> try dsimp only at h)
        | (refine Br.bneI (fun h => ?_) (fun h => ?_) <;> try dsimp only at h)
        | refine Br.mk (fun h => ?_) (fun h => ?_)
        | refine Need.mk (app_need (by first | (simp only [List.length_append, List.length_map, List.length_nil, List.length_cons, List.nil_append, Nat.zero_add, Nat.add_zero]; done) | (simp only [List.length_append, List.length_map, List.length_nil, List.length_cons, List.nil_append, Nat.zero_add, Nat.add_zero]; omega) | omega) (Nat.le_of_ble_eq_true rfl) (by first | (simp only [List.length_append, List.length_map, List.length_nil, List.length_cons, List.nil_append, Nat.zero_add, Nat.add_zero]; done) | (simp only [List.length_append, List.length_map, List.length_nil, List.length_cons, List.nil_append, Nat.zero_add, Nat.add_zero]; omega) | omega)) ?_
        | refine Need.mk (app_need0 (Nat.le_of_ble_eq_true rfl) (by first | (simp only [List.length_append, List.length_map, List.length_nil, List.length_cons, List.nil_append, Nat.zero_add, Nat.add_zero]; done) | (simp only [List.length_append, List.length_map, List.length_nil, List.length_cons, List.nil_append, Nat.zero_add, Nat.add_zero]; omega) | omega)) ?_
        | refine Need.mk (by first | kernel_rfl | exact ⟨of_decide_eq_true rfl, of_decide_eq_true rfl⟩ | omega) ?_
        | refine Len.mk ⟨_, by simp only [List.length_cons, List.length_nil, Nat.reduceAdd, Int.cast_ofNat_Int]; rfl, ?_⟩
        | refine Wr.lit _ (by simp only [Int.reduceAdd, Int.reduceSub, Int.reduceMul]; rfl) (by decide) ?_
        | refine Wr.fit (by omega) ?_
        | refine Wr.fit (by dsimp only; omega) ?_
        | refine Elem.mk ⟨_, ⟨of_decide_eq_true rfl, rfl⟩, ?_⟩
        | refine Len.map ?_
        | refine Len.dropM ?_
        | refine Elem.dropM ?_
        | refine Len.takeM ?_
        | refine Elem.takeM ?_
        | refine Elem.mapK (by assumption) ?_
        | refine Elem.mapI (by omega) (by assumption) ?_
        | refine Elem.mapN (by omega) (fun x hx => ?_)
        | refine Elem.map (by omega) (by omega) (fun x hx => ?_)
        | refine (h0).use ⟨rfl, ?_⟩
        | refine (h1).use ⟨rfl, ?_⟩
        | refine (h2).use ⟨rfl, ?_⟩
        | refine (h3).use ⟨rfl, ?_⟩
        | refine (h4).use ⟨rfl, ?_⟩
        | refine (alive20_ok).use ⟨rfl, ?_⟩
        | refine CallX.mk ⟨_, _, (h0).x, rfl, ?_⟩
        | refine CallX.mk ⟨_, _, (h1).x, rfl, ?_⟩
        | refine CallX.mk ⟨_, _, (h2).x, rfl, ?_⟩
        | refine CallX.mk ⟨_, _, (h3).x, rfl, ?_⟩
        | refine CallX.mk ⟨_, _, (h4).x, rfl, ?_⟩
        | refine CallX.mk ⟨_, _, (alive20_ok).x, rfl, ?_⟩
        | refine Done.mk ⟨rfl, rfl⟩
        | refine Done.mk ⟨congrArg gb ?_, rfl⟩
        | refine Done.mk ⟨?_, rfl⟩
        | refine Done.mk ⟨?_, ?_⟩)
      all_goals first
        | omega
        | (simp at h; done)
    case pos =>
      rw [he, decide_eq_true rfl, Bool.true_and] at h3
      rw [he] at h1 h2
      generalize refT l s R = q at *
      obtain ⟨s', f⟩ := q
      simp only at h1 h2 h3 h4
      clear hb he
      cases f with
      | nil =>
        rw [decide_eq_true rfl] at h3
        refine ICalls.of_body Try.func5 rfl Try.call5 rfl (Nat.le_of_ble_eq_true rfl) (fun _ => none) rfl ?_
        repeat' ((conv => whnf); first
          | refine Br.yes rfl ?_
          | refine Br.no rfl ?_
          | refine Need.mk (EqRun.flat (by kernel_rfl) rfl) ?_
          | refine Br.yes (beq_self_eq_true _) ?_
          | refine Br.not ?_
          | refine Br.yes (decide_eq_true (by assumption)) ?_
          | refine Br.no (decide_eq_false (by assumption)) ?_
          | refine Br.yes (beq_iff_eq.2 (by assumption)) ?_
          | refine Br.no (beq_eq_false_iff_ne.2 (by assumption)) ?_
          | refine Br.yes (bne_iff_ne.2 (by assumption)) ?_
          | (refine Br.dec (fun h => ?_) (fun h => ?_) <;> try dsimp only at h)
          | (refine Br.beqI (fun h => ?_) (fun h => ?_) <;> try dsimp only at h)
          | (refine Br.bneI (fun h => ?_) (fun h => ?_) <;> try dsimp only at h)
          | refine Br.mk (fun h => ?_) (fun h => ?_)
          | refine Need.mk (app_need (by first | (simp only [List.length_append, List.length_map, List.length_nil, List.length_cons, List.nil_append, Nat.zero_add, Nat.add_zero]; done) | (simp only [List.length_append, List.length_map, List.length_nil, List.length_cons, List.nil_append, Nat.zero_add, Nat.add_zero]; omega) | omega) (Nat.le_of_ble_eq_true rfl) (by first | (simp only [List.length_append, List.length_map, List.length_nil, List.length_cons, List.nil_append, Nat.zero_add, Nat.add_zero]; done) | (simp only [List.length_append, List.length_map, List.length_nil, List.length_cons, List.nil_append, Nat.zero_add, Nat.add_zero]; omega) | omega)) ?_
          | refine Need.mk (app_need0 (Nat.le_of_ble_eq_true rfl) (by first | (simp only [List.length_append, List.length_map, List.length_nil, List.length_cons, List.nil_append, Nat.zero_add, Nat.add_zero]; done) | (simp only [List.length_append, List.length_map, List.length_nil, List.length_cons, List.nil_append, Nat.zero_add, Nat.add_zero]; omega) | omega)) ?_
          | refine Need.mk (by first | kernel_rfl | exact ⟨of_decide_eq_true rfl, of_decide_eq_true rfl⟩ | omega) ?_
          | refine Len.mk ⟨_, by simp only [List.length_cons, List.length_nil, Nat.reduceAdd, Int.cast_ofNat_Int]; rfl, ?_⟩
          | refine Wr.lit _ (by simp only [Int.reduceAdd, Int.reduceSub, Int.reduceMul]; rfl) (by decide) ?_
          | refine Wr.fit (by omega) ?_
          | refine Wr.fit (by dsimp only; omega) ?_
          | refine Elem.mk ⟨_, ⟨of_decide_eq_true rfl, rfl⟩, ?_⟩
          | refine Len.map ?_
          | refine Len.dropM ?_
          | refine Elem.dropM ?_
          | refine Len.takeM ?_
          | refine Elem.takeM ?_
          | refine Elem.mapK (by assumption) ?_
          | refine Elem.mapI (by omega) (by assumption) ?_
          | refine Elem.mapN (by omega) (fun x hx => ?_)
          | refine Elem.map (by omega) (by omega) (fun x hx => ?_)
          | refine (h0).use ⟨rfl, ?_⟩
          | refine (h1).use ⟨rfl, ?_⟩
          | refine (h2).use ⟨rfl, ?_⟩
          | refine (h3).use ⟨rfl, ?_⟩
          | refine (h4).use ⟨rfl, ?_⟩
          | refine (alive20_ok).use ⟨rfl, ?_⟩
          | refine CallX.mk ⟨_, _, (h0).x, rfl, ?_⟩
          | refine CallX.mk ⟨_, _, (h1).x, rfl, ?_⟩
          | refine CallX.mk ⟨_, _, (h2).x, rfl, ?_⟩
          | refine CallX.mk ⟨_, _, (h3).x, rfl, ?_⟩
          | refine CallX.mk ⟨_, _, (h4).x, rfl, ?_⟩
          | refine CallX.mk ⟨_, _, (alive20_ok).x, rfl, ?_⟩
          | refine Done.mk ⟨rfl, rfl⟩
          | refine Done.mk ⟨congrArg gb ?_, rfl⟩
          | refine Done.mk ⟨?_, rfl⟩
          | refine Done.mk ⟨?_, ?_⟩)
        all_goals first
          | omega
          | (simp at h; done)
      | cons x t =>
        rw [decide_eq_false (by simp)] at h3
        refine ICalls.of_body Try.func5 rfl Try.call5 rfl (Nat.le_of_ble_eq_true rfl) (fun _ => none) rfl ?_
        repeat' ((conv => whnf); first
          | refine Br.yes rfl ?_
          | refine Br.no rfl ?_
          | refine Need.mk (EqRun.flat (by kernel_rfl) rfl) ?_
          | refine Br.yes (beq_self_eq_true _) ?_
          | refine Br.not ?_
          | refine Br.yes (decide_eq_true (by assumption)) ?_
          | refine Br.no (decide_eq_false (by assumption)) ?_
          | refine Br.yes (beq_iff_eq.2 (by assumption)) ?_
          | refine Br.no (beq_eq_false_iff_ne.2 (by assumption)) ?_
          | refine Br.yes (bne_iff_ne.2 (by assumption)) ?_
          | (refine Br.dec (fun h => ?_) (fun h => ?_) <;> try dsimp only at h)
          | (refine Br.beqI (fun h => ?_) (fun h => ?_) <;> try dsimp only at h)
          | (refine Br.bneI (fun h => ?_) (fun h => ?_) <;> try dsimp only at h)
          | refine Br.mk (fun h => ?_) (fun h => ?_)
          | refine Need.mk (app_need (by first | (simp only [List.length_append, List.length_map, List.length_nil, List.length_cons, List.nil_append, Nat.zero_add, Nat.add_zero]; done) | (simp only [List.length_append, List.length_map, List.length_nil, List.length_cons, List.nil_append, Nat.zero_add, Nat.add_zero]; omega) | omega) (Nat.le_of_ble_eq_true rfl) (by first | (simp only [List.length_append, List.length_map, List.length_nil, List.length_cons, List.nil_append, Nat.zero_add, Nat.add_zero]; done) | (simp only [List.length_append, List.length_map, List.length_nil, List.length_cons, List.nil_append, Nat.zero_add, Nat.add_zero]; omega) | omega)) ?_
          | refine Need.mk (app_need0 (Nat.le_of_ble_eq_true rfl) (by first | (simp only [List.length_append, List.length_map, List.length_nil, List.length_cons, List.nil_append, Nat.zero_add, Nat.add_zero]; done) | (simp only [List.length_append, List.length_map, List.length_nil, List.length_cons, List.nil_append, Nat.zero_add, Nat.add_zero]; omega) | omega)) ?_
          | refine Need.mk (by first | kernel_rfl | exact ⟨of_decide_eq_true rfl, of_decide_eq_true rfl⟩ | omega) ?_
          | refine Len.mk ⟨_, by simp only [List.length_cons, List.length_nil, Nat.reduceAdd, Int.cast_ofNat_Int]; rfl, ?_⟩
          | refine Wr.lit _ (by simp only [Int.reduceAdd, Int.reduceSub, Int.reduceMul]; rfl) (by decide) ?_
          | refine Wr.fit (by omega) ?_
          | refine Wr.fit (by dsimp only; omega) ?_
          | refine Elem.mk ⟨_, ⟨of_decide_eq_true rfl, rfl⟩, ?_⟩
          | refine Len.map ?_
          | refine Len.dropM ?_
          | refine Elem.dropM ?_
          | refine Len.takeM ?_
          | refine Elem.takeM ?_
          | refine Elem.mapK (by assumption) ?_
          | refine Elem.mapI (by omega) (by assumption) ?_
          | refine Elem.mapN (by omega) (fun x hx => ?_)
          | refine Elem.map (by omega) (by omega) (fun x hx => ?_)
          | refine (h0).use ⟨rfl, ?_⟩
          | refine (h1).use ⟨rfl, ?_⟩
          | refine (h2).use ⟨rfl, ?_⟩
          | refine (h3).use ⟨rfl, ?_⟩
          | refine (h4).use ⟨rfl, ?_⟩
          | refine (alive20_ok).use ⟨rfl, ?_⟩
          | refine CallX.mk ⟨_, _, (h0).x, rfl, ?_⟩
          | refine CallX.mk ⟨_, _, (h1).x, rfl, ?_⟩
          | refine CallX.mk ⟨_, _, (h2).x, rfl, ?_⟩
          | refine CallX.mk ⟨_, _, (h3).x, rfl, ?_⟩
          | refine CallX.mk ⟨_, _, (h4).x, rfl, ?_⟩
          | refine CallX.mk ⟨_, _, (alive20_ok).x, rfl, ?_⟩
          | refine Done.mk ⟨rfl, rfl⟩
          | refine Done.mk ⟨congrArg gb ?_, rfl⟩
          | refine Done.mk ⟨?_, rfl⟩
          | refine Done.mk ⟨?_, ?_⟩)
        all_goals first
          | omega
          | (simp at h; done)

theorem trailAudits_law (g0 : GV) (h0 : ArgOk (.list taskTy) g0) (g1 : GV) (h1 : ArgOk spotTy g1) (g2 : GV) (h2 : ArgOk (.list recTy) g2) :
    ICalls Try.prog 5 [g0, g1, g2] [] (Done (gb true) []) := by
  obtain ⟨l, rfl, _⟩ := list_of el_task h0
  obtain ⟨s, rfl, hs⟩ := spot_of h1
  obtain ⟨r, rfl, _⟩ := list_of el_rec h2
  exact trailAudits_ok l s r

end Go.Hl
