/- Contracts of functions, bundle H12; proved for whatever the arguments' types allow, as each theorem says. -/
import Derived.Test.YteckhahneieicaaH11
import Derived.Test.YteckhahneieicaaH1

/- Laws of chapter 25.  -/
set_option linter.unusedVariables false
set_option linter.unusedSimpArgs false
namespace Go.Hl
open Go.Gh Go.Proofs

def alT25 : List Task := [⟨400, 0, []⟩]
def alX25 : Lab := ⟨⟨270, 270, false, 0, 0, 270, 0, false, 0, 0, false, 270, 0, 270⟩, ⟨0, 270, 0⟩⟩
theorem al25_e : labErr Book.europe alT25 alX25 = 0 := by decide +kernel
theorem al25_3 : lstep Book.europe alT25 alX25 3 = (Lab.zero, false) := by decide +kernel
theorem al25_2 : lstep Book.europe alT25 alX25 2 = (Lab.zero, false) := by decide +kernel
theorem al25_0 : lstep Book.europe alT25 alX25 0 = (⟨⟨271, 270, false, 1, 0, 270, 0, false, 0, 0, false, 270, 0, 270⟩, ⟨0, 270, 0⟩⟩, true) := by decide +kernel
theorem al25_1 : lstep Book.europe alT25 alX25 1 = (⟨⟨271, 270, false, 0, 0, 270, 0, false, 0, 0, false, 270, 0, 270⟩, ⟨0, 270, 0⟩⟩, true) := by decide +kernel

set_option maxRecDepth 100000 in
theorem alive25_ok : ICalls Try.prog 27 [] [] (Done (gb true) []) := by
  have hw := ways_ok Book.europe alT25 alX25
  rw [al25_e] at hw
  rw [if_pos rfl] at hw
  unfold waysL at hw
  rw [al25_3, al25_2, al25_0, al25_1] at hw
  have hw' : ICalls Try.prog 28 [Book.europe.g, .list 3 [.agg [gi 400, gi 0, .v (.slice none 0 0)]] none, alX25.g] [] _ :=
    hw.sub (.cons (.refl _) (.cons (.list (.cons (.cons (.refl _) (.cons (.refl _) (.cons (.nil 2) .nil))) rfl .nil)) (.cons (.refl _) .nil)))
  clear hw
  simp only [nextOf, Bool.false_eq_true, if_false, if_true, List.nil_append, List.singleton_append, List.cons_append, List.append_nil] at hw'
  refine ICalls.of_body Try.func27 rfl Try.call27 rfl (Nat.le_of_ble_eq_true rfl) (fun _ => none) ?_
  repeat' ((conv => whnf); first
    | refine Br.yes rfl ?_
    | refine Br.no rfl ?_
    | refine Br.yes (beq_self_eq_true _) ?_
    | refine Br.not ?_
    | refine Br.yes (decide_eq_true (by assumption)) ?_
    | refine Br.no (decide_eq_false (by assumption)) ?_
    | refine Br.yes (beq_iff_eq.2 (by assumption)) ?_
    | refine Br.no (beq_eq_false_iff_ne.2 (by assumption)) ?_
    | refine Br.yes (bne_iff_ne.2 (by assumption)) ?_
    | (refine Br.dec (fun h => ?_) (fun h => ?_) <;> try dsimp only at h)
    | (refine Br.beqI (fun h => ?_) (fun h => ?_) <;> try dsimp only at h)
    | (refine Br.bneI (fun h => ?_) (fun h => ?_) <;> try dsimp only at h)
    | refine Br.mk (fun h => ?_) (fun h => ?_)
    | refine Need.mk (app_need (by first | (simp only [List.length_append, List.length_map, List.length_nil, List.length_cons, List.nil_append, Nat.zero_add, Nat.add_zero]; done) | (simp only [List.length_append, List.length_map, List.length_nil, List.length_cons, List.nil_append, Nat.zero_add, Nat.add_zero]; omega) | omega) (Nat.le_of_ble_eq_true rfl) (by first | (simp only [List.length_append, List.length_map, List.length_nil, List.length_cons, List.nil_append, Nat.zero_add, Nat.add_zero]; done) | (simp only [List.length_append, List.length_map, List.length_nil, List.length_cons, List.nil_append, Nat.zero_add, Nat.add_zero]; omega) | omega)) ?_
    | refine Need.mk (app_need0 (Nat.le_of_ble_eq_true rfl) (by first | (simp only [List.length_append, List.length_map, List.length_nil, List.length_cons, List.nil_append, Nat.zero_add, Nat.add_zero]; done) | (simp only [List.length_append, List.length_map, List.length_nil, List.length_cons, List.nil_append, Nat.zero_add, Nat.add_zero]; omega) | omega)) ?_
    | refine Need.mk (by first | kernel_rfl | exact ⟨of_decide_eq_true rfl, of_decide_eq_true rfl⟩ | omega) ?_
    | refine Len.mk ⟨_, by simp only [List.length_cons, List.length_nil, Nat.reduceAdd, Int.cast_ofNat_Int]; rfl, ?_⟩
    | refine Wr.lit _ (by simp only [Int.reduceAdd, Int.reduceSub, Int.reduceMul]; rfl) (by decide) ?_
    | refine Wr.fit (by omega) ?_
    | refine Wr.fit (by dsimp only; omega) ?_
    | refine Elem.mk ⟨_, ⟨of_decide_eq_true rfl, rfl⟩, ?_⟩
    | refine Len.map ?_
    | refine Len.dropM ?_
    | refine Elem.dropM ?_
    | refine Len.takeM ?_
    | refine Elem.takeM ?_
    | refine Elem.mapK (by assumption) ?_
    | refine Elem.mapI (by omega) (by assumption) ?_
    | refine Elem.mapN (by omega) (fun x hx => ?_)
    | refine Elem.map (by omega) (by omega) (fun x hx => ?_)
    | refine (europe_ok).use ⟨rfl, ?_⟩
    | refine (hw').use ⟨rfl, ?_⟩
    | refine CallX.mk ⟨_, _, (europe_ok).x, rfl, ?_⟩
    | refine CallX.mk ⟨_, _, (hw').x, rfl, ?_⟩
    | refine Done.mk ⟨rfl, rfl⟩
    | refine Done.mk ⟨congrArg gb ?_, rfl⟩
    | refine Done.mk ⟨?_, rfl⟩
    | refine Done.mk ⟨?_, ?_⟩)

def pl_E7_1 : Nat → Option (List Nat × List Nat) := (fun k => bif Nat.beq k 12 then some ([1000012, 1, 3, 5, 8, 11, 51, 52, 53], [103, 105]) else none)
def pl_E7_2 : Nat → Option (List Nat × List Nat) := (fun k => bif Nat.beq k 12 then some ([1000012, 1, 3, 5, 8, 11, 51, 52, 53], [103, 105]) else none)
def pl_E7_3 : Nat → Option (List Nat × List Nat) := (fun k => bif Nat.beq k 12 then some ([1000012, 1, 3, 5, 8, 11, 51, 52, 53], [103, 105]) else none)
set_option maxRecDepth 100000 in
set_option maxHeartbeats 16000000 in
theorem labelWays_ok (b : Book) (l : List Task) (x : Lab) : ICalls Try.prog 10 [b.g, .list 3 (tasks l) none, x.g] [] (Done (gb true) []) := by
  by_cases hl : lightB l = true
  case neg =>
    refine ICalls.of_body Try.func10 rfl Try.call10 rfl (Nat.le_of_ble_eq_true rfl) pl_E7_1 ?_
    repeat' ((conv => whnf); first
      | refine Br.yes rfl ?_
      | refine Br.no rfl ?_
      | refine Br.yes (beq_self_eq_true _) ?_
      | refine Br.not ?_
      | refine Br.yes (decide_eq_true (by assumption)) ?_
      | refine Br.no (decide_eq_false (by assumption)) ?_
      | refine Br.yes (beq_iff_eq.2 (by assumption)) ?_
      | refine Br.no (beq_eq_false_iff_ne.2 (by assumption)) ?_
      | refine Br.yes (bne_iff_ne.2 (by assumption)) ?_
      | (refine Br.dec (fun h => ?_) (fun h => ?_) <;> try dsimp only at h)
      | (refine Br.beqI (fun h => ?_) (fun h => ?_) <;> try dsimp only at h)
      | (refine Br.bneI (fun h => ?_) (fun h => ?_) <;> try dsimp only at h)
      | refine Br.mk (fun h => ?_) (fun h => ?_)
      | refine Need.mk (app_need (by first | (simp only [List.length_append, List.length_map, List.length_nil, List.length_cons, List.nil_append, Nat.zero_add, Nat.add_zero]; done) | (simp only [List.length_append, List.length_map, List.length_nil, List.length_cons, List.nil_append, Nat.zero_add, Nat.add_zero]; omega) | omega) (Nat.le_of_ble_eq_true rfl) (by first | (simp only [List.length_append, List.length_map, List.length_nil, List.length_cons, List.nil_append, Nat.zero_add, Nat.add_zero]; done) | (simp only [List.length_append, List.length_map, List.length_nil, List.length_cons, List.nil_append, Nat.zero_add, Nat.add_zero]; omega) | omega)) ?_
      | refine Need.mk (app_need0 (Nat.le_of_ble_eq_true rfl) (by first | (simp only [List.length_append, List.length_map, List.length_nil, List.length_cons, List.nil_append, Nat.zero_add, Nat.add_zero]; done) | (simp only [List.length_append, List.length_map, List.length_nil, List.length_cons, List.nil_append, Nat.zero_add, Nat.add_zero]; omega) | omega)) ?_
      | refine Need.mk (by first | kernel_rfl | exact ⟨of_decide_eq_true rfl, of_decide_eq_true rfl⟩ | omega) ?_
      | refine Len.mk ⟨_, by simp only [List.length_cons, List.length_nil, Nat.reduceAdd, Int.cast_ofNat_Int]; rfl, ?_⟩
      | refine Wr.lit _ (by simp only [Int.reduceAdd, Int.reduceSub, Int.reduceMul]; rfl) (by decide) ?_
      | refine Wr.fit (by omega) ?_
      | refine Wr.fit (by dsimp only; omega) ?_
      | refine Elem.mk ⟨_, ⟨of_decide_eq_true rfl, rfl⟩, ?_⟩
      | refine Len.map ?_
      | refine Len.dropM ?_
      | refine Elem.dropM ?_
      | refine Len.takeM ?_
      | refine Elem.takeM ?_
      | refine Elem.mapK (by assumption) ?_
      | refine Elem.mapI (by omega) (by assumption) ?_
      | refine Elem.mapN (by omega) (fun x hx => ?_)
      | refine Elem.map (by omega) (by omega) (fun x hx => ?_)
      | refine ((light_ok l).to (congrArg gb (Bool.eq_false_iff.2 hl))).use ⟨rfl, ?_⟩
      | refine (alive25_ok).use ⟨rfl, ?_⟩
      | refine CallX.mk ⟨_, _, ((light_ok l).to (congrArg gb (Bool.eq_false_iff.2 hl))).x, rfl, ?_⟩
      | refine CallX.mk ⟨_, _, (alive25_ok).x, rfl, ?_⟩
      | refine Done.mk ⟨rfl, rfl⟩
      | refine Done.mk ⟨congrArg gb ?_, rfl⟩
      | refine Done.mk ⟨?_, rfl⟩
      | refine Done.mk ⟨?_, ?_⟩)
  case pos =>
  have hlen := lightB_len hl
  by_cases he : labErr b l x = 0
  case neg =>
    have hw := ways_ok b l x
    rw [if_neg he] at hw
    have h1 := refLabCheck_ok b l x (by omega)
    have h2 := labCheck_ok b l x
    generalize labErr b l x = e at *
    refine ICalls.of_body Try.func10 rfl Try.call10 rfl (Nat.le_of_ble_eq_true rfl) pl_E7_2 ?_
    repeat' ((conv => whnf); first
      | refine Br.yes rfl ?_
      | refine Br.no rfl ?_
      | refine Br.yes (beq_self_eq_true _) ?_
      | refine Br.not ?_
      | refine Br.yes (decide_eq_true (by assumption)) ?_
      | refine Br.no (decide_eq_false (by assumption)) ?_
      | refine Br.yes (beq_iff_eq.2 (by assumption)) ?_
      | refine Br.no (beq_eq_false_iff_ne.2 (by assumption)) ?_
      | refine Br.yes (bne_iff_ne.2 (by assumption)) ?_
      | (refine Br.dec (fun h => ?_) (fun h => ?_) <;> try dsimp only at h)
      | (refine Br.beqI (fun h => ?_) (fun h => ?_) <;> try dsimp only at h)
      | (refine Br.bneI (fun h => ?_) (fun h => ?_) <;> try dsimp only at h)
      | refine Br.mk (fun h => ?_) (fun h => ?_)
      | refine Need.mk (app_need (by first | (simp only [List.length_append, List.length_map, List.length_nil, List.length_cons, List.nil_append, Nat.zero_add, Nat.add_zero]; done) | (simp only [List.length_append, List.length_map, List.length_nil, List.length_cons, List.nil_append, Nat.zero_add, Nat.add_zero]; omega) | omega) (Nat.le_of_ble_eq_true rfl) (by first | (simp only [List.length_append, List.length_map, List.length_nil, List.length_cons, List.nil_append, Nat.zero_add, Nat.add_zero]; done) | (simp only [List.length_append, List.length_map, List.length_nil, List.length_cons, List.nil_append, Nat.zero_add, Nat.add_zero]; omega) | omega)) ?_
      | refine Need.mk (app_need0 (Nat.le_of_ble_eq_true rfl) (by first | (simp only [List.length_append, List.length_map, List.length_nil, List.length_cons, List.nil_append, Nat.zero_add, Nat.add_zero]; done) | (simp only [List.length_append, List.length_map, List.length_nil, List.length_cons, List.nil_append, Nat.zero_add, Nat.add_zero]; omega) | omega)) ?_
      | refine Need.mk (by first | kernel_rfl | exact ⟨of_decide_eq_true rfl, of_decide_eq_true rfl⟩ | omega) ?_
      | refine Len.mk ⟨_, by simp only [List.length_cons, List.length_nil, Nat.reduceAdd, Int.cast_ofNat_Int]; rfl, ?_⟩
      | refine Wr.lit _ (by simp only [Int.reduceAdd, Int.reduceSub, Int.reduceMul]; rfl) (by decide) ?_
      | refine Wr.fit (by omega) ?_
      | refine Wr.fit (by dsimp only; omega) ?_
      | refine Elem.mk ⟨_, ⟨of_decide_eq_true rfl, rfl⟩, ?_⟩
      | refine Len.map ?_
      | refine Len.dropM ?_
      | refine Elem.dropM ?_
      | refine Len.takeM ?_
      | refine Elem.takeM ?_
      | refine Elem.mapK (by assumption) ?_
      | refine Elem.mapI (by omega) (by assumption) ?_
      | refine Elem.mapN (by omega) (fun x hx => ?_)
      | refine Elem.map (by omega) (by omega) (fun x hx => ?_)
      | refine ((light_ok l).to (congrArg gb hl)).use ⟨rfl, ?_⟩
      | refine (hw).use ⟨rfl, ?_⟩
      | refine (h1).use ⟨rfl, ?_⟩
      | refine (h2).use ⟨rfl, ?_⟩
      | refine (alive25_ok).use ⟨rfl, ?_⟩
      | refine CallX.mk ⟨_, _, ((light_ok l).to (congrArg gb hl)).x, rfl, ?_⟩
      | refine CallX.mk ⟨_, _, (hw).x, rfl, ?_⟩
      | refine CallX.mk ⟨_, _, (h1).x, rfl, ?_⟩
      | refine CallX.mk ⟨_, _, (h2).x, rfl, ?_⟩
      | refine CallX.mk ⟨_, _, (alive25_ok).x, rfl, ?_⟩
      | refine Done.mk ⟨rfl, rfl⟩
      | refine Done.mk ⟨congrArg gb ?_, rfl⟩
      | refine Done.mk ⟨?_, rfl⟩
      | refine Done.mk ⟨?_, ?_⟩)
    all_goals simp_all
  case pos =>
    have hw := ways_ok b l x
    rw [if_pos he, he] at hw
    have h1 := (refLabCheck_ok b l x (by omega)).to (congrArg gi he)
    have h2 := (labCheck_ok b l x).to (congrArg gi he)
    have w3 := refLabStep_ok b l x 3 he (by decide)
    have w2 := refLabStep_ok b l x 2 he (by decide)
    have w0 := refLabStep_ok b l x 0 he (by decide)
    have w1 := refLabStep_ok b l x 1 he (by decide)
    unfold waysL at hw
    generalize lstep b l x 3 = p3 at *
    generalize lstep b l x 2 = p2 at *
    generalize lstep b l x 0 = p0 at *
    generalize lstep b l x 1 = p1 at *
    obtain ⟨y3, i3⟩ := p3
    obtain ⟨y2, i2⟩ := p2
    obtain ⟨y0, i0⟩ := p0
    obtain ⟨y1, i1⟩ := p1
    clear he
    cases i3 <;> cases i2 <;> cases i0 <;> cases i1
    all_goals
      simp only [nextOf, Bool.false_eq_true, if_false, if_true, List.nil_append, List.singleton_append, List.cons_append, List.append_nil] at hw
      refine ICalls.of_body Try.func10 rfl Try.call10 rfl (Nat.le_of_ble_eq_true rfl) pl_E7_3 ?_
      repeat' ((conv => whnf); first
        | refine Br.yes rfl ?_
        | refine Br.no rfl ?_
        | refine Need.mk (EqRun.deep (by kernel_rfl) rfl) ?_
        | refine Br.not (Br.yes (by (simp <;> fail)) ?_)
        | refine Br.yes (beq_self_eq_true _) ?_
        | refine Br.not ?_
        | refine Br.yes (decide_eq_true (by assumption)) ?_
        | refine Br.no (decide_eq_false (by assumption)) ?_
        | refine Br.yes (beq_iff_eq.2 (by assumption)) ?_
        | refine Br.no (beq_eq_false_iff_ne.2 (by assumption)) ?_
        | refine Br.yes (bne_iff_ne.2 (by assumption)) ?_
        | (refine Br.dec (fun h => ?_) (fun h => ?_) <;> try dsimp only at h)
        | (refine Br.beqI (fun h => ?_) (fun h => ?_) <;> try dsimp only at h)
        | (refine Br.bneI (fun h => ?_) (fun h => ?_) <;> try dsimp only at h)
        | refine Br.mk (fun h => ?_) (fun h => ?_)
        | refine Need.mk (app_need (by first | (simp only [List.length_append, List.length_map, List.length_nil, List.length_cons, List.nil_append, Nat.zero_add, Nat.add_zero]; done) | (simp only [List.length_append, List.length_map, List.length_nil, List.length_cons, List.nil_append, Nat.zero_add, Nat.add_zero]; omega) | omega) (Nat.le_of_ble_eq_true rfl) (by first | (simp only [List.length_append, List.length_map, List.length_nil, List.length_cons, List.nil_append, Nat.zero_add, Nat.add_zero]; done) | (simp only [List.length_append, List.length_map, List.length_nil, List.length_cons, List.nil_append, Nat.zero_add, Nat.add_zero]; omega) | omega)) ?_
        | refine Need.mk (app_need0 (Nat.le_of_ble_eq_true rfl) (by first | (simp only [List.length_append, List.length_map, List.length_nil, List.length_cons, List.nil_append, Nat.zero_add, Nat.add_zero]; done) | (simp only [List.length_append, List.length_map, List.length_nil, List.length_cons, List.nil_append, Nat.zero_add, Nat.add_zero]; omega) | omega)) ?_
        | refine Need.mk (by first | kernel_rfl | exact ⟨of_decide_eq_true rfl, of_decide_eq_true rfl⟩ | omega) ?_
        | refine Len.mk ⟨_, by simp only [List.length_cons, List.length_nil, Nat.reduceAdd, Int.cast_ofNat_Int]; rfl, ?_⟩
        | refine Wr.lit _ (by simp only [Int.reduceAdd, Int.reduceSub, Int.reduceMul]; rfl) (by decide) ?_
        | refine Wr.fit (by omega) ?_
        | refine Wr.fit (by dsimp only; omega) ?_
        | refine Elem.mk ⟨_, ⟨of_decide_eq_true rfl, rfl⟩, ?_⟩
        | refine Len.map ?_
        | refine Len.dropM ?_
        | refine Elem.dropM ?_
        | refine Len.takeM ?_
        | refine Elem.takeM ?_
        | refine Elem.mapK (by assumption) ?_
        | refine Elem.mapI (by omega) (by assumption) ?_
        | refine Elem.mapN (by omega) (fun x hx => ?_)
        | refine Elem.map (by omega) (by omega) (fun x hx => ?_)
        | refine ((light_ok l).to (congrArg gb hl)).use ⟨rfl, ?_⟩
        | refine (hw).use ⟨rfl, ?_⟩
        | refine (h1).use ⟨rfl, ?_⟩
        | refine (h2).use ⟨rfl, ?_⟩
        | refine (w3).use ⟨rfl, ?_⟩
        | refine (w2).use ⟨rfl, ?_⟩
        | refine (w0).use ⟨rfl, ?_⟩
        | refine (w1).use ⟨rfl, ?_⟩
        | refine (alive25_ok).use ⟨rfl, ?_⟩
        | refine CallX.mk ⟨_, _, ((light_ok l).to (congrArg gb hl)).x, rfl, ?_⟩
        | refine CallX.mk ⟨_, _, (hw).x, rfl, ?_⟩
        | refine CallX.mk ⟨_, _, (h1).x, rfl, ?_⟩
        | refine CallX.mk ⟨_, _, (h2).x, rfl, ?_⟩
        | refine CallX.mk ⟨_, _, (w3).x, rfl, ?_⟩
        | refine CallX.mk ⟨_, _, (w2).x, rfl, ?_⟩
        | refine CallX.mk ⟨_, _, (w0).x, rfl, ?_⟩
        | refine CallX.mk ⟨_, _, (w1).x, rfl, ?_⟩
        | refine CallX.mk ⟨_, _, (alive25_ok).x, rfl, ?_⟩
        | refine ILoop.unroll 5 ?_
        | refine Done.mk ⟨rfl, rfl⟩
        | refine Done.mk ⟨congrArg gb ?_, rfl⟩
        | refine Done.mk ⟨?_, rfl⟩
        | refine Done.mk ⟨?_, ?_⟩)

end Go.Hl
