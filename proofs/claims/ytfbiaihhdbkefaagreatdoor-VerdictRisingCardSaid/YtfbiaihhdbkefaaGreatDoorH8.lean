/- Contracts of functions, bundle H8; proved for whatever the arguments' types allow, as each theorem says. -/
import Derived.Test.YtfbiaihhdbkefaaGreatDoorH7
import Derived.Test.YtfbiaihhdbkefaaGreatDoorGh17

/- A record of minutes: contracts, and the law ErrandOver.  -/
set_option linter.unusedVariables false
set_option linter.unusedSimpArgs false
namespace Go.Hl
open Go.Gh Go.Proofs

structure F4 where
  a : Int
  b : Int
  c : Int
  d : Int
  deriving DecidableEq
def F4.cs (f : F4) : List GV := [gi f.a, gi f.b, gi f.c, gi f.d]
def sel (p b : Bool) (f m : Int) : Int := if (p && b && decide (f < 0)) = true then m else f
def F4.upd (f : F4) (b : B4) (m : Int) : F4 := ⟨sel true b.b0 f.a m, sel true b.b1 f.b m, sel true b.b2 f.c m, sel true b.b3 f.d m⟩
def overN (l : List Task) (k : Int) : Nat → Spot → Int → F4 → Spot × F4
  | 0, s, _, f => (s, f)
  | n + 1, s, m, f => overN l k n (minuteS l s m k).1 (m + 1) (f.upd (minuteS l s m k).2 m)
def overErr (l : List Task) (s : Spot) (r : Rec) : Int := if errCheck l s ≠ 0 then errCheck l s else recErr r
def overAll (l : List Task) (s : Spot) (r : Rec) : Spot × F4 := if overErr l s r = 0 then overN l r.Kind (r.To - r.From).toNat s r.From ⟨-1, -1, -1, -1⟩ else (zeroSpot, ⟨0, 0, 0, 0⟩)
theorem over_next {l : List Task} {k m t : Int} {s : Spot} {f f' : F4} {R : Spot × F4} (hr : overN l k (t - m).toNat s m f = R) (h : m < t) (hf : f.upd (minuteS l s m k).2 m = f') :
    overN l k (t - (m + 1)).toNat (minuteS l s m k).1 (m + 1) f' = R := by
  rw [show (t - m).toNat = (t - (m + 1)).toNat + 1 by omega, overN, hf] at hr
  exact hr
theorem over_end {l : List Task} {k m t : Int} {s : Spot} {f : F4} {R : Spot × F4} (hr : overN l k (t - m).toNat s m f = R) (h : ¬ m < t) : (s, f) = R := by
  rw [show (t - m).toNat = 0 by omega, overN] at hr
  exact hr
def ovG (r : Spot × F4) (e : Int) : GV := .tup [r.1.g, .agg r.2.cs, gi e]

def pl_D8_1 : Nat → Option (List Nat × List Nat) := (fun k => bif Nat.beq k 8 then some ([1000008, 0, 4, 5, 6, 7, 10, 11], [104, 105, 106, 107, 110]) else bif Nat.beq k 12 then some ([1000012, 0, 4, 5, 6, 7, 10, 11, 12, 46, 47], [104, 105, 106, 107, 110, 112]) else none)
def pl_D8_2 : Nat → Option (List Nat × List Nat) := (fun k => bif Nat.beq k 8 then some ([1000008, 0, 4, 5, 6, 7, 10, 11], [104, 105, 106, 107, 110]) else bif Nat.beq k 12 then some ([1000012, 0, 4, 5, 6, 7, 10, 11, 12, 46, 47], [104, 105, 106, 107, 110, 112]) else none)
set_option maxRecDepth 100000 in
set_option maxHeartbeats 8000000 in
theorem errOver_ok (l : List Task) (s : Spot) (r : Rec) : ICalls Tryz.prog 34 [.list 3 (tasks l) none, s.g, r.g] [] (Done (ovG (overAll l s r) (overErr l s r)) []) := by
  by_cases he : overErr l s r = 0
  case neg =>
    rw [show overAll l s r = (zeroSpot, ⟨0, 0, 0, 0⟩) from if_neg he]
    refine ICalls.of_body Tryz.func34 rfl Tryz.call34 rfl (Nat.le_of_ble_eq_true rfl) pl_D8_1 rfl ?_
    repeat' ((conv => whnf); first
      | refine Br.yes rfl ?_
      | refine Br.no rfl ?_
      | refine Br.yes (beq_self_eq_true _) ?_
      | refine Br.not ?_
      | refine Br.yes (decide_eq_true (by assumption)) ?_
      | refine Br.no (decide_eq_false (by assumption)) ?_
      | refine Br.yes (beq_iff_eq.2 (by assumption)) ?_
      | refine Br.no (beq_eq_false_iff_ne.2 (by assumption)) ?_
      | refine Br.yes (bne_iff_ne.2 (by assumption)) ?_
      | (refine Br.dec (fun h => ?_) (fun h => ?_) <;> try dsimp only at h)
      | (refine Br.beqI (fun h => ?_) (fun h => ?_) <;> try dsimp only at h)
      | (refine Br.bneI (fun h => ?_) (fun h => ?_) <;> try dsimp only at h)
      | refine Br.mk (fun h => ?_) (fun h => ?_)
      | refine Need.mk (by first | kernel_rfl | exact ⟨of_decide_eq_true rfl, of_decide_eq_true rfl⟩ | omega) ?_
      | refine Len.mk ⟨_, by simp only [List.length_cons, List.length_nil, Nat.reduceAdd, Int.cast_ofNat_Int]; rfl, ?_⟩
      | refine Wr.lit _ (by simp only [Int.reduceAdd, Int.reduceSub, Int.reduceMul]; rfl) (by decide) ?_
      | refine Wr.fit (by omega) ?_
      | refine Wr.fit (by dsimp only; omega) ?_
      | refine Elem.mk ⟨_, ⟨of_decide_eq_true rfl, rfl⟩, ?_⟩
      | refine Len.map ?_
      | refine Len.dropM ?_
      | refine Elem.dropM ?_
      | refine Len.takeM ?_
      | refine Elem.takeM ?_
      | refine Elem.mapK (by assumption) ?_
      | refine Elem.mapI (by omega) (by assumption) ?_
      | refine Elem.mapN (by omega) (fun x hx => ?_)
      | refine Elem.map (by omega) (by omega) (fun x hx => ?_)
      | refine (errCheck_ok l s).use ⟨rfl, ?_⟩
      | refine (errRecord_ok r).use ⟨rfl, ?_⟩
      | refine CallX.mk ⟨_, _, (errCheck_ok l s).x, rfl, ?_⟩
      | refine CallX.mk ⟨_, _, (errRecord_ok r).x, rfl, ?_⟩
      | refine Done.mk ⟨rfl, rfl⟩
      | refine Done.mk ⟨congrArg gb ?_, rfl⟩
      | refine Done.mk ⟨?_, rfl⟩
      | refine Done.mk ⟨?_, ?_⟩)
    all_goals first
      | (exfalso; unfold overErr at he; grind)
      | (have e : overErr l s r = recErr r := by unfold overErr; grind
         rw [e]; rfl)
      | (have e : overErr l s r = errCheck l s := by unfold overErr; grind
         rw [e]; rfl)
  case pos =>
    have hc : errCheck l s = 0 ∧ recErr r = 0 := by unfold overErr at he; grind
    have hf : tasksErr l = 0 ∧ fitsS l s = true := by have := hc.1; unfold errCheck at this; grind
    have hm := (tasksErr_ok hf.1).2
    have hrec : (0 ≤ r.Kind ∧ r.Kind < 4) ∧ (0 ≤ r.From ∧ r.From < r.To ∧ r.To ≤ 40320) := by have := hc.2; unfold recErr at this; grind
    rw [show overAll l s r = overN l r.Kind (r.To - r.From).toNat s r.From ⟨-1, -1, -1, -1⟩ from if_pos he, he]
    clear he
    refine ICalls.of_body Tryz.func34 rfl Tryz.call34 rfl (Nat.le_of_ble_eq_true rfl) pl_D8_2 rfl ?_
    repeat' ((conv => whnf); first
      | refine Br.yes rfl ?_
      | refine Br.no rfl ?_
      | (refine ILoop.ov 1000008 (fun ((m, s', f0, f1, f2, f3) : Int × Spot × Int × Int × Int × Int) => [(11, gi m)]) (fun ((m, s', f0, f1, f2, f3) : Int × Spot × Int × Int × Int × Int) => [(104, .cells (s'.c)), (110, .cells ([gi f0, gi f1, gi f2, gi f3]))]) (fun ((m, s', f0, f1, f2, f3) : Int × Spot × Int × Int × Int × Int) => fitsS l s' = true ∧ (r.From ≤ m ∧ m ≤ r.To) ∧ overN l r.Kind (r.To - m).toNat s' m ⟨f0, f1, f2, f3⟩ = overN l r.Kind (r.To - r.From).toNat s r.From ⟨-1, -1, -1, -1⟩) (fun ((m, s', f0, f1, f2, f3) : Int × Spot × Int × Int × Int × Int) => (r.To - m).toNat) ((r.From, s, -1, -1, -1, -1)) (by exact rfl) ?_; (conv => whnf); refine Start.mk rfl ?_ ?_; (try dsimp only); rotate_left; rintro ⟨m, s', f0, f1, f2, f3⟩ ⟨hs', hi, hr⟩)
      | (refine Again.mk ⟨(m + 1, (minuteS l s' m r.Kind).1, _, _, _, _), rfl, ?_, ?_⟩ <;> try dsimp only)
      | (refine ILoop.ov 1000012 (fun ((i, g0, g1, g2, g3) : Int × Int × Int × Int × Int) => [(47, gi i)]) (fun ((i, g0, g1, g2, g3) : Int × Int × Int × Int × Int) => [(110, .cells ([gi g0, gi g1, gi g2, gi g3]))]) (fun ((i, g0, g1, g2, g3) : Int × Int × Int × Int × Int) => (0 ≤ i ∧ i ≤ 4) ∧ g0 = sel (decide (0 < i)) (minuteS l s' m r.Kind).2.b0 f0 m ∧ g1 = sel (decide (1 < i)) (minuteS l s' m r.Kind).2.b1 f1 m ∧ g2 = sel (decide (2 < i)) (minuteS l s' m r.Kind).2.b2 f2 m ∧ g3 = sel (decide (3 < i)) (minuteS l s' m r.Kind).2.b3 f3 m) (fun ((i, g0, g1, g2, g3) : Int × Int × Int × Int × Int) => (4 - i).toNat) ((0, f0, f1, f2, f3)) (by exact rfl) ?_; (conv => whnf); refine Start.mk rfl ?_ ?_; (try dsimp only); rotate_left; rintro ⟨i, g0, g1, g2, g3⟩ ⟨h4, q0, q1, q2, q3⟩; (rcases (show i = 0 ∨ i = 1 ∨ i = 2 ∨ i = 3 ∨ i = 4 by omega) with rfl | rfl | rfl | rfl | rfl))
      | (refine Again.mk ⟨(_, _, _, _, _), rfl, ?_, ?_⟩ <;> try dsimp only)
      | refine Br.yes (beq_self_eq_true _) ?_
      | refine Br.not ?_
      | refine Br.yes (decide_eq_true (by assumption)) ?_
      | refine Br.no (decide_eq_false (by assumption)) ?_
      | refine Br.yes (beq_iff_eq.2 (by assumption)) ?_
      | refine Br.no (beq_eq_false_iff_ne.2 (by assumption)) ?_
      | refine Br.yes (bne_iff_ne.2 (by assumption)) ?_
      | (refine Br.dec (fun h => ?_) (fun h => ?_) <;> try dsimp only at h)
      | (refine Br.beqI (fun h => ?_) (fun h => ?_) <;> try dsimp only at h)
      | (refine Br.bneI (fun h => ?_) (fun h => ?_) <;> try dsimp only at h)
      | refine Br.mk (fun h => ?_) (fun h => ?_)
      | refine Need.mk (by first | kernel_rfl | exact ⟨of_decide_eq_true rfl, of_decide_eq_true rfl⟩ | omega) ?_
      | refine Len.mk ⟨_, by simp only [List.length_cons, List.length_nil, Nat.reduceAdd, Int.cast_ofNat_Int]; rfl, ?_⟩
      | refine Wr.lit _ (by simp only [Int.reduceAdd, Int.reduceSub, Int.reduceMul]; rfl) (by decide) ?_
      | refine Wr.fit (by omega) ?_
      | refine Wr.fit (by dsimp only; omega) ?_
      | refine Elem.mk ⟨_, ⟨of_decide_eq_true rfl, rfl⟩, ?_⟩
      | refine Len.map ?_
      | refine Len.dropM ?_
      | refine Elem.dropM ?_
      | refine Len.takeM ?_
      | refine Elem.takeM ?_
      | refine Elem.mapK (by assumption) ?_
      | refine Elem.mapI (by omega) (by assumption) ?_
      | refine Elem.mapN (by omega) (fun x hx => ?_)
      | refine Elem.map (by omega) (by omega) (fun x hx => ?_)
      | refine ((errCheck_ok l s).to (congrArg gi hc.1)).use ⟨rfl, ?_⟩
      | refine ((errRecord_ok r).to (congrArg gi hc.2)).use ⟨rfl, ?_⟩
      | refine (minute19_ok l s' m r.Kind (errCheck_of hf.1 hs')).use ⟨rfl, ?_⟩
      | refine CallX.mk ⟨_, _, ((errCheck_ok l s).to (congrArg gi hc.1)).x, rfl, ?_⟩
      | refine CallX.mk ⟨_, _, ((errRecord_ok r).to (congrArg gi hc.2)).x, rfl, ?_⟩
      | refine CallX.mk ⟨_, _, (minute19_ok l s' m r.Kind (errCheck_of hf.1 hs')).x, rfl, ?_⟩
      | refine Done.mk ⟨rfl, rfl⟩
      | refine Done.mk ⟨congrArg gb ?_, rfl⟩
      | refine Done.mk ⟨?_, rfl⟩
      | refine Done.mk ⟨?_, ?_⟩)
    all_goals first
      | omega
      | exact ⟨hf.2, ⟨by omega, by omega⟩, rfl⟩
      | (rw [← over_end hr h]; rfl)
      | (refine ⟨by omega, ?_, ?_, ?_, ?_⟩ <;> (clear hr hm; subst q0 q1 q2 q3; first | (simp_all [sel]; done) | (simp_all [sel]; omega)))
      | (refine ⟨by omega, ?_, ?_, ?_, ?_⟩ <;> simp [sel]; done)
      | exact ⟨(minuteS_left hm hs' m r.Kind).1, ⟨by omega, by omega⟩, over_next hr (by assumption) (by subst q0 q1 q2 q3; simp [F4.upd, sel])⟩

def alike4 (a b : F4) : Prop := a = b
end Go.Hl
