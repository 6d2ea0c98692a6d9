/- Contracts of functions, bundle H25; proved for whatever the arguments' types allow, as each theorem says. -/
import Derived.Test.YthpdmbnakkaliaaH24

/- Contracts: the least of first minutes; the reference's block of minutes.  -/
set_option linter.unusedVariables false
set_option linter.unusedSimpArgs false
namespace Go.Hl
open Go.Gh Go.Proofs

def pickI (best x : Int) : Int := if 0 ≤ x ∧ (best < 0 ∨ x < best) then x else best
def F10.at (f : F10) : Nat → Int
  | 0 => f.a0
  | 1 => f.a1
  | 2 => f.a2
  | 3 => f.a3
  | 4 => f.a4
  | 5 => f.a5
  | 6 => f.a6
  | 7 => f.a7
  | 8 => f.a8
  | _ => f.a9
def F10.fst (f : F10) : Nat → Int
  | 0 => -1
  | n + 1 => pickI (f.fst n) (f.at n)
theorem pickY {best x y : Int} (h : best = y) (h1 : 0 ≤ x ∧ (best < 0 ∨ x < best)) : x = pickI y x := by subst h; unfold pickI; rw [if_pos h1]
theorem pickN {best x y : Int} (h : best = y) (h1 : ¬ (0 ≤ x ∧ (best < 0 ∨ x < best))) : best = pickI y x := by subst h; unfold pickI; rw [if_neg h1]

def pl_G8_1 : Nat → Option (List Nat × List Nat) := (fun k => bif Nat.beq k 3 then some ([1000003, 3, 6, 7], []) else none)
set_option maxRecDepth 100000 in
set_option maxHeartbeats 4000000 in
theorem first14_ok (f : F10) : ICalls Try.prog 20 [f.g] [] (Done (gi (f.fst 10)) []) := by
  obtain ⟨a0, a1, a2, a3, a4, a5, a6, a7, a8, a9⟩ := f
  generalize hf : (⟨a0, a1, a2, a3, a4, a5, a6, a7, a8, a9⟩ : F10) = f
  have hr : ∃ r, r = f.fst 10 := ⟨_, rfl⟩
  obtain ⟨r, hr⟩ := hr
  rw [← hr]
  subst hf
  refine ICalls.of_body Try.func20 rfl Try.call20 rfl (Nat.le_of_ble_eq_true rfl) pl_G8_1 rfl ?_
  repeat' ((conv => whnf); first
    | refine Br.yes rfl ?_
    | refine Br.no rfl ?_
    | (refine ILoop.ov 1000003 (fun ((c, best) : Int × Int) => [(7, gi c), (3, gi best)]) (fun ((c, best) : Int × Int) => []) (fun ((c, best) : Int × Int) => (0 ≤ c ∧ c ≤ 10) ∧ best = F10.fst ⟨a0, a1, a2, a3, a4, a5, a6, a7, a8, a9⟩ c.toNat) (fun ((c, best) : Int × Int) => (10 - c).toNat) ((0, -1)) (by exact rfl) ?_; (conv => whnf); refine Start.mk rfl ?_ ?_; (try dsimp only); rotate_left; rintro ⟨c, best⟩ ⟨hc, hb⟩; (have hc2 : c = 0 ∨ c = 1 ∨ c = 2 ∨ c = 3 ∨ c = 4 ∨ c = 5 ∨ c = 6 ∨ c = 7 ∨ c = 8 ∨ c = 9 ∨ c = 10 := (by omega); rcases hc2 with rfl | rfl | rfl | rfl | rfl | rfl | rfl | rfl | rfl | rfl | rfl))
    | (refine Again.mk ⟨((1, a0)), rfl, ?_, ?_⟩ <;> try dsimp only)
    | (refine Again.mk ⟨((1, best)), rfl, ?_, ?_⟩ <;> try dsimp only)
    | (refine Again.mk ⟨((2, a1)), rfl, ?_, ?_⟩ <;> try dsimp only)
    | (refine Again.mk ⟨((2, best)), rfl, ?_, ?_⟩ <;> try dsimp only)
    | (refine Again.mk ⟨((3, a2)), rfl, ?_, ?_⟩ <;> try dsimp only)
    | (refine Again.mk ⟨((3, best)), rfl, ?_, ?_⟩ <;> try dsimp only)
    | (refine Again.mk ⟨((4, a3)), rfl, ?_, ?_⟩ <;> try dsimp only)
    | (refine Again.mk ⟨((4, best)), rfl, ?_, ?_⟩ <;> try dsimp only)
    | (refine Again.mk ⟨((5, a4)), rfl, ?_, ?_⟩ <;> try dsimp only)
    | (refine Again.mk ⟨((5, best)), rfl, ?_, ?_⟩ <;> try dsimp only)
    | (refine Again.mk ⟨((6, a5)), rfl, ?_, ?_⟩ <;> try dsimp only)
    | (refine Again.mk ⟨((6, best)), rfl, ?_, ?_⟩ <;> try dsimp only)
    | (refine Again.mk ⟨((7, a6)), rfl, ?_, ?_⟩ <;> try dsimp only)
    | (refine Again.mk ⟨((7, best)), rfl, ?_, ?_⟩ <;> try dsimp only)
    | (refine Again.mk ⟨((8, a7)), rfl, ?_, ?_⟩ <;> try dsimp only)
    | (refine Again.mk ⟨((8, best)), rfl, ?_, ?_⟩ <;> try dsimp only)
    | (refine Again.mk ⟨((9, a8)), rfl, ?_, ?_⟩ <;> try dsimp only)
    | (refine Again.mk ⟨((9, best)), rfl, ?_, ?_⟩ <;> try dsimp only)
    | (refine Again.mk ⟨((10, a9)), rfl, ?_, ?_⟩ <;> try dsimp only)
    | (refine Again.mk ⟨((10, best)), rfl, ?_, ?_⟩ <;> try dsimp only)
    | refine Br.yes (beq_self_eq_true _) ?_
    | refine Br.not ?_
    | refine Br.yes (decide_eq_true (by assumption)) ?_
    | refine Br.no (decide_eq_false (by assumption)) ?_
    | refine Br.yes (beq_iff_eq.2 (by assumption)) ?_
    | refine Br.no (beq_eq_false_iff_ne.2 (by assumption)) ?_
    | refine Br.yes (bne_iff_ne.2 (by assumption)) ?_
    | (refine Br.dec (fun h => ?_) (fun h => ?_) <;> try dsimp only at h)
    | (refine Br.beqI (fun h => ?_) (fun h => ?_) <;> try dsimp only at h)
    | (refine Br.bneI (fun h => ?_) (fun h => ?_) <;> try dsimp only at h)
    | refine Br.mk (fun h => ?_) (fun h => ?_)
    | refine Need.mk (app_need (by first | (simp only [List.length_append, List.length_map, List.length_nil, List.length_cons, List.nil_append, Nat.zero_add, Nat.add_zero]; done) | (simp only [List.length_append, List.length_map, List.length_nil, List.length_cons, List.nil_append, Nat.zero_add, Nat.add_zero]; omega) | omega) (Nat.le_of_ble_eq_true rfl) (by first | (simp only [List.length_append, List.length_map, List.length_nil, List.length_cons, List.nil_append, Nat.zero_add, Nat.add_zero]; done) | (simp only [List.length_append, List.length_map, List.length_nil, List.length_cons, List.nil_append, Nat.zero_add, Nat.add_zero]; omega) | omega)) ?_
    | refine Need.mk (app_need0 (Nat.le_of_ble_eq_true rfl) (by first | (simp only [List.length_append, List.length_map, List.length_nil, List.length_cons, List.nil_append, Nat.zero_add, Nat.add_zero]; done) | (simp only [List.length_append, List.length_map, List.length_nil, List.length_cons, List.nil_append, Nat.zero_add, Nat.add_zero]; omega) | omega)) ?_
    | refine Need.mk (by first | kernel_rfl | exact ⟨of_decide_eq_true rfl, of_decide_eq_true rfl⟩ | omega) ?_
    | refine Len.mk ⟨_, by simp only [List.length_cons, List.length_nil, Nat.reduceAdd, Int.cast_ofNat_Int]; rfl, ?_⟩
    | refine Wr.lit _ (by simp only [Int.reduceAdd, Int.reduceSub, Int.reduceMul]; rfl) (by decide) ?_
    | refine Wr.fit (by omega) ?_
    | refine Wr.fit (by dsimp only; omega) ?_
    | refine Elem.mk ⟨_, ⟨of_decide_eq_true rfl, rfl⟩, ?_⟩
    | refine Len.map ?_
    | refine Len.dropM ?_
    | refine Elem.dropM ?_
    | refine Len.takeM ?_
    | refine Elem.takeM ?_
    | refine Elem.mapK (by assumption) ?_
    | refine Elem.mapI (by omega) (by assumption) ?_
    | refine Elem.mapN (by omega) (fun x hx => ?_)
    | refine Elem.map (by omega) (by omega) (fun x hx => ?_)
    | refine Done.mk ⟨rfl, rfl⟩
    | refine Done.mk ⟨congrArg gb ?_, rfl⟩
    | refine Done.mk ⟨?_, rfl⟩
    | refine Done.mk ⟨?_, ?_⟩)
  all_goals first
    | omega
    | decide
    | exact ⟨⟨by decide, by decide⟩, rfl⟩
    | exact ⟨⟨by decide, by decide⟩, pickY hb (by omega)⟩
    | exact ⟨⟨by decide, by decide⟩, pickN (x := a0) hb (by omega)⟩
    | exact ⟨⟨by decide, by decide⟩, pickN (x := a1) hb (by omega)⟩
    | exact ⟨⟨by decide, by decide⟩, pickN (x := a2) hb (by omega)⟩
    | exact ⟨⟨by decide, by decide⟩, pickN (x := a3) hb (by omega)⟩
    | exact ⟨⟨by decide, by decide⟩, pickN (x := a4) hb (by omega)⟩
    | exact ⟨⟨by decide, by decide⟩, pickN (x := a5) hb (by omega)⟩
    | exact ⟨⟨by decide, by decide⟩, pickN (x := a6) hb (by omega)⟩
    | exact ⟨⟨by decide, by decide⟩, pickN (x := a7) hb (by omega)⟩
    | exact ⟨⟨by decide, by decide⟩, pickN (x := a8) hb (by omega)⟩
    | exact ⟨⟨by decide, by decide⟩, pickN (x := a9) hb (by omega)⟩
    | (rw [hr, hb]; rfl)

def pl_G8_2 : Nat → Option (List Nat × List Nat) := (fun k => bif Nat.beq k 3 then some ([1000003, 1, 3, 4], [101]) else none)
set_option maxRecDepth 100000 in
set_option maxHeartbeats 4000000 in
theorem refFirst14_ok (f : F10) : ICalls Try.prog 21 [f.g] [] (Done (gi (f.fst 10)) []) := by
  obtain ⟨a0, a1, a2, a3, a4, a5, a6, a7, a8, a9⟩ := f
  generalize hf : (⟨a0, a1, a2, a3, a4, a5, a6, a7, a8, a9⟩ : F10) = f
  have hr : ∃ r, r = f.fst 10 := ⟨_, rfl⟩
  obtain ⟨r, hr⟩ := hr
  rw [← hr]
  subst hf
  refine ICalls.of_body Try.func21 rfl Try.call21 rfl (Nat.le_of_ble_eq_true rfl) pl_G8_2 rfl ?_
  repeat' ((conv => whnf); first
    | refine Br.yes rfl ?_
    | refine Br.no rfl ?_
    | (refine ILoop.ov 1000003 (fun ((c, best) : Int × Int) => [(4, gi c), (3, gi best)]) (fun ((c, best) : Int × Int) => []) (fun ((c, best) : Int × Int) => (0 ≤ c ∧ c ≤ 10) ∧ best = F10.fst ⟨a0, a1, a2, a3, a4, a5, a6, a7, a8, a9⟩ c.toNat) (fun ((c, best) : Int × Int) => (10 - c).toNat) ((0, -1)) (by exact rfl) ?_; (conv => whnf); refine Start.mk rfl ?_ ?_; (try dsimp only); rotate_left; rintro ⟨c, best⟩ ⟨hc, hb⟩; (have hc2 : c = 0 ∨ c = 1 ∨ c = 2 ∨ c = 3 ∨ c = 4 ∨ c = 5 ∨ c = 6 ∨ c = 7 ∨ c = 8 ∨ c = 9 ∨ c = 10 := (by omega); rcases hc2 with rfl | rfl | rfl | rfl | rfl | rfl | rfl | rfl | rfl | rfl | rfl))
    | (refine Again.mk ⟨((1, a0)), rfl, ?_, ?_⟩ <;> try dsimp only)
    | (refine Again.mk ⟨((1, best)), rfl, ?_, ?_⟩ <;> try dsimp only)
    | (refine Again.mk ⟨((2, a1)), rfl, ?_, ?_⟩ <;> try dsimp only)
    | (refine Again.mk ⟨((2, best)), rfl, ?_, ?_⟩ <;> try dsimp only)
    | (refine Again.mk ⟨((3, a2)), rfl, ?_, ?_⟩ <;> try dsimp only)
    | (refine Again.mk ⟨((3, best)), rfl, ?_, ?_⟩ <;> try dsimp only)
    | (refine Again.mk ⟨((4, a3)), rfl, ?_, ?_⟩ <;> try dsimp only)
    | (refine Again.mk ⟨((4, best)), rfl, ?_, ?_⟩ <;> try dsimp only)
    | (refine Again.mk ⟨((5, a4)), rfl, ?_, ?_⟩ <;> try dsimp only)
    | (refine Again.mk ⟨((5, best)), rfl, ?_, ?_⟩ <;> try dsimp only)
    | (refine Again.mk ⟨((6, a5)), rfl, ?_, ?_⟩ <;> try dsimp only)
    | (refine Again.mk ⟨((6, best)), rfl, ?_, ?_⟩ <;> try dsimp only)
    | (refine Again.mk ⟨((7, a6)), rfl, ?_, ?_⟩ <;> try dsimp only)
    | (refine Again.mk ⟨((7, best)), rfl, ?_, ?_⟩ <;> try dsimp only)
    | (refine Again.mk ⟨((8, a7)), rfl, ?_, ?_⟩ <;> try dsimp only)
    | (refine Again.mk ⟨((8, best)), rfl, ?_, ?_⟩ <;> try dsimp only)
    | (refine Again.mk ⟨((9, a8)), rfl, ?_, ?_⟩ <;> try dsimp only)
    | (refine Again.mk ⟨((9, best)), rfl, ?_, ?_⟩ <;> try dsimp only)
    | (refine Again.mk ⟨((10, a9)), rfl, ?_, ?_⟩ <;> try dsimp only)
    | (refine Again.mk ⟨((10, best)), rfl, ?_, ?_⟩ <;> try dsimp only)
    | refine Br.yes (beq_self_eq_true _) ?_
    | refine Br.not ?_
    | refine Br.yes (decide_eq_true (by assumption)) ?_
    | refine Br.no (decide_eq_false (by assumption)) ?_
    | refine Br.yes (beq_iff_eq.2 (by assumption)) ?_
    | refine Br.no (beq_eq_false_iff_ne.2 (by assumption)) ?_
    | refine Br.yes (bne_iff_ne.2 (by assumption)) ?_
    | (refine Br.dec (fun h => ?_) (fun h => ?_) <;> try dsimp only at h)
    | (refine Br.beqI (fun h => ?_) (fun h => ?_) <;> try dsimp only at h)
    | (refine Br.bneI (fun h => ?_) (fun h => ?_) <;> try dsimp only at h)
    | refine Br.mk (fun h => ?_) (fun h => ?_)
    | refine Need.mk (app_need (by first | (simp only [List.length_append, List.length_map, List.length_nil, List.length_cons, List.nil_append, Nat.zero_add, Nat.add_zero]; done) | (simp only [List.length_append, List.length_map, List.length_nil, List.length_cons, List.nil_append, Nat.zero_add, Nat.add_zero]; omega) | omega) (Nat.le_of_ble_eq_true rfl) (by first | (simp only [List.length_append, List.length_map, List.length_nil, List.length_cons, List.nil_append, Nat.zero_add, Nat.add_zero]; done) | (simp only [List.length_append, List.length_map, List.length_nil, List.length_cons, List.nil_append, Nat.zero_add, Nat.add_zero]; omega) | omega)) ?_
    | refine Need.mk (app_need0 (Nat.le_of_ble_eq_true rfl) (by first | (simp only [List.length_append, List.length_map, List.length_nil, List.length_cons, List.nil_append, Nat.zero_add, Nat.add_zero]; done) | (simp only [List.length_append, List.length_map, List.length_nil, List.length_cons, List.nil_append, Nat.zero_add, Nat.add_zero]; omega) | omega)) ?_
    | refine Need.mk (by first | kernel_rfl | exact ⟨of_decide_eq_true rfl, of_decide_eq_true rfl⟩ | omega) ?_
    | refine Len.mk ⟨_, by simp only [List.length_cons, List.length_nil, Nat.reduceAdd, Int.cast_ofNat_Int]; rfl, ?_⟩
    | refine Wr.lit _ (by simp only [Int.reduceAdd, Int.reduceSub, Int.reduceMul]; rfl) (by decide) ?_
    | refine Wr.fit (by omega) ?_
    | refine Wr.fit (by dsimp only; omega) ?_
    | refine Elem.mk ⟨_, ⟨of_decide_eq_true rfl, rfl⟩, ?_⟩
    | refine Len.map ?_
    | refine Len.dropM ?_
    | refine Elem.dropM ?_
    | refine Len.takeM ?_
    | refine Elem.takeM ?_
    | refine Elem.mapK (by assumption) ?_
    | refine Elem.mapI (by omega) (by assumption) ?_
    | refine Elem.mapN (by omega) (fun x hx => ?_)
    | refine Elem.map (by omega) (by omega) (fun x hx => ?_)
    | refine Done.mk ⟨rfl, rfl⟩
    | refine Done.mk ⟨congrArg gb ?_, rfl⟩
    | refine Done.mk ⟨?_, rfl⟩
    | refine Done.mk ⟨?_, ?_⟩)
  all_goals first
    | omega
    | decide
    | exact ⟨⟨by decide, by decide⟩, rfl⟩
    | exact ⟨⟨by decide, by decide⟩, pickY hb (by omega)⟩
    | exact ⟨⟨by decide, by decide⟩, pickN (x := a0) hb (by omega)⟩
    | exact ⟨⟨by decide, by decide⟩, pickN (x := a1) hb (by omega)⟩
    | exact ⟨⟨by decide, by decide⟩, pickN (x := a2) hb (by omega)⟩
    | exact ⟨⟨by decide, by decide⟩, pickN (x := a3) hb (by omega)⟩
    | exact ⟨⟨by decide, by decide⟩, pickN (x := a4) hb (by omega)⟩
    | exact ⟨⟨by decide, by decide⟩, pickN (x := a5) hb (by omega)⟩
    | exact ⟨⟨by decide, by decide⟩, pickN (x := a6) hb (by omega)⟩
    | exact ⟨⟨by decide, by decide⟩, pickN (x := a7) hb (by omega)⟩
    | exact ⟨⟨by decide, by decide⟩, pickN (x := a8) hb (by omega)⟩
    | exact ⟨⟨by decide, by decide⟩, pickN (x := a9) hb (by omega)⟩
    | (rw [hr, hb]; rfl)


end Go.Hl
