/- Contracts of functions, bundle V2; proved for whatever the arguments' types allow, as each theorem says. -/
import Derived.Test.YtfghmggonjnbcaaPV
import Derived.Test.YtfghmggonjnbcaaH23
import Derived.Test.YtfghmggonjnbcaaH9
import Derived.Test.YtfghmggonjnbcaaH4
import Derived.Test.YtfghmggonjnbcaaH6
import Derived.Test.YtfghmggonjnbcaaGh18

/- Chapter 16: the chapter's examples; the set of findings' clauses.  -/
set_option linter.unusedVariables false
set_option linter.unusedSimpArgs false
namespace Go.Hl
open Go.Gh Go.Proofs

def swpC (b : Book) (m : Meter) (rest : Int) : List GV := b.c ++ (m.c ++ [gi rest])
abbrev al16g : GV := .agg [gi 0, gi 0, gi 271]

set_option maxRecDepth 100000 in
theorem clauseIn00_ok : ICalls Try.prog 15 [gi 0, gi 0] [] (Done (gb false) []) := by
  have h := clauseIs_ok 0
  rw [show (decide ((0 : Int) ≤ 0) && decide ((0 : Int) < 16)) = true by decide] at h
  refine ICalls.of_body Try.func15 rfl Try.call15 rfl (Nat.le_of_ble_eq_true rfl) (fun _ => none) rfl ?_
  repeat' ((conv => whnf); first
    | refine Br.yes rfl ?_
    | refine Br.no rfl ?_
    | refine Br.yes (beq_self_eq_true _) ?_
    | refine Br.not ?_
    | refine Br.yes (decide_eq_true (by assumption)) ?_
    | refine Br.no (decide_eq_false (by assumption)) ?_
    | refine Br.yes (beq_iff_eq.2 (by assumption)) ?_
    | refine Br.no (beq_eq_false_iff_ne.2 (by assumption)) ?_
    | refine Br.yes (bne_iff_ne.2 (by assumption)) ?_
    | (refine Br.dec (fun h => ?_) (fun h => ?_) <;> try dsimp only at h)
    | (refine Br.beqI (fun h => ?_) (fun h => ?_) <;> try dsimp only at h)
    | (refine Br.bneI (fun h => ?_) (fun h => ?_) <;> try dsimp only at h)
    | refine Br.mk (fun h => ?_) (fun h => ?_)
    | refine Need.mk (by first | kernel_rfl | exact ⟨of_decide_eq_true rfl, of_decide_eq_true rfl⟩ | omega) ?_
    | refine Len.mk ⟨_, by simp only [List.length_cons, List.length_nil, Nat.reduceAdd, Int.cast_ofNat_Int]; rfl, ?_⟩
    | refine Wr.lit _ (by simp only [Int.reduceAdd, Int.reduceSub, Int.reduceMul]; rfl) (by decide) ?_
    | refine Wr.fit (by omega) ?_
    | refine Wr.fit (by dsimp only; omega) ?_
    | refine Elem.mk ⟨_, ⟨of_decide_eq_true rfl, rfl⟩, ?_⟩
    | refine Len.map ?_
    | refine Len.dropM ?_
    | refine Elem.dropM ?_
    | refine Len.takeM ?_
    | refine Elem.takeM ?_
    | refine Elem.mapK (by assumption) ?_
    | refine Elem.mapI (by omega) (by assumption) ?_
    | refine Elem.mapN (by omega) (fun x hx => ?_)
    | refine Elem.map (by omega) (by omega) (fun x hx => ?_)
    | refine (h).use ⟨rfl, ?_⟩
    | refine CallX.mk ⟨_, _, (h).x, rfl, ?_⟩
    | refine Done.mk ⟨rfl, rfl⟩
    | refine Done.mk ⟨congrArg gb ?_, rfl⟩
    | refine Done.mk ⟨?_, rfl⟩
    | refine Done.mk ⟨?_, ?_⟩)

set_option maxRecDepth 100000 in
theorem noteEx_ok : ICalls Try.prog 14 [al16g, .ptr 0 0, .ptr 1 0] [.cells [gi 0], .cells [.ms 3 2 0 0], .mvec 38 3 [] 0]
    (Done (.tup []) [.cells [gi 1], .cells [.ms 3 2 1 1], .mvec 38 3 [al16g] 1]) := by
  refine ICalls.of_body Try.func14 rfl Try.call14 rfl (Nat.le_of_ble_eq_true rfl) (fun _ => none) rfl ?_
  repeat' ((conv => whnf); first
    | refine Br.yes rfl ?_
    | refine Br.no rfl ?_
    | refine Br.yes (beq_self_eq_true _) ?_
    | refine Br.not ?_
    | refine Br.yes (decide_eq_true (by assumption)) ?_
    | refine Br.no (decide_eq_false (by assumption)) ?_
    | refine Br.yes (beq_iff_eq.2 (by assumption)) ?_
    | refine Br.no (beq_eq_false_iff_ne.2 (by assumption)) ?_
    | refine Br.yes (bne_iff_ne.2 (by assumption)) ?_
    | (refine Br.dec (fun h => ?_) (fun h => ?_) <;> try dsimp only at h)
    | (refine Br.beqI (fun h => ?_) (fun h => ?_) <;> try dsimp only at h)
    | (refine Br.bneI (fun h => ?_) (fun h => ?_) <;> try dsimp only at h)
    | refine Br.mk (fun h => ?_) (fun h => ?_)
    | refine Need.mk (app_need (by first | (simp only [List.length_append, List.length_map, List.length_nil, List.length_cons, List.nil_append, Nat.zero_add, Nat.add_zero]; done) | (simp only [List.length_append, List.length_map, List.length_nil, List.length_cons, List.nil_append, Nat.zero_add, Nat.add_zero]; omega) | omega) (Nat.le_of_ble_eq_true rfl) (by first | (simp only [List.length_append, List.length_map, List.length_nil, List.length_cons, List.nil_append, Nat.zero_add, Nat.add_zero]; done) | (simp only [List.length_append, List.length_map, List.length_nil, List.length_cons, List.nil_append, Nat.zero_add, Nat.add_zero]; omega) | omega)) ?_
    | refine Need.mk (app_need0 (Nat.le_of_ble_eq_true rfl) (by first | (simp only [List.length_append, List.length_map, List.length_nil, List.length_cons, List.nil_append, Nat.zero_add, Nat.add_zero]; done) | (simp only [List.length_append, List.length_map, List.length_nil, List.length_cons, List.nil_append, Nat.zero_add, Nat.add_zero]; omega) | omega)) ?_
    | refine Need.mk (app_needM rfl (Nat.le_of_ble_eq_true rfl) (by first | (simp only [List.length_append, List.length_map, List.length_nil, List.length_cons, List.nil_append, Nat.zero_add, Nat.add_zero]; done) | (simp only [List.length_append, List.length_map, List.length_nil, List.length_cons, List.nil_append, Nat.zero_add, Nat.add_zero]; omega) | omega)) ?_
    | refine Need.mk (zeros_need (by omega) (Nat.le_of_ble_eq_true rfl) (by omega)) ?_
    | refine Need.mk (by first | kernel_rfl | exact ⟨of_decide_eq_true rfl, of_decide_eq_true rfl⟩ | omega) ?_
    | refine Len.mk ⟨_, by simp only [List.length_cons, List.length_nil, Nat.reduceAdd, Int.cast_ofNat_Int]; rfl, ?_⟩
    | refine Wr.lit _ (by simp only [Int.reduceAdd, Int.reduceSub, Int.reduceMul]; rfl) (by decide) ?_
    | refine Wr.fit (by omega) ?_
    | refine Wr.fit (by dsimp only; omega) ?_
    | refine Elem.mk ⟨_, ⟨of_decide_eq_true rfl, rfl⟩, ?_⟩
    | refine Len.map ?_
    | refine Len.dropM ?_
    | refine Elem.dropM ?_
    | refine Len.takeM ?_
    | refine Elem.takeM ?_
    | refine Elem.mapK (by assumption) ?_
    | refine Elem.mapI (by omega) (by assumption) ?_
    | refine Elem.mapN (by omega) (fun x hx => ?_)
    | refine Elem.map (by omega) (by omega) (fun x hx => ?_)
    | refine (clauseIn00_ok).use ⟨rfl, ?_⟩
    | refine CallX.mk ⟨_, _, (clauseIn00_ok).x, rfl, ?_⟩
    | refine Done.mk ⟨rfl, rfl⟩
    | refine Done.mk ⟨congrArg gb ?_, rfl⟩
    | refine Done.mk ⟨?_, rfl⟩
    | refine Done.mk ⟨?_, ?_⟩)

theorem al16_over : overAllS Book.europe Meter.zero 3 271 = (stN Book.europe 3 271 Meter.zero, ⟨270, -1, -1, -1, -1, -1, -1, -1, -1, -1⟩, 0) := by decide +kernel

theorem tmod_fit {a n : Int} (ha : 0 ≤ a) (hn : 0 < n) : 0 ≤ a.tmod n ∧ a.tmod n ≤ a := by
  rw [Int.tmod_eq_emod_of_nonneg ha]
  have h1 := Int.mul_ediv_add_emod a n
  have h2 := Int.mul_nonneg (show 0 ≤ n by omega) (Int.ediv_nonneg ha (show 0 ≤ n by omega))
  exact ⟨Int.emod_nonneg a (by omega), by omega⟩
theorem since_fit1 {a q : Int} (ha : 0 ≤ a ∧ a ≤ 40320) (hm : 0 ≤ q ∧ q ≤ a) : -9223372036854775808 ≤ a - q ∧ a - q ≤ 9223372036854775807 := by omega
theorem since_fit2 {a q l : Int} (ha : 0 ≤ a ∧ a ≤ 40320) (hm : 0 ≤ q ∧ q ≤ a) (hL : 0 < l ∧ l ≤ 1000000) : -9223372036854775808 ≤ a - q - l ∧ a - q - l ≤ 9223372036854775807 := by omega
theorem pos_ne {l : Int} (hL : 0 < l ∧ l ≤ 1000000) : l ≠ 0 := by omega

/-- From where on a clause is counted. -/
def sinceV (b : Book) (m : Meter) (rest c a : Int) : Int :=
  if c = 0 then rest else if c = 1 ∨ c = 5 then m.Dawn else if c = 3 ∨ c = 9 then a - a.tmod b.Length else if c = 4 then (if 0 < a - a.tmod b.Length - b.Length then a - a.tmod b.Length - b.Length else 0) else m.Sabbath

set_option maxRecDepth 100000 in
set_option maxHeartbeats 1000000 in
theorem since_ok (b : Book) (m : Meter) (rest c a : Int) (ha : 0 ≤ a ∧ a ≤ 40320) (hL : 0 < b.Length ∧ b.Length ≤ 1000000) : ICalls Try.prog 47 [.ptr 0 0, gi c, gi a] [swpC b m rest] (Done (gi (sinceV b m rest c a)) [swpC b m rest]) := by
  have hm := tmod_fit ha.1 hL.1
  unfold sinceV
  refine ICalls.of_body Try.func47 rfl Try.call47 rfl (Nat.le_of_ble_eq_true rfl) (fun _ => none) rfl ?_
  repeat' ((conv => whnf); first
    | refine Br.yes rfl ?_
    | refine Br.no rfl ?_
    | refine Wr.fit (since_fit1 ha hm) ?_
    | (refine Wr.fit (since_fit2 ha hm hL) ?_)
    | (refine Need.mk (pos_ne hL) ?_)
    | refine Br.yes (beq_self_eq_true _) ?_
    | refine Br.not ?_
    | refine Br.yes (decide_eq_true (by assumption)) ?_
    | refine Br.no (decide_eq_false (by assumption)) ?_
    | refine Br.yes (beq_iff_eq.2 (by assumption)) ?_
    | refine Br.no (beq_eq_false_iff_ne.2 (by assumption)) ?_
    | refine Br.yes (bne_iff_ne.2 (by assumption)) ?_
    | (refine Br.dec (fun h => ?_) (fun h => ?_) <;> try dsimp only at h)
    | (refine Br.beqI (fun h => ?_) (fun h => ?_) <;> try dsimp only at h)
    | (refine Br.bneI (fun h => ?_) (fun h => ?_) <;> try dsimp only at h)
    | refine Br.mk (fun h => ?_) (fun h => ?_)
    | refine Need.mk (by first | kernel_rfl | exact ⟨of_decide_eq_true rfl, of_decide_eq_true rfl⟩ | omega) ?_
    | refine Len.mk ⟨_, by simp only [List.length_cons, List.length_nil, Nat.reduceAdd, Int.cast_ofNat_Int]; rfl, ?_⟩
    | refine Wr.lit _ (by simp only [Int.reduceAdd, Int.reduceSub, Int.reduceMul]; rfl) (by decide) ?_
    | refine Wr.fit (by omega) ?_
    | refine Wr.fit (by dsimp only; omega) ?_
    | refine Elem.mk ⟨_, ⟨of_decide_eq_true rfl, rfl⟩, ?_⟩
    | refine Len.map ?_
    | refine Len.dropM ?_
    | refine Elem.dropM ?_
    | refine Len.takeM ?_
    | refine Elem.takeM ?_
    | refine Elem.mapK (by assumption) ?_
    | refine Elem.mapI (by omega) (by assumption) ?_
    | refine Elem.mapN (by omega) (fun x hx => ?_)
    | refine Elem.map (by omega) (by omega) (fun x hx => ?_)
    | refine Done.mk ⟨rfl, rfl⟩
    | refine Done.mk ⟨congrArg gb ?_, rfl⟩
    | refine Done.mk ⟨?_, rfl⟩
    | refine Done.mk ⟨?_, ?_⟩)
  all_goals simp [*]

set_option maxRecDepth 100000 in
theorem endedEx_ok (b : Book) (m : Meter) (rest : Int) (h : m.Lie = 0) : ICalls Try.prog 48 [.ptr 0 0] [swpC b m rest] (Done (gb false) [swpC b m rest]) := by
  refine ICalls.of_body Try.func48 rfl Try.call48 rfl (Nat.le_of_ble_eq_true rfl) (fun _ => none) rfl ?_
  repeat' ((conv => whnf); first
    | refine Br.yes rfl ?_
    | refine Br.no rfl ?_
    | refine Br.yes (beq_self_eq_true _) ?_
    | refine Br.not ?_
    | refine Br.yes (decide_eq_true (by assumption)) ?_
    | refine Br.no (decide_eq_false (by assumption)) ?_
    | refine Br.yes (beq_iff_eq.2 (by assumption)) ?_
    | refine Br.no (beq_eq_false_iff_ne.2 (by assumption)) ?_
    | refine Br.yes (bne_iff_ne.2 (by assumption)) ?_
    | (refine Br.dec (fun h => ?_) (fun h => ?_) <;> try dsimp only at h)
    | (refine Br.beqI (fun h => ?_) (fun h => ?_) <;> try dsimp only at h)
    | (refine Br.bneI (fun h => ?_) (fun h => ?_) <;> try dsimp only at h)
    | refine Br.mk (fun h => ?_) (fun h => ?_)
    | refine Need.mk (by first | kernel_rfl | exact ⟨of_decide_eq_true rfl, of_decide_eq_true rfl⟩ | omega) ?_
    | refine Len.mk ⟨_, by simp only [List.length_cons, List.length_nil, Nat.reduceAdd, Int.cast_ofNat_Int]; rfl, ?_⟩
    | refine Wr.lit _ (by simp only [Int.reduceAdd, Int.reduceSub, Int.reduceMul]; rfl) (by decide) ?_
    | refine Wr.fit (by omega) ?_
    | refine Wr.fit (by dsimp only; omega) ?_
    | refine Elem.mk ⟨_, ⟨of_decide_eq_true rfl, rfl⟩, ?_⟩
    | refine Len.map ?_
    | refine Len.dropM ?_
    | refine Elem.dropM ?_
    | refine Len.takeM ?_
    | refine Elem.takeM ?_
    | refine Elem.mapK (by assumption) ?_
    | refine Elem.mapI (by omega) (by assumption) ?_
    | refine Elem.mapN (by omega) (fun x hx => ?_)
    | refine Elem.map (by omega) (by omega) (fun x hx => ?_)
    | refine Done.mk ⟨rfl, rfl⟩
    | refine Done.mk ⟨congrArg gb ?_, rfl⟩
    | refine Done.mk ⟨?_, rfl⟩
    | refine Done.mk ⟨?_, ?_⟩)
  all_goals omega

def pl_V2_1 : Nat → Option (List Nat × List Nat) := (fun k => bif Nat.beq k 5 then some ([1000005, 0, 1, 3, 9, 32, 33], [0, 1, 2, 3, 109]) else none)
set_option maxRecDepth 100000 in
theorem blockEx_ok : ICalls Try.prog 27 [.ptr 0 0, gi 3, gi 271, .fn (.func 14) [] [.ptr 1 0, .ptr 2 0]] [swpC Book.europe Meter.zero 0, .cells [gi 0], .cells [.ms 3 3 0 0], .mvec 38 3 [] 0]
    (Done (gi 0) [swpC Book.europe (stN Book.europe 3 271 Meter.zero) 0, .cells [gi 1], .cells [.ms 3 3 1 1], .mvec 38 3 [al16g] 1]) := by
  have h1 := over_ok Book.europe Meter.zero 3 271
  rw [al16_over] at h1
  unfold overG at h1
  have h2 := endedEx_ok Book.europe Meter.zero 0 rfl
  have h3 := since_ok Book.europe Meter.zero 0 0 270 (by decide) (by decide)
  rw [show sinceV Book.europe Meter.zero 0 0 270 = 0 by decide] at h3
  generalize stN Book.europe 3 271 Meter.zero = m1 at *
  refine ICalls.of_body Try.func27 rfl Try.call27 rfl (Nat.le_of_ble_eq_true rfl) pl_V2_1 rfl ?_
  repeat' ((conv => whnf); first
    | refine Br.yes rfl ?_
    | refine Br.no rfl ?_
    | refine Br.yes (beq_self_eq_true _) ?_
    | refine Br.not ?_
    | refine Br.yes (decide_eq_true (by assumption)) ?_
    | refine Br.no (decide_eq_false (by assumption)) ?_
    | refine Br.yes (beq_iff_eq.2 (by assumption)) ?_
    | refine Br.no (beq_eq_false_iff_ne.2 (by assumption)) ?_
    | refine Br.yes (bne_iff_ne.2 (by assumption)) ?_
    | (refine Br.dec (fun h => ?_) (fun h => ?_) <;> try dsimp only at h)
    | (refine Br.beqI (fun h => ?_) (fun h => ?_) <;> try dsimp only at h)
    | (refine Br.bneI (fun h => ?_) (fun h => ?_) <;> try dsimp only at h)
    | refine Br.mk (fun h => ?_) (fun h => ?_)
    | refine Need.mk (by first | kernel_rfl | exact ⟨of_decide_eq_true rfl, of_decide_eq_true rfl⟩ | omega) ?_
    | refine Len.mk ⟨_, by simp only [List.length_cons, List.length_nil, Nat.reduceAdd, Int.cast_ofNat_Int]; rfl, ?_⟩
    | refine Wr.lit _ (by simp only [Int.reduceAdd, Int.reduceSub, Int.reduceMul]; rfl) (by decide) ?_
    | refine Wr.fit (by omega) ?_
    | refine Wr.fit (by dsimp only; omega) ?_
    | refine Elem.mk ⟨_, ⟨of_decide_eq_true rfl, rfl⟩, ?_⟩
    | refine Len.map ?_
    | refine Len.dropM ?_
    | refine Elem.dropM ?_
    | refine Len.takeM ?_
    | refine Elem.takeM ?_
    | refine Elem.mapK (by assumption) ?_
    | refine Elem.mapI (by omega) (by assumption) ?_
    | refine Elem.mapN (by omega) (fun x hx => ?_)
    | refine Elem.map (by omega) (by omega) (fun x hx => ?_)
    | refine (h1).use ⟨rfl, ?_⟩
    | refine (h2).use ⟨rfl, ?_⟩
    | refine (h3).use ⟨rfl, ?_⟩
    | refine (noteEx_ok).use ⟨rfl, ?_⟩
    | refine CallX.mk ⟨_, _, (h1).x, rfl, ?_⟩
    | refine CallX.mk ⟨_, _, (h2).x, rfl, ?_⟩
    | refine CallX.mk ⟨_, _, (h3).x, rfl, ?_⟩
    | refine CallX.mk ⟨_, _, (noteEx_ok).x, rfl, ?_⟩
    | refine ILoop.unroll 11 ?_
    | refine Done.mk ⟨rfl, rfl⟩
    | refine Done.mk ⟨congrArg gb ?_, rfl⟩
    | refine Done.mk ⟨?_, rfl⟩
    | refine Done.mk ⟨?_, ?_⟩)

set_option maxRecDepth 100000 in
theorem sweptEx_ok : ICalls Try.prog 16 [.ptr 0 0, .agg [gi 3, gi 0, gi 271], .fn (.func 14) [] [.ptr 1 0, .ptr 2 0]] [swpC Book.europe Meter.zero 0, .cells [gi 0], .cells [.ms 3 3 0 0], .mvec 38 3 [] 0]
    (Done (gi 0) [swpC Book.europe (stN Book.europe 3 271 Meter.zero) 0, .cells [gi 1], .cells [.ms 3 3 1 1], .mvec 38 3 [al16g] 1]) := by
  have h := blockEx_ok
  have e0 : Meter.zero.Lie = 0 := rfl
  generalize stN Book.europe 3 271 Meter.zero = m1 at *
  refine ICalls.of_body Try.func16 rfl Try.call16 rfl (Nat.le_of_ble_eq_true rfl) (fun _ => none) rfl ?_
  repeat' ((conv => whnf); first
    | refine Br.yes rfl ?_
    | refine Br.no rfl ?_
    | refine Br.yes (beq_self_eq_true _) ?_
    | refine Br.not ?_
    | refine Br.yes (decide_eq_true (by assumption)) ?_
    | refine Br.no (decide_eq_false (by assumption)) ?_
    | refine Br.yes (beq_iff_eq.2 (by assumption)) ?_
    | refine Br.no (beq_eq_false_iff_ne.2 (by assumption)) ?_
    | refine Br.yes (bne_iff_ne.2 (by assumption)) ?_
    | (refine Br.dec (fun h => ?_) (fun h => ?_) <;> try dsimp only at h)
    | (refine Br.beqI (fun h => ?_) (fun h => ?_) <;> try dsimp only at h)
    | (refine Br.bneI (fun h => ?_) (fun h => ?_) <;> try dsimp only at h)
    | refine Br.mk (fun h => ?_) (fun h => ?_)
    | refine Need.mk (by first | kernel_rfl | exact ⟨of_decide_eq_true rfl, of_decide_eq_true rfl⟩ | omega) ?_
    | refine Len.mk ⟨_, by simp only [List.length_cons, List.length_nil, Nat.reduceAdd, Int.cast_ofNat_Int]; rfl, ?_⟩
    | refine Wr.lit _ (by simp only [Int.reduceAdd, Int.reduceSub, Int.reduceMul]; rfl) (by decide) ?_
    | refine Wr.fit (by omega) ?_
    | refine Wr.fit (by dsimp only; omega) ?_
    | refine Elem.mk ⟨_, ⟨of_decide_eq_true rfl, rfl⟩, ?_⟩
    | refine Len.map ?_
    | refine Len.dropM ?_
    | refine Elem.dropM ?_
    | refine Len.takeM ?_
    | refine Elem.takeM ?_
    | refine Elem.mapK (by assumption) ?_
    | refine Elem.mapI (by omega) (by assumption) ?_
    | refine Elem.mapN (by omega) (fun x hx => ?_)
    | refine Elem.map (by omega) (by omega) (fun x hx => ?_)
    | refine (h).use ⟨rfl, ?_⟩
    | refine CallX.mk ⟨_, _, (h).x, rfl, ?_⟩
    | refine Done.mk ⟨rfl, rfl⟩
    | refine Done.mk ⟨congrArg gb ?_, rfl⟩
    | refine Done.mk ⟨?_, rfl⟩
    | refine Done.mk ⟨?_, ?_⟩)

def late0 : List Rec → Bool
  | [] => false
  | r :: _ => decide (r.From ≠ 0)
def dutyErr (b : Book) (l : List Rec) : Int := if b.code = 0 then (if (recsErr 0 none l).2 = 0 then (if late0 l then 5 else 0) else (recsErr 0 none l).2) else b.code

set_option maxRecDepth 100000 in
set_option maxHeartbeats 1000000 in
theorem dutyCheck_ok (b : Book) (l : List Rec) (hl : (l.length : Int) ≤ 1000000000) : ICalls Try.prog 13 [b.g, .list 3 (recs l) none] [] (Done (gi (dutyErr b l)) []) := by
  have h1 := bookCheck_ok b
  have h2 := recCheck_ok l hl
  unfold pairG at h2
  unfold dutyErr
  generalize b.code = e at *
  generalize recsErr 0 none l = w at *
  obtain ⟨w1, w2⟩ := w
  clear hl
  cases l with
  | nil =>
    refine ICalls.of_body Try.func13 rfl Try.call13 rfl (Nat.le_of_ble_eq_true rfl) (fun _ => none) rfl ?_
    repeat' ((conv => whnf); first
      | refine Br.yes rfl ?_
      | refine Br.no rfl ?_
      | refine Br.yes (beq_self_eq_true _) ?_
      | refine Br.not ?_
      | refine Br.yes (decide_eq_true (by assumption)) ?_
      | refine Br.no (decide_eq_false (by assumption)) ?_
      | refine Br.yes (beq_iff_eq.2 (by assumption)) ?_
      | refine Br.no (beq_eq_false_iff_ne.2 (by assumption)) ?_
      | refine Br.yes (bne_iff_ne.2 (by assumption)) ?_
      | (refine Br.dec (fun h => ?_) (fun h => ?_) <;> try dsimp only at h)
      | (refine Br.beqI (fun h => ?_) (fun h => ?_) <;> try dsimp only at h)
      | (refine Br.bneI (fun h => ?_) (fun h => ?_) <;> try dsimp only at h)
      | refine Br.mk (fun h => ?_) (fun h => ?_)
      | refine Need.mk (by first | kernel_rfl | exact ⟨of_decide_eq_true rfl, of_decide_eq_true rfl⟩ | omega) ?_
      | refine Len.mk ⟨_, by simp only [List.length_cons, List.length_nil, Nat.reduceAdd, Int.cast_ofNat_Int]; rfl, ?_⟩
      | refine Wr.lit _ (by simp only [Int.reduceAdd, Int.reduceSub, Int.reduceMul]; rfl) (by decide) ?_
      | refine Wr.fit (by omega) ?_
      | refine Wr.fit (by dsimp only; omega) ?_
      | refine Elem.mk ⟨_, ⟨of_decide_eq_true rfl, rfl⟩, ?_⟩
      | refine Len.map ?_
      | refine Len.dropM ?_
      | refine Elem.dropM ?_
      | refine Len.takeM ?_
      | refine Elem.takeM ?_
      | refine Elem.mapK (by assumption) ?_
      | refine Elem.mapI (by omega) (by assumption) ?_
      | refine Elem.mapN (by omega) (fun x hx => ?_)
      | refine Elem.map (by omega) (by omega) (fun x hx => ?_)
      | refine (h1).use ⟨rfl, ?_⟩
      | refine (h2).use ⟨rfl, ?_⟩
      | refine CallX.mk ⟨_, _, (h1).x, rfl, ?_⟩
      | refine CallX.mk ⟨_, _, (h2).x, rfl, ?_⟩
      | refine Done.mk ⟨rfl, rfl⟩
      | refine Done.mk ⟨congrArg gb ?_, rfl⟩
      | refine Done.mk ⟨?_, rfl⟩
      | refine Done.mk ⟨?_, ?_⟩)
    all_goals simp_all [late0]
  | cons r l =>
    refine ICalls.of_body Try.func13 rfl Try.call13 rfl (Nat.le_of_ble_eq_true rfl) (fun _ => none) rfl ?_
    repeat' ((conv => whnf); first
      | refine Br.yes rfl ?_
      | refine Br.no rfl ?_
      | refine Br.yes (beq_self_eq_true _) ?_
      | refine Br.not ?_
      | refine Br.yes (decide_eq_true (by assumption)) ?_
      | refine Br.no (decide_eq_false (by assumption)) ?_
      | refine Br.yes (beq_iff_eq.2 (by assumption)) ?_
      | refine Br.no (beq_eq_false_iff_ne.2 (by assumption)) ?_
      | refine Br.yes (bne_iff_ne.2 (by assumption)) ?_
      | (refine Br.dec (fun h => ?_) (fun h => ?_) <;> try dsimp only at h)
      | (refine Br.beqI (fun h => ?_) (fun h => ?_) <;> try dsimp only at h)
      | (refine Br.bneI (fun h => ?_) (fun h => ?_) <;> try dsimp only at h)
      | refine Br.mk (fun h => ?_) (fun h => ?_)
      | refine Need.mk (by first | kernel_rfl | exact ⟨of_decide_eq_true rfl, of_decide_eq_true rfl⟩ | omega) ?_
      | refine Len.mk ⟨_, by simp only [List.length_cons, List.length_nil, Nat.reduceAdd, Int.cast_ofNat_Int]; rfl, ?_⟩
      | refine Wr.lit _ (by simp only [Int.reduceAdd, Int.reduceSub, Int.reduceMul]; rfl) (by decide) ?_
      | refine Wr.fit (by omega) ?_
      | refine Wr.fit (by dsimp only; omega) ?_
      | refine Elem.mk ⟨_, ⟨of_decide_eq_true rfl, rfl⟩, ?_⟩
      | refine Len.map ?_
      | refine Len.dropM ?_
      | refine Elem.dropM ?_
      | refine Len.takeM ?_
      | refine Elem.takeM ?_
      | refine Elem.mapK (by assumption) ?_
      | refine Elem.mapI (by omega) (by assumption) ?_
      | refine Elem.mapN (by omega) (fun x hx => ?_)
      | refine Elem.map (by omega) (by omega) (fun x hx => ?_)
      | refine (h1).use ⟨rfl, ?_⟩
      | refine (h2).use ⟨rfl, ?_⟩
      | refine CallX.mk ⟨_, _, (h1).x, rfl, ?_⟩
      | refine CallX.mk ⟨_, _, (h2).x, rfl, ?_⟩
      | refine Done.mk ⟨rfl, rfl⟩
      | refine Done.mk ⟨congrArg gb ?_, rfl⟩
      | refine Done.mk ⟨?_, rfl⟩
      | refine Done.mk ⟨?_, ?_⟩)
    all_goals simp_all [late0]

def pl_V2_2 : Nat → Option (List Nat × List Nat) := (fun k => bif Nat.beq k 9 then some ([1000009, 7, 9, 10, 24, 25, 26, 5000007, 6000038], [107, 108, 123, 50107]) else bif Nat.beq k 5000007 then some ([], []) else bif Nat.beq k 6000038 then some ([], []) else none)
set_option maxRecDepth 100000 in
set_option maxHeartbeats 1000000 in
theorem auditEx_ok : ICalls Try.prog 6 [Book.europe.g, .list 3 [.agg [gi 3, gi 0, gi 271]] none] [] (Done (.tup [.list 3 (fnds [⟨0, 0, 271⟩]) none, gi 0]) []) := by
  have h1 := dutyCheck_ok Book.europe [⟨3, 0, 271⟩] (by decide)
  rw [show dutyErr Book.europe [(⟨3, 0, 271⟩ : Rec)] = 0 by decide] at h1
  have h2 := sweptEx_ok
  have h3 := clauseSort_ok [⟨0, 0, 271⟩] (by decide) (by decide)
  rw [show sortF [⟨0, 0, 271⟩] = [⟨0, 0, 271⟩] by simp [sortF]] at h3
  generalize stN Book.europe 3 271 Meter.zero = m1 at *
  refine ICalls.of_body Try.func6 rfl Try.call6 rfl (Nat.le_of_ble_eq_true rfl) pl_V2_2 rfl ?_
  repeat' ((conv => whnf); first
    | refine Br.yes rfl ?_
    | refine Br.no rfl ?_
    | refine Br.yes (beq_self_eq_true _) ?_
    | refine Br.not ?_
    | refine Br.yes (decide_eq_true (by assumption)) ?_
    | refine Br.no (decide_eq_false (by assumption)) ?_
    | refine Br.yes (beq_iff_eq.2 (by assumption)) ?_
    | refine Br.no (beq_eq_false_iff_ne.2 (by assumption)) ?_
    | refine Br.yes (bne_iff_ne.2 (by assumption)) ?_
    | (refine Br.dec (fun h => ?_) (fun h => ?_) <;> try dsimp only at h)
    | (refine Br.beqI (fun h => ?_) (fun h => ?_) <;> try dsimp only at h)
    | (refine Br.bneI (fun h => ?_) (fun h => ?_) <;> try dsimp only at h)
    | refine Br.mk (fun h => ?_) (fun h => ?_)
    | refine Need.mk (by first | kernel_rfl | exact ⟨of_decide_eq_true rfl, of_decide_eq_true rfl⟩ | omega) ?_
    | refine Len.mk ⟨_, by simp only [List.length_cons, List.length_nil, Nat.reduceAdd, Int.cast_ofNat_Int]; rfl, ?_⟩
    | refine Wr.lit _ (by simp only [Int.reduceAdd, Int.reduceSub, Int.reduceMul]; rfl) (by decide) ?_
    | refine Wr.fit (by omega) ?_
    | refine Wr.fit (by dsimp only; omega) ?_
    | refine Elem.mk ⟨_, ⟨of_decide_eq_true rfl, rfl⟩, ?_⟩
    | refine Len.map ?_
    | refine Len.dropM ?_
    | refine Elem.dropM ?_
    | refine Len.takeM ?_
    | refine Elem.takeM ?_
    | refine Elem.mapK (by assumption) ?_
    | refine Elem.mapI (by omega) (by assumption) ?_
    | refine Elem.mapN (by omega) (fun x hx => ?_)
    | refine Elem.map (by omega) (by omega) (fun x hx => ?_)
    | refine (h1).use ⟨rfl, ?_⟩
    | refine (h2).use ⟨rfl, ?_⟩
    | refine (h3).use ⟨rfl, ?_⟩
    | refine CallX.mk ⟨_, _, (h1).x, rfl, ?_⟩
    | refine CallX.mk ⟨_, _, (h2).x, rfl, ?_⟩
    | refine CallX.mk ⟨_, _, (h3).x, rfl, ?_⟩
    | refine ILoop.unroll 2 ?_
    | refine Done.mk ⟨rfl, rfl⟩
    | refine Done.mk ⟨congrArg gb ?_, rfl⟩
    | refine Done.mk ⟨?_, rfl⟩
    | refine Done.mk ⟨?_, ?_⟩)

set_option maxRecDepth 100000 in
set_option maxHeartbeats 1000000 in
theorem alive16_ok : ICalls Try.prog 5 [] [] (Done (gb true) []) := by
  have h := auditEx_ok
  refine ICalls.of_body Try.func5 rfl Try.call5 rfl (Nat.le_of_ble_eq_true rfl) (fun _ => none) rfl ?_
  repeat' ((conv => whnf); first
    | refine Br.yes rfl ?_
    | refine Br.no rfl ?_
    | refine Need.mk (EqRun.flat (by kernel_rfl) rfl) ?_
    | refine Br.yes (beq_self_eq_true _) ?_
    | refine Br.not ?_
    | refine Br.yes (decide_eq_true (by assumption)) ?_
    | refine Br.no (decide_eq_false (by assumption)) ?_
    | refine Br.yes (beq_iff_eq.2 (by assumption)) ?_
    | refine Br.no (beq_eq_false_iff_ne.2 (by assumption)) ?_
    | refine Br.yes (bne_iff_ne.2 (by assumption)) ?_
    | (refine Br.dec (fun h => ?_) (fun h => ?_) <;> try dsimp only at h)
    | (refine Br.beqI (fun h => ?_) (fun h => ?_) <;> try dsimp only at h)
    | (refine Br.bneI (fun h => ?_) (fun h => ?_) <;> try dsimp only at h)
    | refine Br.mk (fun h => ?_) (fun h => ?_)
    | refine Need.mk (by first | kernel_rfl | exact ⟨of_decide_eq_true rfl, of_decide_eq_true rfl⟩ | omega) ?_
    | refine Len.mk ⟨_, by simp only [List.length_cons, List.length_nil, Nat.reduceAdd, Int.cast_ofNat_Int]; rfl, ?_⟩
    | refine Wr.lit _ (by simp only [Int.reduceAdd, Int.reduceSub, Int.reduceMul]; rfl) (by decide) ?_
    | refine Wr.fit (by omega) ?_
    | refine Wr.fit (by dsimp only; omega) ?_
    | refine Elem.mk ⟨_, ⟨of_decide_eq_true rfl, rfl⟩, ?_⟩
    | refine Len.map ?_
    | refine Len.dropM ?_
    | refine Elem.dropM ?_
    | refine Len.takeM ?_
    | refine Elem.takeM ?_
    | refine Elem.mapK (by assumption) ?_
    | refine Elem.mapI (by omega) (by assumption) ?_
    | refine Elem.mapN (by omega) (fun x hx => ?_)
    | refine Elem.map (by omega) (by omega) (fun x hx => ?_)
    | refine (europe_ok).use ⟨rfl, ?_⟩
    | refine (h).use ⟨rfl, ?_⟩
    | refine CallX.mk ⟨_, _, (europe_ok).x, rfl, ?_⟩
    | refine CallX.mk ⟨_, _, (h).x, rfl, ?_⟩
    | refine Done.mk ⟨rfl, rfl⟩
    | refine Done.mk ⟨congrArg gb ?_, rfl⟩
    | refine Done.mk ⟨?_, rfl⟩
    | refine Done.mk ⟨?_, ?_⟩)

end Go.Hl

/- The set of findings' clauses: the program's, the reference's; the law.  -/
set_option linter.unusedVariables false
set_option linter.unusedSimpArgs false
namespace Go.Hl
open Go.Gh Go.Proofs

def setN (l : List Fnd) : Nat := l.foldl (fun s f => markN s f.Clause) 0
theorem foldl_lt : ∀ (l : List Fnd) (s : Nat), s < 65536 → l.foldl (fun s f => markN s f.Clause) s < 65536
  | [], s, h => h
  | f :: l, s, h => foldl_lt l _ (markN_lt h)
theorem setN_lt (l : List Fnd) : setN l < 65536 := foldl_lt l 0 (by omega)
theorem take_succF {l : List Fnd} {j : Nat} {x : Fnd} (h : l[j]? = some x) : l.take (j + 1) = l.take j ++ [x] := by
  obtain ⟨h1, h2⟩ := List.getElem?_eq_some_iff.1 h
  rw [List.take_succ_eq_append_getElem h1, h2]
theorem setN_snoc (l : List Fnd) (f : Fnd) : setN (l ++ [f]) = markN (setN l) f.Clause := by unfold setN; rw [List.foldl_append]; rfl
theorem setN_step {l : List Fnd} {i : Nat} {x : Fnd} (h : l[i]? = some x) : setN (l.take (i + 1)) = markN (setN (l.take i)) x.Clause := by rw [take_succF h, setN_snoc]

def pl_V3_1 : Nat → Option (List Nat × List Nat) := (fun k => bif Nat.beq k 3 then some ([1000003, 3, 6, 7, 8], []) else none)
set_option maxRecDepth 100000 in
set_option maxHeartbeats 1000000 in
theorem dutySet_ok (l : List Fnd) (hl : (l.length : Int) ≤ 1000000000) : ICalls Try.prog 10 [.list 3 (fnds l) none] [] (Done (gi (setN l)) []) := by
  generalize hR : setN l = R
  refine ICalls.of_body Try.func10 rfl Try.call10 rfl (Nat.le_of_ble_eq_true rfl) pl_V3_1 rfl ?_
  repeat' ((conv => whnf); first
    | refine Br.yes rfl ?_
    | refine Br.no rfl ?_
    | (refine Elem.mapN (by omega) (fun x hx => ?_))
    | (refine ILoop.ov 1000003 (fun ((i, z) : Nat × Int) => [(8, gi i), (3, gi z)]) (fun ((i, z) : Nat × Int) => []) (fun ((i, z) : Nat × Int) => i ≤ l.length ∧ z = ((setN (l.take i) : Nat) : Int)) (fun ((i, z) : Nat × Int) => l.length - i) ((0, 0)) (by exact rfl) ?_; (conv => whnf); refine Start.mk rfl ?_ ?_; (try dsimp only); rotate_left; rintro ⟨i, z⟩ ⟨hi, hz⟩)
    | (refine Again.mk ⟨((i + 1, _)), rfl, ?_, ?_⟩ <;> try dsimp only)
    | refine Br.yes (beq_self_eq_true _) ?_
    | refine Br.not ?_
    | refine Br.yes (decide_eq_true (by assumption)) ?_
    | refine Br.no (decide_eq_false (by assumption)) ?_
    | refine Br.yes (beq_iff_eq.2 (by assumption)) ?_
    | refine Br.no (beq_eq_false_iff_ne.2 (by assumption)) ?_
    | refine Br.yes (bne_iff_ne.2 (by assumption)) ?_
    | (refine Br.dec (fun h => ?_) (fun h => ?_) <;> try dsimp only at h)
    | (refine Br.beqI (fun h => ?_) (fun h => ?_) <;> try dsimp only at h)
    | (refine Br.bneI (fun h => ?_) (fun h => ?_) <;> try dsimp only at h)
    | refine Br.mk (fun h => ?_) (fun h => ?_)
    | refine Need.mk (by first | kernel_rfl | exact ⟨of_decide_eq_true rfl, of_decide_eq_true rfl⟩ | omega) ?_
    | refine Len.mk ⟨_, by simp only [List.length_cons, List.length_nil, Nat.reduceAdd, Int.cast_ofNat_Int]; rfl, ?_⟩
    | refine Wr.lit _ (by simp only [Int.reduceAdd, Int.reduceSub, Int.reduceMul]; rfl) (by decide) ?_
    | refine Wr.fit (by omega) ?_
    | refine Wr.fit (by dsimp only; omega) ?_
    | refine Elem.mk ⟨_, ⟨of_decide_eq_true rfl, rfl⟩, ?_⟩
    | refine Len.map ?_
    | refine Len.dropM ?_
    | refine Elem.dropM ?_
    | refine Len.takeM ?_
    | refine Elem.takeM ?_
    | refine Elem.mapK (by assumption) ?_
    | refine Elem.mapI (by omega) (by assumption) ?_
    | refine Elem.mapN (by omega) (fun x hx => ?_)
    | refine Elem.map (by omega) (by omega) (fun x hx => ?_)
    | refine Done.mk ⟨rfl, rfl⟩
    | refine Done.mk ⟨congrArg gb ?_, rfl⟩
    | refine Done.mk ⟨?_, rfl⟩
    | refine Done.mk ⟨?_, ?_⟩)
  all_goals first
    | omega
    | exact ⟨by omega, by rw [setN_step hx]; exact set_or hz (setN_lt _) ⟨by assumption, h⟩⟩
    | exact ⟨by omega, by rw [setN_step hx, markN, if_neg (by omega)]; exact hz⟩
    | (rw [List.take_of_length_le (by omega)] at hz; rw [hz, hR]; done)
    | exact ⟨by omega, rfl⟩

/-! ### The reference's -/
def pl_V3_2 : Nat → Option (List Nat × List Nat) := (fun k => bif Nat.beq k 3 then some ([1000003, 0, 1, 5, 6], []) else none)
set_option maxRecDepth 100000 in
theorem refOr16_ok (a b : Nat) (ha : a < 65536) (hb : b < 65536) : ICalls Try.prog 23 [gi a, gi b] [] (Done (gi ((a ||| b : Nat) : Int)) []) := by
  refine ICalls.of_body Try.func23 rfl Try.call23 rfl (Nat.le_of_ble_eq_true rfl) pl_V3_2 rfl ?_
  repeat' ((conv => whnf); first
    | refine Br.yes rfl ?_
    | refine Br.no rfl ?_
    | refine Wr.quoN (by omega) ?_
    | refine Need.mk (show ((2 ^ c : Nat) : Int) ≠ 0 by have := Nat.pow_pos (n := c) (show 0 < 2 by omega); omega) ?_
    | refine Wr.fit (by have := pow_fit (show c < 62 by omega); omega) ?_
    | (refine ILoop.ov 1000003 (fun ((c, o) : Nat × Nat) => [(5, gi o), (6, gi c)]) (fun ((c, o) : Nat × Nat) => []) (fun ((c, o) : Nat × Nat) => c ≤ 16 ∧ o = (a ||| b) % 2 ^ c) (fun ((c, o) : Nat × Nat) => 16 - c) ((0, 0)) (by exact rfl) ?_; (conv => whnf); refine Start.mk rfl ?_ ?_; (try dsimp only); rotate_left; rintro ⟨c, o⟩ ⟨hc, ho⟩)
    | (refine Again.mk ⟨((c + 1, o + 2 ^ c)), rfl, ?_, ?_⟩ <;> try dsimp only)
    | (refine Again.mk ⟨((c + 1, o)), rfl, ?_, ?_⟩ <;> try dsimp only)
    | refine Br.yes (beq_self_eq_true _) ?_
    | refine Br.not ?_
    | refine Br.yes (decide_eq_true (by assumption)) ?_
    | refine Br.no (decide_eq_false (by assumption)) ?_
    | refine Br.yes (beq_iff_eq.2 (by assumption)) ?_
    | refine Br.no (beq_eq_false_iff_ne.2 (by assumption)) ?_
    | refine Br.yes (bne_iff_ne.2 (by assumption)) ?_
    | (refine Br.dec (fun h => ?_) (fun h => ?_) <;> try dsimp only at h)
    | (refine Br.beqI (fun h => ?_) (fun h => ?_) <;> try dsimp only at h)
    | (refine Br.bneI (fun h => ?_) (fun h => ?_) <;> try dsimp only at h)
    | refine Br.mk (fun h => ?_) (fun h => ?_)
    | refine Need.mk (by first | kernel_rfl | exact ⟨of_decide_eq_true rfl, of_decide_eq_true rfl⟩ | omega) ?_
    | refine Len.mk ⟨_, by simp only [List.length_cons, List.length_nil, Nat.reduceAdd, Int.cast_ofNat_Int]; rfl, ?_⟩
    | refine Wr.lit _ (by simp only [Int.reduceAdd, Int.reduceSub, Int.reduceMul]; rfl) (by decide) ?_
    | refine Wr.fit (by omega) ?_
    | refine Wr.fit (by dsimp only; omega) ?_
    | refine Elem.mk ⟨_, ⟨of_decide_eq_true rfl, rfl⟩, ?_⟩
    | refine Len.map ?_
    | refine Len.dropM ?_
    | refine Elem.dropM ?_
    | refine Len.takeM ?_
    | refine Elem.takeM ?_
    | refine Elem.mapK (by assumption) ?_
    | refine Elem.mapI (by omega) (by assumption) ?_
    | refine Elem.mapN (by omega) (fun x hx => ?_)
    | refine Elem.map (by omega) (by omega) (fun x hx => ?_)
    | refine (bitN_ok c (by omega) true).use ⟨rfl, ?_⟩
    | refine CallX.mk ⟨_, _, (bitN_ok c (by omega) true).x, rfl, ?_⟩
    | refine Done.mk ⟨rfl, rfl⟩
    | refine Done.mk ⟨congrArg gb ?_, rfl⟩
    | refine Done.mk ⟨?_, rfl⟩
    | refine Done.mk ⟨?_, ?_⟩)
  all_goals (try (rw [tmod_bit] at *))
  all_goals (try omega)
  · refine ⟨by omega, ?_⟩
    rw [mod_bit, Nat.testBit_or, h, ho]; simp
  · rename_i h2
    refine ⟨by omega, ?_⟩
    rw [mod_bit, Nat.testBit_or, h, ho]; simp
  · rename_i h2
    refine ⟨by omega, ?_⟩
    rw [mod_bit, Nat.testBit_or, ho]; simp [h, h2]
  · have : c = 16 := by omega
    subst this
    have : a ||| b < 2 ^ 16 := Nat.or_lt_two_pow ha hb
    rw [ho, Nat.mod_eq_of_lt (by omega)]

def markB (s : Nat) (c : Int) (j : Nat) : Nat := if 0 ≤ c ∧ c < (j : Int) then s ||| 2 ^ c.toNat else s
theorem markB_lt {s : Nat} {c : Int} {j : Nat} (hj : j ≤ 16) (hs : s < 65536) : markB s c j < 65536 := by
  unfold markB
  split
  · rename_i h
    have : 2 ^ c.toNat < 2 ^ 16 := Nat.pow_lt_pow_right (by omega) (by omega)
    exact Nat.or_lt_two_pow (n := 16) hs this
  · exact hs
theorem markB_0 (s : Nat) (c : Int) : markB s c 0 = s := by unfold markB; rw [if_neg (by omega)]
theorem markB_16 (s : Nat) (c : Int) : markB s c 16 = markN s c := rfl
theorem markB_hit {s : Nat} {c : Int} {j : Nat} (h : c = (j : Int)) : markB s c j ||| 2 ^ j = markB s c (j + 1) := by
  subst h
  unfold markB
  rw [if_neg (by omega), if_pos (by omega), Int.toNat_natCast]
theorem markB_miss {s : Nat} {c : Int} {j : Nat} (h : ¬ c = (j : Int)) : markB s c j = markB s c (j + 1) := by
  unfold markB
  by_cases hc : 0 ≤ c ∧ c < (j : Int)
  · rw [if_pos hc, if_pos (by omega)]
  · rw [if_neg hc, if_neg (by omega)]
def clAt (l : List Fnd) (i : Nat) : Int := ((l[i]?).getD ⟨0, 0, 0⟩).Clause
theorem clAt_of {l : List Fnd} {i : Nat} {x : Fnd} (h : l[i]? = some x) : clAt l i = x.Clause := by unfold clAt; rw [h]; rfl
theorem set_round {l : List Fnd} {i j : Nat} (h1 : (i : Int) < l.length) (hj : j ≤ 16) (h : ¬ (j : Int) < 16) : ((markB (setN (l.take i)) (clAt l i) j : Nat) : Int) = ((setN (l.take (i + 1)) : Nat) : Int) := by
  have e : j = 16 := by omega
  subst e
  have hi : i < l.length := by omega
  have hx : l[i]? = some l[i] := by simp [hi]
  rw [markB_16, setN_step hx, clAt_of hx]
theorem pow16 {j : Nat} (h : j < 16) : 2 ^ j < 65536 := Nat.lt_of_lt_of_le (Nat.pow_lt_pow_right (by omega) h) (by decide)
theorem pow_dbl (j : Nat) : 2 * ((2 ^ j : Nat) : Int) = ((2 ^ (j + 1) : Nat) : Int) := by rw [Nat.pow_succ]; omega

def pl_V3_3 : Nat → Option (List Nat × List Nat) := (fun k => bif Nat.beq k 3 then some ([1000003, 0, 3, 4], []) else bif Nat.beq k 7 then some ([1000007, 0, 3, 4, 5, 6], []) else none)
set_option maxRecDepth 100000 in
set_option maxHeartbeats 1000000 in
theorem refDutySet_ok (l : List Fnd) (hl : (l.length : Int) ≤ 1000000000) : ICalls Try.prog 11 [.list 3 (fnds l) none] [] (Done (gi (setN l)) []) := by
  generalize hR : setN l = R
  refine ICalls.of_body Try.func11 rfl Try.call11 rfl (Nat.le_of_ble_eq_true rfl) pl_V3_3 rfl ?_
  repeat' ((conv => whnf); first
    | refine Br.yes rfl ?_
    | refine Br.no rfl ?_
    | refine Wr.fit (pow_fit2 (show j < 62 by omega) rfl) ?_
    | (refine Elem.mapK (by assumption) ?_)
    | (refine Elem.mapN (i := i) (by omega) (fun x hx => ?_))
    | (refine ILoop.ov 1000003 (fun ((i, z) : Nat × Int) => [(4, gi i), (3, gi z)]) (fun ((i, z) : Nat × Int) => []) (fun ((i, z) : Nat × Int) => i ≤ l.length ∧ z = ((setN (l.take i) : Nat) : Int)) (fun ((i, z) : Nat × Int) => l.length - i) ((0, 0)) (by exact rfl) ?_; (conv => whnf); refine Start.mk rfl ?_ ?_; (try dsimp only); rotate_left; rintro ⟨i, z⟩ ⟨hi, rfl⟩)
    | (refine Again.mk ⟨((i + 1, _)), rfl, ?_, ?_⟩ <;> try dsimp only)
    | (refine ILoop.ov 1000007 (fun ((j, z, p) : Nat × Int × Int) => [(6, gi j), (3, gi z), (5, gi p)]) (fun ((j, z, p) : Nat × Int × Int) => []) (fun ((j, z, p) : Nat × Int × Int) => j ≤ 16 ∧ p = ((2 ^ j : Nat) : Int) ∧ z = ((markB (setN (l.take i)) (clAt l i) j : Nat) : Int)) (fun ((j, z, p) : Nat × Int × Int) => 16 - j) ((0, ((setN (l.take i) : Nat) : Int), 1)) (by exact rfl) ?_; (conv => whnf); refine Start.mk rfl ?_ ?_; (try dsimp only); rotate_left; rintro ⟨j, z, p⟩ ⟨hj, rfl, rfl⟩)
    | (refine Again.mk ⟨((j + 1, _, _)), rfl, ?_, ?_⟩ <;> try dsimp only)
    | refine Br.yes (beq_self_eq_true _) ?_
    | refine Br.not ?_
    | refine Br.yes (decide_eq_true (by assumption)) ?_
    | refine Br.no (decide_eq_false (by assumption)) ?_
    | refine Br.yes (beq_iff_eq.2 (by assumption)) ?_
    | refine Br.no (beq_eq_false_iff_ne.2 (by assumption)) ?_
    | refine Br.yes (bne_iff_ne.2 (by assumption)) ?_
    | (refine Br.dec (fun h => ?_) (fun h => ?_) <;> try dsimp only at h)
    | (refine Br.beqI (fun h => ?_) (fun h => ?_) <;> try dsimp only at h)
    | (refine Br.bneI (fun h => ?_) (fun h => ?_) <;> try dsimp only at h)
    | refine Br.mk (fun h => ?_) (fun h => ?_)
    | refine Need.mk (by first | kernel_rfl | exact ⟨of_decide_eq_true rfl, of_decide_eq_true rfl⟩ | omega) ?_
    | refine Len.mk ⟨_, by simp only [List.length_cons, List.length_nil, Nat.reduceAdd, Int.cast_ofNat_Int]; rfl, ?_⟩
    | refine Wr.lit _ (by simp only [Int.reduceAdd, Int.reduceSub, Int.reduceMul]; rfl) (by decide) ?_
    | refine Wr.fit (by omega) ?_
    | refine Wr.fit (by dsimp only; omega) ?_
    | refine Elem.mk ⟨_, ⟨of_decide_eq_true rfl, rfl⟩, ?_⟩
    | refine Len.map ?_
    | refine Len.dropM ?_
    | refine Elem.dropM ?_
    | refine Len.takeM ?_
    | refine Elem.takeM ?_
    | refine Elem.mapK (by assumption) ?_
    | refine Elem.mapI (by omega) (by assumption) ?_
    | refine Elem.mapN (by omega) (fun x hx => ?_)
    | refine Elem.map (by omega) (by omega) (fun x hx => ?_)
    | refine (refOr16_ok (markB (setN (l.take i)) (clAt l i) j) (2 ^ j) (markB_lt (by omega) (setN_lt _)) (pow16 (by omega))).use ⟨rfl, ?_⟩
    | refine CallX.mk ⟨_, _, (refOr16_ok (markB (setN (l.take i)) (clAt l i) j) (2 ^ j) (markB_lt (by omega) (setN_lt _)) (pow16 (by omega))).x, rfl, ?_⟩
    | refine Done.mk ⟨rfl, rfl⟩
    | refine Done.mk ⟨congrArg gb ?_, rfl⟩
    | refine Done.mk ⟨?_, rfl⟩
    | refine Done.mk ⟨?_, ?_⟩)
  all_goals first
    | omega
    | exact ⟨by omega, pow_dbl j, congrArg Int.ofNat (markB_hit ((clAt_of hx).trans h))⟩
    | exact ⟨by omega, pow_dbl j, congrArg Int.ofNat (markB_miss (fun e => h ((clAt_of hx).symm.trans e)))⟩
    | exact ⟨by omega, set_round (by omega) hj h⟩
    | exact ⟨by omega, rfl, by rw [markB_0]⟩
    | (rw [List.take_of_length_le (by omega), hR]; done)
    | exact ⟨by omega, rfl⟩

def fndTy : Ty := .agg [.int, .int, .int]
end Go.Hl

/- Findings that are the same.  -/
set_option linter.unusedVariables false
set_option linter.unusedSimpArgs false
namespace Go.Hl
open Go.Gh Go.Proofs

def pl_U0_1 : Nat → Option (List Nat × List Nat) := (fun k => bif Nat.beq k 4 then some ([1000004, 0, 1, 5], []) else none)
set_option maxRecDepth 100000 in
set_option maxHeartbeats 1000000 in
theorem sameFnd_self (a : List Fnd) (ha : (a.length : Int) ≤ 1000000000) : ICalls Try.prog 8 [.list 3 (fnds a) none, .list 3 (fnds a) none] [] (Done (gb true) []) := by
  refine ICalls.of_body Try.func8 rfl Try.call8 rfl (Nat.le_of_ble_eq_true rfl) pl_U0_1 rfl ?_
  repeat' ((conv => whnf); first
    | refine Br.yes rfl ?_
    | refine Br.no rfl ?_
    | refine Need.mk (EqRun.flat (by kernel_rfl) rfl) ?_
    | (refine ILoop.ov 1000004 (fun (i : Nat) => [(5, gi i)]) (fun (i : Nat) => []) (fun (i : Nat) => i ≤ a.length) (fun (i : Nat) => a.length - i) (0) (by exact rfl) ?_; (conv => whnf); refine Start.mk rfl ?_ ?_; (try dsimp only); rotate_left; rintro i hi)
    | (refine Again.mk ⟨(i + 1), rfl, ?_, ?_⟩ <;> try dsimp only)
    | refine Br.yes (beq_self_eq_true _) ?_
    | refine Br.not ?_
    | refine Br.yes (decide_eq_true (by assumption)) ?_
    | refine Br.no (decide_eq_false (by assumption)) ?_
    | refine Br.yes (beq_iff_eq.2 (by assumption)) ?_
    | refine Br.no (beq_eq_false_iff_ne.2 (by assumption)) ?_
    | refine Br.yes (bne_iff_ne.2 (by assumption)) ?_
    | (refine Br.dec (fun h => ?_) (fun h => ?_) <;> try dsimp only at h)
    | (refine Br.beqI (fun h => ?_) (fun h => ?_) <;> try dsimp only at h)
    | (refine Br.bneI (fun h => ?_) (fun h => ?_) <;> try dsimp only at h)
    | refine Br.mk (fun h => ?_) (fun h => ?_)
    | refine Need.mk (by first | kernel_rfl | exact ⟨of_decide_eq_true rfl, of_decide_eq_true rfl⟩ | omega) ?_
    | refine Len.mk ⟨_, by simp only [List.length_cons, List.length_nil, Nat.reduceAdd, Int.cast_ofNat_Int]; rfl, ?_⟩
    | refine Wr.lit _ (by simp only [Int.reduceAdd, Int.reduceSub, Int.reduceMul]; rfl) (by decide) ?_
    | refine Wr.fit (by omega) ?_
    | refine Wr.fit (by dsimp only; omega) ?_
    | refine Elem.mk ⟨_, ⟨of_decide_eq_true rfl, rfl⟩, ?_⟩
    | refine Len.map ?_
    | refine Len.dropM ?_
    | refine Elem.dropM ?_
    | refine Len.takeM ?_
    | refine Elem.takeM ?_
    | refine Elem.mapK (by assumption) ?_
    | refine Elem.mapI (by omega) (by assumption) ?_
    | refine Elem.mapN (by omega) (fun x hx => ?_)
    | refine Elem.map (by omega) (by omega) (fun x hx => ?_)
    | refine Done.mk ⟨rfl, rfl⟩
    | refine Done.mk ⟨congrArg gb ?_, rfl⟩
    | refine Done.mk ⟨?_, rfl⟩
    | refine Done.mk ⟨?_, ?_⟩)
  all_goals first
    | omega
    | rfl
    | (simp at *; done)

end Go.Hl
