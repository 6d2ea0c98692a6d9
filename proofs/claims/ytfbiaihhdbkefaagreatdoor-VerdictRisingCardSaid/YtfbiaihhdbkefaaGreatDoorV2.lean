/- Contracts of functions, bundle V2; proved for whatever the arguments' types allow, as each theorem says. -/
import Derived.Test.YtfbiaihhdbkefaaGreatDoorPV
import Derived.Test.YtfbiaihhdbkefaaGreatDoorH23
import Derived.Test.YtfbiaihhdbkefaaGreatDoorH9
import Derived.Test.YtfbiaihhdbkefaaGreatDoorH4

/- Chapter 16: the chapter's examples; the set of findings' clauses.  -/
set_option linter.unusedVariables false
set_option linter.unusedSimpArgs false
namespace Go.Hl
open Go.Gh Go.Proofs

def swpC (b : Book) (m : Meter) (rest : Int) : List GV := b.c ++ (m.c ++ [gi rest])
abbrev al16g : GV := .agg [gi 0, gi 0, gi 271]

theorem tmod_fit {a n : Int} (ha : 0 ≤ a) (hn : 0 < n) : 0 ≤ a.tmod n ∧ a.tmod n ≤ a := by
  rw [Int.tmod_eq_emod_of_nonneg ha]
  have h1 := Int.mul_ediv_add_emod a n
  have h2 := Int.mul_nonneg (show 0 ≤ n by omega) (Int.ediv_nonneg ha (show 0 ≤ n by omega))
  exact ⟨Int.emod_nonneg a (by omega), by omega⟩
theorem since_fit1 {a q : Int} (ha : 0 ≤ a ∧ a ≤ 40320) (hm : 0 ≤ q ∧ q ≤ a) : -9223372036854775808 ≤ a - q ∧ a - q ≤ 9223372036854775807 := by omega
theorem since_fit2 {a q l : Int} (ha : 0 ≤ a ∧ a ≤ 40320) (hm : 0 ≤ q ∧ q ≤ a) (hL : 0 < l ∧ l ≤ 1000000) : -9223372036854775808 ≤ a - q - l ∧ a - q - l ≤ 9223372036854775807 := by omega
theorem pos_ne {l : Int} (hL : 0 < l ∧ l ≤ 1000000) : l ≠ 0 := by omega

/-- From where on a clause is counted. -/
def sinceV (b : Book) (m : Meter) (rest c a : Int) : Int :=
  if c = 0 then rest else if c = 1 ∨ c = 5 then m.Dawn else if c = 3 ∨ c = 9 then a - a.tmod b.Length else if c = 4 then (if 0 < a - a.tmod b.Length - b.Length then a - a.tmod b.Length - b.Length else 0) else m.Sabbath

set_option maxRecDepth 100000 in
set_option maxHeartbeats 1000000 in
theorem since_ok (b : Book) (m : Meter) (rest c a : Int) (ha : 0 ≤ a ∧ a ≤ 40320) (hL : 0 < b.Length ∧ b.Length ≤ 1000000) : ICalls Tryz.prog 87 [.ptr 0 0, gi c, gi a] [swpC b m rest] (Done (gi (sinceV b m rest c a)) [swpC b m rest]) := by
  have hm := tmod_fit ha.1 hL.1
  unfold sinceV
  refine ICalls.of_body Tryz.func87 rfl Tryz.call87 rfl (Nat.le_of_ble_eq_true rfl) (fun _ => none) rfl ?_
  repeat' ((conv => whnf); first
    | refine Br.yes rfl ?_
    | refine Br.no rfl ?_
    | refine Wr.fit (since_fit1 ha hm) ?_
    | (refine Wr.fit (since_fit2 ha hm hL) ?_)
    | (refine Need.mk (pos_ne hL) ?_)
    | refine Br.yes (beq_self_eq_true _) ?_
    | refine Br.not ?_
    | refine Br.yes (decide_eq_true (by assumption)) ?_
    | refine Br.no (decide_eq_false (by assumption)) ?_
    | refine Br.yes (beq_iff_eq.2 (by assumption)) ?_
    | refine Br.no (beq_eq_false_iff_ne.2 (by assumption)) ?_
    | refine Br.yes (bne_iff_ne.2 (by assumption)) ?_
    | (refine Br.dec (fun h => ?_) (fun h => ?_) <;> try dsimp only at h)
    | (refine Br.beqI (fun h => ?_) (fun h => ?_) <;> try dsimp only at h)
    | (refine Br.bneI (fun h => ?_) (fun h => ?_) <;> try dsimp only at h)
    | refine Br.mk (fun h => ?_) (fun h => ?_)
    | refine Need.mk (by first | kernel_rfl | exact ⟨of_decide_eq_true rfl, of_decide_eq_true rfl⟩ | omega) ?_
    | refine Len.mk ⟨_, by simp only [List.length_cons, List.length_nil, Nat.reduceAdd, Int.cast_ofNat_Int]; rfl, ?_⟩
    | refine Wr.lit _ (by simp only [Int.reduceAdd, Int.reduceSub, Int.reduceMul]; rfl) (by decide) ?_
    | refine Wr.fit (by omega) ?_
    | refine Wr.fit (by dsimp only; omega) ?_
    | refine Elem.mk ⟨_, ⟨of_decide_eq_true rfl, rfl⟩, ?_⟩
    | refine Len.map ?_
    | refine Len.dropM ?_
    | refine Elem.dropM ?_
    | refine Len.takeM ?_
    | refine Elem.takeM ?_
    | refine Elem.mapK (by assumption) ?_
    | refine Elem.mapI (by omega) (by assumption) ?_
    | refine Elem.mapN (by omega) (fun x hx => ?_)
    | refine Elem.map (by omega) (by omega) (fun x hx => ?_)
    | refine Done.mk ⟨rfl, rfl⟩
    | refine Done.mk ⟨congrArg gb ?_, rfl⟩
    | refine Done.mk ⟨?_, rfl⟩
    | refine Done.mk ⟨?_, ?_⟩)
  all_goals simp [*]

set_option maxRecDepth 100000 in
theorem endedEx_ok (b : Book) (m : Meter) (rest : Int) (h : m.Lie = 0) : ICalls Tryz.prog 88 [.ptr 0 0] [swpC b m rest] (Done (gb false) [swpC b m rest]) := by
  refine ICalls.of_body Tryz.func88 rfl Tryz.call88 rfl (Nat.le_of_ble_eq_true rfl) (fun _ => none) rfl ?_
  repeat' ((conv => whnf); first
    | refine Br.yes rfl ?_
    | refine Br.no rfl ?_
    | refine Br.yes (beq_self_eq_true _) ?_
    | refine Br.not ?_
    | refine Br.yes (decide_eq_true (by assumption)) ?_
    | refine Br.no (decide_eq_false (by assumption)) ?_
    | refine Br.yes (beq_iff_eq.2 (by assumption)) ?_
    | refine Br.no (beq_eq_false_iff_ne.2 (by assumption)) ?_
    | refine Br.yes (bne_iff_ne.2 (by assumption)) ?_
    | (refine Br.dec (fun h => ?_) (fun h => ?_) <;> try dsimp only at h)
    | (refine Br.beqI (fun h => ?_) (fun h => ?_) <;> try dsimp only at h)
    | (refine Br.bneI (fun h => ?_) (fun h => ?_) <;> try dsimp only at h)
    | refine Br.mk (fun h => ?_) (fun h => ?_)
    | refine Need.mk (by first | kernel_rfl | exact ⟨of_decide_eq_true rfl, of_decide_eq_true rfl⟩ | omega) ?_
    | refine Len.mk ⟨_, by simp only [List.length_cons, List.length_nil, Nat.reduceAdd, Int.cast_ofNat_Int]; rfl, ?_⟩
    | refine Wr.lit _ (by simp only [Int.reduceAdd, Int.reduceSub, Int.reduceMul]; rfl) (by decide) ?_
    | refine Wr.fit (by omega) ?_
    | refine Wr.fit (by dsimp only; omega) ?_
    | refine Elem.mk ⟨_, ⟨of_decide_eq_true rfl, rfl⟩, ?_⟩
    | refine Len.map ?_
    | refine Len.dropM ?_
    | refine Elem.dropM ?_
    | refine Len.takeM ?_
    | refine Elem.takeM ?_
    | refine Elem.mapK (by assumption) ?_
    | refine Elem.mapI (by omega) (by assumption) ?_
    | refine Elem.mapN (by omega) (fun x hx => ?_)
    | refine Elem.map (by omega) (by omega) (fun x hx => ?_)
    | refine Done.mk ⟨rfl, rfl⟩
    | refine Done.mk ⟨congrArg gb ?_, rfl⟩
    | refine Done.mk ⟨?_, rfl⟩
    | refine Done.mk ⟨?_, ?_⟩)
  all_goals omega

def pl_V2_1 : Nat → Option (List Nat × List Nat) := (fun k => bif Nat.beq k 5 then some ([1000005, 0, 1, 3, 9, 32, 33], [0, 1, 2, 3, 109]) else none)
def late0 : List Rec → Bool
  | [] => false
  | r :: _ => decide (r.From ≠ 0)
def dutyErr (b : Book) (l : List Rec) : Int := if b.code = 0 then (if (recsErr 0 none l).2 = 0 then (if late0 l then 5 else 0) else (recsErr 0 none l).2) else b.code

set_option maxRecDepth 100000 in
set_option maxHeartbeats 1000000 in
theorem dutyCheck_ok (b : Book) (l : List Rec) (hl : (l.length : Int) ≤ 1000000000) : ICalls Tryz.prog 15 [b.g, .list 3 (recs l) none] [] (Done (gi (dutyErr b l)) []) := by
  have h1 := bookCheck_ok b
  have h2 := recCheck_ok l hl
  unfold pairG at h2
  unfold dutyErr
  generalize b.code = e at *
  generalize recsErr 0 none l = w at *
  obtain ⟨w1, w2⟩ := w
  clear hl
  cases l with
  | nil =>
    refine ICalls.of_body Tryz.func15 rfl Tryz.call15 rfl (Nat.le_of_ble_eq_true rfl) (fun _ => none) rfl ?_
    repeat' ((conv => whnf); first
      | refine Br.yes rfl ?_
      | refine Br.no rfl ?_
      | refine Br.yes (beq_self_eq_true _) ?_
      | refine Br.not ?_
      | refine Br.yes (decide_eq_true (by assumption)) ?_
      | refine Br.no (decide_eq_false (by assumption)) ?_
      | refine Br.yes (beq_iff_eq.2 (by assumption)) ?_
      | refine Br.no (beq_eq_false_iff_ne.2 (by assumption)) ?_
      | refine Br.yes (bne_iff_ne.2 (by assumption)) ?_
      | (refine Br.dec (fun h => ?_) (fun h => ?_) <;> try dsimp only at h)
      | (refine Br.beqI (fun h => ?_) (fun h => ?_) <;> try dsimp only at h)
      | (refine Br.bneI (fun h => ?_) (fun h => ?_) <;> try dsimp only at h)
      | refine Br.mk (fun h => ?_) (fun h => ?_)
      | refine Need.mk (by first | kernel_rfl | exact ⟨of_decide_eq_true rfl, of_decide_eq_true rfl⟩ | omega) ?_
      | refine Len.mk ⟨_, by simp only [List.length_cons, List.length_nil, Nat.reduceAdd, Int.cast_ofNat_Int]; rfl, ?_⟩
      | refine Wr.lit _ (by simp only [Int.reduceAdd, Int.reduceSub, Int.reduceMul]; rfl) (by decide) ?_
      | refine Wr.fit (by omega) ?_
      | refine Wr.fit (by dsimp only; omega) ?_
      | refine Elem.mk ⟨_, ⟨of_decide_eq_true rfl, rfl⟩, ?_⟩
      | refine Len.map ?_
      | refine Len.dropM ?_
      | refine Elem.dropM ?_
      | refine Len.takeM ?_
      | refine Elem.takeM ?_
      | refine Elem.mapK (by assumption) ?_
      | refine Elem.mapI (by omega) (by assumption) ?_
      | refine Elem.mapN (by omega) (fun x hx => ?_)
      | refine Elem.map (by omega) (by omega) (fun x hx => ?_)
      | refine (h1).use ⟨rfl, ?_⟩
      | refine (h2).use ⟨rfl, ?_⟩
      | refine CallX.mk ⟨_, _, (h1).x, rfl, ?_⟩
      | refine CallX.mk ⟨_, _, (h2).x, rfl, ?_⟩
      | refine Done.mk ⟨rfl, rfl⟩
      | refine Done.mk ⟨congrArg gb ?_, rfl⟩
      | refine Done.mk ⟨?_, rfl⟩
      | refine Done.mk ⟨?_, ?_⟩)
    all_goals simp_all [late0]
  | cons r l =>
    refine ICalls.of_body Tryz.func15 rfl Tryz.call15 rfl (Nat.le_of_ble_eq_true rfl) (fun _ => none) rfl ?_
    repeat' ((conv => whnf); first
      | refine Br.yes rfl ?_
      | refine Br.no rfl ?_
      | refine Br.yes (beq_self_eq_true _) ?_
      | refine Br.not ?_
      | refine Br.yes (decide_eq_true (by assumption)) ?_
      | refine Br.no (decide_eq_false (by assumption)) ?_
      | refine Br.yes (beq_iff_eq.2 (by assumption)) ?_
      | refine Br.no (beq_eq_false_iff_ne.2 (by assumption)) ?_
      | refine Br.yes (bne_iff_ne.2 (by assumption)) ?_
      | (refine Br.dec (fun h => ?_) (fun h => ?_) <;> try dsimp only at h)
      | (refine Br.beqI (fun h => ?_) (fun h => ?_) <;> try dsimp only at h)
      | (refine Br.bneI (fun h => ?_) (fun h => ?_) <;> try dsimp only at h)
      | refine Br.mk (fun h => ?_) (fun h => ?_)
      | refine Need.mk (by first | kernel_rfl | exact ⟨of_decide_eq_true rfl, of_decide_eq_true rfl⟩ | omega) ?_
      | refine Len.mk ⟨_, by simp only [List.length_cons, List.length_nil, Nat.reduceAdd, Int.cast_ofNat_Int]; rfl, ?_⟩
      | refine Wr.lit _ (by simp only [Int.reduceAdd, Int.reduceSub, Int.reduceMul]; rfl) (by decide) ?_
      | refine Wr.fit (by omega) ?_
      | refine Wr.fit (by dsimp only; omega) ?_
      | refine Elem.mk ⟨_, ⟨of_decide_eq_true rfl, rfl⟩, ?_⟩
      | refine Len.map ?_
      | refine Len.dropM ?_
      | refine Elem.dropM ?_
      | refine Len.takeM ?_
      | refine Elem.takeM ?_
      | refine Elem.mapK (by assumption) ?_
      | refine Elem.mapI (by omega) (by assumption) ?_
      | refine Elem.mapN (by omega) (fun x hx => ?_)
      | refine Elem.map (by omega) (by omega) (fun x hx => ?_)
      | refine (h1).use ⟨rfl, ?_⟩
      | refine (h2).use ⟨rfl, ?_⟩
      | refine CallX.mk ⟨_, _, (h1).x, rfl, ?_⟩
      | refine CallX.mk ⟨_, _, (h2).x, rfl, ?_⟩
      | refine Done.mk ⟨rfl, rfl⟩
      | refine Done.mk ⟨congrArg gb ?_, rfl⟩
      | refine Done.mk ⟨?_, rfl⟩
      | refine Done.mk ⟨?_, ?_⟩)
    all_goals simp_all [late0]

def pl_V2_2 : Nat → Option (List Nat × List Nat) := (fun k => bif Nat.beq k 9 then some ([1000009, 7, 9, 10, 24, 25, 26, 5000007, 6000038], [107, 108, 123, 50107]) else bif Nat.beq k 5000007 then some ([], []) else bif Nat.beq k 6000038 then some ([], []) else none)
end Go.Hl

/- The set of findings' clauses: the program's, the reference's; the law.  -/
set_option linter.unusedVariables false
set_option linter.unusedSimpArgs false
namespace Go.Hl
open Go.Gh Go.Proofs

def setN (l : List Fnd) : Nat := l.foldl (fun s f => markN s f.Clause) 0
def markB (s : Nat) (c : Int) (j : Nat) : Nat := if 0 ≤ c ∧ c < (j : Int) then s ||| 2 ^ c.toNat else s
def clAt (l : List Fnd) (i : Nat) : Int := ((l[i]?).getD ⟨0, 0, 0⟩).Clause
def fndTy : Ty := .agg [.int, .int, .int]
end Go.Hl
