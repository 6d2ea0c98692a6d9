/- Contracts of functions, bundle H23; proved for whatever the arguments' types allow, as each theorem says. -/
import Derived.Test.YtfghmggonjnbcaaH22

/- Contracts: no first minutes; what can't be gone through; the first minute of a block.  -/
set_option linter.unusedVariables false
set_option linter.unusedSimpArgs false
namespace Go.Hl
open Go.Gh Go.Proofs

def pl_G3_1 : Nat → Option (List Nat × List Nat) := (fun k => bif Nat.beq k 3 then some ([1000003, 0, 1, 3], [100, 101]) else none)
set_option maxRecDepth 100000 in
theorem none14_ok : ICalls Try.prog 63 [] [] (Done F10.none.g []) := by
  refine ICalls.of_body Try.func63 rfl Try.call63 rfl (Nat.le_of_ble_eq_true rfl) pl_G3_1 rfl ?_
  repeat' ((conv => whnf); first
    | refine Br.yes rfl ?_
    | refine Br.no rfl ?_
    | refine Br.yes (beq_self_eq_true _) ?_
    | refine Br.not ?_
    | refine Br.yes (decide_eq_true (by assumption)) ?_
    | refine Br.no (decide_eq_false (by assumption)) ?_
    | refine Br.yes (beq_iff_eq.2 (by assumption)) ?_
    | refine Br.no (beq_eq_false_iff_ne.2 (by assumption)) ?_
    | refine Br.yes (bne_iff_ne.2 (by assumption)) ?_
    | (refine Br.dec (fun h => ?_) (fun h => ?_) <;> try dsimp only at h)
    | (refine Br.beqI (fun h => ?_) (fun h => ?_) <;> try dsimp only at h)
    | (refine Br.bneI (fun h => ?_) (fun h => ?_) <;> try dsimp only at h)
    | refine Br.mk (fun h => ?_) (fun h => ?_)
    | refine Need.mk (by first | kernel_rfl | exact ⟨of_decide_eq_true rfl, of_decide_eq_true rfl⟩ | omega) ?_
    | refine Len.mk ⟨_, by simp only [List.length_cons, List.length_nil, Nat.reduceAdd, Int.cast_ofNat_Int]; rfl, ?_⟩
    | refine Wr.lit _ (by simp only [Int.reduceAdd, Int.reduceSub, Int.reduceMul]; rfl) (by decide) ?_
    | refine Wr.fit (by omega) ?_
    | refine Wr.fit (by dsimp only; omega) ?_
    | refine Elem.mk ⟨_, ⟨of_decide_eq_true rfl, rfl⟩, ?_⟩
    | refine Len.map ?_
    | refine Len.dropM ?_
    | refine Elem.dropM ?_
    | refine Len.takeM ?_
    | refine Elem.takeM ?_
    | refine Elem.mapK (by assumption) ?_
    | refine Elem.mapI (by omega) (by assumption) ?_
    | refine Elem.mapN (by omega) (fun x hx => ?_)
    | refine Elem.map (by omega) (by omega) (fun x hx => ?_)
    | refine ILoop.unroll 11 ?_
    | refine Done.mk ⟨rfl, rfl⟩
    | refine Done.mk ⟨congrArg gb ?_, rfl⟩
    | refine Done.mk ⟨?_, rfl⟩
    | refine Done.mk ⟨?_, ?_⟩)

def check14 (b : Book) (m : Meter) (k n : Int) : Int := if b.May then (if m.May then (if k < 0 ∨ 4 ≤ k then 2 else if n < 0 ∨ 40320 - m.Now < n then 4 else 0) else 1) else 14
set_option maxRecDepth 100000 in
set_option maxHeartbeats 1000000 in
theorem check14_ok (b : Book) (m : Meter) (k n : Int) : ICalls Try.prog 62 [b.g, m.g, gi k, gi n] [] (Done (gi (check14 b m k n)) []) := by
  have h1 := bookCheck_ok b
  have h2 := meterCheck_ok m
  unfold check14
  by_cases hb : b.May
  {
  rw [if_pos hb]
  rw [show b.code = 0 from if_pos hb] at h1
  by_cases hm : m.May
  {
  rw [if_pos hm]
  rw [show m.code = 0 from if_pos hm] at h2
  have hn := hm.now
  refine ICalls.of_body Try.func62 rfl Try.call62 rfl (Nat.le_of_ble_eq_true rfl) (fun _ => none) rfl ?_
  repeat' ((conv => whnf); first
    | refine Br.yes rfl ?_
    | refine Br.no rfl ?_
    | refine Br.yes (beq_self_eq_true _) ?_
    | refine Br.not ?_
    | refine Br.yes (decide_eq_true (by assumption)) ?_
    | refine Br.no (decide_eq_false (by assumption)) ?_
    | refine Br.yes (beq_iff_eq.2 (by assumption)) ?_
    | refine Br.no (beq_eq_false_iff_ne.2 (by assumption)) ?_
    | refine Br.yes (bne_iff_ne.2 (by assumption)) ?_
    | (refine Br.dec (fun h => ?_) (fun h => ?_) <;> try dsimp only at h)
    | (refine Br.beqI (fun h => ?_) (fun h => ?_) <;> try dsimp only at h)
    | (refine Br.bneI (fun h => ?_) (fun h => ?_) <;> try dsimp only at h)
    | refine Br.mk (fun h => ?_) (fun h => ?_)
    | refine Need.mk (by first | kernel_rfl | exact ⟨of_decide_eq_true rfl, of_decide_eq_true rfl⟩ | omega) ?_
    | refine Len.mk ⟨_, by simp only [List.length_cons, List.length_nil, Nat.reduceAdd, Int.cast_ofNat_Int]; rfl, ?_⟩
    | refine Wr.lit _ (by simp only [Int.reduceAdd, Int.reduceSub, Int.reduceMul]; rfl) (by decide) ?_
    | refine Wr.fit (by omega) ?_
    | refine Wr.fit (by dsimp only; omega) ?_
    | refine Elem.mk ⟨_, ⟨of_decide_eq_true rfl, rfl⟩, ?_⟩
    | refine Len.map ?_
    | refine Len.dropM ?_
    | refine Elem.dropM ?_
    | refine Len.takeM ?_
    | refine Elem.takeM ?_
    | refine Elem.mapK (by assumption) ?_
    | refine Elem.mapI (by omega) (by assumption) ?_
    | refine Elem.mapN (by omega) (fun x hx => ?_)
    | refine Elem.map (by omega) (by omega) (fun x hx => ?_)
    | refine (h1).use ⟨rfl, ?_⟩
    | refine (h2).use ⟨rfl, ?_⟩
    | refine CallX.mk ⟨_, _, (h1).x, rfl, ?_⟩
    | refine CallX.mk ⟨_, _, (h2).x, rfl, ?_⟩
    | refine Done.mk ⟨rfl, rfl⟩
    | refine Done.mk ⟨congrArg gb ?_, rfl⟩
    | refine Done.mk ⟨?_, rfl⟩
    | refine Done.mk ⟨?_, ?_⟩)
  all_goals first
    | (rw [if_pos (by omega)]; done)
    | (rw [if_neg (by omega), if_pos (by omega)]; done)
    | (rw [if_neg (by omega), if_neg (by omega)]; done)
  }
  {
  rw [if_neg hm]
  rw [show m.code = 1 from if_neg hm] at h2
  refine ICalls.of_body Try.func62 rfl Try.call62 rfl (Nat.le_of_ble_eq_true rfl) (fun _ => none) rfl ?_
  repeat' ((conv => whnf); first
    | refine Br.yes rfl ?_
    | refine Br.no rfl ?_
    | refine Br.yes (beq_self_eq_true _) ?_
    | refine Br.not ?_
    | refine Br.yes (decide_eq_true (by assumption)) ?_
    | refine Br.no (decide_eq_false (by assumption)) ?_
    | refine Br.yes (beq_iff_eq.2 (by assumption)) ?_
    | refine Br.no (beq_eq_false_iff_ne.2 (by assumption)) ?_
    | refine Br.yes (bne_iff_ne.2 (by assumption)) ?_
    | (refine Br.dec (fun h => ?_) (fun h => ?_) <;> try dsimp only at h)
    | (refine Br.beqI (fun h => ?_) (fun h => ?_) <;> try dsimp only at h)
    | (refine Br.bneI (fun h => ?_) (fun h => ?_) <;> try dsimp only at h)
    | refine Br.mk (fun h => ?_) (fun h => ?_)
    | refine Need.mk (by first | kernel_rfl | exact ⟨of_decide_eq_true rfl, of_decide_eq_true rfl⟩ | omega) ?_
    | refine Len.mk ⟨_, by simp only [List.length_cons, List.length_nil, Nat.reduceAdd, Int.cast_ofNat_Int]; rfl, ?_⟩
    | refine Wr.lit _ (by simp only [Int.reduceAdd, Int.reduceSub, Int.reduceMul]; rfl) (by decide) ?_
    | refine Wr.fit (by omega) ?_
    | refine Wr.fit (by dsimp only; omega) ?_
    | refine Elem.mk ⟨_, ⟨of_decide_eq_true rfl, rfl⟩, ?_⟩
    | refine Len.map ?_
    | refine Len.dropM ?_
    | refine Elem.dropM ?_
    | refine Len.takeM ?_
    | refine Elem.takeM ?_
    | refine Elem.mapK (by assumption) ?_
    | refine Elem.mapI (by omega) (by assumption) ?_
    | refine Elem.mapN (by omega) (fun x hx => ?_)
    | refine Elem.map (by omega) (by omega) (fun x hx => ?_)
    | refine (h1).use ⟨rfl, ?_⟩
    | refine (h2).use ⟨rfl, ?_⟩
    | refine CallX.mk ⟨_, _, (h1).x, rfl, ?_⟩
    | refine CallX.mk ⟨_, _, (h2).x, rfl, ?_⟩
    | refine Done.mk ⟨rfl, rfl⟩
    | refine Done.mk ⟨congrArg gb ?_, rfl⟩
    | refine Done.mk ⟨?_, rfl⟩
    | refine Done.mk ⟨?_, ?_⟩)
  }
  }
  {
  rw [if_neg hb]
  rw [show b.code = 14 from if_neg hb] at h1
  refine ICalls.of_body Try.func62 rfl Try.call62 rfl (Nat.le_of_ble_eq_true rfl) (fun _ => none) rfl ?_
  repeat' ((conv => whnf); first
    | refine Br.yes rfl ?_
    | refine Br.no rfl ?_
    | refine Br.yes (beq_self_eq_true _) ?_
    | refine Br.not ?_
    | refine Br.yes (decide_eq_true (by assumption)) ?_
    | refine Br.no (decide_eq_false (by assumption)) ?_
    | refine Br.yes (beq_iff_eq.2 (by assumption)) ?_
    | refine Br.no (beq_eq_false_iff_ne.2 (by assumption)) ?_
    | refine Br.yes (bne_iff_ne.2 (by assumption)) ?_
    | (refine Br.dec (fun h => ?_) (fun h => ?_) <;> try dsimp only at h)
    | (refine Br.beqI (fun h => ?_) (fun h => ?_) <;> try dsimp only at h)
    | (refine Br.bneI (fun h => ?_) (fun h => ?_) <;> try dsimp only at h)
    | refine Br.mk (fun h => ?_) (fun h => ?_)
    | refine Need.mk (by first | kernel_rfl | exact ⟨of_decide_eq_true rfl, of_decide_eq_true rfl⟩ | omega) ?_
    | refine Len.mk ⟨_, by simp only [List.length_cons, List.length_nil, Nat.reduceAdd, Int.cast_ofNat_Int]; rfl, ?_⟩
    | refine Wr.lit _ (by simp only [Int.reduceAdd, Int.reduceSub, Int.reduceMul]; rfl) (by decide) ?_
    | refine Wr.fit (by omega) ?_
    | refine Wr.fit (by dsimp only; omega) ?_
    | refine Elem.mk ⟨_, ⟨of_decide_eq_true rfl, rfl⟩, ?_⟩
    | refine Len.map ?_
    | refine Len.dropM ?_
    | refine Elem.dropM ?_
    | refine Len.takeM ?_
    | refine Elem.takeM ?_
    | refine Elem.mapK (by assumption) ?_
    | refine Elem.mapI (by omega) (by assumption) ?_
    | refine Elem.mapN (by omega) (fun x hx => ?_)
    | refine Elem.map (by omega) (by omega) (fun x hx => ?_)
    | refine (h1).use ⟨rfl, ?_⟩
    | refine CallX.mk ⟨_, _, (h1).x, rfl, ?_⟩
    | refine Done.mk ⟨rfl, rfl⟩
    | refine Done.mk ⟨congrArg gb ?_, rfl⟩
    | refine Done.mk ⟨?_, rfl⟩
    | refine Done.mk ⟨?_, ?_⟩)
  }

/-- The first so many clauses noted. -/
def F10.riseTo (f : F10) (q : Nat) (x c : Int) : F10 := ⟨if 0 < c ∧ q.testBit 0 = true then noteI f.a0 x else f.a0, if 1 < c ∧ q.testBit 1 = true then noteI f.a1 x else f.a1, if 2 < c ∧ q.testBit 2 = true then noteI f.a2 x else f.a2, if 3 < c ∧ q.testBit 3 = true then noteI f.a3 x else f.a3, if 4 < c ∧ q.testBit 4 = true then noteI f.a4 x else f.a4, if 5 < c ∧ q.testBit 5 = true then noteI f.a5 x else f.a5, if 6 < c ∧ q.testBit 6 = true then noteI f.a6 x else f.a6, if 7 < c ∧ q.testBit 7 = true then noteI f.a7 x else f.a7, if 8 < c ∧ q.testBit 8 = true then noteI f.a8 x else f.a8, if 9 < c ∧ q.testBit 9 = true then noteI f.a9 x else f.a9⟩
def F10.rise (f : F10) (q : Nat) (x : Int) : F10 := f.riseTo q x 10
theorem rise_0 (f : F10) (q : Nat) (x : Int) : f = f.riseTo q x 0 := by simp [F10.riseTo]
theorem riseY0 {f g : F10} {q : Nat} {x : Int} (hg : g = f.riseTo q x 0) (h : q.testBit 0 = true) : g.n0 x = f.riseTo q x 1 := by subst hg; simp [F10.riseTo, F10.n0, h]
theorem riseN0 {f g : F10} {q : Nat} {x : Int} (hg : g = f.riseTo q x 0) (h : q.testBit 0 = false) : g = f.riseTo q x 1 := by subst hg; simp [F10.riseTo, h]
theorem riseY1 {f g : F10} {q : Nat} {x : Int} (hg : g = f.riseTo q x 1) (h : q.testBit 1 = true) : g.n1 x = f.riseTo q x 2 := by subst hg; simp [F10.riseTo, F10.n1, h]
theorem riseN1 {f g : F10} {q : Nat} {x : Int} (hg : g = f.riseTo q x 1) (h : q.testBit 1 = false) : g = f.riseTo q x 2 := by subst hg; simp [F10.riseTo, h]
theorem riseY2 {f g : F10} {q : Nat} {x : Int} (hg : g = f.riseTo q x 2) (h : q.testBit 2 = true) : g.n2 x = f.riseTo q x 3 := by subst hg; simp [F10.riseTo, F10.n2, h]
theorem riseN2 {f g : F10} {q : Nat} {x : Int} (hg : g = f.riseTo q x 2) (h : q.testBit 2 = false) : g = f.riseTo q x 3 := by subst hg; simp [F10.riseTo, h]
theorem riseY3 {f g : F10} {q : Nat} {x : Int} (hg : g = f.riseTo q x 3) (h : q.testBit 3 = true) : g.n3 x = f.riseTo q x 4 := by subst hg; simp [F10.riseTo, F10.n3, h]
theorem riseN3 {f g : F10} {q : Nat} {x : Int} (hg : g = f.riseTo q x 3) (h : q.testBit 3 = false) : g = f.riseTo q x 4 := by subst hg; simp [F10.riseTo, h]
theorem riseY4 {f g : F10} {q : Nat} {x : Int} (hg : g = f.riseTo q x 4) (h : q.testBit 4 = true) : g.n4 x = f.riseTo q x 5 := by subst hg; simp [F10.riseTo, F10.n4, h]
theorem riseN4 {f g : F10} {q : Nat} {x : Int} (hg : g = f.riseTo q x 4) (h : q.testBit 4 = false) : g = f.riseTo q x 5 := by subst hg; simp [F10.riseTo, h]
theorem riseY5 {f g : F10} {q : Nat} {x : Int} (hg : g = f.riseTo q x 5) (h : q.testBit 5 = true) : g.n5 x = f.riseTo q x 6 := by subst hg; simp [F10.riseTo, F10.n5, h]
theorem riseN5 {f g : F10} {q : Nat} {x : Int} (hg : g = f.riseTo q x 5) (h : q.testBit 5 = false) : g = f.riseTo q x 6 := by subst hg; simp [F10.riseTo, h]
theorem riseY6 {f g : F10} {q : Nat} {x : Int} (hg : g = f.riseTo q x 6) (h : q.testBit 6 = true) : g.n6 x = f.riseTo q x 7 := by subst hg; simp [F10.riseTo, F10.n6, h]
theorem riseN6 {f g : F10} {q : Nat} {x : Int} (hg : g = f.riseTo q x 6) (h : q.testBit 6 = false) : g = f.riseTo q x 7 := by subst hg; simp [F10.riseTo, h]
theorem riseY7 {f g : F10} {q : Nat} {x : Int} (hg : g = f.riseTo q x 7) (h : q.testBit 7 = true) : g.n7 x = f.riseTo q x 8 := by subst hg; simp [F10.riseTo, F10.n7, h]
theorem riseN7 {f g : F10} {q : Nat} {x : Int} (hg : g = f.riseTo q x 7) (h : q.testBit 7 = false) : g = f.riseTo q x 8 := by subst hg; simp [F10.riseTo, h]
theorem riseY8 {f g : F10} {q : Nat} {x : Int} (hg : g = f.riseTo q x 8) (h : q.testBit 8 = true) : g.n8 x = f.riseTo q x 9 := by subst hg; simp [F10.riseTo, F10.n8, h]
theorem riseN8 {f g : F10} {q : Nat} {x : Int} (hg : g = f.riseTo q x 8) (h : q.testBit 8 = false) : g = f.riseTo q x 9 := by subst hg; simp [F10.riseTo, h]
theorem riseY9 {f g : F10} {q : Nat} {x : Int} (hg : g = f.riseTo q x 9) (h : q.testBit 9 = true) : g.n9 x = f.riseTo q x 10 := by subst hg; simp [F10.riseTo, F10.n9, h]
theorem riseN9 {f g : F10} {q : Nat} {x : Int} (hg : g = f.riseTo q x 9) (h : q.testBit 9 = false) : g = f.riseTo q x 10 := by subst hg; simp [F10.riseTo, h]
theorem and_bit : ∀ (q : Nat), q < 1024 → ∀ (c : Nat), c < 10 → decide (IntKind.i64.wrap ↑(BitVec.ofInt IntKind.i64.bits ((↑q : Int).fdiv (2 ^ min (Int.toNat (c : Int)) IntKind.i64.bits)) &&& BitVec.ofInt IntKind.i64.bits 1).toNat = 1) = q.testBit c := by decide +kernel
theorem andY0 {q : Nat} (hq : q < 1024) (h : IntKind.i64.wrap ↑(BitVec.ofInt IntKind.i64.bits ((↑q : Int).fdiv (2 ^ min (Int.toNat 0) IntKind.i64.bits)) &&& BitVec.ofInt IntKind.i64.bits 1).toNat = 1) : q.testBit 0 = true := by have e := and_bit q hq 0 (by decide); rw [← e]; exact decide_eq_true h
theorem andN0 {q : Nat} (hq : q < 1024) (h : ¬ (IntKind.i64.wrap ↑(BitVec.ofInt IntKind.i64.bits ((↑q : Int).fdiv (2 ^ min (Int.toNat 0) IntKind.i64.bits)) &&& BitVec.ofInt IntKind.i64.bits 1).toNat = 1)) : q.testBit 0 = false := by have e := and_bit q hq 0 (by decide); rw [← e]; exact decide_eq_false h
theorem andY1 {q : Nat} (hq : q < 1024) (h : IntKind.i64.wrap ↑(BitVec.ofInt IntKind.i64.bits ((↑q : Int).fdiv (2 ^ min (Int.toNat 1) IntKind.i64.bits)) &&& BitVec.ofInt IntKind.i64.bits 1).toNat = 1) : q.testBit 1 = true := by have e := and_bit q hq 1 (by decide); rw [← e]; exact decide_eq_true h
theorem andN1 {q : Nat} (hq : q < 1024) (h : ¬ (IntKind.i64.wrap ↑(BitVec.ofInt IntKind.i64.bits ((↑q : Int).fdiv (2 ^ min (Int.toNat 1) IntKind.i64.bits)) &&& BitVec.ofInt IntKind.i64.bits 1).toNat = 1)) : q.testBit 1 = false := by have e := and_bit q hq 1 (by decide); rw [← e]; exact decide_eq_false h
theorem andY2 {q : Nat} (hq : q < 1024) (h : IntKind.i64.wrap ↑(BitVec.ofInt IntKind.i64.bits ((↑q : Int).fdiv (2 ^ min (Int.toNat 2) IntKind.i64.bits)) &&& BitVec.ofInt IntKind.i64.bits 1).toNat = 1) : q.testBit 2 = true := by have e := and_bit q hq 2 (by decide); rw [← e]; exact decide_eq_true h
theorem andN2 {q : Nat} (hq : q < 1024) (h : ¬ (IntKind.i64.wrap ↑(BitVec.ofInt IntKind.i64.bits ((↑q : Int).fdiv (2 ^ min (Int.toNat 2) IntKind.i64.bits)) &&& BitVec.ofInt IntKind.i64.bits 1).toNat = 1)) : q.testBit 2 = false := by have e := and_bit q hq 2 (by decide); rw [← e]; exact decide_eq_false h
theorem andY3 {q : Nat} (hq : q < 1024) (h : IntKind.i64.wrap ↑(BitVec.ofInt IntKind.i64.bits ((↑q : Int).fdiv (2 ^ min (Int.toNat 3) IntKind.i64.bits)) &&& BitVec.ofInt IntKind.i64.bits 1).toNat = 1) : q.testBit 3 = true := by have e := and_bit q hq 3 (by decide); rw [← e]; exact decide_eq_true h
theorem andN3 {q : Nat} (hq : q < 1024) (h : ¬ (IntKind.i64.wrap ↑(BitVec.ofInt IntKind.i64.bits ((↑q : Int).fdiv (2 ^ min (Int.toNat 3) IntKind.i64.bits)) &&& BitVec.ofInt IntKind.i64.bits 1).toNat = 1)) : q.testBit 3 = false := by have e := and_bit q hq 3 (by decide); rw [← e]; exact decide_eq_false h
theorem andY4 {q : Nat} (hq : q < 1024) (h : IntKind.i64.wrap ↑(BitVec.ofInt IntKind.i64.bits ((↑q : Int).fdiv (2 ^ min (Int.toNat 4) IntKind.i64.bits)) &&& BitVec.ofInt IntKind.i64.bits 1).toNat = 1) : q.testBit 4 = true := by have e := and_bit q hq 4 (by decide); rw [← e]; exact decide_eq_true h
theorem andN4 {q : Nat} (hq : q < 1024) (h : ¬ (IntKind.i64.wrap ↑(BitVec.ofInt IntKind.i64.bits ((↑q : Int).fdiv (2 ^ min (Int.toNat 4) IntKind.i64.bits)) &&& BitVec.ofInt IntKind.i64.bits 1).toNat = 1)) : q.testBit 4 = false := by have e := and_bit q hq 4 (by decide); rw [← e]; exact decide_eq_false h
theorem andY5 {q : Nat} (hq : q < 1024) (h : IntKind.i64.wrap ↑(BitVec.ofInt IntKind.i64.bits ((↑q : Int).fdiv (2 ^ min (Int.toNat 5) IntKind.i64.bits)) &&& BitVec.ofInt IntKind.i64.bits 1).toNat = 1) : q.testBit 5 = true := by have e := and_bit q hq 5 (by decide); rw [← e]; exact decide_eq_true h
theorem andN5 {q : Nat} (hq : q < 1024) (h : ¬ (IntKind.i64.wrap ↑(BitVec.ofInt IntKind.i64.bits ((↑q : Int).fdiv (2 ^ min (Int.toNat 5) IntKind.i64.bits)) &&& BitVec.ofInt IntKind.i64.bits 1).toNat = 1)) : q.testBit 5 = false := by have e := and_bit q hq 5 (by decide); rw [← e]; exact decide_eq_false h
theorem andY6 {q : Nat} (hq : q < 1024) (h : IntKind.i64.wrap ↑(BitVec.ofInt IntKind.i64.bits ((↑q : Int).fdiv (2 ^ min (Int.toNat 6) IntKind.i64.bits)) &&& BitVec.ofInt IntKind.i64.bits 1).toNat = 1) : q.testBit 6 = true := by have e := and_bit q hq 6 (by decide); rw [← e]; exact decide_eq_true h
theorem andN6 {q : Nat} (hq : q < 1024) (h : ¬ (IntKind.i64.wrap ↑(BitVec.ofInt IntKind.i64.bits ((↑q : Int).fdiv (2 ^ min (Int.toNat 6) IntKind.i64.bits)) &&& BitVec.ofInt IntKind.i64.bits 1).toNat = 1)) : q.testBit 6 = false := by have e := and_bit q hq 6 (by decide); rw [← e]; exact decide_eq_false h
theorem andY7 {q : Nat} (hq : q < 1024) (h : IntKind.i64.wrap ↑(BitVec.ofInt IntKind.i64.bits ((↑q : Int).fdiv (2 ^ min (Int.toNat 7) IntKind.i64.bits)) &&& BitVec.ofInt IntKind.i64.bits 1).toNat = 1) : q.testBit 7 = true := by have e := and_bit q hq 7 (by decide); rw [← e]; exact decide_eq_true h
theorem andN7 {q : Nat} (hq : q < 1024) (h : ¬ (IntKind.i64.wrap ↑(BitVec.ofInt IntKind.i64.bits ((↑q : Int).fdiv (2 ^ min (Int.toNat 7) IntKind.i64.bits)) &&& BitVec.ofInt IntKind.i64.bits 1).toNat = 1)) : q.testBit 7 = false := by have e := and_bit q hq 7 (by decide); rw [← e]; exact decide_eq_false h
theorem andY8 {q : Nat} (hq : q < 1024) (h : IntKind.i64.wrap ↑(BitVec.ofInt IntKind.i64.bits ((↑q : Int).fdiv (2 ^ min (Int.toNat 8) IntKind.i64.bits)) &&& BitVec.ofInt IntKind.i64.bits 1).toNat = 1) : q.testBit 8 = true := by have e := and_bit q hq 8 (by decide); rw [← e]; exact decide_eq_true h
theorem andN8 {q : Nat} (hq : q < 1024) (h : ¬ (IntKind.i64.wrap ↑(BitVec.ofInt IntKind.i64.bits ((↑q : Int).fdiv (2 ^ min (Int.toNat 8) IntKind.i64.bits)) &&& BitVec.ofInt IntKind.i64.bits 1).toNat = 1)) : q.testBit 8 = false := by have e := and_bit q hq 8 (by decide); rw [← e]; exact decide_eq_false h
theorem andY9 {q : Nat} (hq : q < 1024) (h : IntKind.i64.wrap ↑(BitVec.ofInt IntKind.i64.bits ((↑q : Int).fdiv (2 ^ min (Int.toNat 9) IntKind.i64.bits)) &&& BitVec.ofInt IntKind.i64.bits 1).toNat = 1) : q.testBit 9 = true := by have e := and_bit q hq 9 (by decide); rw [← e]; exact decide_eq_true h
theorem andN9 {q : Nat} (hq : q < 1024) (h : ¬ (IntKind.i64.wrap ↑(BitVec.ofInt IntKind.i64.bits ((↑q : Int).fdiv (2 ^ min (Int.toNat 9) IntKind.i64.bits)) &&& BitVec.ofInt IntKind.i64.bits 1).toNat = 1)) : q.testBit 9 = false := by have e := and_bit q hq 9 (by decide); rw [← e]; exact decide_eq_false h
theorem runAll_1 {b : Book} {m : Meter} {k : Int} (hb : b.May) (hm : m.May) (hk : 0 ≤ k ∧ k ≤ 3) (hn : m.Now < 40320) : runAll b m [k] = (m.step b k, ((stepN b m k : Nat) : Int), 0) := by
  have e := stepBits_or b m k 0 (by decide)
  rw [Nat.zero_or] at e
  unfold runAll
  rw [if_pos hb, if_pos hm]
  show (if k < 0 ∨ 4 ≤ k then (Meter.zero, (0 : Int), (2 : Int)) else if m.Now = 40320 then (Meter.zero, 0, 4) else (m.step b k, stepBits b m k 0, 0)) = _
  rw [if_neg (by omega), if_neg (by omega)]
  exact congrArg (fun z => (m.step b k, z, (0 : Int))) e

def pl_G3_2 : Nat → Option (List Nat × List Nat) := (fun k => bif Nat.beq k 4 then some ([1000004, 0, 5, 6, 7, 8, 29], [0, 106]) else none)
set_option maxRecDepth 100000 in
set_option maxHeartbeats 2000000 in
theorem rise14_ok (b : Book) (m : Meter) (f : F10) (k : Int) (hb : b.May) (hm : m.May) (hk : 0 ≤ k ∧ k ≤ 3) (hn : m.Now < 40320) :
    ICalls Try.prog 64 [.ptr 0 0, gi k] [blkC b m f] (Done (gi 0) [blkC b (m.step b k) (f.rise (stepN b m k) m.Now)]) := by
  have hs := step_ok b m k
  rw [runAll_1 hb hm hk hn] at hs
  have hq := stepN_lt b m k
  generalize stepN b m k = q at *
  generalize m.step b k = m1 at *
  unfold F10.rise
  refine ICalls.of_body Try.func64 rfl Try.call64 rfl (Nat.le_of_ble_eq_true rfl) pl_G3_2 rfl ?_
  repeat' ((conv => whnf); first
    | refine Br.yes rfl ?_
    | refine Br.no rfl ?_
    | (refine ILoop.ov 1000004 (fun ((c, g) : Int × F10) => [(29, gi c)]) (fun ((c, g) : Int × F10) => [(0, .cells (blkC b m g))]) (fun ((c, g) : Int × F10) => (0 ≤ c ∧ c ≤ 10) ∧ g = f.riseTo q m.Now c) (fun ((c, g) : Int × F10) => (10 - c).toNat) ((0, f)) (by exact rfl) ?_; (conv => whnf); refine Start.mk rfl ?_ ?_; (try dsimp only); rotate_left; rintro ⟨c, g⟩ ⟨hc, hg⟩; (have hc2 : c = 0 ∨ c = 1 ∨ c = 2 ∨ c = 3 ∨ c = 4 ∨ c = 5 ∨ c = 6 ∨ c = 7 ∨ c = 8 ∨ c = 9 ∨ c = 10 := (by omega); rcases hc2 with rfl | rfl | rfl | rfl | rfl | rfl | rfl | rfl | rfl | rfl | rfl))
    | (refine Again.mk ⟨((1, g.n0 m.Now)), rfl, ?_, ?_⟩ <;> try dsimp only)
    | (refine Again.mk ⟨((1, g)), rfl, ?_, ?_⟩ <;> try dsimp only)
    | (refine Again.mk ⟨((2, g.n1 m.Now)), rfl, ?_, ?_⟩ <;> try dsimp only)
    | (refine Again.mk ⟨((2, g)), rfl, ?_, ?_⟩ <;> try dsimp only)
    | (refine Again.mk ⟨((3, g.n2 m.Now)), rfl, ?_, ?_⟩ <;> try dsimp only)
    | (refine Again.mk ⟨((3, g)), rfl, ?_, ?_⟩ <;> try dsimp only)
    | (refine Again.mk ⟨((4, g.n3 m.Now)), rfl, ?_, ?_⟩ <;> try dsimp only)
    | (refine Again.mk ⟨((4, g)), rfl, ?_, ?_⟩ <;> try dsimp only)
    | (refine Again.mk ⟨((5, g.n4 m.Now)), rfl, ?_, ?_⟩ <;> try dsimp only)
    | (refine Again.mk ⟨((5, g)), rfl, ?_, ?_⟩ <;> try dsimp only)
    | (refine Again.mk ⟨((6, g.n5 m.Now)), rfl, ?_, ?_⟩ <;> try dsimp only)
    | (refine Again.mk ⟨((6, g)), rfl, ?_, ?_⟩ <;> try dsimp only)
    | (refine Again.mk ⟨((7, g.n6 m.Now)), rfl, ?_, ?_⟩ <;> try dsimp only)
    | (refine Again.mk ⟨((7, g)), rfl, ?_, ?_⟩ <;> try dsimp only)
    | (refine Again.mk ⟨((8, g.n7 m.Now)), rfl, ?_, ?_⟩ <;> try dsimp only)
    | (refine Again.mk ⟨((8, g)), rfl, ?_, ?_⟩ <;> try dsimp only)
    | (refine Again.mk ⟨((9, g.n8 m.Now)), rfl, ?_, ?_⟩ <;> try dsimp only)
    | (refine Again.mk ⟨((9, g)), rfl, ?_, ?_⟩ <;> try dsimp only)
    | (refine Again.mk ⟨((10, g.n9 m.Now)), rfl, ?_, ?_⟩ <;> try dsimp only)
    | (refine Again.mk ⟨((10, g)), rfl, ?_, ?_⟩ <;> try dsimp only)
    | refine Br.yes (beq_self_eq_true _) ?_
    | refine Br.not ?_
    | refine Br.yes (decide_eq_true (by assumption)) ?_
    | refine Br.no (decide_eq_false (by assumption)) ?_
    | refine Br.yes (beq_iff_eq.2 (by assumption)) ?_
    | refine Br.no (beq_eq_false_iff_ne.2 (by assumption)) ?_
    | refine Br.yes (bne_iff_ne.2 (by assumption)) ?_
    | (refine Br.dec (fun h => ?_) (fun h => ?_) <;> try dsimp only at h)
    | (refine Br.beqI (fun h => ?_) (fun h => ?_) <;> try dsimp only at h)
    | (refine Br.bneI (fun h => ?_) (fun h => ?_) <;> try dsimp only at h)
    | refine Br.mk (fun h => ?_) (fun h => ?_)
    | refine Need.mk (by first | kernel_rfl | exact ⟨of_decide_eq_true rfl, of_decide_eq_true rfl⟩ | omega) ?_
    | refine Len.mk ⟨_, by simp only [List.length_cons, List.length_nil, Nat.reduceAdd, Int.cast_ofNat_Int]; rfl, ?_⟩
    | refine Wr.lit _ (by simp only [Int.reduceAdd, Int.reduceSub, Int.reduceMul]; rfl) (by decide) ?_
    | refine Wr.fit (by omega) ?_
    | refine Wr.fit (by dsimp only; omega) ?_
    | refine Elem.mk ⟨_, ⟨of_decide_eq_true rfl, rfl⟩, ?_⟩
    | refine Len.map ?_
    | refine Len.dropM ?_
    | refine Elem.dropM ?_
    | refine Len.takeM ?_
    | refine Elem.takeM ?_
    | refine Elem.mapK (by assumption) ?_
    | refine Elem.mapI (by omega) (by assumption) ?_
    | refine Elem.mapN (by omega) (fun x hx => ?_)
    | refine Elem.map (by omega) (by omega) (fun x hx => ?_)
    | refine (hs).use ⟨rfl, ?_⟩
    | refine (note0_ok b m g m.Now).use ⟨rfl, ?_⟩
    | refine (note1_ok b m g m.Now).use ⟨rfl, ?_⟩
    | refine (note2_ok b m g m.Now).use ⟨rfl, ?_⟩
    | refine (note3_ok b m g m.Now).use ⟨rfl, ?_⟩
    | refine (note4_ok b m g m.Now).use ⟨rfl, ?_⟩
    | refine (note5_ok b m g m.Now).use ⟨rfl, ?_⟩
    | refine (note6_ok b m g m.Now).use ⟨rfl, ?_⟩
    | refine (note7_ok b m g m.Now).use ⟨rfl, ?_⟩
    | refine (note8_ok b m g m.Now).use ⟨rfl, ?_⟩
    | refine (note9_ok b m g m.Now).use ⟨rfl, ?_⟩
    | refine CallX.mk ⟨_, _, (hs).x, rfl, ?_⟩
    | refine CallX.mk ⟨_, _, (note0_ok b m g m.Now).x, rfl, ?_⟩
    | refine CallX.mk ⟨_, _, (note1_ok b m g m.Now).x, rfl, ?_⟩
    | refine CallX.mk ⟨_, _, (note2_ok b m g m.Now).x, rfl, ?_⟩
    | refine CallX.mk ⟨_, _, (note3_ok b m g m.Now).x, rfl, ?_⟩
    | refine CallX.mk ⟨_, _, (note4_ok b m g m.Now).x, rfl, ?_⟩
    | refine CallX.mk ⟨_, _, (note5_ok b m g m.Now).x, rfl, ?_⟩
    | refine CallX.mk ⟨_, _, (note6_ok b m g m.Now).x, rfl, ?_⟩
    | refine CallX.mk ⟨_, _, (note7_ok b m g m.Now).x, rfl, ?_⟩
    | refine CallX.mk ⟨_, _, (note8_ok b m g m.Now).x, rfl, ?_⟩
    | refine CallX.mk ⟨_, _, (note9_ok b m g m.Now).x, rfl, ?_⟩
    | refine Done.mk ⟨rfl, rfl⟩
    | refine Done.mk ⟨congrArg gb ?_, rfl⟩
    | refine Done.mk ⟨?_, rfl⟩
    | refine Done.mk ⟨?_, ?_⟩)
  all_goals first
    | omega
    | decide
    | exact ⟨⟨by decide, by decide⟩, rise_0 f q m.Now⟩
    | exact ⟨⟨by decide, by decide⟩, riseY0 hg (andY0 hq h)⟩
    | exact ⟨⟨by decide, by decide⟩, riseN0 hg (andN0 hq h)⟩
    | exact ⟨⟨by decide, by decide⟩, riseY1 hg (andY1 hq h)⟩
    | exact ⟨⟨by decide, by decide⟩, riseN1 hg (andN1 hq h)⟩
    | exact ⟨⟨by decide, by decide⟩, riseY2 hg (andY2 hq h)⟩
    | exact ⟨⟨by decide, by decide⟩, riseN2 hg (andN2 hq h)⟩
    | exact ⟨⟨by decide, by decide⟩, riseY3 hg (andY3 hq h)⟩
    | exact ⟨⟨by decide, by decide⟩, riseN3 hg (andN3 hq h)⟩
    | exact ⟨⟨by decide, by decide⟩, riseY4 hg (andY4 hq h)⟩
    | exact ⟨⟨by decide, by decide⟩, riseN4 hg (andN4 hq h)⟩
    | exact ⟨⟨by decide, by decide⟩, riseY5 hg (andY5 hq h)⟩
    | exact ⟨⟨by decide, by decide⟩, riseN5 hg (andN5 hq h)⟩
    | exact ⟨⟨by decide, by decide⟩, riseY6 hg (andY6 hq h)⟩
    | exact ⟨⟨by decide, by decide⟩, riseN6 hg (andN6 hq h)⟩
    | exact ⟨⟨by decide, by decide⟩, riseY7 hg (andY7 hq h)⟩
    | exact ⟨⟨by decide, by decide⟩, riseN7 hg (andN7 hq h)⟩
    | exact ⟨⟨by decide, by decide⟩, riseY8 hg (andY8 hq h)⟩
    | exact ⟨⟨by decide, by decide⟩, riseN8 hg (andN8 hq h)⟩
    | exact ⟨⟨by decide, by decide⟩, riseY9 hg (andY9 hq h)⟩
    | exact ⟨⟨by decide, by decide⟩, riseN9 hg (andN9 hq h)⟩
    | (subst hg; rfl)

end Go.Hl

/- A block of minutes, minute by minute and at once: plain Lean.  -/
set_option linter.unusedVariables false
set_option linter.unusedSimpArgs false
namespace Go.Hl
open Go.Gh Go.Proofs

/-- The clauses that are broken are noted, if they were not before. -/
def markI (w : Bool) (x f : Int) : Int := if w = true ∧ f < 0 then x else f
def F10.mark (f : F10) (q : Nat) (x : Int) : F10 := ⟨markI (q.testBit 0) x f.a0, markI (q.testBit 1) x f.a1, markI (q.testBit 2) x f.a2, markI (q.testBit 3) x f.a3, markI (q.testBit 4) x f.a4, markI (q.testBit 5) x f.a5, markI (q.testBit 6) x f.a6, markI (q.testBit 7) x f.a7, markI (q.testBit 8) x f.a8, markI (q.testBit 9) x f.a9⟩
def stN (b : Book) (k : Int) : Nat → Meter → Meter
  | 0, m => m
  | n + 1, m => (stN b k n m).step b k
def fiN (b : Book) (k : Int) : Nat → Meter → F10 → F10
  | 0, _, f => f
  | n + 1, m, f => (fiN b k n m f).mark (stepN b (stN b k n m) k) (stN b k n m).Now
theorem stN_add (b : Book) (k : Int) (a : Nat) (m : Meter) : ∀ c : Nat, stN b k (a + c) m = stN b k c (stN b k a m)
  | 0 => rfl
  | c + 1 => by show (stN b k (a + c) m).step b k = (stN b k c (stN b k a m)).step b k; rw [stN_add b k a m c]
theorem fiN_add (b : Book) (k : Int) (a : Nat) (m : Meter) (f : F10) : ∀ c : Nat, fiN b k (a + c) m f = fiN b k c (stN b k a m) (fiN b k a m f)
  | 0 => rfl
  | c + 1 => by
    show (fiN b k (a + c) m f).mark (stepN b (stN b k (a + c) m) k) (stN b k (a + c) m).Now = (fiN b k c (stN b k a m) (fiN b k a m f)).mark (stepN b (stN b k c (stN b k a m)) k) (stN b k c (stN b k a m)).Now
    rw [fiN_add b k a m f c, stN_add]
theorem stN_May {b : Book} {k : Int} {m : Meter} (h : m.May) : ∀ n : Nat, m.Now + (n : Int) ≤ 40320 → (stN b k n m).May ∧ (stN b k n m).Now = m.Now + n
  | 0, _ => ⟨h, by simp [stN]⟩
  | n + 1, hn => by
    obtain ⟨h1, h2⟩ := stN_May h n (by omega)
    have h3 := h1.step (b := b) (by omega) k
    exact ⟨h3.1, by show ((stN b k n m).step b k).Now = _; rw [h3.2, h2]; omega⟩

/-- All that was noted was noted by then. -/
structure F10.Early (f : F10) (x : Int) : Prop where
  h0 : f.a0 ≤ x
  h1 : f.a1 ≤ x
  h2 : f.a2 ≤ x
  h3 : f.a3 ≤ x
  h4 : f.a4 ≤ x
  h5 : f.a5 ≤ x
  h6 : f.a6 ≤ x
  h7 : f.a7 ≤ x
  h8 : f.a8 ≤ x
  h9 : f.a9 ≤ x
theorem noteI_mark {f x : Int} (h : f ≤ x) (w : Bool) : (if w = true then noteI f x else f) = markI w x f := by
  unfold noteI markI
  cases w <;> simp
  by_cases h1 : f < 0
  · simp [h1]
  · simp [h1]; omega
theorem rise_mark {f : F10} {x : Int} (h : f.Early x) (q : Nat) : f.rise q x = f.mark q x := by
  obtain ⟨h0, h1, h2, h3, h4, h5, h6, h7, h8, h9⟩ := h
  unfold F10.rise F10.riseTo F10.mark
  simp only [← noteI_mark h0, ← noteI_mark h1, ← noteI_mark h2, ← noteI_mark h3, ← noteI_mark h4, ← noteI_mark h5, ← noteI_mark h6, ← noteI_mark h7, ← noteI_mark h8, ← noteI_mark h9]
  simp
theorem markI_le {w : Bool} {x y f : Int} (h : f ≤ y) (hx : x ≤ y) : markI w x f ≤ y := by unfold markI; split <;> assumption
theorem mark_early {f : F10} {x y : Int} (h : f.Early x) (hxy : x ≤ y) (q : Nat) : (f.mark q x).Early y :=
  ⟨markI_le (Int.le_trans h.h0 hxy) hxy, markI_le (Int.le_trans h.h1 hxy) hxy, markI_le (Int.le_trans h.h2 hxy) hxy, markI_le (Int.le_trans h.h3 hxy) hxy, markI_le (Int.le_trans h.h4 hxy) hxy, markI_le (Int.le_trans h.h5 hxy) hxy, markI_le (Int.le_trans h.h6 hxy) hxy, markI_le (Int.le_trans h.h7 hxy) hxy, markI_le (Int.le_trans h.h8 hxy) hxy, markI_le (Int.le_trans h.h9 hxy) hxy⟩
theorem fiN_early {b : Book} {k : Int} {m : Meter} (h : m.May) {f : F10} (hf : f.Early m.Now) : ∀ n : Nat, m.Now + (n : Int) ≤ 40320 → (fiN b k n m f).Early (m.Now + n)
  | 0, _ => by simpa [fiN] using hf
  | n + 1, hn => by
    have h1 := fiN_early (b := b) (k := k) h hf n (by omega)
    have h2 := stN_May (b := b) (k := k) h n (by omega)
    show ((fiN b k n m f).mark (stepN b (stN b k n m) k) (stN b k n m).Now).Early _
    rw [h2.2]
    exact mark_early h1 (by omega) _

/-! ### At once -/
theorem pastI_0 (f p q n l : Int) (h : q ≤ p) : pastI f p q n l = f := by unfold pastI; split <;> (rw [if_neg (by omega)])
theorem pastI_succ {f p n l : Int} {j : Nat} (hf : f ≤ p) (hp : 0 ≤ p) (w : Bool) (hw : w = true ↔ l ≤ n + j) : pastI f p (p + ((j + 1 : Nat) : Int)) n l = markI w (p + j) (pastI f p (p + j) n l) := by
  unfold pastI noteI markI
  cases w
  · have h : ¬ l ≤ n + j := fun e => by simpa using hw.2 e
    simp only [Bool.false_eq_true, false_and, if_false]
    split <;> split <;> split <;> (try split) <;> omega
  · have h : l ≤ n + j := hw.1 rfl
    simp only [true_and]
    split <;> split <;> split <;> (try split) <;> (try split) <;> omega

end Go.Hl

/- A block of minutes within a week, minute by minute and at once.  -/
set_option linter.unusedVariables false
set_option linter.unusedSimpArgs false
namespace Go.Hl
open Go.Gh Go.Proofs

theorem turn_lie (b : Book) (m : Meter) : (m.turn b).Lie = m.Lie := by unfold Meter.turn; split <;> rfl
theorem turn_now (b : Book) (m : Meter) : (m.turn b).Now = m.Now := by unfold Meter.turn; split <;> rfl
theorem up_0 {b : Book} {m : Meter} (h : m.Lie = 0) : m.up b = m := by unfold Meter.up; rw [if_neg (by omega)]
theorem step_core {b : Book} {m : Meter} {k : Int} (hk : k ≠ 0) (hl : m.Lie = 0) : m.step b k = goesM b (m.turn b) k 1 := by
  have h1 : (m.turn b).up b = m.turn b := up_0 (by rw [turn_lie]; exact hl)
  unfold Meter.step
  rw [if_neg hk, h1]
  generalize m.turn b = t
  unfold goesM workM kindM Meter.driven Meter.worked driveM Meter.drove Meter.droveL Meter.goneL
  by_cases h3 : k = 3
  · subst h3
    simp only [if_true]
    by_cases hd : t.Day = b.Day
    · rw [if_pos (show t.Day + 1 = b.Day + 1 by omega), if_pos (show longDay b t 1 from ⟨by omega, by omega⟩)]; simp
    · rw [if_neg (show ¬ t.Day + 1 = b.Day + 1 by omega), if_neg (show ¬ longDay b t 1 from fun e => hd (by obtain ⟨e1, e2⟩ := e; omega))]; simp
  · by_cases k1 : k = 1
    · simp [h3, k1]
    · simp [h3, k1]

theorem goesM_0 (b : Book) (t : Meter) (k : Int) : goesM b t k 0 = t := by
  unfold goesM workM kindM driveM Meter.goneL
  have e : ¬ longDay b t 0 := fun e => by obtain ⟨e1, e2⟩ := e; omega
  by_cases h3 : k = 3
  · subst h3; simp only [if_true]; rw [if_neg e, if_pos (by decide)]; simp
  · by_cases k1 : k = 1
    · simp [h3, k1]
    · simp [h3, k1]
def longL (b : Book) (d l n : Int) : Int := if d ≤ b.Day ∧ b.Day < d + n then l + 1 else l
theorem driveM_L (b : Book) (t : Meter) (n : Int) : driveM b t n = t.goneL n (longL b t.Day t.Longers n) := by
  unfold driveM longL
  by_cases h : longDay b t n
  · rw [if_pos h, if_pos (show t.Day ≤ b.Day ∧ b.Day < t.Day + n from h)]
  · rw [if_neg h, if_neg (show ¬ (t.Day ≤ b.Day ∧ b.Day < t.Day + n) from h)]
theorem longL_succ (b : Book) (d l : Int) (j : Nat) : longL b (d + j) (longL b d l j) 1 = longL b d l ((j + 1 : Nat) : Int) := by
  unfold longL
  split <;> split <;> split <;> omega
theorem goesM_succ (b : Book) (t : Meter) (k : Int) (j : Nat) : goesM b (goesM b t k j) k 1 = goesM b t k ((j + 1 : Nat) : Int) := by
  unfold goesM workM kindM
  by_cases h3 : k = 3
  · subst h3
    simp only [if_true]
    rw [if_pos (by decide), if_pos (by decide), if_pos (by decide)]
    have e := longL_succ b t.Day t.Longers j
    simp only [driveM_L, Meter.goneL] at e ⊢
    rw [e]
    simp only [Meter.mk.injEq, true_and, and_true]
    refine ⟨?_, ?_, ?_, ?_, ?_⟩ <;> omega
  · rw [if_neg h3, if_neg h3, if_neg h3]
    by_cases k1 : k = 1
    · simp [k1]; omega
    · simp [k1]; omega
theorem goesM_lie (b : Book) (t : Meter) (k n : Int) : (goesM b t k n).Lie = t.Lie := by
  unfold goesM workM kindM driveM Meter.goneL
  split <;> split <;> rfl
theorem goesM_now (b : Book) (t : Meter) (k n : Int) : (goesM b t k n).Now = t.Now + n := rfl

theorem tmod_no {a l j : Int} (ha : 0 ≤ a) (hl : 1 ≤ l) (hj : 1 ≤ j) (h : j < l - a.tmod l) : (a + j).tmod l ≠ 0 := by
  rw [Int.tmod_eq_emod_of_nonneg ha] at h
  rw [Int.tmod_eq_emod_of_nonneg (by omega)]
  have h1 := Int.emod_nonneg a (show l ≠ 0 by omega)
  have h2 : a + j = (a % l + j) + l * (a / l) := by have := Int.emod_add_mul_ediv a l; omega
  rw [h2, Int.add_mul_emod_self_left, Int.emod_eq_of_lt (by omega) (by omega)]
  omega
theorem turn_no {b : Book} {m : Meter} (h : m.Now.tmod b.Length ≠ 0) : m.turn b = m := by unfold Meter.turn; rw [if_neg (fun e => h e.2)]

theorem stN_go {b : Book} {k : Int} {m : Meter} (hk : k ≠ 0) (hb : b.May) (hm : m.May) (hl : m.Lie = 0) : ∀ j : Nat, (j : Int) < b.Length - m.Now.tmod b.Length → (stN b k j m).turn b = goesM b (m.turn b) k j ∧ stN b k (j + 1) m = goesM b (m.turn b) k ((j + 1 : Nat) : Int)
  | 0, _ => by
    refine ⟨by rw [show ((0 : Nat) : Int) = 0 from rfl, goesM_0]; rfl, ?_⟩
    show m.step b k = _
    rw [step_core hk hl]; rfl
  | j + 1, h => by
    obtain ⟨h1, h2⟩ := stN_go hk hb hm hl j (by omega)
    have hw := hb.within
    simp only [Book.within] at hw
    have h3 : (stN b k (j + 1) m).turn b = goesM b (m.turn b) k ((j + 1 : Nat) : Int) := by
      rw [h2]
      apply turn_no
      rw [goesM_now, turn_now]
      exact tmod_no hm.now.1 (by omega) (by omega) h
    refine ⟨h3, ?_⟩
    show (stN b k (j + 1) m).step b k = _
    rw [step_core hk (by rw [h2, goesM_lie, turn_lie]; exact hl), h3, goesM_succ]

/-! ### The clauses of a minute ahead of which nobody lay -/
theorem flags_bits : ∀ (c5 c7 c0 c2 c1 c3 c4 c9 : Bool), ∀ n : Nat, n = rbN 32 c5 + rbN 128 c7 + rbN 1 c0 + rbN 4 c2 + rbN 2 c1 + rbN 8 c3 + rbN 16 c4 + rbN 512 c9 →
    n.testBit 0 = c0 ∧ n.testBit 1 = c1 ∧ n.testBit 2 = c2 ∧ n.testBit 3 = c3 ∧ n.testBit 4 = c4 ∧ n.testBit 5 = c5 ∧ n.testBit 6 = false ∧ n.testBit 7 = c7 ∧ n.testBit 8 = false ∧ n.testBit 9 = c9 := by
  intro c5 c7 c0 c2 c1 c3 c4 c9 n h
  subst h
  revert c5 c7 c0 c2 c1 c3 c4 c9
  decide +kernel
theorem core_bits {b : Book} {x t : Meter} {k : Int} (hk : k ≠ 0) (ht : x.turn b = t) (hl : t.Lie = 0) :
    (stepN b x k).testBit 0 = (decide (k = 3) && decide (b.Drive < t.Acc + 1)) ∧
    (stepN b x k).testBit 1 = (decide (k = 3) && decide (b.Longer < t.Day + 1)) ∧
    (stepN b x k).testBit 2 = (decide (k = 3) && (decide (t.Day + 1 = b.Day + 1) && decide (b.Longers < t.Longers + 1))) ∧
    (stepN b x k).testBit 3 = (decide (k = 3) && decide (b.Week < t.Week + 1)) ∧
    (stepN b x k).testBit 4 = (decide (k = 3) && decide (b.Fortnight < t.Week + 1 + t.Last)) ∧
    (stepN b x k).testBit 5 = decide (b.Round - b.Reduced ≤ t.Now - t.Dawn) ∧
    (stepN b x k).testBit 6 = false ∧
    (stepN b x k).testBit 7 = decide (b.Rounds ≤ t.Now - t.Sabbath) ∧
    (stepN b x k).testBit 8 = false ∧
    (stepN b x k).testBit 9 = (decide (k ≠ 1) && decide (b.Labour < t.Labour + 1)) := by
  apply flags_bits
  have e : ((stepN b x k : Nat) : Int) = rb 32 (decide (b.Round - b.Reduced ≤ t.Now - t.Dawn)) + rb 128 (decide (b.Rounds ≤ t.Now - t.Sabbath)) + rb 1 (decide (k = 3) && decide (b.Drive < t.Acc + 1)) + rb 4 (decide (k = 3) && (decide (t.Day + 1 = b.Day + 1) && decide (b.Longers < t.Longers + 1))) + rb 2 (decide (k = 3) && decide (b.Longer < t.Day + 1)) + rb 8 (decide (k = 3) && decide (b.Week < t.Week + 1)) + rb 16 (decide (k = 3) && decide (b.Fortnight < t.Week + 1 + t.Last)) + rb 512 (decide (k ≠ 1) && decide (b.Labour < t.Labour + 1)) := by
    rw [← stepN_cast]
    unfold stepR
    rw [if_neg hk, ht, up_0 hl]
    unfold workedR drivenR droveR lateR upR Meter.driven
    have e0 : (if k = 3 then t.drove b else t).Labour = t.Labour := by split <;> rfl
    rw [e0, if_neg (show ¬ 0 < t.Lie by omega)]
    by_cases h3 : k = 3
    · subst h3
      by_cases hd : t.Day + 1 = b.Day + 1
      · simp [hd, rb]
      · simp [hd, rb]
    · by_cases k1 : k = 1
      · simp [h3, k1, rb]
      · simp [h3, k1, rb]
  simp only [show ∀ w, rb 32 w = ((rbN 32 w : Nat) : Int) from rb_cast 32, show ∀ w, rb 128 w = ((rbN 128 w : Nat) : Int) from rb_cast 128, show ∀ w, rb 1 w = ((rbN 1 w : Nat) : Int) from rb_cast 1, show ∀ w, rb 4 w = ((rbN 4 w : Nat) : Int) from rb_cast 4, show ∀ w, rb 2 w = ((rbN 2 w : Nat) : Int) from rb_cast 2, show ∀ w, rb 8 w = ((rbN 8 w : Nat) : Int) from rb_cast 8, show ∀ w, rb 16 w = ((rbN 16 w : Nat) : Int) from rb_cast 16, show ∀ w, rb 512 w = ((rbN 512 w : Nat) : Int) from rb_cast 512] at e
  exact_mod_cast e

end Go.Hl

/- A block of minutes within a week: which clauses break first.  -/
set_option linter.unusedVariables false
set_option linter.unusedSimpArgs false
namespace Go.Hl
open Go.Gh Go.Proofs

def longF (b : Book) (t : Meter) (k n f : Int) : Int := if k = 3 ∧ longDay b t n ∧ b.Longers < t.Longers + 1 then noteI f (t.Now + b.Day - t.Day) else f
def whenF (w : Prop) [Decidable w] (t : Meter) (n count limit f : Int) : Int := if w then pastI f t.Now (t.Now + n) count limit else f
theorem goesF_mk (b : Book) (t : Meter) (k n : Int) (f : F10) : goesF b t k n f =
    ⟨whenF (k = 3) t n t.Acc b.Drive f.a0, whenF (k = 3) t n t.Day b.Longer f.a1, longF b t k n f.a2, whenF (k = 3) t n t.Week b.Week f.a3, whenF (k = 3) t n (t.Week + t.Last) b.Fortnight f.a4,
      whenF True t n (t.Now - t.Dawn) (b.Round - b.Reduced) f.a5, f.a6, whenF True t n (t.Now - t.Sabbath) b.Rounds f.a7, f.a8, whenF (k ≠ 1) t n t.Labour b.Labour f.a9⟩ := by
  by_cases h3 : k = 3
  · subst h3
    by_cases hd : longDay b t n ∧ b.Longers < t.Longers + 1
    · rw [show longF b t 3 n f.a2 = noteI f.a2 (t.Now + b.Day - t.Day) from if_pos ⟨rfl, hd⟩]
      unfold goesF workF kindF driveF driveF4 kindM whenF
      simp only [if_true]
      rw [if_pos hd, if_pos (by omega), if_pos (by omega)]; rfl
    · rw [show longF b t 3 n f.a2 = f.a2 from if_neg (fun e => hd e.2)]
      unfold goesF workF kindF driveF driveF4 kindM whenF
      simp only [if_true]
      rw [if_neg hd, if_pos (by omega), if_pos (by omega)]; rfl
  · rw [show longF b t k n f.a2 = f.a2 from if_neg (fun e => h3 e.1)]
    unfold goesF workF kindF kindM whenF
    simp only [h3, if_false, if_true]
    by_cases k1 : k = 1
    · rw [if_neg (fun e => e k1), if_neg (fun e => e k1)]; rfl
    · rw [if_pos k1, if_pos k1]; rfl
theorem whenF_0 (w : Prop) [Decidable w] (t : Meter) (c l f : Int) : whenF w t 0 c l f = f := by unfold whenF; rw [pastI_0 _ _ _ _ _ (by omega)]; split <;> rfl
theorem longF_0 (b : Book) (t : Meter) (k f : Int) : longF b t k 0 f = f := by
  unfold longF; rw [if_neg]; rintro ⟨-, ⟨h1, h2⟩, -⟩; omega
theorem goesF_0 (b : Book) (t : Meter) (k : Int) (f : F10) : goesF b t k 0 f = f := by
  rw [goesF_mk]
  simp only [whenF_0, longF_0]
theorem whenF_succ (w : Prop) [Decidable w] {t : Meter} (ht : 0 ≤ t.Now) (j : Nat) (c l : Int) {f : Int} (hf : f ≤ t.Now) (v : Bool) (hv : v = true ↔ w ∧ l ≤ c + j) :
    whenF w t ((j + 1 : Nat) : Int) c l f = markI v (t.Now + j) (whenF w t j c l f) := by
  unfold whenF
  by_cases hw : w
  · rw [if_pos hw, if_pos hw]
    exact pastI_succ hf ht v (by rw [hv]; exact ⟨fun h => h.2, fun h => ⟨hw, h⟩⟩)
  · rw [if_neg hw, if_neg hw]
    unfold markI
    rw [if_neg]
    rintro ⟨h1, -⟩
    exact hw (hv.1 h1).1
theorem longF_succ (b : Book) {t : Meter} (ht : 0 ≤ t.Now) (k : Int) (j : Nat) {f : Int} (hf : f ≤ t.Now) (v : Bool) (hv : v = true ↔ k = 3 ∧ t.Day + j = b.Day ∧ b.Longers < t.Longers + 1) :
    longF b t k ((j + 1 : Nat) : Int) f = markI v (t.Now + j) (longF b t k j f) := by
  unfold longF markI
  by_cases hx : k = 3 ∧ b.Longers < t.Longers + 1
  · obtain ⟨hk, hL⟩ := hx
    by_cases hd : t.Day + j = b.Day
    · rw [if_neg (c := k = 3 ∧ longDay b t (j : Int) ∧ b.Longers < t.Longers + 1) (by rintro ⟨-, ⟨-, h⟩, -⟩; omega), if_pos ⟨hk, ⟨by omega, by omega⟩, hL⟩]
      have hv' : v = true := hv.2 ⟨hk, hd, hL⟩
      subst hv'
      unfold noteI
      simp only [true_and]
      split <;> split <;> omega
    · have hv' : ¬ v = true := fun e => hd (hv.1 e).2.1
      rw [if_neg (c := v = true ∧ _) (fun e => hv' e.1)]
      by_cases hl : longDay b t (j : Int)
      · rw [if_pos (c := k = 3 ∧ longDay b t (j : Int) ∧ _) ⟨hk, hl, hL⟩, if_pos (c := k = 3 ∧ longDay b t ((j + 1 : Nat) : Int) ∧ _) ⟨hk, ⟨hl.1, by have := hl.2; omega⟩, hL⟩]
      · rw [if_neg (c := k = 3 ∧ longDay b t (j : Int) ∧ _) (fun e => hl e.2.1), if_neg (c := k = 3 ∧ longDay b t ((j + 1 : Nat) : Int) ∧ _) (fun e => hl ⟨e.2.1.1, by have := e.2.1.2; have := e.2.1.1; omega⟩)]
  · rw [if_neg (c := v = true ∧ _) (fun e => hx ⟨(hv.1 e.1).1, (hv.1 e.1).2.2⟩), if_neg (fun e => hx ⟨e.1, e.2.2⟩), if_neg (fun e => hx ⟨e.1, e.2.2⟩)]
theorem markI_f (x f : Int) : markI false x f = f := by simp [markI]

theorem goesM_vals (b : Book) (t : Meter) (k n : Int) : (k = 3 → (goesM b t k n).Acc = t.Acc + n ∧ (goesM b t k n).Day = t.Day + n ∧ (goesM b t k n).Week = t.Week + n ∧ (goesM b t k n).Longers = longL b t.Day t.Longers n) ∧ (goesM b t k n).Last = t.Last ∧
    (goesM b t k n).Dawn = t.Dawn ∧ (goesM b t k n).Sabbath = t.Sabbath ∧ (k ≠ 1 → (goesM b t k n).Labour = t.Labour + n) := by
  unfold goesM workM kindM
  simp only [driveM_L, Meter.goneL]
  refine ⟨?_, ?_, ?_, ?_, ?_⟩
  · intro h; subst h; simp
  · split <;> split <;> rfl
  · split <;> split <;> rfl
  · split <;> split <;> rfl
  · intro h; rw [if_pos h]; simp only; split <;> rfl

theorem goesF_succ {b : Book} {t x : Meter} {k : Int} (hk : k ≠ 0) (ht : 0 ≤ t.Now) (hl : t.Lie = 0) (j : Nat) {f : F10} (hf : f.Early t.Now) (hx : x.turn b = goesM b t k j) :
    goesF b t k ((j + 1 : Nat) : Int) f = (goesF b t k j f).mark (stepN b x k) (t.Now + j) := by
  obtain ⟨e0, e1, e2, e3, e4, e5, e6, e7, e8, e9⟩ := core_bits (k := k) hk hx (by rw [goesM_lie]; exact hl)
  obtain ⟨g3, gl, gd, gs, g1⟩ := goesM_vals b t k j
  rw [goesF_mk, goesF_mk]
  unfold F10.mark
  rw [e6, e8, markI_f, markI_f]
  have c0 := whenF_succ (k = 3) ht j t.Acc b.Drive hf.h0 ((stepN b x k).testBit 0) (by
    rw [e0, Bool.and_eq_true, decide_eq_true_eq, decide_eq_true_eq]
    exact ⟨fun h => ⟨h.1, by have := (g3 h.1).1; omega⟩, fun h => ⟨h.1, by have := (g3 h.1).1; omega⟩⟩)
  have c1 := whenF_succ (k = 3) ht j t.Day b.Longer hf.h1 ((stepN b x k).testBit 1) (by
    rw [e1, Bool.and_eq_true, decide_eq_true_eq, decide_eq_true_eq]
    exact ⟨fun h => ⟨h.1, by have := (g3 h.1).2.1; omega⟩, fun h => ⟨h.1, by have := (g3 h.1).2.1; omega⟩⟩)
  have c2 := longF_succ b ht k j hf.h2 ((stepN b x k).testBit 2) (by
    rw [e2, Bool.and_eq_true, Bool.and_eq_true, decide_eq_true_eq, decide_eq_true_eq, decide_eq_true_eq]
    constructor
    · rintro ⟨h, h1, h2⟩
      obtain ⟨-, q1, -, q2⟩ := g3 h
      rw [q2] at h2
      unfold longL at h2
      rw [if_neg (by omega)] at h2
      exact ⟨h, by omega, h2⟩
    · rintro ⟨h, h1, h2⟩
      obtain ⟨-, q1, -, q2⟩ := g3 h
      rw [q2, q1]
      unfold longL
      rw [if_neg (by omega)]
      exact ⟨h, by omega, h2⟩)
  have c3 := whenF_succ (k = 3) ht j t.Week b.Week hf.h3 ((stepN b x k).testBit 3) (by
    rw [e3, Bool.and_eq_true, decide_eq_true_eq, decide_eq_true_eq]
    exact ⟨fun h => ⟨h.1, by have := (g3 h.1).2.2.1; omega⟩, fun h => ⟨h.1, by have := (g3 h.1).2.2.1; omega⟩⟩)
  have c4 := whenF_succ (k = 3) ht j (t.Week + t.Last) b.Fortnight hf.h4 ((stepN b x k).testBit 4) (by
    rw [e4, Bool.and_eq_true, decide_eq_true_eq, decide_eq_true_eq]
    exact ⟨fun h => ⟨h.1, by have := (g3 h.1).2.2.1; omega⟩, fun h => ⟨h.1, by have := (g3 h.1).2.2.1; omega⟩⟩)
  have c5 := whenF_succ True ht j (t.Now - t.Dawn) (b.Round - b.Reduced) hf.h5 ((stepN b x k).testBit 5) (by
    rw [e5, decide_eq_true_eq, goesM_now, gd]
    exact ⟨fun h => ⟨trivial, by omega⟩, fun h => by omega⟩)
  have c7 := whenF_succ True ht j (t.Now - t.Sabbath) b.Rounds hf.h7 ((stepN b x k).testBit 7) (by
    rw [e7, decide_eq_true_eq, goesM_now, gs]
    exact ⟨fun h => ⟨trivial, by omega⟩, fun h => by omega⟩)
  have c9 := whenF_succ (k ≠ 1) ht j t.Labour b.Labour hf.h9 ((stepN b x k).testBit 9) (by
    rw [e9, Bool.and_eq_true, decide_eq_true_eq, decide_eq_true_eq]
    exact ⟨fun h => ⟨h.1, by have := g1 h.1; omega⟩, fun h => ⟨h.1, by have := g1 h.1; omega⟩⟩)
  rw [c0, c1, c2, c3, c4, c5, c7, c9]

theorem fiN_go {b : Book} {k : Int} {m : Meter} (hk : k ≠ 0) (hb : b.May) (hm : m.May) (hl : m.Lie = 0) {f : F10} (hf : f.Early m.Now) : ∀ j : Nat, (j : Int) ≤ b.Length - m.Now.tmod b.Length → m.Now + (j : Int) ≤ 40320 → fiN b k j m f = goesF b (m.turn b) k j f
  | 0, _, _ => by rw [show ((0 : Nat) : Int) = 0 from rfl, goesF_0]; rfl
  | j + 1, h, h2 => by
    have ih := fiN_go hk hb hm hl hf j (by omega) (by omega)
    have h3 := stN_go hk hb hm hl j (by omega)
    have h4 := (stN_May (b := b) (k := k) hm j (by omega)).2
    show (fiN b k j m f).mark (stepN b (stN b k j m) k) (stN b k j m).Now = _
    rw [ih, h4, goesF_succ hk (by rw [turn_now]; exact hm.now.1) (by rw [turn_lie]; exact hl) j (by rw [turn_now]; exact hf) h3.1, turn_now]

/-- At rest nothing breaks. -/
theorem stepN_rest (b : Book) (m : Meter) : stepN b m 0 = 0 := by unfold stepN stepR; rw [if_pos rfl]; rfl
theorem mark_0 (f : F10) (x : Int) : f.mark 0 x = f := by unfold F10.mark; simp [markI_f]
theorem fiN_rest (b : Book) (m : Meter) (f : F10) : ∀ j : Nat, fiN b 0 j m f = f
  | 0 => rfl
  | j + 1 => by
    show (fiN b 0 j m f).mark (stepN b (stN b 0 j m) 0) (stN b 0 j m).Now = f
    rw [stepN_rest, mark_0, fiN_rest b m f j]
def lieM (t : Meter) (n : Int) : Meter := { t with Lie := t.Lie + n, Now := t.Now + n }
theorem stN_rest {b : Book} {m : Meter} (hb : b.May) (hm : m.May) : ∀ j : Nat, (j : Int) < b.Length - m.Now.tmod b.Length → stN b 0 (j + 1) m = lieM (m.turn b) ((j + 1 : Nat) : Int)
  | 0, _ => by show m.step b 0 = _; unfold Meter.step; rw [if_pos rfl]; rfl
  | j + 1, h => by
    have ih := stN_rest hb hm j (by omega)
    have hw := hb.within
    simp only [Book.within] at hw
    show (stN b 0 (j + 1) m).step b 0 = _
    have h3 : (stN b 0 (j + 1) m).turn b = lieM (m.turn b) ((j + 1 : Nat) : Int) := by
      rw [ih]
      apply turn_no
      show ((m.turn b).Now + _).tmod _ ≠ 0
      rw [turn_now]
      exact tmod_no hm.now.1 (by omega) (by omega) h
    unfold Meter.step
    rw [if_pos rfl, h3]
    unfold lieM
    simp only [Meter.mk.injEq, true_and, and_true]
    refine ⟨?_, ?_⟩ <;> omega

theorem week_plain {b : Book} {k : Int} {m : Meter} (hb : b.May) (hm : m.May) (hl : k ≠ 0 → m.Lie = 0) {f : F10} (hf : f.Early m.Now) (n : Nat) (hn : 1 ≤ n) (h : (n : Int) ≤ b.Length - m.Now.tmod b.Length) (h2 : m.Now + (n : Int) ≤ 40320) :
    weekM b m k n = stN b k n m ∧ weekF b m k n f = fiN b k n m f := by
  obtain ⟨j, rfl⟩ : ∃ j, n = j + 1 := ⟨n - 1, by omega⟩
  unfold weekM weekF
  by_cases hk : k = 0
  · subst hk
    rw [if_pos rfl, if_pos rfl, fiN_rest, stN_rest hb hm j (by omega)]
    exact ⟨rfl, rfl⟩
  · rw [if_neg hk, if_neg hk, fiN_go hk hb hm (hl hk) hf (j + 1) h h2, (stN_go hk hb hm (hl hk) j (by omega)).2]
    exact ⟨rfl, rfl⟩

theorem step_lie {b : Book} {m : Meter} {k : Int} (hm : m.May) (hk : k ≠ 0) : (m.step b k).Lie = 0 := by
  unfold Meter.step
  rw [if_neg hk]
  have h1 : ((m.turn b).up b).Lie = 0 := by
    unfold Meter.up
    have := hm.lie
    have e := turn_lie b m
    split
    · rfl
    · omega
  show (Meter.worked (Meter.driven b ((m.turn b).up b) k) k).Lie = 0
  unfold Meter.worked Meter.driven Meter.drove Meter.droveL
  split <;> split <;> exact h1
theorem none_early {x : Int} (h : 0 ≤ x) : F10.none.Early x := by
  constructor <;> (show (-1 : Int) ≤ x) <;> omega

end Go.Hl

/- Contracts: a block of minutes.  -/
set_option linter.unusedVariables false
set_option linter.unusedSimpArgs false
namespace Go.Hl
open Go.Gh Go.Proofs

def F10.zero : F10 := ⟨0, 0, 0, 0, 0, 0, 0, 0, 0, 0⟩
def overAllS (b : Book) (m : Meter) (k n : Int) : Meter × F10 × Int :=
  if check14 b m k n = 0 then (stN b k n.toNat m, fiN b k n.toNat m F10.none, 0) else (Meter.zero, F10.zero, check14 b m k n)
def overG (r : Meter × F10 × Int) : GV := .tup [r.1.g, r.2.1.g, gi r.2.2]
theorem check14_0 {b : Book} {m : Meter} {k n : Int} (h : check14 b m k n = 0) : b.May ∧ m.May ∧ (0 ≤ k ∧ k ≤ 3) ∧ 0 ≤ n ∧ m.Now + n ≤ 40320 := by
  unfold check14 at h
  split at h
  · split at h
    · split at h
      · cases h
      · split at h
        · cases h
        · refine ⟨by assumption, by assumption, ?_, ?_⟩ <;> omega
    · cases h
  · cases h
theorem toNat_add {a c n : Int} (ha : 0 ≤ a) (hc : 0 ≤ c) (h : n = a + c) : n.toNat = a.toNat + c.toNat := by omega
theorem over_step {b : Book} {m : Meter} {k n : Int} {f : F10} (hb : b.May) (hm : m.May) (hl : k ≠ 0 → m.Lie = 0) (hf : f.Early m.Now) (a : Int) (ha : 1 ≤ a) (han : a ≤ n) (hL : a ≤ b.Length - m.Now.tmod b.Length) (hn : m.Now + n ≤ 40320) :
    (weekM b m k a).Now = m.Now + a ∧ (weekM b m k a).May ∧ (k ≠ 0 → (weekM b m k a).Lie = 0) ∧ (weekF b m k a f).Early (weekM b m k a).Now ∧
    stN b k (n - a).toNat (weekM b m k a) = stN b k n.toNat m ∧ fiN b k (n - a).toNat (weekM b m k a) (weekF b m k a f) = fiN b k n.toNat m f := by
  have h := week_plain hb hm hl hf a.toNat (by omega) (by omega) (by omega)
  have h2 := stN_May (b := b) (k := k) hm a.toNat (by omega)
  have h3 := fiN_early (b := b) (k := k) hm hf a.toNat (by omega)
  have e : ((a.toNat : Nat) : Int) = a := by omega
  rw [e] at h h2 h3
  rw [h.1, h.2, toNat_add (a := a) (c := n - a) (n := n) (by omega) (by omega) (by omega), stN_add, fiN_add]
  refine ⟨h2.2, h2.1, fun hk => ?_, by rw [h2.2]; exact h3, rfl, rfl⟩
  obtain ⟨j, hj⟩ : ∃ j, a.toNat = j + 1 := ⟨a.toNat - 1, by omega⟩
  rw [hj]
  exact step_lie (stN_May (b := b) (k := k) hm j (by omega)).1 hk
theorem long_le {b : Book} {m : Meter} (hb : b.May) (hm : m.May) : 1 ≤ b.Length - m.Now.tmod b.Length ∧ b.Length - m.Now.tmod b.Length ≤ 40320 ∧ 0 ≤ m.Now.tmod b.Length := by
  have hw := hb.within
  simp only [Book.within] at hw
  rw [Int.tmod_eq_emod_of_nonneg hm.now.1]
  have h1 := Int.emod_nonneg m.Now (show b.Length ≠ 0 by omega)
  have h2 := Int.emod_lt_of_pos m.Now (show 0 < b.Length by omega)
  omega
theorem long_min {b : Book} {m : Meter} (hb : b.May) (hm : m.May) (n : Int) : (if b.Length - m.Now.tmod b.Length < n then b.Length - m.Now.tmod b.Length else n) ≤ n ∧ (if b.Length - m.Now.tmod b.Length < n then b.Length - m.Now.tmod b.Length else n) ≤ b.Length - m.Now.tmod b.Length ∧ (1 ≤ n → 1 ≤ (if b.Length - m.Now.tmod b.Length < n then b.Length - m.Now.tmod b.Length else n)) ∧ b.Length - m.Now.tmod b.Length ≤ 40320 ∧ 0 ≤ m.Now.tmod b.Length := by
  have h := long_le hb hm
  split <;> omega
theorem over_rise {b : Book} {m : Meter} {k n : Int} (hm : m.May) (hk : k ≠ 0) (hn : 0 < n) (hN : m.Now + n ≤ 40320) :
    (m.step b k).Now = m.Now + 1 ∧ (m.step b k).May ∧ (m.step b k).Lie = 0 ∧ (F10.none.rise (stepN b m k) m.Now).Early (m.step b k).Now ∧
    stN b k (n - 1).toNat (m.step b k) = stN b k n.toNat m ∧ fiN b k (n - 1).toNat (m.step b k) (F10.none.rise (stepN b m k) m.Now) = fiN b k n.toNat m F10.none := by
  have h := hm.step (b := b) (by omega) k
  have hr := rise_mark (none_early hm.now.1) (stepN b m k)
  rw [hr, toNat_add (a := 1) (c := n - 1) (n := n) (by omega) (by omega) (by omega), stN_add, fiN_add]
  exact ⟨h.2, h.1, step_lie hm hk, mark_early (none_early hm.now.1) (by omega) _, rfl, rfl⟩

def pl_G7_1 : Nat → Option (List Nat × List Nat) := (fun k => bif Nat.beq k 10 then some ([1000010, 2, 3, 4, 8, 9, 12], [104, 108, 109, 129]) else none)
def pl_G7_2 : Nat → Option (List Nat × List Nat) := (fun k => bif Nat.beq k 10 then some ([1000010, 2, 3, 4, 8, 9, 12], [104, 108, 109, 129]) else none)
def pl_G7_3 : Nat → Option (List Nat × List Nat) := (fun k => bif Nat.beq k 10 then some ([1000010, 2, 3, 4, 8, 9, 12], [104, 108, 109, 129]) else none)
set_option maxRecDepth 100000 in
set_option maxHeartbeats 2000000 in
theorem over_ok (b : Book) (m : Meter) (k n : Int) : ICalls Try.prog 46 [b.g, m.g, gi k, gi n] [] (Done (overG (overAllS b m k n)) []) := by
  have h1 := check14_ok b m k n
  unfold overAllS
  by_cases hc : check14 b m k n = 0
  {
  rw [if_pos hc]
  rw [hc] at h1
  obtain ⟨hb, hm, hk, hn, hN⟩ := check14_0 hc
  have hw := hb.within
  simp only [Book.within] at hw
  have hm0 := hm.now
  generalize hS : stN b k n.toNat m = S
  generalize hF : fiN b k n.toNat m F10.none = F
  by_cases hr : 0 < n ∧ k ≠ 0
  {
  have hrise := rise14_ok b m F10.none k hb hm hk (by omega)
  have hov := over_rise (b := b) hm hr.2 hr.1 hN
  refine ICalls.of_body Try.func46 rfl Try.call46 rfl (Nat.le_of_ble_eq_true rfl) pl_G7_1 rfl ?_
  repeat' ((conv => whnf); first
    | refine Br.yes rfl ?_
    | refine Br.no rfl ?_
    | (refine ILoop.ov 1000010 (fun ((n1, m1, f1) : Int × Meter × F10) => [(3, gi n1)]) (fun ((n1, m1, f1) : Int × Meter × F10) => [(129, .cells (blkC b m1 f1))]) (fun ((n1, m1, f1) : Int × Meter × F10) => (0 ≤ n1 ∧ m1.Now + n1 ≤ 40320) ∧ m1.May ∧ (0 < n1 → k ≠ 0 → m1.Lie = 0) ∧ f1.Early m1.Now ∧ stN b k n1.toNat m1 = S ∧ fiN b k n1.toNat m1 f1 = F) (fun ((n1, m1, f1) : Int × Meter × F10) => n1.toNat) ((n - 1, m.step b k, F10.none.rise (stepN b m k) m.Now)) (by exact rfl) ?_; (conv => whnf); refine Start.mk rfl ?_ ?_; (try dsimp only); rotate_left; rintro ⟨n1, m1, f1⟩ ⟨hn1, hm1, hl1, hf1, hS1, hF1⟩; (have ht := long_min (b := b) (m := m1) hb hm1 n1; have hnow := hm1.now))
    | (refine Again.mk ⟨((n1 - (if b.Length - m1.Now.tmod b.Length < n1 then b.Length - m1.Now.tmod b.Length else n1), weekM b m1 k (if b.Length - m1.Now.tmod b.Length < n1 then b.Length - m1.Now.tmod b.Length else n1), weekF b m1 k (if b.Length - m1.Now.tmod b.Length < n1 then b.Length - m1.Now.tmod b.Length else n1) f1)), rfl, ?_, ?_⟩ <;> try dsimp only)
    | refine Br.yes (beq_self_eq_true _) ?_
    | refine Br.not ?_
    | refine Br.yes (decide_eq_true (by assumption)) ?_
    | refine Br.no (decide_eq_false (by assumption)) ?_
    | refine Br.yes (beq_iff_eq.2 (by assumption)) ?_
    | refine Br.no (beq_eq_false_iff_ne.2 (by assumption)) ?_
    | refine Br.yes (bne_iff_ne.2 (by assumption)) ?_
    | (refine Br.dec (fun h => ?_) (fun h => ?_) <;> try dsimp only at h)
    | (refine Br.beqI (fun h => ?_) (fun h => ?_) <;> try dsimp only at h)
    | (refine Br.bneI (fun h => ?_) (fun h => ?_) <;> try dsimp only at h)
    | refine Br.mk (fun h => ?_) (fun h => ?_)
    | refine Need.mk (by first | kernel_rfl | exact ⟨of_decide_eq_true rfl, of_decide_eq_true rfl⟩ | omega) ?_
    | refine Len.mk ⟨_, by simp only [List.length_cons, List.length_nil, Nat.reduceAdd, Int.cast_ofNat_Int]; rfl, ?_⟩
    | refine Wr.lit _ (by simp only [Int.reduceAdd, Int.reduceSub, Int.reduceMul]; rfl) (by decide) ?_
    | refine Wr.fit (by omega) ?_
    | refine Wr.fit (by dsimp only; omega) ?_
    | refine Elem.mk ⟨_, ⟨of_decide_eq_true rfl, rfl⟩, ?_⟩
    | refine Len.map ?_
    | refine Len.dropM ?_
    | refine Elem.dropM ?_
    | refine Len.takeM ?_
    | refine Elem.takeM ?_
    | refine Elem.mapK (by assumption) ?_
    | refine Elem.mapI (by omega) (by assumption) ?_
    | refine Elem.mapN (by omega) (fun x hx => ?_)
    | refine Elem.map (by omega) (by omega) (fun x hx => ?_)
    | refine (h1).use ⟨rfl, ?_⟩
    | refine (none14_ok).use ⟨rfl, ?_⟩
    | refine (hrise).use ⟨rfl, ?_⟩
    | refine (weekN_ok b m1 f1 k (if b.Length - m1.Now.tmod b.Length < n1 then b.Length - m1.Now.tmod b.Length else n1) hb (hm1.lim.small (by omega)) ⟨by omega, by omega⟩).use ⟨rfl, ?_⟩
    | refine CallX.mk ⟨_, _, (h1).x, rfl, ?_⟩
    | refine CallX.mk ⟨_, _, (none14_ok).x, rfl, ?_⟩
    | refine CallX.mk ⟨_, _, (hrise).x, rfl, ?_⟩
    | refine CallX.mk ⟨_, _, (weekN_ok b m1 f1 k (if b.Length - m1.Now.tmod b.Length < n1 then b.Length - m1.Now.tmod b.Length else n1) hb (hm1.lim.small (by omega)) ⟨by omega, by omega⟩).x, rfl, ?_⟩
    | refine Done.mk ⟨rfl, rfl⟩
    | refine Done.mk ⟨congrArg gb ?_, rfl⟩
    | refine Done.mk ⟨?_, rfl⟩
    | refine Done.mk ⟨?_, ?_⟩)
  all_goals clear hw
  all_goals first
    | (exfalso; omega)
    | (obtain ⟨ht1, ht2, ht3, -⟩ := ht; have ht4 := ht3 (by omega); clear ht3; generalize (if b.Length - m1.Now.tmod b.Length < n1 then b.Length - m1.Now.tmod b.Length else n1) = a at *; omega)
    | (show _ = overG (S, F, 0); rw [← hS1, ← hF1, show n1.toNat = 0 by omega]; rfl)
    | exact ⟨⟨by omega, by omega⟩, hov.2.1, fun _ _ => hov.2.2.1, hov.2.2.2.1, hov.2.2.2.2.1.trans hS, hov.2.2.2.2.2.trans hF⟩
    | (have hst := over_step (b := b) (k := k) (n := n1) hb hm1 (hl1 h) hf1 (if b.Length - m1.Now.tmod b.Length < n1 then b.Length - m1.Now.tmod b.Length else n1) (ht.2.2.1 (by omega)) ht.1 ht.2.1 hn1.2; exact ⟨⟨by omega, by have := hst.1; omega⟩, hst.2.1, fun _ => hst.2.2.1, hst.2.2.2.1, hst.2.2.2.2.1.trans hS1, hst.2.2.2.2.2.trans hF1⟩)
  }
  {
  refine ICalls.of_body Try.func46 rfl Try.call46 rfl (Nat.le_of_ble_eq_true rfl) pl_G7_2 rfl ?_
  repeat' ((conv => whnf); first
    | refine Br.yes rfl ?_
    | refine Br.no rfl ?_
    | (refine ILoop.ov 1000010 (fun ((n1, m1, f1) : Int × Meter × F10) => [(3, gi n1)]) (fun ((n1, m1, f1) : Int × Meter × F10) => [(129, .cells (blkC b m1 f1))]) (fun ((n1, m1, f1) : Int × Meter × F10) => (0 ≤ n1 ∧ m1.Now + n1 ≤ 40320) ∧ m1.May ∧ (0 < n1 → k ≠ 0 → m1.Lie = 0) ∧ f1.Early m1.Now ∧ stN b k n1.toNat m1 = S ∧ fiN b k n1.toNat m1 f1 = F) (fun ((n1, m1, f1) : Int × Meter × F10) => n1.toNat) ((n, m, F10.none)) (by exact rfl) ?_; (conv => whnf); refine Start.mk rfl ?_ ?_; (try dsimp only); rotate_left; rintro ⟨n1, m1, f1⟩ ⟨hn1, hm1, hl1, hf1, hS1, hF1⟩; (have ht := long_min (b := b) (m := m1) hb hm1 n1; have hnow := hm1.now))
    | (refine Again.mk ⟨((n1 - (if b.Length - m1.Now.tmod b.Length < n1 then b.Length - m1.Now.tmod b.Length else n1), weekM b m1 k (if b.Length - m1.Now.tmod b.Length < n1 then b.Length - m1.Now.tmod b.Length else n1), weekF b m1 k (if b.Length - m1.Now.tmod b.Length < n1 then b.Length - m1.Now.tmod b.Length else n1) f1)), rfl, ?_, ?_⟩ <;> try dsimp only)
    | refine Br.yes (beq_self_eq_true _) ?_
    | refine Br.not ?_
    | refine Br.yes (decide_eq_true (by assumption)) ?_
    | refine Br.no (decide_eq_false (by assumption)) ?_
    | refine Br.yes (beq_iff_eq.2 (by assumption)) ?_
    | refine Br.no (beq_eq_false_iff_ne.2 (by assumption)) ?_
    | refine Br.yes (bne_iff_ne.2 (by assumption)) ?_
    | (refine Br.dec (fun h => ?_) (fun h => ?_) <;> try dsimp only at h)
    | (refine Br.beqI (fun h => ?_) (fun h => ?_) <;> try dsimp only at h)
    | (refine Br.bneI (fun h => ?_) (fun h => ?_) <;> try dsimp only at h)
    | refine Br.mk (fun h => ?_) (fun h => ?_)
    | refine Need.mk (by first | kernel_rfl | exact ⟨of_decide_eq_true rfl, of_decide_eq_true rfl⟩ | omega) ?_
    | refine Len.mk ⟨_, by simp only [List.length_cons, List.length_nil, Nat.reduceAdd, Int.cast_ofNat_Int]; rfl, ?_⟩
    | refine Wr.lit _ (by simp only [Int.reduceAdd, Int.reduceSub, Int.reduceMul]; rfl) (by decide) ?_
    | refine Wr.fit (by omega) ?_
    | refine Wr.fit (by dsimp only; omega) ?_
    | refine Elem.mk ⟨_, ⟨of_decide_eq_true rfl, rfl⟩, ?_⟩
    | refine Len.map ?_
    | refine Len.dropM ?_
    | refine Elem.dropM ?_
    | refine Len.takeM ?_
    | refine Elem.takeM ?_
    | refine Elem.mapK (by assumption) ?_
    | refine Elem.mapI (by omega) (by assumption) ?_
    | refine Elem.mapN (by omega) (fun x hx => ?_)
    | refine Elem.map (by omega) (by omega) (fun x hx => ?_)
    | refine (h1).use ⟨rfl, ?_⟩
    | refine (none14_ok).use ⟨rfl, ?_⟩
    | refine (weekN_ok b m1 f1 k (if b.Length - m1.Now.tmod b.Length < n1 then b.Length - m1.Now.tmod b.Length else n1) hb (hm1.lim.small (by omega)) ⟨by omega, by omega⟩).use ⟨rfl, ?_⟩
    | refine CallX.mk ⟨_, _, (h1).x, rfl, ?_⟩
    | refine CallX.mk ⟨_, _, (none14_ok).x, rfl, ?_⟩
    | refine CallX.mk ⟨_, _, (weekN_ok b m1 f1 k (if b.Length - m1.Now.tmod b.Length < n1 then b.Length - m1.Now.tmod b.Length else n1) hb (hm1.lim.small (by omega)) ⟨by omega, by omega⟩).x, rfl, ?_⟩
    | refine Done.mk ⟨rfl, rfl⟩
    | refine Done.mk ⟨congrArg gb ?_, rfl⟩
    | refine Done.mk ⟨?_, rfl⟩
    | refine Done.mk ⟨?_, ?_⟩)
  all_goals clear hw
  all_goals first
    | (exfalso; omega)
    | (obtain ⟨ht1, ht2, ht3, -⟩ := ht; have ht4 := ht3 (by omega); clear ht3; generalize (if b.Length - m1.Now.tmod b.Length < n1 then b.Length - m1.Now.tmod b.Length else n1) = a at *; omega)
    | (show _ = overG (S, F, 0); rw [← hS1, ← hF1, show n1.toNat = 0 by omega]; rfl)
    | exact ⟨⟨by omega, by omega⟩, hm, fun h1 h2 => absurd ⟨h1, h2⟩ hr, none_early hm0.1, hS, hF⟩
    | (have hst := over_step (b := b) (k := k) (n := n1) hb hm1 (hl1 h) hf1 (if b.Length - m1.Now.tmod b.Length < n1 then b.Length - m1.Now.tmod b.Length else n1) (ht.2.2.1 (by omega)) ht.1 ht.2.1 hn1.2; exact ⟨⟨by omega, by have := hst.1; omega⟩, hst.2.1, fun _ => hst.2.2.1, hst.2.2.2.1, hst.2.2.2.2.1.trans hS1, hst.2.2.2.2.2.trans hF1⟩)
  }
  }
  {
  rw [if_neg hc]
  refine ICalls.of_body Try.func46 rfl Try.call46 rfl (Nat.le_of_ble_eq_true rfl) pl_G7_3 rfl ?_
  repeat' ((conv => whnf); first
    | refine Br.yes rfl ?_
    | refine Br.no rfl ?_
    | refine Br.yes (beq_self_eq_true _) ?_
    | refine Br.not ?_
    | refine Br.yes (decide_eq_true (by assumption)) ?_
    | refine Br.no (decide_eq_false (by assumption)) ?_
    | refine Br.yes (beq_iff_eq.2 (by assumption)) ?_
    | refine Br.no (beq_eq_false_iff_ne.2 (by assumption)) ?_
    | refine Br.yes (bne_iff_ne.2 (by assumption)) ?_
    | (refine Br.dec (fun h => ?_) (fun h => ?_) <;> try dsimp only at h)
    | (refine Br.beqI (fun h => ?_) (fun h => ?_) <;> try dsimp only at h)
    | (refine Br.bneI (fun h => ?_) (fun h => ?_) <;> try dsimp only at h)
    | refine Br.mk (fun h => ?_) (fun h => ?_)
    | refine Need.mk (by first | kernel_rfl | exact ⟨of_decide_eq_true rfl, of_decide_eq_true rfl⟩ | omega) ?_
    | refine Len.mk ⟨_, by simp only [List.length_cons, List.length_nil, Nat.reduceAdd, Int.cast_ofNat_Int]; rfl, ?_⟩
    | refine Wr.lit _ (by simp only [Int.reduceAdd, Int.reduceSub, Int.reduceMul]; rfl) (by decide) ?_
    | refine Wr.fit (by omega) ?_
    | refine Wr.fit (by dsimp only; omega) ?_
    | refine Elem.mk ⟨_, ⟨of_decide_eq_true rfl, rfl⟩, ?_⟩
    | refine Len.map ?_
    | refine Len.dropM ?_
    | refine Elem.dropM ?_
    | refine Len.takeM ?_
    | refine Elem.takeM ?_
    | refine Elem.mapK (by assumption) ?_
    | refine Elem.mapI (by omega) (by assumption) ?_
    | refine Elem.mapN (by omega) (fun x hx => ?_)
    | refine Elem.map (by omega) (by omega) (fun x hx => ?_)
    | refine (h1).use ⟨rfl, ?_⟩
    | refine CallX.mk ⟨_, _, (h1).x, rfl, ?_⟩
    | refine Done.mk ⟨rfl, rfl⟩
    | refine Done.mk ⟨congrArg gb ?_, rfl⟩
    | refine Done.mk ⟨?_, rfl⟩
    | refine Done.mk ⟨?_, ?_⟩)
  }

end Go.Hl

/- Contracts: the least of first minutes; the reference's block of minutes.  -/
set_option linter.unusedVariables false
set_option linter.unusedSimpArgs false
namespace Go.Hl
open Go.Gh Go.Proofs

def pickI (best x : Int) : Int := if 0 ≤ x ∧ (best < 0 ∨ x < best) then x else best
def F10.at (f : F10) : Nat → Int
  | 0 => f.a0
  | 1 => f.a1
  | 2 => f.a2
  | 3 => f.a3
  | 4 => f.a4
  | 5 => f.a5
  | 6 => f.a6
  | 7 => f.a7
  | 8 => f.a8
  | _ => f.a9
def F10.fst (f : F10) : Nat → Int
  | 0 => -1
  | n + 1 => pickI (f.fst n) (f.at n)
end Go.Hl
