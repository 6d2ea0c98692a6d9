/- Contracts of functions, bundle H4; proved for whatever the arguments' types allow, as each theorem says. -/
import Derived.Test.YtoofplbjpkgdgaaGreatH3

/- Sets of clauses as numbers: the reference's bit and Or.  -/
set_option linter.unusedVariables false
set_option linter.unusedSimpArgs false
namespace Go.Hl
open Go.Gh Go.Proofs

theorem pow_le {i n : Nat} (h : i ≤ n) : (2 : Nat) ^ i ≤ 2 ^ n := Nat.pow_le_pow_right (by omega) h
theorem pow_fit {i : Nat} (h : i < 62) : 2 * ((2 ^ i : Nat) : Int) ≤ 4611686018427387904 := by
  have := pow_le (show i ≤ 61 by omega)
  omega

theorem pow_fit2 {i : Nat} {p : Int} (h : i < 62) (hp : p = ((2 ^ i : Nat) : Int)) : -9223372036854775808 ≤ 2 * p ∧ 2 * p ≤ 9223372036854775807 := by
  have := pow_fit h
  have h0 : (0 : Int) ≤ ((2 ^ i : Nat) : Int) := Int.natCast_nonneg _
  rw [← hp] at *
  omega

theorem mod_bit (n c : Nat) : n % 2 ^ (c + 1) = n % 2 ^ c + (if n.testBit c = true then 2 ^ c else 0) := by
  rw [Nat.mod_pow_succ, Nat.testBit_eq_decide_div_mod_eq]
  have : n / 2 ^ c % 2 < 2 := Nat.mod_lt _ (by omega)
  by_cases h : n / 2 ^ c % 2 = 1
  · simp [h]
  · have : n / 2 ^ c % 2 = 0 := by omega
    simp [this]

def pl_C17_1 : Nat → Option (List Nat × List Nat) := (fun k => bif Nat.beq k 3 then some ([1000003, 0, 1, 5, 6], []) else none)
set_option maxRecDepth 100000 in
theorem bitN_ok (c : Nat) (hc : c ≤ 62) (w : Bool) : ICalls Tryz.prog 143 [gi c, gb w] [] (Done (gi (if w then ((2 ^ c : Nat) : Int) else 0)) []) := by
  refine ICalls.of_body Tryz.func143 rfl Tryz.call143 rfl (Nat.le_of_ble_eq_true rfl) pl_C17_1 rfl ?_
  repeat' ((conv => whnf); first
    | refine Br.yes rfl ?_
    | refine Br.no rfl ?_
    | refine Wr.fit (pow_fit2 (by omega) hp) ?_
    | (refine ILoop.ov 1000003 (fun ((i, p) : Nat × Int) => [(5, gi p), (6, gi i)]) (fun ((i, p) : Nat × Int) => []) (fun ((i, p) : Nat × Int) => i ≤ c ∧ p = ((2 ^ i : Nat) : Int)) (fun ((i, p) : Nat × Int) => c - i) ((0, 1)) (by exact rfl) ?_; (conv => whnf); refine Start.mk rfl ?_ ?_; (try dsimp only); rotate_left; rintro ⟨i, p⟩ ⟨hi, hp⟩)
    | (refine Again.mk ⟨((i + 1, 2 * p)), rfl, ?_, ?_⟩ <;> try dsimp only)
    | refine Br.yes (beq_self_eq_true _) ?_
    | refine Br.not ?_
    | refine Br.yes (decide_eq_true (by assumption)) ?_
    | refine Br.no (decide_eq_false (by assumption)) ?_
    | refine Br.yes (beq_iff_eq.2 (by assumption)) ?_
    | refine Br.no (beq_eq_false_iff_ne.2 (by assumption)) ?_
    | refine Br.yes (bne_iff_ne.2 (by assumption)) ?_
    | (refine Br.dec (fun h => ?_) (fun h => ?_) <;> try dsimp only at h)
    | (refine Br.beqI (fun h => ?_) (fun h => ?_) <;> try dsimp only at h)
    | (refine Br.bneI (fun h => ?_) (fun h => ?_) <;> try dsimp only at h)
    | refine Br.mk (fun h => ?_) (fun h => ?_)
    | refine Need.mk (by first | kernel_rfl | exact ⟨of_decide_eq_true rfl, of_decide_eq_true rfl⟩ | omega) ?_
    | refine Len.mk ⟨_, by simp only [List.length_cons, List.length_nil, Nat.reduceAdd, Int.cast_ofNat_Int]; rfl, ?_⟩
    | refine Wr.lit _ (by simp only [Int.reduceAdd, Int.reduceSub, Int.reduceMul]; rfl) (by decide) ?_
    | refine Wr.fit (by omega) ?_
    | refine Wr.fit (by dsimp only; omega) ?_
    | refine Elem.mk ⟨_, ⟨of_decide_eq_true rfl, rfl⟩, ?_⟩
    | refine Len.map ?_
    | refine Len.dropM ?_
    | refine Elem.dropM ?_
    | refine Len.takeM ?_
    | refine Elem.takeM ?_
    | refine Elem.mapK (by assumption) ?_
    | refine Elem.mapI (by omega) (by assumption) ?_
    | refine Elem.mapN (by omega) (fun x hx => ?_)
    | refine Elem.map (by omega) (by omega) (fun x hx => ?_)
    | refine Done.mk ⟨rfl, rfl⟩
    | refine Done.mk ⟨congrArg gb ?_, rfl⟩
    | refine Done.mk ⟨?_, rfl⟩
    | refine Done.mk ⟨?_, ?_⟩)
  · refine ⟨by omega, ?_⟩
    rw [hp, Nat.pow_succ]; omega
  · omega
  · rw [hp, show i = c by omega, if_pos h]
  · rw [if_neg (by simp [h])]
  · exact ⟨by omega, rfl⟩

theorem Wr.quoN {a x : Nat} {p : Int → Prop} (h : a ≤ 9223372036854775807) (hp : p ((a / x : Nat) : Int)) : Wr .i64 (Int.tdiv (a : Int) (x : Int)) p := by
  have e : Int.tdiv (a : Int) (x : Int) = ((a / x : Nat) : Int) := by simp [Int.ofNat_tdiv]
  rw [e]
  have : a / x ≤ a := Nat.div_le_self _ _
  generalize a / x = q at *
  exact Wr.fit (by omega) hp

theorem tmod_bit {a c : Nat} : (Int.tmod ((a / 2 ^ c : Nat) : Int) 2 = 1) ↔ a.testBit c = true := by
  rw [Nat.testBit_eq_decide_div_mod_eq]
  have : Int.tmod ((a / 2 ^ c : Nat) : Int) 2 = ((a / 2 ^ c % 2 : Nat) : Int) := (Int.ofNat_tmod _ 2).symm
  rw [this]
  simp only [decide_eq_true_eq]
  omega

def pl_C17_2 : Nat → Option (List Nat × List Nat) := (fun k => bif Nat.beq k 3 then some ([1000003, 0, 1, 5, 6], []) else none)
set_option maxRecDepth 100000 in
theorem refOr_ok (a b : Nat) (ha : a < 1024) (hb : b < 1024) : ICalls Tryz.prog 119 [gi a, gi b] [] (Done (gi ((a ||| b : Nat) : Int)) []) := by
  refine ICalls.of_body Tryz.func119 rfl Tryz.call119 rfl (Nat.le_of_ble_eq_true rfl) pl_C17_2 rfl ?_
  repeat' ((conv => whnf); first
    | refine Br.yes rfl ?_
    | refine Br.no rfl ?_
    | refine Wr.quoN (by omega) ?_
    | refine Need.mk (show ((2 ^ c : Nat) : Int) ≠ 0 by have := Nat.pow_pos (n := c) (show 0 < 2 by omega); omega) ?_
    | refine Wr.fit (by have := pow_fit (show c < 62 by omega); omega) ?_
    | (refine ILoop.ov 1000003 (fun ((c, o) : Nat × Nat) => [(5, gi o), (6, gi c)]) (fun ((c, o) : Nat × Nat) => []) (fun ((c, o) : Nat × Nat) => c ≤ 16 ∧ o = (a ||| b) % 2 ^ c) (fun ((c, o) : Nat × Nat) => 16 - c) ((0, 0)) (by exact rfl) ?_; (conv => whnf); refine Start.mk rfl ?_ ?_; (try dsimp only); rotate_left; rintro ⟨c, o⟩ ⟨hc, ho⟩)
    | (refine Again.mk ⟨((c + 1, o + 2 ^ c)), rfl, ?_, ?_⟩ <;> try dsimp only)
    | (refine Again.mk ⟨((c + 1, o)), rfl, ?_, ?_⟩ <;> try dsimp only)
    | refine Br.yes (beq_self_eq_true _) ?_
    | refine Br.not ?_
    | refine Br.yes (decide_eq_true (by assumption)) ?_
    | refine Br.no (decide_eq_false (by assumption)) ?_
    | refine Br.yes (beq_iff_eq.2 (by assumption)) ?_
    | refine Br.no (beq_eq_false_iff_ne.2 (by assumption)) ?_
    | refine Br.yes (bne_iff_ne.2 (by assumption)) ?_
    | (refine Br.dec (fun h => ?_) (fun h => ?_) <;> try dsimp only at h)
    | (refine Br.beqI (fun h => ?_) (fun h => ?_) <;> try dsimp only at h)
    | (refine Br.bneI (fun h => ?_) (fun h => ?_) <;> try dsimp only at h)
    | refine Br.mk (fun h => ?_) (fun h => ?_)
    | refine Need.mk (by first | kernel_rfl | exact ⟨of_decide_eq_true rfl, of_decide_eq_true rfl⟩ | omega) ?_
    | refine Len.mk ⟨_, by simp only [List.length_cons, List.length_nil, Nat.reduceAdd, Int.cast_ofNat_Int]; rfl, ?_⟩
    | refine Wr.lit _ (by simp only [Int.reduceAdd, Int.reduceSub, Int.reduceMul]; rfl) (by decide) ?_
    | refine Wr.fit (by omega) ?_
    | refine Wr.fit (by dsimp only; omega) ?_
    | refine Elem.mk ⟨_, ⟨of_decide_eq_true rfl, rfl⟩, ?_⟩
    | refine Len.map ?_
    | refine Len.dropM ?_
    | refine Elem.dropM ?_
    | refine Len.takeM ?_
    | refine Elem.takeM ?_
    | refine Elem.mapK (by assumption) ?_
    | refine Elem.mapI (by omega) (by assumption) ?_
    | refine Elem.mapN (by omega) (fun x hx => ?_)
    | refine Elem.map (by omega) (by omega) (fun x hx => ?_)
    | refine (bitN_ok c (by omega) true).use ⟨rfl, ?_⟩
    | refine CallX.mk ⟨_, _, (bitN_ok c (by omega) true).x, rfl, ?_⟩
    | refine Done.mk ⟨rfl, rfl⟩
    | refine Done.mk ⟨congrArg gb ?_, rfl⟩
    | refine Done.mk ⟨?_, rfl⟩
    | refine Done.mk ⟨?_, ?_⟩)
  all_goals (try (rw [tmod_bit] at *))
  all_goals (try omega)
  · refine ⟨by omega, ?_⟩
    rw [mod_bit, Nat.testBit_or, h, ho]; simp
  · rename_i h2
    refine ⟨by omega, ?_⟩
    rw [mod_bit, Nat.testBit_or, h, ho]; simp
  · rename_i h2
    refine ⟨by omega, ?_⟩
    rw [mod_bit, Nat.testBit_or, ho]; simp [h, h2]
  · have : c = 16 := by omega
    subst this
    have : a ||| b < 2 ^ 10 := Nat.or_lt_two_pow ha hb
    rw [ho, Nat.mod_eq_of_lt (by omega)]

end Go.Hl

/- The reference's minute.  -/
set_option linter.unusedVariables false
set_option linter.unusedSimpArgs false
namespace Go.Hl
open Go.Gh Go.Proofs

def rb (p : Int) (w : Bool) : Int := if w then p else 0
theorem bitp_ok (c : Nat) (hc : c ≤ 62) (p : Int) (hp : ((2 ^ c : Nat) : Int) = p) (w : Bool) : ICalls Tryz.prog 143 [gi c, gb w] [] (Done (gi (rb p w)) []) := by
  subst hp; exact bitN_ok c hc w
theorem rb_le {p : Int} (hp : 0 ≤ p) (w : Bool) : 0 ≤ rb p w ∧ rb p w ≤ p := by unfold rb; split <;> omega

def endsR (b : Book) (m : Meter) : Int := (if (m.worth b).Weekly then rb 256 ((m.worth b).Brief && m.Brief) else 0) + (if (m.worth b).Reduced then rb 64 (decide (b.Reduces < (m.rise1 (m.worth b)).Reduces + 1)) else 0)

theorem worth_daily {b : Book} (hb : b.May) {f t dawn : Int} {half split : Bool} (h : (worth b f t dawn half split).Daily = true) : (worth b f t dawn half split).Break = true ∧ (worth b f t dawn half split).Half = false := by
  have h1 := hb.brk
  have h2 := hb.part
  simp only [worth, decide_eq_true_eq] at *
  constructor
  · simp; left; omega
  · simp; intro; omega

def pl_C18_1 : Nat → Option (List Nat × List Nat) := (fun k => bif Nat.beq k 2000005 then some ([1000005, 2, 3, 4, 6, 7], [102, 103, 104]) else none)
set_option maxRecDepth 100000 in
set_option maxHeartbeats 4000000 in
theorem refEnds_ok (b : Book) (m : Meter) (hb : b.May) (hm : m.May) (hl : 0 < m.Lie) :
    ICalls Tryz.prog 142 [b.g, m.g] [] (Done (.tup [(m.rose b).g, gi (endsR b m)]) []) := by
  have hd : 0 ≤ dawnOf m ∧ dawnOf m ≤ m.Now - m.Lie := by
    have := hm.dawn; have := hm.lie; unfold dawnOf; split <;> omega
  have hn := hm.now
  have hlie := hm.lie
  have ho := refOf_ok b (m.Now - m.Lie) m.Now (dawnOf m) m.Half m.Split hb ⟨by omega, by omega, by omega, by omega⟩
  have hw := hm.reduces
  have hdb := @worth_daily b hb (m.Now - m.Lie) m.Now (dawnOf m) m.Half m.Split
  have hr : m.rose b = m.rose b := rfl
  obtain ⟨W, hW⟩ : ∃ W, W = m.worth b := ⟨_, rfl⟩
  have hW2 : worth b (m.Now - m.Lie) m.Now (dawnOf m) m.Half m.Split = W := hW.symm
  rw [hW2] at ho hdb
  unfold Meter.rose endsR
  rw [← hW]
  clear hW hW2 hr hd
  refine ICalls.of_body Tryz.func142 rfl Tryz.call142 rfl (Nat.le_of_ble_eq_true rfl) pl_C18_1 rfl ?_
  repeat' ((conv => whnf); first
    | refine Br.yes rfl ?_
    | refine Br.no rfl ?_
    | refine Wr.fit (by simp only [rb]; constructor <;> (repeat' split) <;> omega) ?_
    | (refine Join.ov 1000005 (fun (d : Int) => [(7, gi d)]) (fun (d : Int) => []) (fun (d : Int) => d = dawnOf m) ?_; (conv => whnf); refine Meeting.mk ?_ ?_; rotate_left; rintro d rfl)
    | (refine Meets.mk ⟨(m.Now - m.Lie), rfl, ?_⟩ <;> try dsimp only)
    | (refine Meets.mk ⟨(m.Dawn), rfl, ?_⟩ <;> try dsimp only)
    | refine Br.yes (beq_self_eq_true _) ?_
    | refine Br.not ?_
    | refine Br.yes (decide_eq_true (by assumption)) ?_
    | refine Br.no (decide_eq_false (by assumption)) ?_
    | refine Br.yes (beq_iff_eq.2 (by assumption)) ?_
    | refine Br.no (beq_eq_false_iff_ne.2 (by assumption)) ?_
    | refine Br.yes (bne_iff_ne.2 (by assumption)) ?_
    | (refine Br.dec (fun h => ?_) (fun h => ?_) <;> try dsimp only at h)
    | (refine Br.beqI (fun h => ?_) (fun h => ?_) <;> try dsimp only at h)
    | (refine Br.bneI (fun h => ?_) (fun h => ?_) <;> try dsimp only at h)
    | refine Br.mk (fun h => ?_) (fun h => ?_)
    | refine Need.mk (by first | kernel_rfl | exact ⟨of_decide_eq_true rfl, of_decide_eq_true rfl⟩ | omega) ?_
    | refine Len.mk ⟨_, by simp only [List.length_cons, List.length_nil, Nat.reduceAdd, Int.cast_ofNat_Int]; rfl, ?_⟩
    | refine Wr.lit _ (by simp only [Int.reduceAdd, Int.reduceSub, Int.reduceMul]; rfl) (by decide) ?_
    | refine Wr.fit (by omega) ?_
    | refine Wr.fit (by dsimp only; omega) ?_
    | refine Elem.mk ⟨_, ⟨of_decide_eq_true rfl, rfl⟩, ?_⟩
    | refine Len.map ?_
    | refine Len.dropM ?_
    | refine Elem.dropM ?_
    | refine Len.takeM ?_
    | refine Elem.takeM ?_
    | refine Elem.mapK (by assumption) ?_
    | refine Elem.mapI (by omega) (by assumption) ?_
    | refine Elem.mapN (by omega) (fun x hx => ?_)
    | refine Elem.map (by omega) (by omega) (fun x hx => ?_)
    | refine (ho).use ⟨rfl, ?_⟩
    | refine (bitp_ok 8 (by omega) 256 rfl _).use ⟨rfl, ?_⟩
    | refine (bitp_ok 6 (by omega) 64 rfl _).use ⟨rfl, ?_⟩
    | refine CallX.mk ⟨_, _, (ho).x, rfl, ?_⟩
    | refine CallX.mk ⟨_, _, (bitp_ok 8 (by omega) 256 rfl _).x, rfl, ?_⟩
    | refine CallX.mk ⟨_, _, (bitp_ok 6 (by omega) 64 rfl _).x, rfl, ?_⟩
    | refine Done.mk ⟨rfl, rfl⟩
    | refine Done.mk ⟨congrArg gb ?_, rfl⟩
    | refine Done.mk ⟨?_, rfl⟩
    | refine Done.mk ⟨?_, ?_⟩)
  all_goals first
    | (unfold dawnOf; split <;> omega)
    | (clear ho hb hm hl hn hlie hw; simp_all [Meter.rise1, Meter.rise2, Meter.rise3, Meter.rise4, Meter.rise5, Meter.rise6, Meter.g, Meter.c])

end Go.Hl

/- The reference's minute, whole.  -/
set_option linter.unusedVariables false
set_option linter.unusedSimpArgs false
namespace Go.Hl
open Go.Gh Go.Proofs

theorem endsR_le (b : Book) (m : Meter) : 0 ≤ endsR b m ∧ endsR b m ≤ 320 := by
  have h1 := rb_le (show (0 : Int) ≤ 256 by omega) ((m.worth b).Brief && m.Brief)
  have h2 := rb_le (show (0 : Int) ≤ 64 by omega) (decide (b.Reduces < (m.rise1 (m.worth b)).Reduces + 1))
  unfold endsR; split <;> split <;> omega

def upR (b : Book) (m : Meter) : Int := if 0 < m.Lie then endsR b m else 0
theorem upR_le (b : Book) (m : Meter) : 0 ≤ upR b m ∧ upR b m ≤ 320 := by
  have := endsR_le b m
  unfold upR; split <;> omega
def lateR (b : Book) (m : Meter) (x : Int) : Int := x + rb 32 (decide (b.Round - b.Reduced ≤ m.Now - m.Dawn)) + rb 128 (decide (b.Rounds ≤ m.Now - m.Sabbath))
def droveR (b : Book) (m : Meter) (x : Int) : Int :=
  (if m.Day + 1 = b.Day + 1 then x + rb 1 (decide (b.Drive < m.Acc + 1)) + rb 4 (decide (b.Longers < m.Longers + 1)) else x + rb 1 (decide (b.Drive < m.Acc + 1))) + rb 2 (decide (b.Longer < m.Day + 1)) + rb 8 (decide (b.Week < m.Week + 1)) + rb 16 (decide (b.Fortnight < m.Week + 1 + m.Last))
def drivenR (b : Book) (m : Meter) (k x : Int) : Int := if k = 3 then droveR b m x else x
def workedR (b : Book) (m : Meter) (k x : Int) : Int := if k ≠ 1 then x + rb 512 (decide (b.Labour < m.Labour + 1)) else x
def stepR (b : Book) (m : Meter) (k : Int) : Int :=
  if k = 0 then 0 else workedR b (((m.turn b).up b).driven b k) k (drivenR b ((m.turn b).up b) k (lateR b ((m.turn b).up b) (upR b (m.turn b))))

theorem rb_add {x y p : Int} {w : Bool} (hp : 0 ≤ p) (hx : 0 ≤ x ∧ x ≤ y) : 0 ≤ x + rb p w ∧ x + rb p w ≤ y + p := by have := rb_le hp w; omega
theorem lateR_le {b : Book} {m : Meter} {x : Int} (hx : 0 ≤ x ∧ x ≤ 320) : 0 ≤ lateR b m x ∧ lateR b m x ≤ 480 := by
  have := rb_add (p := 128) (w := decide (b.Rounds ≤ m.Now - m.Sabbath)) (by omega) (rb_add (p := 32) (w := decide (b.Round - b.Reduced ≤ m.Now - m.Dawn)) (by omega) hx)
  unfold lateR; omega
theorem drivenR_le {b : Book} {m : Meter} {k x : Int} (hx : 0 ≤ x ∧ x ≤ 480) : 0 ≤ drivenR b m k x ∧ drivenR b m k x ≤ 511 := by
  unfold drivenR droveR
  have h1 := rb_le (p := 1) (by omega) (decide (b.Drive < m.Acc + 1))
  have h2 := rb_le (p := 4) (by omega) (decide (b.Longers < m.Longers + 1))
  have h3 := rb_le (p := 2) (by omega) (decide (b.Longer < m.Day + 1))
  have h4 := rb_le (p := 8) (by omega) (decide (b.Week < m.Week + 1))
  have h5 := rb_le (p := 16) (by omega) (decide (b.Fortnight < m.Week + 1 + m.Last))
  split
  · split <;> omega
  · omega
theorem stepR_le (b : Book) (m : Meter) (k : Int) : 0 ≤ stepR b m k ∧ stepR b m k ≤ 1023 := by
  unfold stepR workedR
  split
  · omega
  · have h1 := drivenR_le (b := b) (m := (m.turn b).up b) (k := k) (lateR_le (b := b) (m := (m.turn b).up b) (upR_le b (m.turn b)))
    split
    · have := rb_le (p := 512) (by omega) (decide (b.Labour < (((m.turn b).up b).driven b k).Labour + 1)); omega
    · omega

def pl_C19_1 : Nat → Option (List Nat × List Nat) := (fun k => bif Nat.beq k 2000006 then some ([1000006, 2, 3, 4, 6, 8], [103, 104, 106]) else bif Nat.beq k 2000012 then some ([1000012, 2, 3, 4, 6, 8], [103, 104, 106]) else bif Nat.beq k 2000014 then some ([1000014, 2, 3, 4, 6, 8], [103, 104, 106]) else bif Nat.beq k 2000025 then some ([1000025, 2, 3, 4, 6, 8], [103, 104, 106]) else bif Nat.beq k 2000028 then some ([1000028, 4, 6, 8], [104, 106]) else none)
set_option maxRecDepth 100000 in
set_option maxHeartbeats 4000000 in
theorem refStep_ok (b : Book) (m : Meter) (k : Int) (hb : b.May) (hm : m.May) (hk : 0 ≤ k ∧ k ≤ 3) :
    ICalls Tryz.prog 118 [b.g, m.g, gi k] [] (Done (.tup [(m.step b k).g, gi (stepR b m k)]) []) := by
  have hl : (m.turn b).Lim 40320 := hm.turn.lim
  have ht : (m.turn b).May := hm.turn
  have hl1 := hl.up b
  have hl2 := (hl.up b).driven b k
  have hw := hb.within
  simp only [Book.within] at hw
  have hr1 := upR_le b (m.turn b)
  have hr2 := lateR_le (b := b) (m := (m.turn b).up b) hr1
  have hr3 := drivenR_le (b := b) (m := (m.turn b).up b) (k := k) hr2
  have hl3 := hl2.worked k
  have hS : m.step b k = if k = 0 then { m.turn b with Lie := (m.turn b).Lie + 1, Now := (m.turn b).Now + 1 } else { (((m.turn b).up b).driven b k).worked k with Now := ((((m.turn b).up b).driven b k).worked k).Now + 1 } := rfl
  have hR : stepR b m k = if k = 0 then 0 else workedR b (((m.turn b).up b).driven b k) k (drivenR b ((m.turn b).up b) k (lateR b ((m.turn b).up b) (upR b (m.turn b)))) := rfl
  rw [hS, hR]
  clear hS hR
  generalize e0 : m.turn b = m0 at *
  generalize e1 : m0.up b = m1 at *
  generalize f1 : upR b m0 = x1 at *
  generalize f2 : lateR b m1 x1 = x2 at *
  generalize e2 : m1.driven b k = m2 at *
  generalize f3 : drivenR b m1 k x2 = x3 at *
  generalize e3 : m2.worked k = m3 at *
  generalize f4 : workedR b m2 k x3 = x4 at *
  have hq0 := hl.now
  have hq0' := hl.lie
  have q1 := hl1.now
  have q2 := hl1.dawn
  have q3 := hl1.sabbath
  have q4 := hl1.acc
  have q5 := hl1.day
  have q6 := hl1.longers
  have q7 := hl1.week
  have q8 := hl1.last
  have q9 := hl2.labour
  have q10 := hl2.now
  have q11 := hl3.now
  clear hl hl1 hl2 hl3
  refine ICalls.of_body Tryz.func118 rfl Tryz.call118 rfl (Nat.le_of_ble_eq_true rfl) pl_C19_1 rfl ?_
  repeat' ((conv => whnf); first
    | refine Br.yes rfl ?_
    | refine Br.no rfl ?_
    | refine Need.mk (show b.Length ≠ 0 by omega) ?_
    | refine Wr.fit (by simp only [rb]; constructor <;> (repeat' split) <;> omega) ?_
    | (refine Join.ov 1000006 (fun (m' : Meter) => []) (fun (m' : Meter) => [(104, .cells (m'.c))]) (fun (m' : Meter) => m0 = m') ?_; (conv => whnf); refine Meeting.mk ?_ ?_; rotate_left; rintro m' rfl)
    | (refine Meets.mk ⟨({ m with Last := m.Week, Week := 0, Labour := 0 }), rfl, ?_⟩ <;> try dsimp only)
    | (refine Meets.mk ⟨(m), rfl, ?_⟩ <;> try dsimp only)
    | (refine Join.ov 1000012 (fun ((m', x) : Meter × Int) => [(8, gi x)]) (fun ((m', x) : Meter × Int) => [(104, .cells (m'.c))]) (fun ((m', x) : Meter × Int) => m1 = m' ∧ x1 = x) ?_; (conv => whnf); refine Meeting.mk ?_ ?_; rotate_left; rintro ⟨m', x⟩ ⟨rfl, rfl⟩)
    | (refine Meets.mk ⟨(m0.rose b, endsR b m0), rfl, ?_⟩ <;> try dsimp only)
    | (refine Meets.mk ⟨(m0, 0), rfl, ?_⟩ <;> try dsimp only)
    | (refine Join.ov 1000014 (fun (x : Int) => [(8, gi x)]) (fun (x : Int) => []) (fun (x : Int) => x2 = x) ?_; (conv => whnf); refine Meeting.mk ?_ ?_; rotate_left; rintro x rfl)
    | (refine Meets.mk ⟨(_), rfl, ?_⟩ <;> try dsimp only)
    | (refine Join.ov 1000025 (fun ((m', x) : Meter × Int) => [(8, gi x)]) (fun ((m', x) : Meter × Int) => [(104, .cells (m'.c))]) (fun ((m', x) : Meter × Int) => m2 = m' ∧ x3 = x) ?_; (conv => whnf); refine Meeting.mk ?_ ?_; rotate_left; rintro ⟨m', x⟩ ⟨rfl, rfl⟩)
    | (refine Meets.mk ⟨(m1.droveL (m1.Longers + 1), _), rfl, ?_⟩ <;> try dsimp only)
    | (refine Meets.mk ⟨(m1.droveL m1.Longers, _), rfl, ?_⟩ <;> try dsimp only)
    | (refine Meets.mk ⟨(m1, _), rfl, ?_⟩ <;> try dsimp only)
    | (refine Join.ov 1000028 (fun ((m', x) : Meter × Int) => [(8, gi x)]) (fun ((m', x) : Meter × Int) => [(104, .cells (m'.c))]) (fun ((m', x) : Meter × Int) => m3 = m' ∧ x4 = x) ?_; (conv => whnf); refine Meeting.mk ?_ ?_; rotate_left; rintro ⟨m', x⟩ ⟨rfl, rfl⟩)
    | (refine Meets.mk ⟨({ m2 with Labour := m2.Labour + 1 }, _), rfl, ?_⟩ <;> try dsimp only)
    | (refine Meets.mk ⟨(m2, _), rfl, ?_⟩ <;> try dsimp only)
    | refine Br.yes (beq_self_eq_true _) ?_
    | refine Br.not ?_
    | refine Br.yes (decide_eq_true (by assumption)) ?_
    | refine Br.no (decide_eq_false (by assumption)) ?_
    | refine Br.yes (beq_iff_eq.2 (by assumption)) ?_
    | refine Br.no (beq_eq_false_iff_ne.2 (by assumption)) ?_
    | refine Br.yes (bne_iff_ne.2 (by assumption)) ?_
    | (refine Br.dec (fun h => ?_) (fun h => ?_) <;> try dsimp only at h)
    | (refine Br.beqI (fun h => ?_) (fun h => ?_) <;> try dsimp only at h)
    | (refine Br.bneI (fun h => ?_) (fun h => ?_) <;> try dsimp only at h)
    | refine Br.mk (fun h => ?_) (fun h => ?_)
    | refine Need.mk (by first | kernel_rfl | exact ⟨of_decide_eq_true rfl, of_decide_eq_true rfl⟩ | omega) ?_
    | refine Len.mk ⟨_, by simp only [List.length_cons, List.length_nil, Nat.reduceAdd, Int.cast_ofNat_Int]; rfl, ?_⟩
    | refine Wr.lit _ (by simp only [Int.reduceAdd, Int.reduceSub, Int.reduceMul]; rfl) (by decide) ?_
    | refine Wr.fit (by omega) ?_
    | refine Wr.fit (by dsimp only; omega) ?_
    | refine Elem.mk ⟨_, ⟨of_decide_eq_true rfl, rfl⟩, ?_⟩
    | refine Len.map ?_
    | refine Len.dropM ?_
    | refine Elem.dropM ?_
    | refine Len.takeM ?_
    | refine Elem.takeM ?_
    | refine Elem.mapK (by assumption) ?_
    | refine Elem.mapI (by omega) (by assumption) ?_
    | refine Elem.mapN (by omega) (fun x hx => ?_)
    | refine Elem.map (by omega) (by omega) (fun x hx => ?_)
    | refine (bitp_ok 0 (by omega) 1 rfl _).use ⟨rfl, ?_⟩
    | refine (bitp_ok 1 (by omega) 2 rfl _).use ⟨rfl, ?_⟩
    | refine (bitp_ok 2 (by omega) 4 rfl _).use ⟨rfl, ?_⟩
    | refine (bitp_ok 3 (by omega) 8 rfl _).use ⟨rfl, ?_⟩
    | refine (bitp_ok 4 (by omega) 16 rfl _).use ⟨rfl, ?_⟩
    | refine (bitp_ok 5 (by omega) 32 rfl _).use ⟨rfl, ?_⟩
    | refine (bitp_ok 7 (by omega) 128 rfl _).use ⟨rfl, ?_⟩
    | refine (bitp_ok 9 (by omega) 512 rfl _).use ⟨rfl, ?_⟩
    | refine (refEnds_ok b m0 hb ht (by omega)).use ⟨rfl, ?_⟩
    | refine CallX.mk ⟨_, _, (bitp_ok 0 (by omega) 1 rfl _).x, rfl, ?_⟩
    | refine CallX.mk ⟨_, _, (bitp_ok 1 (by omega) 2 rfl _).x, rfl, ?_⟩
    | refine CallX.mk ⟨_, _, (bitp_ok 2 (by omega) 4 rfl _).x, rfl, ?_⟩
    | refine CallX.mk ⟨_, _, (bitp_ok 3 (by omega) 8 rfl _).x, rfl, ?_⟩
    | refine CallX.mk ⟨_, _, (bitp_ok 4 (by omega) 16 rfl _).x, rfl, ?_⟩
    | refine CallX.mk ⟨_, _, (bitp_ok 5 (by omega) 32 rfl _).x, rfl, ?_⟩
    | refine CallX.mk ⟨_, _, (bitp_ok 7 (by omega) 128 rfl _).x, rfl, ?_⟩
    | refine CallX.mk ⟨_, _, (bitp_ok 9 (by omega) 512 rfl _).x, rfl, ?_⟩
    | refine CallX.mk ⟨_, _, (refEnds_ok b m0 hb ht (by omega)).x, rfl, ?_⟩
    | refine Done.mk ⟨rfl, rfl⟩
    | refine Done.mk ⟨congrArg gb ?_, rfl⟩
    | refine Done.mk ⟨?_, rfl⟩
    | refine Done.mk ⟨?_, ?_⟩)
  all_goals clear hw
  all_goals first
    | (rw [if_pos (by assumption), if_pos (by assumption)]; rfl)
    | (rw [if_neg (by assumption), if_neg (by assumption)]; rfl)
    | (have hk1 : k = 1 := by omega
       subst hk1
       rw [← e3, ← f4]; exact ⟨rfl, rfl⟩)
    | (have hk1 : k ≠ 1 := by omega
       rw [← e3, ← f4, Meter.worked, workedR, if_pos hk1, if_pos hk1]; exact ⟨rfl, rfl⟩)
    | (rename_i h1
       rw [← e2, ← f3, Meter.driven, drivenR, if_pos h1, if_pos h1, Meter.drove, droveR, if_pos h, if_pos h]; exact ⟨rfl, rfl⟩)
    | (rename_i h1
       rw [← e2, ← f3, Meter.driven, drivenR, if_pos h1, if_pos h1, Meter.drove, droveR, if_neg h, if_neg h]; exact ⟨rfl, rfl⟩)
    | (rw [← e2, ← f3, Meter.driven, drivenR, if_neg h, if_neg h]; exact ⟨rfl, rfl⟩)
    | (rw [← e1, ← f1, Meter.up, upR, if_pos h, if_pos h]; exact ⟨rfl, rfl⟩)
    | (rw [← e1, ← f1, Meter.up, upR, if_neg h, if_neg h]; exact ⟨rfl, rfl⟩)
    | (rw [← f2]; rfl)
    | (have hq : 0 < m.Now ∧ m.Now.tmod b.Length = 0 := ⟨by assumption, by assumption⟩
       rw [← e0]; exact if_pos hq)
    | (have hq : ¬ (0 < m.Now ∧ m.Now.tmod b.Length = 0) := by omega
       rw [← e0]; exact if_neg hq)

end Go.Hl

/- The program's set of clauses is the reference's; the reference's run.  -/
set_option linter.unusedVariables false
set_option linter.unusedSimpArgs false
namespace Go.Hl
open Go.Gh Go.Proofs

def rbN (p : Nat) (w : Bool) : Nat := if w then p else 0
theorem rb_cast (p : Nat) (w : Bool) : rb (p : Int) w = ((rbN p w : Nat) : Int) := by cases w <;> rfl
theorem orI_cast {a b : Nat} (ha : a < 2 ^ 62) (hb : b < 2 ^ 62) : orI (a : Int) (b : Int) = ((a ||| b : Nat) : Int) := by
  have h : a ||| b < 2 ^ 62 := Nat.or_lt_two_pow ha hb
  unfold orI
  have e1 : (BitVec.ofInt 64 (a : Int) ||| BitVec.ofInt 64 (b : Int)).toNat = a ||| b := by
    rw [BitVec.toNat_or, BitVec.toNat_ofInt, BitVec.toNat_ofInt]
    have h1 : ((a : Int) % ((2 ^ 64 : Nat) : Int)).toNat = a := by omega
    have h2 : ((b : Int) % ((2 ^ 64 : Nat) : Int)).toNat = b := by omega
    rw [h1, h2]
  rw [e1, IntKind.wrap_i64]
  omega
theorem setIf_cast {a p : Nat} (ha : a < 2 ^ 62) (hp : p < 2 ^ 62) (c : Bool) : setIf (a : Int) (p : Int) c = ((a ||| rbN p c : Nat) : Int) := by
  cases c
  · simp [setIf, rbN]
  · simp only [setIf, rbN, if_true]; exact orI_cast ha hp
theorem setIf_cast2 {a p : Nat} {x : Int} (hx : x = (a : Int)) (ha : a < 2 ^ 62) (hp : p < 2 ^ 62) (w : Prop) [Decidable w] (c : Bool) : (if w then setIf x (p : Int) c else x) = ((a ||| rbN p (decide w && c) : Nat) : Int) := by
  subst hx
  by_cases h : w
  · rw [if_pos h, setIf_cast ha hp]; simp [h]
  · rw [if_neg h]; simp [h, rbN]
theorem or_lt {a p : Nat} {c : Bool} (ha : a < 1024) (hp : p < 1024) : a ||| rbN p c < 1024 := by
  have : rbN p c < 1024 := by unfold rbN; split <;> omega
  exact Nat.or_lt_two_pow (n := 10) ha this

theorem flags : ∀ (c8 c6 c5 c7 c0 c2 c1 c3 c4 c9 : Bool),
    rbN 256 c8 + rbN 64 c6 + rbN 32 c5 + rbN 128 c7 + rbN 1 c0 + rbN 4 c2 + rbN 2 c1 + rbN 8 c3 + rbN 16 c4 + rbN 512 c9 =
    (((((((((rbN 256 c8 ||| rbN 64 c6) ||| rbN 32 c5) ||| rbN 128 c7) ||| rbN 4 c2) ||| rbN 1 c0) ||| rbN 2 c1) ||| rbN 8 c3) ||| rbN 16 c4) ||| rbN 512 c9) := by decide +kernel

def stepN (b : Book) (m : Meter) (k : Int) : Nat := (stepR b m k).toNat
theorem stepN_cast (b : Book) (m : Meter) (k : Int) : stepR b m k = ((stepN b m k : Nat) : Int) := by
  have := stepR_le b m k
  unfold stepN; omega
theorem stepN_lt (b : Book) (m : Meter) (k : Int) : stepN b m k < 1024 := by
  have := stepR_le b m k
  unfold stepN; omega

theorem stepBits_or (b : Book) (m : Meter) (k : Int) (n : Nat) (hn : n < 1024) : stepBits b m k (n : Int) = ((n ||| stepN b m k : Nat) : Int) := by
  by_cases hk : k = 0
  · subst hk
    have h0 : stepN b m 0 = 0 := by unfold stepN stepR; rw [if_pos rfl]; rfl
    rw [h0]; unfold stepBits; rw [if_pos rfl]; simp
  -- the flags
  let m0 := m.turn b
  let W := m0.worth b
  let m1 := m0.up b
  let m2 := m1.driven b k
  let c8 : Bool := decide (0 < m0.Lie) && (W.Weekly && (W.Brief && m0.Brief))
  let c6 : Bool := decide (0 < m0.Lie) && (W.Reduced && decide (b.Reduces < (m0.rise1 W).Reduces + 1))
  let c5 : Bool := decide (b.Round - b.Reduced ≤ m1.Now - m1.Dawn)
  let c7 : Bool := decide (b.Rounds ≤ m1.Now - m1.Sabbath)
  let c2 : Bool := decide (k = 3) && (decide (m1.Day + 1 = b.Day + 1) && decide (b.Longers < m1.Longers + 1))
  let c0 : Bool := decide (k = 3) && decide (b.Drive < m1.Acc + 1)
  let c1 : Bool := decide (k = 3) && decide (b.Longer < m1.Day + 1)
  let c3 : Bool := decide (k = 3) && decide (b.Week < m1.Week + 1)
  let c4 : Bool := decide (k = 3) && decide (b.Fortnight < m1.Week + 1 + m1.Last)
  let c9 : Bool := decide (k ≠ 1) && decide (b.Labour < m2.Labour + 1)
  have hR : stepN b m k = rbN 256 c8 + rbN 64 c6 + rbN 32 c5 + rbN 128 c7 + rbN 1 c0 + rbN 4 c2 + rbN 2 c1 + rbN 8 c3 + rbN 16 c4 + rbN 512 c9 := by
    have e : stepR b m k = rb 256 c8 + rb 64 c6 + rb 32 c5 + rb 128 c7 + rb 1 c0 + rb 4 c2 + rb 2 c1 + rb 8 c3 + rb 16 c4 + rb 512 c9 := by
      show (if k = 0 then 0 else workedR b m2 k (drivenR b m1 k (lateR b m1 (upR b m0)))) = _
      rw [if_neg hk]
      have e1 : upR b m0 = rb 256 c8 + rb 64 c6 := by
        show (if 0 < m0.Lie then (if W.Weekly = true then rb 256 (W.Brief && m0.Brief) else 0) + (if W.Reduced = true then rb 64 (decide (b.Reduces < (m0.rise1 W).Reduces + 1)) else 0) else 0) = _
        by_cases h : 0 < m0.Lie
        · simp only [c8, c6, h, if_true, decide_true, Bool.true_and]
          cases W.Weekly <;> cases W.Reduced <;> simp [rb]
        · simp [c8, c6, h, rb]
      have e2 : drivenR b m1 k (lateR b m1 (upR b m0)) = rb 256 c8 + rb 64 c6 + rb 32 c5 + rb 128 c7 + rb 1 c0 + rb 4 c2 + rb 2 c1 + rb 8 c3 + rb 16 c4 := by
        rw [e1]
        by_cases h : k = 3
        · simp only [drivenR, h, if_true, droveR, lateR, c0, c1, c2, c3, c4, c5, c7, decide_true, Bool.true_and]
          by_cases h2 : m1.Day + 1 = b.Day + 1
          · simp only [h2, if_true, decide_true, Bool.true_and]
          · simp only [h2, if_false, decide_false, Bool.false_and]; simp [rb]
        · simp only [drivenR, h, if_false, lateR, c0, c1, c2, c3, c4, c5, c7, decide_false, Bool.false_and]; simp [rb]
      rw [e2]
      by_cases h : k = 1
      · simp [workedR, h, c9, rb]
      · simp [workedR, h, c9]
    have e' := (stepN_cast b m k).symm.trans e
    rw [show (256 : Int) = ((256 : Nat) : Int) from rfl, show (64 : Int) = ((64 : Nat) : Int) from rfl, show (32 : Int) = ((32 : Nat) : Int) from rfl, show (128 : Int) = ((128 : Nat) : Int) from rfl, show (1 : Int) = ((1 : Nat) : Int) from rfl, show (4 : Int) = ((4 : Nat) : Int) from rfl, show (2 : Int) = ((2 : Nat) : Int) from rfl, show (8 : Int) = ((8 : Nat) : Int) from rfl, show (16 : Int) = ((16 : Nat) : Int) from rfl, show (512 : Int) = ((512 : Nat) : Int) from rfl] at e'
    simp only [rb_cast] at e'
    omega
  rw [hR, flags]
  have z : ∀ {a : Nat}, a < 1024 → a < 2 ^ 62 := fun h => by omega
  have hB : stepBits b m k (n : Int) = ((((((((((((n ||| rbN 256 c8) ||| rbN 64 c6) ||| rbN 32 c5) ||| rbN 128 c7) ||| rbN 4 c2) ||| rbN 1 c0) ||| rbN 2 c1) ||| rbN 8 c3) ||| rbN 16 c4) ||| rbN 512 c9 : Nat)) : Int) := by
    show (if k = 0 then (n : Int) else workedBits b m2 k (drivenBits b m1 k (lateBits b m1 (upBits b m0 n)))) = _
    rw [if_neg hk]
    have l0 : n ||| rbN 256 c8 < 1024 := or_lt hn (by omega)
    have l1 : n ||| rbN 256 c8 ||| rbN 64 c6 < 1024 := or_lt l0 (by omega)
    have l2 : n ||| rbN 256 c8 ||| rbN 64 c6 ||| rbN 32 c5 < 1024 := or_lt l1 (by omega)
    have l3 : n ||| rbN 256 c8 ||| rbN 64 c6 ||| rbN 32 c5 ||| rbN 128 c7 < 1024 := or_lt l2 (by omega)
    have l4 : n ||| rbN 256 c8 ||| rbN 64 c6 ||| rbN 32 c5 ||| rbN 128 c7 ||| rbN 4 c2 < 1024 := or_lt l3 (by omega)
    have l5 : n ||| rbN 256 c8 ||| rbN 64 c6 ||| rbN 32 c5 ||| rbN 128 c7 ||| rbN 4 c2 ||| rbN 1 c0 < 1024 := or_lt l4 (by omega)
    have l6 : n ||| rbN 256 c8 ||| rbN 64 c6 ||| rbN 32 c5 ||| rbN 128 c7 ||| rbN 4 c2 ||| rbN 1 c0 ||| rbN 2 c1 < 1024 := or_lt l5 (by omega)
    have l7 : n ||| rbN 256 c8 ||| rbN 64 c6 ||| rbN 32 c5 ||| rbN 128 c7 ||| rbN 4 c2 ||| rbN 1 c0 ||| rbN 2 c1 ||| rbN 8 c3 < 1024 := or_lt l6 (by omega)
    have l8 : n ||| rbN 256 c8 ||| rbN 64 c6 ||| rbN 32 c5 ||| rbN 128 c7 ||| rbN 4 c2 ||| rbN 1 c0 ||| rbN 2 c1 ||| rbN 8 c3 ||| rbN 16 c4 < 1024 := or_lt l7 (by omega)
    have e1 : upBits b m0 n = ((n ||| rbN 256 c8 ||| rbN 64 c6 : Nat) : Int) := by
      show (if 0 < m0.Lie then (if W.Reduced = true then setIf (if W.Weekly = true then setIf (n : Int) 256 (W.Brief && m0.Brief) else (n : Int)) 64 (decide (b.Reduces < (m0.rise1 W).Reduces + 1)) else (if W.Weekly = true then setIf (n : Int) 256 (W.Brief && m0.Brief) else (n : Int))) else (n : Int)) = _
      have q1 := setIf_cast2 (a := n) (p := 256) rfl (z hn) (by omega) (W.Weekly = true) (W.Brief && m0.Brief)
      by_cases h : 0 < m0.Lie
      · have c8e : c8 = (decide (W.Weekly = true) && (W.Brief && m0.Brief)) := by simp [c8, h]
        have c6e : c6 = (decide (W.Reduced = true) && decide (b.Reduces < (m0.rise1 W).Reduces + 1)) := by simp [c6, h]
        rw [if_pos h]
        rw [← c8e] at q1
        rw [c6e]
        exact setIf_cast2 (p := 64) q1 (z l0) (by omega) (W.Reduced = true) _
      · rw [if_neg h]; simp [c8, c6, h, rbN]
    have e2 : lateBits b m1 (upBits b m0 n) = ((n ||| rbN 256 c8 ||| rbN 64 c6 ||| rbN 32 c5 ||| rbN 128 c7 : Nat) : Int) := by
      rw [e1]; unfold lateBits
      have q1 := setIf_cast (z l1) (p := 32) (by omega) c5
      have q2 := setIf_cast (z l2) (p := 128) (by omega) c7
      rw [← q1] at q2; exact q2
    have e3 : drivenBits b m1 k (lateBits b m1 (upBits b m0 n)) = ((n ||| rbN 256 c8 ||| rbN 64 c6 ||| rbN 32 c5 ||| rbN 128 c7 ||| rbN 4 c2 ||| rbN 1 c0 ||| rbN 2 c1 ||| rbN 8 c3 ||| rbN 16 c4 : Nat) : Int) := by
      rw [e2]; unfold drivenBits
      by_cases h : k = 3
      · rw [if_pos h]; unfold droveBits
        have q1 := setIf_cast2 (p := 4) rfl (z l3) (by omega) (m1.Day + 1 = b.Day + 1) (decide (b.Longers < m1.Longers + 1))
        have c2e : c2 = (decide (m1.Day + 1 = b.Day + 1) && decide (b.Longers < m1.Longers + 1)) := by simp [c2, h]
        rw [← c2e] at q1
        have q2 := setIf_cast (z l4) (p := 1) (by omega) c0
        have q3 := setIf_cast (z l5) (p := 2) (by omega) c1
        have q4 := setIf_cast (z l6) (p := 8) (by omega) c3
        have q5 := setIf_cast (z l7) (p := 16) (by omega) c4
        rw [← q4, ← q3, ← q2, ← q1] at q5
        rw [← q5]
        simp only [c0, c1, c3, c4, h, decide_true, Bool.true_and]; rfl
      · rw [if_neg h]; simp [c2, c0, c1, c3, c4, h, rbN]
    rw [e3]; unfold workedBits
    have q := setIf_cast2 (p := 512) rfl (z l8) (by omega) (k ≠ 1) (decide (b.Labour < m2.Labour + 1))
    exact q
  rw [hB]
  simp only [Nat.or_assoc]

end Go.Hl
