/- Contracts of functions, bundle H4; proved for whatever the arguments' types allow, as each theorem says. -/
import Derived.Test.YtoofplbjpkgdgaaH3

/- Sets of clauses as numbers: the reference's bit and Or.  -/
set_option linter.unusedVariables false
set_option linter.unusedSimpArgs false
namespace Go.Hl
open Go.Gh Go.Proofs

end Go.Hl

/- The reference's minute.  -/
set_option linter.unusedVariables false
set_option linter.unusedSimpArgs false
namespace Go.Hl
open Go.Gh Go.Proofs

def rb (p : Int) (w : Bool) : Int := if w then p else 0
theorem rb_le {p : Int} (hp : 0 ≤ p) (w : Bool) : 0 ≤ rb p w ∧ rb p w ≤ p := by unfold rb; split <;> omega

def endsR (b : Book) (m : Meter) : Int := (if (m.worth b).Weekly then rb 256 ((m.worth b).Brief && m.Brief) else 0) + (if (m.worth b).Reduced then rb 64 (decide (b.Reduces < (m.rise1 (m.worth b)).Reduces + 1)) else 0)

end Go.Hl

/- The reference's minute, whole.  -/
set_option linter.unusedVariables false
set_option linter.unusedSimpArgs false
namespace Go.Hl
open Go.Gh Go.Proofs

theorem endsR_le (b : Book) (m : Meter) : 0 ≤ endsR b m ∧ endsR b m ≤ 320 := by
  have h1 := rb_le (show (0 : Int) ≤ 256 by omega) ((m.worth b).Brief && m.Brief)
  have h2 := rb_le (show (0 : Int) ≤ 64 by omega) (decide (b.Reduces < (m.rise1 (m.worth b)).Reduces + 1))
  unfold endsR; split <;> split <;> omega

def upR (b : Book) (m : Meter) : Int := if 0 < m.Lie then endsR b m else 0
theorem upR_le (b : Book) (m : Meter) : 0 ≤ upR b m ∧ upR b m ≤ 320 := by
  have := endsR_le b m
  unfold upR; split <;> omega
def lateR (b : Book) (m : Meter) (x : Int) : Int := x + rb 32 (decide (b.Round - b.Reduced ≤ m.Now - m.Dawn)) + rb 128 (decide (b.Rounds ≤ m.Now - m.Sabbath))
def droveR (b : Book) (m : Meter) (x : Int) : Int :=
  (if m.Day + 1 = b.Day + 1 then x + rb 1 (decide (b.Drive < m.Acc + 1)) + rb 4 (decide (b.Longers < m.Longers + 1)) else x + rb 1 (decide (b.Drive < m.Acc + 1))) + rb 2 (decide (b.Longer < m.Day + 1)) + rb 8 (decide (b.Week < m.Week + 1)) + rb 16 (decide (b.Fortnight < m.Week + 1 + m.Last))
def drivenR (b : Book) (m : Meter) (k x : Int) : Int := if k = 3 then droveR b m x else x
def workedR (b : Book) (m : Meter) (k x : Int) : Int := if k ≠ 1 then x + rb 512 (decide (b.Labour < m.Labour + 1)) else x
def stepR (b : Book) (m : Meter) (k : Int) : Int :=
  if k = 0 then 0 else workedR b (((m.turn b).up b).driven b k) k (drivenR b ((m.turn b).up b) k (lateR b ((m.turn b).up b) (upR b (m.turn b))))

theorem rb_add {x y p : Int} {w : Bool} (hp : 0 ≤ p) (hx : 0 ≤ x ∧ x ≤ y) : 0 ≤ x + rb p w ∧ x + rb p w ≤ y + p := by have := rb_le hp w; omega
theorem lateR_le {b : Book} {m : Meter} {x : Int} (hx : 0 ≤ x ∧ x ≤ 320) : 0 ≤ lateR b m x ∧ lateR b m x ≤ 480 := by
  have := rb_add (p := 128) (w := decide (b.Rounds ≤ m.Now - m.Sabbath)) (by omega) (rb_add (p := 32) (w := decide (b.Round - b.Reduced ≤ m.Now - m.Dawn)) (by omega) hx)
  unfold lateR; omega
theorem drivenR_le {b : Book} {m : Meter} {k x : Int} (hx : 0 ≤ x ∧ x ≤ 480) : 0 ≤ drivenR b m k x ∧ drivenR b m k x ≤ 511 := by
  unfold drivenR droveR
  have h1 := rb_le (p := 1) (by omega) (decide (b.Drive < m.Acc + 1))
  have h2 := rb_le (p := 4) (by omega) (decide (b.Longers < m.Longers + 1))
  have h3 := rb_le (p := 2) (by omega) (decide (b.Longer < m.Day + 1))
  have h4 := rb_le (p := 8) (by omega) (decide (b.Week < m.Week + 1))
  have h5 := rb_le (p := 16) (by omega) (decide (b.Fortnight < m.Week + 1 + m.Last))
  split
  · split <;> omega
  · omega
theorem stepR_le (b : Book) (m : Meter) (k : Int) : 0 ≤ stepR b m k ∧ stepR b m k ≤ 1023 := by
  unfold stepR workedR
  split
  · omega
  · have h1 := drivenR_le (b := b) (m := (m.turn b).up b) (k := k) (lateR_le (b := b) (m := (m.turn b).up b) (upR_le b (m.turn b)))
    split
    · have := rb_le (p := 512) (by omega) (decide (b.Labour < (((m.turn b).up b).driven b k).Labour + 1)); omega
    · omega

end Go.Hl

/- The program's set of clauses is the reference's; the reference's run.  -/
set_option linter.unusedVariables false
set_option linter.unusedSimpArgs false
namespace Go.Hl
open Go.Gh Go.Proofs

def rbN (p : Nat) (w : Bool) : Nat := if w then p else 0
theorem rb_cast (p : Nat) (w : Bool) : rb (p : Int) w = ((rbN p w : Nat) : Int) := by cases w <;> rfl
theorem orI_cast {a b : Nat} (ha : a < 2 ^ 62) (hb : b < 2 ^ 62) : orI (a : Int) (b : Int) = ((a ||| b : Nat) : Int) := by
  have h : a ||| b < 2 ^ 62 := Nat.or_lt_two_pow ha hb
  unfold orI
  have e1 : (BitVec.ofInt 64 (a : Int) ||| BitVec.ofInt 64 (b : Int)).toNat = a ||| b := by
    rw [BitVec.toNat_or, BitVec.toNat_ofInt, BitVec.toNat_ofInt]
    have h1 : ((a : Int) % ((2 ^ 64 : Nat) : Int)).toNat = a := by omega
    have h2 : ((b : Int) % ((2 ^ 64 : Nat) : Int)).toNat = b := by omega
    rw [h1, h2]
  rw [e1, IntKind.wrap_i64]
  omega
theorem setIf_cast {a p : Nat} (ha : a < 2 ^ 62) (hp : p < 2 ^ 62) (c : Bool) : setIf (a : Int) (p : Int) c = ((a ||| rbN p c : Nat) : Int) := by
  cases c
  · simp [setIf, rbN]
  · simp only [setIf, rbN, if_true]; exact orI_cast ha hp
theorem setIf_cast2 {a p : Nat} {x : Int} (hx : x = (a : Int)) (ha : a < 2 ^ 62) (hp : p < 2 ^ 62) (w : Prop) [Decidable w] (c : Bool) : (if w then setIf x (p : Int) c else x) = ((a ||| rbN p (decide w && c) : Nat) : Int) := by
  subst hx
  by_cases h : w
  · rw [if_pos h, setIf_cast ha hp]; simp [h]
  · rw [if_neg h]; simp [h, rbN]
theorem or_lt {a p : Nat} {c : Bool} (ha : a < 1024) (hp : p < 1024) : a ||| rbN p c < 1024 := by
  have : rbN p c < 1024 := by unfold rbN; split <;> omega
  exact Nat.or_lt_two_pow (n := 10) ha this

theorem flags : ∀ (c8 c6 c5 c7 c0 c2 c1 c3 c4 c9 : Bool),
    rbN 256 c8 + rbN 64 c6 + rbN 32 c5 + rbN 128 c7 + rbN 1 c0 + rbN 4 c2 + rbN 2 c1 + rbN 8 c3 + rbN 16 c4 + rbN 512 c9 =
    (((((((((rbN 256 c8 ||| rbN 64 c6) ||| rbN 32 c5) ||| rbN 128 c7) ||| rbN 4 c2) ||| rbN 1 c0) ||| rbN 2 c1) ||| rbN 8 c3) ||| rbN 16 c4) ||| rbN 512 c9) := by decide +kernel

def stepN (b : Book) (m : Meter) (k : Int) : Nat := (stepR b m k).toNat
theorem stepN_cast (b : Book) (m : Meter) (k : Int) : stepR b m k = ((stepN b m k : Nat) : Int) := by
  have := stepR_le b m k
  unfold stepN; omega
theorem stepN_lt (b : Book) (m : Meter) (k : Int) : stepN b m k < 1024 := by
  have := stepR_le b m k
  unfold stepN; omega

theorem stepBits_or (b : Book) (m : Meter) (k : Int) (n : Nat) (hn : n < 1024) : stepBits b m k (n : Int) = ((n ||| stepN b m k : Nat) : Int) := by
  by_cases hk : k = 0
  · subst hk
    have h0 : stepN b m 0 = 0 := by unfold stepN stepR; rw [if_pos rfl]; rfl
    rw [h0]; unfold stepBits; rw [if_pos rfl]; simp
  -- the flags
  let m0 := m.turn b
  let W := m0.worth b
  let m1 := m0.up b
  let m2 := m1.driven b k
  let c8 : Bool := decide (0 < m0.Lie) && (W.Weekly && (W.Brief && m0.Brief))
  let c6 : Bool := decide (0 < m0.Lie) && (W.Reduced && decide (b.Reduces < (m0.rise1 W).Reduces + 1))
  let c5 : Bool := decide (b.Round - b.Reduced ≤ m1.Now - m1.Dawn)
  let c7 : Bool := decide (b.Rounds ≤ m1.Now - m1.Sabbath)
  let c2 : Bool := decide (k = 3) && (decide (m1.Day + 1 = b.Day + 1) && decide (b.Longers < m1.Longers + 1))
  let c0 : Bool := decide (k = 3) && decide (b.Drive < m1.Acc + 1)
  let c1 : Bool := decide (k = 3) && decide (b.Longer < m1.Day + 1)
  let c3 : Bool := decide (k = 3) && decide (b.Week < m1.Week + 1)
  let c4 : Bool := decide (k = 3) && decide (b.Fortnight < m1.Week + 1 + m1.Last)
  let c9 : Bool := decide (k ≠ 1) && decide (b.Labour < m2.Labour + 1)
  have hR : stepN b m k = rbN 256 c8 + rbN 64 c6 + rbN 32 c5 + rbN 128 c7 + rbN 1 c0 + rbN 4 c2 + rbN 2 c1 + rbN 8 c3 + rbN 16 c4 + rbN 512 c9 := by
    have e : stepR b m k = rb 256 c8 + rb 64 c6 + rb 32 c5 + rb 128 c7 + rb 1 c0 + rb 4 c2 + rb 2 c1 + rb 8 c3 + rb 16 c4 + rb 512 c9 := by
      show (if k = 0 then 0 else workedR b m2 k (drivenR b m1 k (lateR b m1 (upR b m0)))) = _
      rw [if_neg hk]
      have e1 : upR b m0 = rb 256 c8 + rb 64 c6 := by
        show (if 0 < m0.Lie then (if W.Weekly = true then rb 256 (W.Brief && m0.Brief) else 0) + (if W.Reduced = true then rb 64 (decide (b.Reduces < (m0.rise1 W).Reduces + 1)) else 0) else 0) = _
        by_cases h : 0 < m0.Lie
        · simp only [c8, c6, h, if_true, decide_true, Bool.true_and]
          cases W.Weekly <;> cases W.Reduced <;> simp [rb]
        · simp [c8, c6, h, rb]
      have e2 : drivenR b m1 k (lateR b m1 (upR b m0)) = rb 256 c8 + rb 64 c6 + rb 32 c5 + rb 128 c7 + rb 1 c0 + rb 4 c2 + rb 2 c1 + rb 8 c3 + rb 16 c4 := by
        rw [e1]
        by_cases h : k = 3
        · simp only [drivenR, h, if_true, droveR, lateR, c0, c1, c2, c3, c4, c5, c7, decide_true, Bool.true_and]
          by_cases h2 : m1.Day + 1 = b.Day + 1
          · simp only [h2, if_true, decide_true, Bool.true_and]
          · simp only [h2, if_false, decide_false, Bool.false_and]; simp [rb]
        · simp only [drivenR, h, if_false, lateR, c0, c1, c2, c3, c4, c5, c7, decide_false, Bool.false_and]; simp [rb]
      rw [e2]
      by_cases h : k = 1
      · simp [workedR, h, c9, rb]
      · simp [workedR, h, c9]
    have e' := (stepN_cast b m k).symm.trans e
    rw [show (256 : Int) = ((256 : Nat) : Int) from rfl, show (64 : Int) = ((64 : Nat) : Int) from rfl, show (32 : Int) = ((32 : Nat) : Int) from rfl, show (128 : Int) = ((128 : Nat) : Int) from rfl, show (1 : Int) = ((1 : Nat) : Int) from rfl, show (4 : Int) = ((4 : Nat) : Int) from rfl, show (2 : Int) = ((2 : Nat) : Int) from rfl, show (8 : Int) = ((8 : Nat) : Int) from rfl, show (16 : Int) = ((16 : Nat) : Int) from rfl, show (512 : Int) = ((512 : Nat) : Int) from rfl] at e'
    simp only [rb_cast] at e'
    omega
  rw [hR, flags]
  have z : ∀ {a : Nat}, a < 1024 → a < 2 ^ 62 := fun h => by omega
  have hB : stepBits b m k (n : Int) = ((((((((((((n ||| rbN 256 c8) ||| rbN 64 c6) ||| rbN 32 c5) ||| rbN 128 c7) ||| rbN 4 c2) ||| rbN 1 c0) ||| rbN 2 c1) ||| rbN 8 c3) ||| rbN 16 c4) ||| rbN 512 c9 : Nat)) : Int) := by
    show (if k = 0 then (n : Int) else workedBits b m2 k (drivenBits b m1 k (lateBits b m1 (upBits b m0 n)))) = _
    rw [if_neg hk]
    have l0 : n ||| rbN 256 c8 < 1024 := or_lt hn (by omega)
    have l1 : n ||| rbN 256 c8 ||| rbN 64 c6 < 1024 := or_lt l0 (by omega)
    have l2 : n ||| rbN 256 c8 ||| rbN 64 c6 ||| rbN 32 c5 < 1024 := or_lt l1 (by omega)
    have l3 : n ||| rbN 256 c8 ||| rbN 64 c6 ||| rbN 32 c5 ||| rbN 128 c7 < 1024 := or_lt l2 (by omega)
    have l4 : n ||| rbN 256 c8 ||| rbN 64 c6 ||| rbN 32 c5 ||| rbN 128 c7 ||| rbN 4 c2 < 1024 := or_lt l3 (by omega)
    have l5 : n ||| rbN 256 c8 ||| rbN 64 c6 ||| rbN 32 c5 ||| rbN 128 c7 ||| rbN 4 c2 ||| rbN 1 c0 < 1024 := or_lt l4 (by omega)
    have l6 : n ||| rbN 256 c8 ||| rbN 64 c6 ||| rbN 32 c5 ||| rbN 128 c7 ||| rbN 4 c2 ||| rbN 1 c0 ||| rbN 2 c1 < 1024 := or_lt l5 (by omega)
    have l7 : n ||| rbN 256 c8 ||| rbN 64 c6 ||| rbN 32 c5 ||| rbN 128 c7 ||| rbN 4 c2 ||| rbN 1 c0 ||| rbN 2 c1 ||| rbN 8 c3 < 1024 := or_lt l6 (by omega)
    have l8 : n ||| rbN 256 c8 ||| rbN 64 c6 ||| rbN 32 c5 ||| rbN 128 c7 ||| rbN 4 c2 ||| rbN 1 c0 ||| rbN 2 c1 ||| rbN 8 c3 ||| rbN 16 c4 < 1024 := or_lt l7 (by omega)
    have e1 : upBits b m0 n = ((n ||| rbN 256 c8 ||| rbN 64 c6 : Nat) : Int) := by
      show (if 0 < m0.Lie then (if W.Reduced = true then setIf (if W.Weekly = true then setIf (n : Int) 256 (W.Brief && m0.Brief) else (n : Int)) 64 (decide (b.Reduces < (m0.rise1 W).Reduces + 1)) else (if W.Weekly = true then setIf (n : Int) 256 (W.Brief && m0.Brief) else (n : Int))) else (n : Int)) = _
      have q1 := setIf_cast2 (a := n) (p := 256) rfl (z hn) (by omega) (W.Weekly = true) (W.Brief && m0.Brief)
      by_cases h : 0 < m0.Lie
      · have c8e : c8 = (decide (W.Weekly = true) && (W.Brief && m0.Brief)) := by simp [c8, h]
        have c6e : c6 = (decide (W.Reduced = true) && decide (b.Reduces < (m0.rise1 W).Reduces + 1)) := by simp [c6, h]
        rw [if_pos h]
        rw [← c8e] at q1
        rw [c6e]
        exact setIf_cast2 (p := 64) q1 (z l0) (by omega) (W.Reduced = true) _
      · rw [if_neg h]; simp [c8, c6, h, rbN]
    have e2 : lateBits b m1 (upBits b m0 n) = ((n ||| rbN 256 c8 ||| rbN 64 c6 ||| rbN 32 c5 ||| rbN 128 c7 : Nat) : Int) := by
      rw [e1]; unfold lateBits
      have q1 := setIf_cast (z l1) (p := 32) (by omega) c5
      have q2 := setIf_cast (z l2) (p := 128) (by omega) c7
      rw [← q1] at q2; exact q2
    have e3 : drivenBits b m1 k (lateBits b m1 (upBits b m0 n)) = ((n ||| rbN 256 c8 ||| rbN 64 c6 ||| rbN 32 c5 ||| rbN 128 c7 ||| rbN 4 c2 ||| rbN 1 c0 ||| rbN 2 c1 ||| rbN 8 c3 ||| rbN 16 c4 : Nat) : Int) := by
      rw [e2]; unfold drivenBits
      by_cases h : k = 3
      · rw [if_pos h]; unfold droveBits
        have q1 := setIf_cast2 (p := 4) rfl (z l3) (by omega) (m1.Day + 1 = b.Day + 1) (decide (b.Longers < m1.Longers + 1))
        have c2e : c2 = (decide (m1.Day + 1 = b.Day + 1) && decide (b.Longers < m1.Longers + 1)) := by simp [c2, h]
        rw [← c2e] at q1
        have q2 := setIf_cast (z l4) (p := 1) (by omega) c0
        have q3 := setIf_cast (z l5) (p := 2) (by omega) c1
        have q4 := setIf_cast (z l6) (p := 8) (by omega) c3
        have q5 := setIf_cast (z l7) (p := 16) (by omega) c4
        rw [← q4, ← q3, ← q2, ← q1] at q5
        rw [← q5]
        simp only [c0, c1, c3, c4, h, decide_true, Bool.true_and]; rfl
      · rw [if_neg h]; simp [c2, c0, c1, c3, c4, h, rbN]
    rw [e3]; unfold workedBits
    have q := setIf_cast2 (p := 512) rfl (z l8) (by omega) (k ≠ 1) (decide (b.Labour < m2.Labour + 1))
    exact q
  rw [hB]
  simp only [Nat.or_assoc]

end Go.Hl
