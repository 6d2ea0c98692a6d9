/- Contracts of functions, bundle H10; proved for whatever the arguments' types allow, as each theorem says. -/
import Derived.Test.YtfkfmcdclflhjaaH5
import Derived.Test.YtfkfmcdclflhjaaH2

/- Who is nowhere worse stays so: plain law, and BelowKeeps.  -/
set_option linter.unusedVariables false
set_option linter.unusedSimpArgs false
namespace Go.Hl
open Go.Gh Go.Proofs

/-- x is nowhere worse than y, whether or not they may be. -/
structure Und (b : Book) (x y : Meter) : Prop where
  now : x.Now = y.Now
  lie : x.Lie = y.Lie
  half : x.Half = y.Half
  acc : x.Acc ≤ y.Acc
  day : x.Day ≤ y.Day
  reduces : x.Reduces ≤ y.Reduces
  week : x.Week ≤ y.Week
  last : x.Last ≤ y.Last
  labour : x.Labour ≤ y.Labour
  dawn : y.Dawn ≤ x.Dawn
  sabbath : y.Sabbath ≤ x.Sabbath
  split : y.Split = true → x.Split = true
  brief : x.Brief = true → y.Brief = true
  spent : if x.Day ≤ b.Day ∧ b.Day < y.Day then x.Longers < y.Longers ∧ x.Longers < b.Longers else x.Longers ≤ y.Longers
theorem Under.und {b : Book} {x y : Meter} (h : Under b x y) : Und b x y := ⟨h.now, h.lie, h.half, h.acc, h.day, h.reduces, h.week, h.last, h.labour, h.dawn, h.sabbath, h.split, h.brief, h.spent⟩
theorem Und.under {b : Book} {x y : Meter} (h : Und b x y) (hb : b.May) (hx : x.May) (hy : y.May) : Under b x y := ⟨hb, hx, hy, h.now, h.lie, h.half, h.acc, h.day, h.reduces, h.week, h.last, h.labour, h.dawn, h.sabbath, h.split, h.brief, h.spent⟩

theorem Und.turn {b : Book} {x y : Meter} (h : Und b x y) : Und b (x.turn b) (y.turn b) := by
  obtain ⟨h1, h2, h3, h4, h5, h6, h7, h8, h9, h10, h11, h12, h13, h14⟩ := h
  unfold Meter.turn
  rw [h1]
  split
  · exact ⟨rfl, h2, h3, h4, h5, h6, Int.le_refl _, h7, Int.le_refl _, h10, h11, h12, h13, h14⟩
  · exact ⟨h1, h2, h3, h4, h5, h6, h7, h8, h9, h10, h11, h12, h13, h14⟩

theorem rose_eq (b : Book) (m : Meter) : m.rose b = { m with
    Acc := if (m.worth b).Break then 0 else m.Acc
    Half := if (m.worth b).Daily then false else (m.worth b).Half
    Split := if (m.worth b).Daily then false else (m.Split || (m.worth b).Part)
    Lie := 0
    Dawn := if (m.worth b).Daily then m.Now else m.Dawn
    Day := if (m.worth b).Daily then 0 else m.Day
    Longers := if (m.worth b).Weekly then 0 else m.Longers
    Reduces := if (m.worth b).Reduced then (if (m.worth b).Weekly then 0 else m.Reduces) + 1 else if (m.worth b).Weekly then 0 else m.Reduces
    Sabbath := if (m.worth b).Weekly then m.Now else m.Sabbath
    Brief := if (m.worth b).Weekly then (m.worth b).Brief else m.Brief } := by
  unfold Meter.rose
  generalize m.worth b = W
  obtain ⟨w1, w2, w3, w4, w5, w6, w7⟩ := W
  cases w6 <;> cases w5 <;> cases w1 <;> cases w4 <;> rfl

theorem worth_same {b : Book} {x y : Meter} (h1 : x.Now = y.Now) (h2 : x.Lie = y.Lie) (h3 : x.Half = y.Half) : (x.worth b).Break = (y.worth b).Break ∧ (x.worth b).Half = (y.worth b).Half ∧ (x.worth b).Part = (y.worth b).Part ∧ (x.worth b).Daily = (y.worth b).Daily ∧ (x.worth b).Weekly = (y.worth b).Weekly ∧ (x.worth b).Brief = (y.worth b).Brief := by
  unfold Meter.worth worth
  dsimp only
  rw [h1, h2, h3]
  exact ⟨rfl, rfl, rfl, rfl, rfl, rfl⟩
theorem worth_less {b : Book} {x y : Meter} (h1 : x.Now = y.Now) (h2 : x.Lie = y.Lie) (h3 : y.Dawn ≤ x.Dawn) (h4 : y.Split = true → x.Split = true) (hr : (x.worth b).Reduced = true) : (y.worth b).Reduced = true := by
  unfold Meter.worth worth inDay dawnOf at *
  rw [h1, h2] at hr
  simp only [Bool.and_eq_true, decide_eq_true_eq, Bool.not_eq_true', decide_eq_false_iff_not] at hr ⊢
  obtain ⟨g1, g2, g3, g4⟩ := hr
  refine ⟨g1, g2, ?_, ?_⟩
  · cases hy : y.Split with
    | false => rfl
    | true => rw [h4 hy] at g3; cases g3
  · split at g4 <;> split at g4 <;> (try split) <;> (try split) <;> omega
theorem worth_week {b : Book} {m : Meter} (hb : b.May) (h : (m.worth b).Weekly = true) : (m.worth b).Daily = true ∧ (m.worth b).Reduced = false := by
  have h1 := hb.regular
  have h2 := hb.reduced
  unfold Meter.worth worth at *
  simp only [decide_eq_true_eq] at h
  simp only [decide_eq_true_eq, Bool.and_eq_false_iff, Bool.not_eq_false', decide_eq_true_eq]
  exact ⟨by omega, .inr (.inl (by omega))⟩

theorem rb_0 {p : Int} {w : Bool} (hp : 0 < p) (h : rb p w = 0) : w = false := by
  cases w with
  | false => rfl
  | true => simp [rb] at h; omega
theorem rb_f {p : Int} {w : Bool} (h : w = false) : rb p w = 0 := by subst h; rfl

theorem Und.up {b : Book} {x y : Meter} (h : Und b x y) (hb : b.May) (hx : 0 ≤ x.Lie) (hz : upR b y = 0) : upR b x = 0 ∧ Und b (x.up b) (y.up b) := by
  unfold upR Meter.up at *
  rw [← h.lie] at *
  by_cases hl : 0 < x.Lie
  case neg => simp only [if_neg hl] at *; exact ⟨trivial, h⟩
  case pos =>
    simp only [if_pos hl] at *
    obtain ⟨h1, h2, h3, h4, h5, h6, h7, h8, h9, h10, h11, h12, h13, h14⟩ := h
    obtain ⟨e1, e2, e3, e4, e5, e6⟩ := worth_same (b := b) h1 h2 h3
    have e7 := worth_less (b := b) h1 h2 h10 h12
    have e8 := worth_week (b := b) (m := y) hb
    rw [rose_eq, rose_eq]
    unfold endsR Meter.rise1 at *
    rw [e1, e2, e3, e4, e5, e6]
    cases hw : (y.worth b).Weekly with
    | true =>
      obtain ⟨f1, f2⟩ := e8 hw
      have f3 : (x.worth b).Reduced = false := by
        cases hr : (x.worth b).Reduced with
        | false => rfl
        | true => rw [e7 hr] at f2; cases f2
      simp only [hw, f1, f2, f3] at *
      simp only [if_true, Bool.false_eq_true, if_false, Int.add_zero, and_self, and_true, true_and] at *
      have g := rb_0 (by omega) hz
      refine ⟨rb_f ?_, ⟨h1, rfl, rfl, ?_, Int.le_refl _, Int.le_refl _, h7, h8, h9, by dsimp only; omega, by dsimp only; omega, fun h => h, fun h => h, ?_⟩⟩
      · cases hb : (y.worth b).Brief with
        | false => rfl
        | true =>
          rw [hb] at g
          cases hxb : x.Brief with
          | false => rfl
          | true => rw [h13 hxb] at g; cases g
      · dsimp only; split <;> omega
      · dsimp only; split <;> omega
    | false =>
      simp only [hw] at *
      simp only [Bool.false_eq_true, if_false, Int.zero_add] at *
      have key : (if (x.worth b).Reduced = true then x.Reduces + 1 else x.Reduces) ≤ (if (y.worth b).Reduced = true then y.Reduces + 1 else y.Reduces) := by
        cases hr : (x.worth b).Reduced with
        | true => rw [e7 hr]; simp only [if_true]; omega
        | false => simp only [Bool.false_eq_true, if_false]; split <;> omega
      refine ⟨?_, ⟨h1, rfl, rfl, ?_, ?_, key, h7, h8, h9, ?_, h11, ?_, h13, ?_⟩⟩
      · cases hr : (x.worth b).Reduced with
        | false => rfl
        | true =>
          rw [e7 hr] at hz
          simp only [if_true] at *
          have := rb_0 (by omega) hz
          simp only [decide_eq_false_iff_not] at this
          refine rb_f ?_
          simp only [decide_eq_false_iff_not]; omega
      · dsimp only; split <;> omega
      · dsimp only; split <;> omega
      · dsimp only; split <;> omega
      · dsimp only; split
        · exact fun h => h
        · intro h
          rcases (Bool.or_eq_true _ _).mp h with h | h
          · rw [h12 h]; rfl
          · rw [h]; simp
      · cases hd : (y.worth b).Daily with
        | true => simp only [if_true]; split at h14 <;> (try split) <;> omega
        | false => simpa using h14

theorem Und.late {b : Book} {x y : Meter} (h : Und b x y) {p q : Int} (hq : 0 ≤ q) (hpq : q = 0 → p = 0) (hz : lateR b y q = 0) : q = 0 ∧ lateR b x p = 0 := by
  unfold lateR at *
  have r1 := rb_le (show (0 : Int) ≤ 32 by omega) (decide (b.Round - b.Reduced ≤ y.Now - y.Dawn))
  have r2 := rb_le (show (0 : Int) ≤ 128 by omega) (decide (b.Rounds ≤ y.Now - y.Sabbath))
  have g1 := rb_0 (p := 32) (by omega) (show rb 32 (decide (b.Round - b.Reduced ≤ y.Now - y.Dawn)) = 0 by omega)
  have g2 := rb_0 (p := 128) (by omega) (show rb 128 (decide (b.Rounds ≤ y.Now - y.Sabbath)) = 0 by omega)
  simp only [decide_eq_false_iff_not] at g1 g2
  have h1 := h.now
  have h2 := h.dawn
  have h3 := h.sabbath
  have q0 : q = 0 := by omega
  refine ⟨q0, ?_⟩
  rw [hpq q0, rb_f (p := 32) (w := decide (b.Round - b.Reduced ≤ x.Now - x.Dawn)) (by simp only [decide_eq_false_iff_not]; omega), rb_f (p := 128) (w := decide (b.Rounds ≤ x.Now - x.Sabbath)) (by simp only [decide_eq_false_iff_not]; omega)]
  rfl

theorem Und.driven {b : Book} {x y : Meter} (h : Und b x y) (k : Int) {p q : Int} (hq : 0 ≤ q) (hpq : q = 0 → p = 0) (hz : drivenR b y k q = 0) : q = 0 ∧ drivenR b x k p = 0 ∧ Und b (x.driven b k) (y.driven b k) := by
  unfold drivenR Meter.driven at *
  by_cases hk : k = 3
  case neg => simp only [if_neg hk] at *; exact ⟨hz, hpq hz, h⟩
  case pos =>
    simp only [if_pos hk] at *
    obtain ⟨h1, h2, h3, h4, h5, h6, h7, h8, h9, h10, h11, h12, h13, h14⟩ := h
    unfold droveR at *
    have r1 := rb_le (show (0 : Int) ≤ 1 by omega) (decide (b.Drive < y.Acc + 1))
    have r2 := rb_le (show (0 : Int) ≤ 4 by omega) (decide (b.Longers < y.Longers + 1))
    have r3 := rb_le (show (0 : Int) ≤ 2 by omega) (decide (b.Longer < y.Day + 1))
    have r4 := rb_le (show (0 : Int) ≤ 8 by omega) (decide (b.Week < y.Week + 1))
    have r5 := rb_le (show (0 : Int) ≤ 16 by omega) (decide (b.Fortnight < y.Week + 1 + y.Last))
    have g : q = 0 ∧ rb 1 (decide (b.Drive < y.Acc + 1)) = 0 ∧ (y.Day + 1 = b.Day + 1 → rb 4 (decide (b.Longers < y.Longers + 1)) = 0) ∧ rb 2 (decide (b.Longer < y.Day + 1)) = 0 ∧ rb 8 (decide (b.Week < y.Week + 1)) = 0 ∧ rb 16 (decide (b.Fortnight < y.Week + 1 + y.Last)) = 0 := by
      split at hz
      · exact ⟨by omega, by omega, fun _ => by omega, by omega, by omega, by omega⟩
      · exact ⟨by omega, by omega, fun h => absurd h (by assumption), by omega, by omega, by omega⟩
    obtain ⟨q0, g1, g2, g3, g4, g5⟩ := g
    have g1 := rb_0 (by omega) g1
    have g2 := fun e => rb_0 (by omega) (g2 e)
    have g3 := rb_0 (by omega) g3
    have g4 := rb_0 (by omega) g4
    have g5 := rb_0 (by omega) g5
    simp only [decide_eq_false_iff_not] at g1 g2 g3 g4 g5
    have s2 : x.Day + 1 = b.Day + 1 → ¬ b.Longers < x.Longers + 1 := by
      intro e
      split at h14
      · omega
      · by_cases e2 : y.Day + 1 = b.Day + 1
        · have := g2 e2; omega
        · omega
    refine ⟨q0, ?_, ?_⟩
    · rw [hpq q0, rb_f (p := 1) (w := decide (b.Drive < x.Acc + 1)) (by simp only [decide_eq_false_iff_not]; omega), rb_f (p := 2) (w := decide (b.Longer < x.Day + 1)) (by simp only [decide_eq_false_iff_not]; omega), rb_f (p := 8) (w := decide (b.Week < x.Week + 1)) (by simp only [decide_eq_false_iff_not]; omega), rb_f (p := 16) (w := decide (b.Fortnight < x.Week + 1 + x.Last)) (by simp only [decide_eq_false_iff_not]; omega)]
      split
      · rename_i e
        rw [rb_f (p := 4) (w := decide (b.Longers < x.Longers + 1)) (by simp only [decide_eq_false_iff_not]; exact s2 e)]; rfl
      · rfl
    · unfold Meter.drove Meter.droveL
      refine ⟨h1, h2, h3, ?_, ?_, h6, ?_, h8, h9, h10, h11, h12, h13, ?_⟩
      · dsimp only; omega
      · dsimp only; omega
      · dsimp only; omega
      · dsimp only
        by_cases e1 : x.Day + 1 = b.Day + 1 <;> by_cases e2 : y.Day + 1 = b.Day + 1
        · have := g2 e2
          simp only [if_pos e1, if_pos e2]; split at h14 <;> split <;> omega
        · have := s2 e1
          simp only [if_pos e1, if_neg e2]; split at h14 <;> split <;> omega
        · have := g2 e2
          simp only [if_neg e1, if_pos e2]; split at h14 <;> split <;> omega
        · simp only [if_neg e1, if_neg e2]; split at h14 <;> split <;> omega

theorem Und.worked {b : Book} {x y : Meter} (h : Und b x y) (k : Int) {p q : Int} (hq : 0 ≤ q) (hpq : q = 0 → p = 0) (hz : workedR b y k q = 0) : q = 0 ∧ workedR b x k p = 0 ∧ Und b (x.worked k) (y.worked k) := by
  unfold workedR Meter.worked at *
  by_cases hk : k = 1
  case pos => simp only [hk, ne_eq, not_true_eq_false, if_false] at *; exact ⟨hz, hpq hz, h⟩
  case neg =>
    simp only [ne_eq, hk, not_false_eq_true, if_true] at *
    have r1 := rb_le (show (0 : Int) ≤ 512 by omega) (decide (b.Labour < y.Labour + 1))
    have g1 := rb_0 (p := 512) (by omega) (show rb 512 (decide (b.Labour < y.Labour + 1)) = 0 by omega)
    simp only [decide_eq_false_iff_not] at g1
    have h9 := h.labour
    have q0 : q = 0 := by omega
    refine ⟨q0, ?_, ⟨h.now, h.lie, h.half, h.acc, h.day, h.reduces, h.week, h.last, by dsimp only; omega, h.dawn, h.sabbath, h.split, h.brief, h.spent⟩⟩
    rw [hpq q0, rb_f (p := 512) (w := decide (b.Labour < x.Labour + 1)) (by simp only [decide_eq_false_iff_not]; omega)]
    rfl

theorem under_step {b : Book} {x y : Meter} (h : Under b x y) (hn : y.Now < 40320) (k : Int) (hz : stepR b y k = 0) : stepR b x k = 0 ∧ Under b (x.step b k) (y.step b k) := by
  have hxn : x.Now < 40320 := by rw [h.now]; exact hn
  have mx := (h.mx.step (b := b) hxn k).1
  have my := (h.my.step (b := b) hn k).1
  have ht := h.und.turn
  unfold stepR Meter.step at *
  by_cases hk : k = 0
  · simp only [if_pos hk] at *
    have hu : Und b { x.turn b with Lie := (x.turn b).Lie + 1, Now := (x.turn b).Now + 1 } { y.turn b with Lie := (y.turn b).Lie + 1, Now := (y.turn b).Now + 1 } := by
      have e1 := ht.now
      have e2 := ht.lie
      exact ⟨by dsimp only; omega, by dsimp only; omega, ht.half, ht.acc, ht.day, ht.reduces, ht.week, ht.last, ht.labour, ht.dawn, ht.sabbath, ht.split, ht.brief, ht.spent⟩
    exact ⟨trivial, hu.under h.book mx my⟩
  · simp only [if_neg hk] at *
    have b1 := upR_le b (y.turn b)
    have b2 := lateR_le (b := b) (m := (y.turn b).up b) b1
    have b3 := drivenR_le (b := b) (m := (y.turn b).up b) (k := k) b2
    have hlie : 0 ≤ (x.turn b).Lie := by have := h.mx.lie; unfold Meter.turn; split <;> exact this.1
    by_cases hu : upR b (y.turn b) = 0
    · obtain ⟨u1, u2⟩ := ht.up h.book hlie hu
      have l1 := fun e => (u2.late (p := upR b (x.turn b)) b1.1 (fun _ => u1) e).2
      have d1 := u2.driven k (p := lateR b ((x.turn b).up b) (upR b (x.turn b))) b2.1 l1
      have hd : drivenR b ((y.turn b).up b) k (lateR b ((y.turn b).up b) (upR b (y.turn b))) = 0 := by
        unfold workedR at hz
        have r1 := rb_le (show (0 : Int) ≤ 512 by omega) (decide (b.Labour < (((y.turn b).up b).driven b k).Labour + 1))
        split at hz <;> omega
      obtain ⟨d2, d3, d4⟩ := d1 hd
      obtain ⟨w1, w2, w3⟩ := d4.worked k (p := drivenR b ((x.turn b).up b) k (lateR b ((x.turn b).up b) (upR b (x.turn b)))) b3.1 (fun _ => d3) hz
      have hu : Und b { ((((x.turn b).up b).driven b k).worked k) with Now := ((((x.turn b).up b).driven b k).worked k).Now + 1 } { ((((y.turn b).up b).driven b k).worked k) with Now := ((((y.turn b).up b).driven b k).worked k).Now + 1 } := by
        have e1 := w3.now
        exact ⟨by dsimp only; omega, w3.lie, w3.half, w3.acc, w3.day, w3.reduces, w3.week, w3.last, w3.labour, w3.dawn, w3.sabbath, w3.split, w3.brief, w3.spent⟩
      exact ⟨w2, hu.under h.book mx my⟩
    · exfalso
      unfold workedR drivenR droveR lateR at hz
      have r1 := rb_le (show (0 : Int) ≤ 512 by omega) (decide (b.Labour < (((y.turn b).up b).driven b k).Labour + 1))
      have r2 := rb_le (show (0 : Int) ≤ 32 by omega) (decide (b.Round - b.Reduced ≤ ((y.turn b).up b).Now - ((y.turn b).up b).Dawn))
      have r3 := rb_le (show (0 : Int) ≤ 128 by omega) (decide (b.Rounds ≤ ((y.turn b).up b).Now - ((y.turn b).up b).Sabbath))
      have r4 := rb_le (show (0 : Int) ≤ 1 by omega) (decide (b.Drive < ((y.turn b).up b).Acc + 1))
      have r5 := rb_le (show (0 : Int) ≤ 4 by omega) (decide (b.Longers < ((y.turn b).up b).Longers + 1))
      have r6 := rb_le (show (0 : Int) ≤ 2 by omega) (decide (b.Longer < ((y.turn b).up b).Day + 1))
      have r7 := rb_le (show (0 : Int) ≤ 8 by omega) (decide (b.Week < ((y.turn b).up b).Week + 1))
      have r8 := rb_le (show (0 : Int) ≤ 16 by omega) (decide (b.Fortnight < ((y.turn b).up b).Week + 1 + ((y.turn b).up b).Last))
      split at hz <;> split at hz <;> (try split at hz) <;> omega

theorem run1 {b : Book} {m : Meter} (hb : b.May) (hm : m.May) (k : Int) : runAll b m [k] = if k < 0 ∨ 4 ≤ k then (Meter.zero, 0, 2) else if m.Now = 40320 then (Meter.zero, 0, 4) else (m.step b k, stepR b m k, 0) := by
  unfold runAll
  rw [if_pos hb, if_pos hm, runM_cons]
  have : stepBits b m k 0 = stepR b m k := by
    have h := stepBits_or b m k 0 (by omega)
    rw [stepN_cast]; simpa using h
  rw [this]; rfl
theorem keep {b : Book} {x y : Meter} {k : Int} (h : Under b x y) (he : (runAll b y [k]).2.2 = 0) (hp : (runAll b y [k]).2.1 = 0) : (runAll b x [k]).2.2 = 0 ∧ (runAll b x [k]).2.1 = 0 ∧ Under b (runAll b x [k]).1 (runAll b y [k]).1 := by
  rw [run1 h.book h.mx] at *
  rw [run1 h.book h.my] at *
  by_cases h1 : k < 0 ∨ 4 ≤ k
  · rw [if_pos h1] at he; cases he
  · rw [if_neg h1] at *
    rw [if_neg h1] at *
    by_cases h2 : y.Now = 40320
    · rw [if_pos h2] at he; cases he
    · have h3 : ¬ x.Now = 40320 := by rw [h.now]; exact h2
      rw [if_neg h2] at *
      rw [if_neg h3] at *
      have := under_step h (by have := h.my.now; omega) k hp
      exact ⟨rfl, this.1, this.2⟩

def pl_E4_1 : Nat → Option (List Nat × List Nat) := (fun k => bif Nat.beq k 5 then some ([1000005, 3, 7, 8, 34, 35, 36], [103, 107, 108]) else none)
set_option maxRecDepth 100000 in
set_option maxHeartbeats 1000000 in
theorem belowKeeps_ok (b : Book) (x y : Meter) (ks : List Int) : ICalls Try.prog 13 [b.g, .agg (x.c ++ y.c), .list 1 (ints ks) none] [] (Done (gb true) []) := by
  refine ICalls.of_body Try.func13 rfl Try.call13 rfl (Nat.le_of_ble_eq_true rfl) pl_E4_1 ?_
  repeat' ((conv => whnf); first
    | refine Br.yes rfl ?_
    | refine Br.no rfl ?_
    | refine Elem.mapN (by omega) (fun k hk => ?_)
    | (refine ILoop.ov 1000005 (fun ((i, mm, nn) : Nat × Meter × Meter) => [(36, gi i)]) (fun ((i, mm, nn) : Nat × Meter × Meter) => [(107, .cells (mm.c)), (108, .cells (nn.c))]) (fun ((i, mm, nn) : Nat × Meter × Meter) => i ≤ ks.length ∧ Under b mm nn) (fun ((i, mm, nn) : Nat × Meter × Meter) => ks.length - i) ((0, x, y)) (by exact rfl) ?_; (conv => whnf); refine Start.mk rfl ?_ ?_; (try dsimp only); rotate_left; rintro ⟨i, mm, nn⟩ ⟨hi, hu⟩)
    | (refine Again.mk ⟨((i + 1, (runAll b mm [k]).1, (runAll b nn [k]).1)), rfl, ?_, ?_⟩ <;> try dsimp only)
    | refine Br.yes (beq_self_eq_true _) ?_
    | refine Br.not ?_
    | refine Br.yes (decide_eq_true (by assumption)) ?_
    | refine Br.no (decide_eq_false (by assumption)) ?_
    | refine Br.yes (beq_iff_eq.2 (by assumption)) ?_
    | refine Br.no (beq_eq_false_iff_ne.2 (by assumption)) ?_
    | refine Br.yes (bne_iff_ne.2 (by assumption)) ?_
    | (refine Br.dec (fun h => ?_) (fun h => ?_) <;> try dsimp only at h)
    | (refine Br.beqI (fun h => ?_) (fun h => ?_) <;> try dsimp only at h)
    | (refine Br.bneI (fun h => ?_) (fun h => ?_) <;> try dsimp only at h)
    | refine Br.mk (fun h => ?_) (fun h => ?_)
    | refine Need.mk (app_need (by first | (simp only [List.length_append, List.length_map, List.length_nil, List.length_cons, List.nil_append, Nat.zero_add, Nat.add_zero]; done) | (simp only [List.length_append, List.length_map, List.length_nil, List.length_cons, List.nil_append, Nat.zero_add, Nat.add_zero]; omega) | omega) (Nat.le_of_ble_eq_true rfl) (by first | (simp only [List.length_append, List.length_map, List.length_nil, List.length_cons, List.nil_append, Nat.zero_add, Nat.add_zero]; done) | (simp only [List.length_append, List.length_map, List.length_nil, List.length_cons, List.nil_append, Nat.zero_add, Nat.add_zero]; omega) | omega)) ?_
    | refine Need.mk (app_need0 (Nat.le_of_ble_eq_true rfl) (by first | (simp only [List.length_append, List.length_map, List.length_nil, List.length_cons, List.nil_append, Nat.zero_add, Nat.add_zero]; done) | (simp only [List.length_append, List.length_map, List.length_nil, List.length_cons, List.nil_append, Nat.zero_add, Nat.add_zero]; omega) | omega)) ?_
    | refine Need.mk (by first | kernel_rfl | exact ⟨of_decide_eq_true rfl, of_decide_eq_true rfl⟩ | omega) ?_
    | refine Len.mk ⟨_, by simp only [List.length_cons, List.length_nil, Nat.reduceAdd, Int.cast_ofNat_Int]; rfl, ?_⟩
    | refine Wr.lit _ (by simp only [Int.reduceAdd, Int.reduceSub, Int.reduceMul]; rfl) (by decide) ?_
    | refine Wr.fit (by omega) ?_
    | refine Wr.fit (by dsimp only; omega) ?_
    | refine Elem.mk ⟨_, ⟨of_decide_eq_true rfl, rfl⟩, ?_⟩
    | refine Len.map ?_
    | refine Len.dropM ?_
    | refine Elem.dropM ?_
    | refine Len.takeM ?_
    | refine Elem.takeM ?_
    | refine Elem.mapK (by assumption) ?_
    | refine Elem.mapI (by omega) (by assumption) ?_
    | refine Elem.mapN (by omega) (fun x hx => ?_)
    | refine Elem.map (by omega) (by omega) (fun x hx => ?_)
    | refine (under_ok b x y).use ⟨rfl, ?_⟩
    | refine (under_ok b (runAll b mm [k]).1 (runAll b nn [k]).1).use ⟨rfl, ?_⟩
    | refine (step_ok b nn k).use ⟨rfl, ?_⟩
    | refine (step_ok b mm k).use ⟨rfl, ?_⟩
    | refine (alive17_ok).use ⟨rfl, ?_⟩
    | refine CallX.mk ⟨_, _, (under_ok b x y).x, rfl, ?_⟩
    | refine CallX.mk ⟨_, _, (under_ok b (runAll b mm [k]).1 (runAll b nn [k]).1).x, rfl, ?_⟩
    | refine CallX.mk ⟨_, _, (step_ok b nn k).x, rfl, ?_⟩
    | refine CallX.mk ⟨_, _, (step_ok b mm k).x, rfl, ?_⟩
    | refine CallX.mk ⟨_, _, (alive17_ok).x, rfl, ?_⟩
    | refine Done.mk ⟨rfl, rfl⟩
    | refine Done.mk ⟨congrArg gb ?_, rfl⟩
    | refine Done.mk ⟨?_, rfl⟩
    | refine Done.mk ⟨?_, ?_⟩)
  all_goals first
    | omega
    | exact ⟨by omega, h⟩
    | (exfalso; exact h (keep hu (by assumption) (by assumption)).2.2)
    | (exfalso; exact h (keep hu (by assumption) (by assumption)).2.1)
    | (exfalso; exact h (keep hu (by assumption) (by assumption)).1)
    | exact ⟨by omega, by assumption⟩

theorem belowKeeps_law (g0 : GV) (h0 : ArgOk bookTy g0) (g1 : GV) (h1 : ArgOk (.agg [meterTy, meterTy]) g1) (g2 : GV) (h2 : ArgOk (.list .int) g2) :
    ICalls Try.prog 13 [g0, g1, g2] [] (Done (gb true) []) := by
  obtain ⟨b, rfl, _⟩ := book_of h0
  obtain ⟨k, rfl, _⟩ := list_of el_int h2
  obtain ⟨x, y, rfl, _, _⟩ := both_of h1
  exact belowKeeps_ok b x y k

end Go.Hl
