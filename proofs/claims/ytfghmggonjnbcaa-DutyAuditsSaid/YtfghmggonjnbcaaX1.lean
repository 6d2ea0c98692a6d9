/- Contracts of functions, bundle X1; proved for whatever the arguments' types allow, as each theorem says. -/
import Derived.Test.YtfghmggonjnbcaaW3
import Derived.Test.YtfghmggonjnbcaaF0

/- Chapter 16: what a book accepts, a laxer one accepts: plain Lean.  -/
set_option linter.unusedVariables false
set_option linter.unusedSimpArgs false
namespace Go.Hl
open Go.Gh Go.Proofs

theorem rose_eqL (b : Book) (m : Meter) : m.rose b = { m with
    Acc := if (m.worth b).Break then 0 else m.Acc
    Half := if (m.worth b).Daily then false else (m.worth b).Half
    Split := if (m.worth b).Daily then false else (m.Split || (m.worth b).Part)
    Lie := 0
    Dawn := if (m.worth b).Daily then m.Now else m.Dawn
    Day := if (m.worth b).Daily then 0 else m.Day
    Longers := if (m.worth b).Weekly then 0 else m.Longers
    Reduces := if (m.worth b).Reduced then (if (m.worth b).Weekly then 0 else m.Reduces) + 1 else if (m.worth b).Weekly then 0 else m.Reduces
    Sabbath := if (m.worth b).Weekly then m.Now else m.Sabbath
    Brief := if (m.worth b).Weekly then (m.worth b).Brief else m.Brief } := by
  unfold Meter.rose
  generalize m.worth b = W
  obtain ⟨w1, w2, w3, w4, w5, w6, w7⟩ := W
  cases w6 <;> cases w5 <;> cases w1 <;> cases w4 <;> rfl

theorem worth_weekL {b : Book} {m : Meter} (hb : b.May) (h : (m.worth b).Weekly = true) : (m.worth b).Daily = true ∧ (m.worth b).Reduced = false := by
  have h1 := hb.regular
  have h2 := hb.reduced
  unfold Meter.worth worth at *
  simp only [decide_eq_true_eq] at h
  simp only [decide_eq_true_eq, Bool.and_eq_false_iff, Bool.not_eq_false', decide_eq_true_eq]
  exact ⟨by omega, .inr (.inl (by omega))⟩

theorem rb_0L {p : Int} {w : Bool} (hp : 0 < p) (h : rb p w = 0) : w = false := by
  cases w with
  | false => rfl
  | true => simp [rb] at h; omega
theorem rb_fL {p : Int} {w : Bool} (h : w = false) : rb p w = 0 := by subst h; rfl

/-- The first book is nowhere laxer than the second one. -/
structure Tgt (a c : Book) : Prop where
  brk : a.Break = c.Break
  first : a.First = c.First
  second : a.Second = c.Second
  regular : a.Regular = c.Regular
  reduced : a.Reduced = c.Reduced
  part : a.Part = c.Part
  weekly : a.Weekly = c.Weekly
  short : a.Short = c.Short
  length : a.Length = c.Length
  drive : a.Drive ≤ c.Drive
  day : a.Day ≤ c.Day
  longer : a.Longer ≤ c.Longer
  longers : a.Longers ≤ c.Longers
  reduces : a.Reduces ≤ c.Reduces
  round : a.Round ≤ c.Round
  rounds : a.Rounds ≤ c.Rounds
  week : a.Week ≤ c.Week
  fort : a.Fortnight ≤ c.Fortnight
  labour : a.Labour ≤ c.Labour

/-- The meter of the laxer book, and of the other one, behind the same minutes. -/
structure Lxm (a c : Book) (x y : Meter) : Prop where
  now : x.Now = y.Now
  lie : x.Lie = y.Lie
  half : x.Half = y.Half
  split : x.Split = y.Split
  brief : x.Brief = y.Brief
  acc : x.Acc = y.Acc
  day : x.Day = y.Day
  week : x.Week = y.Week
  last : x.Last = y.Last
  labour : x.Labour = y.Labour
  dawn : x.Dawn = y.Dawn
  sabbath : x.Sabbath = y.Sabbath
  reduces : x.Reduces ≤ y.Reduces
  longs : y.Longers ≤ a.Longers
  spent : if a.Day < y.Day ∧ y.Day ≤ c.Day then x.Longers + 1 ≤ y.Longers else x.Longers ≤ y.Longers

theorem Lxm.turn {a c : Book} {x y : Meter} (T : Tgt a c) (h : Lxm a c x y) : Lxm a c (x.turn c) (y.turn a) := by
  obtain ⟨h1, h2, h3, h4, h5, h6, h7, h8, h9, h10, h11, h12, h13, h14, h15⟩ := h
  unfold Meter.turn
  rw [h1, ← T.length]
  split
  · exact ⟨rfl, h2, h3, h4, h5, h6, h7, rfl, h8, rfl, h11, h12, h13, h14, h15⟩
  · exact ⟨h1, h2, h3, h4, h5, h6, h7, h8, h9, h10, h11, h12, h13, h14, h15⟩
theorem lax_same {a c : Book} {x y : Meter} (T : Tgt a c) (h : Lxm a c x y) : (x.worth c).Break = (y.worth a).Break ∧ (x.worth c).Half = (y.worth a).Half ∧ (x.worth c).Part = (y.worth a).Part ∧ (x.worth c).Daily = (y.worth a).Daily ∧ (x.worth c).Weekly = (y.worth a).Weekly ∧ (x.worth c).Brief = (y.worth a).Brief := by
  unfold Meter.worth worth
  dsimp only
  rw [h.now, h.lie, h.half, T.brk, T.first, T.second, T.reduced, T.part, T.weekly, T.short]
  exact ⟨rfl, rfl, rfl, rfl, rfl, rfl⟩
theorem lax_less {a c : Book} {x y : Meter} (T : Tgt a c) (h : Lxm a c x y) (hr : (x.worth c).Reduced = true) : (y.worth a).Reduced = true := by
  unfold Meter.worth worth inDay dawnOf at *
  rw [h.now, h.lie, h.dawn, h.split] at hr
  simp only [Bool.and_eq_true, decide_eq_true_eq, Bool.not_eq_true', decide_eq_false_iff_not] at hr ⊢
  obtain ⟨g1, g2, g3, g4⟩ := hr
  have e1 := T.reduced
  have e2 := T.short
  have e3 := T.regular
  have e4 := T.round
  refine ⟨by omega, by omega, g3, ?_⟩
  revert g4
  repeat' split
  all_goals (intro g4; omega)

theorem Lxm.up {a c : Book} {x y : Meter} (T : Tgt a c) (ha : a.May) (hc : c.May) (h : Lxm a c x y) (hz : upR a y = 0) : upR c x = 0 ∧ Lxm a c (x.up c) (y.up a) := by
  unfold upR Meter.up at *
  rw [h.lie]
  by_cases hl : 0 < y.Lie
  case neg => simp only [if_neg hl] at *; exact ⟨trivial, h⟩
  case pos =>
    simp only [if_pos hl] at *
    obtain ⟨e1, e2, e3, e4, e5, e6⟩ := lax_same T h
    have e7 := lax_less T h
    have e8 := worth_weekL (b := a) (m := y) ha
    have e9 := worth_weekL (b := c) (m := x) hc
    obtain ⟨h1, h2, h3, h4, h5, h6, h7, h8, h9, h10, h11, h12, h13, h14, h15⟩ := h
    have hla := ha.within
    have hlc := hc.within
    unfold Book.within at hla hlc
    rw [rose_eqL, rose_eqL]
    unfold endsR Meter.rise1 at *
    rw [e1, e2, e3, e4, e5, e6]
    cases hw : (y.worth a).Weekly with
    | true =>
      obtain ⟨f1, f2⟩ := e8 hw
      obtain ⟨f3, f4⟩ := e9 (by rw [e5]; exact hw)
      simp only [hw, f1, f2, f4] at *
      simp only [if_true, Bool.false_eq_true, if_false, Int.add_zero] at *
      have g := rb_0L (by omega) hz
      refine ⟨rb_fL (by rw [h5]; exact g), ⟨h1, rfl, rfl, rfl, rfl, ?_, rfl, h8, h9, h10, h1, h1, Int.le_refl _, by dsimp only; omega, ?_⟩⟩
      · dsimp only; rw [h6]
      · dsimp only; split <;> omega
    | false =>
      simp only [hw] at *
      simp only [Bool.false_eq_true, if_false, Int.zero_add] at *
      refine ⟨?_, ⟨h1, rfl, rfl, ?_, h5, ?_, ?_, h8, h9, h10, ?_, h12, ?_, h14, ?_⟩⟩
      · cases hr : (x.worth c).Reduced with
        | false => rfl
        | true =>
          rw [e7 hr] at hz
          simp only [if_true] at *
          have := rb_0L (by omega) hz
          simp only [decide_eq_false_iff_not] at this
          refine rb_fL ?_
          have := T.reduces
          simp only [decide_eq_false_iff_not]; omega
      · dsimp only; rw [h4]
      · dsimp only; rw [h6]
      · dsimp only; rw [h7]
      · dsimp only; rw [h1, h11]
      · dsimp only
        cases hr : (x.worth c).Reduced with
        | true => rw [e7 hr]; simp only [if_true]; omega
        | false => simp only [Bool.false_eq_true, if_false]; split <;> omega
      · dsimp only
        cases hd : (y.worth a).Daily with
        | true => simp only [if_true]; split at h15 <;> (try split) <;> omega
        | false => simpa using h15

theorem Lxm.driven {a c : Book} {x y : Meter} (T : Tgt a c) (h : Lxm a c x y) (k : Int) {p q : Int} (hq : 0 ≤ q) (hpq : q = 0 → p = 0) (hz : drivenR a y k q = 0) : q = 0 ∧ drivenR c x k p = 0 ∧ Lxm a c (x.driven c k) (y.driven a k) := by
  unfold drivenR Meter.driven at *
  by_cases hk : k = 3
  case neg => simp only [if_neg hk] at *; exact ⟨hz, hpq hz, h⟩
  case pos =>
    simp only [if_pos hk] at *
    obtain ⟨h1, h2, h3, h4, h5, h6, h7, h8, h9, h10, h11, h12, h13, h14, h15⟩ := h
    obtain ⟨-, -, -, -, -, -, -, -, -, t1, t2, t3, t4, -, -, -, t5, t6, -⟩ := T
    unfold droveR at *
    have r1 := rb_le (show (0 : Int) ≤ 1 by omega) (decide (a.Drive < y.Acc + 1))
    have r2 := rb_le (show (0 : Int) ≤ 4 by omega) (decide (a.Longers < y.Longers + 1))
    have r3 := rb_le (show (0 : Int) ≤ 2 by omega) (decide (a.Longer < y.Day + 1))
    have r4 := rb_le (show (0 : Int) ≤ 8 by omega) (decide (a.Week < y.Week + 1))
    have r5 := rb_le (show (0 : Int) ≤ 16 by omega) (decide (a.Fortnight < y.Week + 1 + y.Last))
    have g : q = 0 ∧ rb 1 (decide (a.Drive < y.Acc + 1)) = 0 ∧ (y.Day + 1 = a.Day + 1 → rb 4 (decide (a.Longers < y.Longers + 1)) = 0) ∧ rb 2 (decide (a.Longer < y.Day + 1)) = 0 ∧ rb 8 (decide (a.Week < y.Week + 1)) = 0 ∧ rb 16 (decide (a.Fortnight < y.Week + 1 + y.Last)) = 0 := by
      split at hz
      · exact ⟨by omega, by omega, fun _ => by omega, by omega, by omega, by omega⟩
      · exact ⟨by omega, by omega, fun h => absurd h (by assumption), by omega, by omega, by omega⟩
    obtain ⟨q0, g1, g2, g3, g4, g5⟩ := g
    have g1 := rb_0L (by omega) g1
    have g2 := fun e => rb_0L (by omega) (g2 e)
    have g3 := rb_0L (by omega) g3
    have g4 := rb_0L (by omega) g4
    have g5 := rb_0L (by omega) g5
    simp only [decide_eq_false_iff_not] at g1 g2 g3 g4 g5
    have s2 : x.Day + 1 = c.Day + 1 → ¬ c.Longers < x.Longers + 1 := by
      intro e
      split at h15
      · omega
      · by_cases e2 : y.Day + 1 = a.Day + 1
        · have := g2 e2; omega
        · omega
    refine ⟨q0, ?_, ?_⟩
    · rw [hpq q0, rb_fL (p := 1) (w := decide (c.Drive < x.Acc + 1)) (by simp only [decide_eq_false_iff_not]; omega), rb_fL (p := 2) (w := decide (c.Longer < x.Day + 1)) (by simp only [decide_eq_false_iff_not]; omega), rb_fL (p := 8) (w := decide (c.Week < x.Week + 1)) (by simp only [decide_eq_false_iff_not]; omega), rb_fL (p := 16) (w := decide (c.Fortnight < x.Week + 1 + x.Last)) (by simp only [decide_eq_false_iff_not]; omega)]
      split
      · rename_i e
        rw [rb_fL (p := 4) (w := decide (c.Longers < x.Longers + 1)) (by simp only [decide_eq_false_iff_not]; exact s2 e)]; rfl
      · rfl
    · unfold Meter.drove Meter.droveL
      refine ⟨h1, h2, h3, h4, h5, ?_, ?_, ?_, h9, h10, h11, h12, h13, ?_, ?_⟩
      · dsimp only; omega
      · dsimp only; omega
      · dsimp only; omega
      · dsimp only
        by_cases e2 : y.Day + 1 = a.Day + 1
        · have := g2 e2
          simp only [if_pos e2]; omega
        · simp only [if_neg e2]; omega
      · dsimp only
        by_cases e1 : x.Day + 1 = c.Day + 1 <;> by_cases e2 : y.Day + 1 = a.Day + 1
        · have := g2 e2
          simp only [if_pos e1, if_pos e2]; split at h15 <;> split <;> omega
        · simp only [if_pos e1, if_neg e2]; split at h15 <;> split <;> omega
        · have := g2 e2
          simp only [if_neg e1, if_pos e2]; split at h15 <;> split <;> omega
        · simp only [if_neg e1, if_neg e2]; split at h15 <;> split <;> omega

theorem Lxm.worked {a c : Book} {x y : Meter} (T : Tgt a c) (h : Lxm a c x y) (k : Int) {p q : Int} (hq : 0 ≤ q) (hpq : q = 0 → p = 0) (hz : workedR a y k q = 0) : q = 0 ∧ workedR c x k p = 0 ∧ Lxm a c (x.worked k) (y.worked k) := by
  unfold workedR Meter.worked at *
  by_cases hk : k = 1
  case pos => simp only [hk, ne_eq, not_true_eq_false, if_false] at *; exact ⟨hz, hpq hz, h⟩
  case neg =>
    simp only [ne_eq, hk, not_false_eq_true, if_true] at *
    have r1 := rb_le (show (0 : Int) ≤ 512 by omega) (decide (a.Labour < y.Labour + 1))
    have g1 := rb_0L (p := 512) (by omega) (show rb 512 (decide (a.Labour < y.Labour + 1)) = 0 by omega)
    simp only [decide_eq_false_iff_not] at g1
    have h9 := h.labour
    have t9 := T.labour
    have q0 : q = 0 := by omega
    refine ⟨q0, ?_, ⟨h.now, h.lie, h.half, h.split, h.brief, h.acc, h.day, h.week, h.last, by dsimp only; omega, h.dawn, h.sabbath, h.reduces, h.longs, h.spent⟩⟩
    rw [hpq q0, rb_fL (p := 512) (w := decide (c.Labour < x.Labour + 1)) (by simp only [decide_eq_false_iff_not]; omega)]
    rfl

end Go.Hl

/- Chapter 16: what is accepted; the law Laxer.  -/
set_option linter.unusedVariables false
set_option linter.unusedSimpArgs false
namespace Go.Hl
open Go.Gh Go.Proofs

/-- No minute breaks a clause. -/
def okRun (b : Book) : List Int → Meter → Prop
  | [], _ => True
  | k :: r, m => stepN b m k = 0 ∧ okRun b r (m.step b k)
theorem or_eq_0 {a c : Nat} : a ||| c = 0 ↔ a = 0 ∧ c = 0 := by
  constructor
  · intro h
    have h1 : a ≤ a ||| c := Nat.left_le_or
    have h2 : c ≤ a ||| c := Nat.right_le_or
    omega
  · rintro ⟨rfl, rfl⟩; rfl
theorem okRun_iff {b : Book} : ∀ (ks : List Int) (m : Meter) (s : Nat), (∀ k, k ∈ ks → 0 ≤ k ∧ k < 4) → m.May → m.Now + (ks.length : Int) ≤ 40320 → s < 1024 →
    (runM b ks m (s : Int)).2.2 = 0 ∧ ((runM b ks m (s : Int)).2.1 = 0 ↔ s = 0 ∧ okRun b ks m)
  | [], m, s, _, _, _, _ => ⟨rfl, by show (s : Int) = 0 ↔ s = 0 ∧ True; constructor
                                     · intro h; exact ⟨by omega, trivial⟩
                                     · intro h; omega⟩
  | k :: r, m, s, hk, hm, hn, hs => by
    have h1 := hk k (List.mem_cons_self ..)
    rw [List.length_cons] at hn
    have h2 := hm.step (b := b) (by omega) k
    have ih := okRun_iff (b := b) r (m.step b k) (s ||| stepN b m k) (fun x hx => hk x (List.mem_cons_of_mem _ hx)) h2.1 (by omega) (Nat.or_lt_two_pow (n := 10) hs (stepN_lt b m k))
    rw [runM_cons, if_neg (by omega), if_neg (by omega), stepBits_or b m k s hs]
    refine ⟨ih.1, ih.2.trans ?_⟩
    rw [or_eq_0, okRun]
    constructor
    · rintro ⟨⟨a, c⟩, d⟩; exact ⟨a, c, d⟩
    · rintro ⟨a, c, d⟩; exact ⟨⟨a, c⟩, d⟩
def accB (b : Book) (l : List Rec) : Bool := decide (dutyErr b l = 0 ∧ (ofAll b l).2.1 = 0)
theorem kinds_in {l : List Rec} {a : Int} (h : Chain a l) : ∀ k, k ∈ kindsOf l → 0 ≤ k ∧ k < 4 := by
  intro k hk
  unfold kindsOf at hk
  rw [List.mem_flatMap] at hk
  obtain ⟨r, hr, hk⟩ := hk
  have := recErr_inv (chain_all l a h r hr)
  rw [List.eq_of_mem_replicate hk]; exact this.1
theorem ofAll_err {b : Book} {l : List Rec} (h : dutyErr b l = 0) : (ofAll b l).2.2 = 0 := by
  obtain ⟨hb, hr, hbeg, hc⟩ := dutyErr_0 h
  unfold ofAll
  rw [if_pos hb, if_neg (by omega), if_neg (by omega)]
  have hl := chain_len l 0 hc (by omega)
  exact (okRun_iff (b := b) (kindsOf l) Meter.zero 0 (kinds_in hc) zero_May (by show (0 : Int) + _ ≤ _; omega) (by omega)).1

set_option maxRecDepth 100000 in
set_option maxHeartbeats 1000000 in
theorem accepts_ok (b : Book) (l : List Rec) (hl : (l.length : Int) ≤ 1000000) : ICalls Try.prog 9 [b.g, .list 3 (recs l) none] [] (Done (gb (accB b l)) []) := by
  have h1 := dutyCheck_ok b l (by omega)
  have h2 := meterOf_ok b l (by omega)
  unfold runV at h2
  unfold accB
  by_cases he : dutyErr b l = 0
  case neg =>
    generalize dutyErr b l = e at *
    refine ICalls.of_body Try.func9 rfl Try.call9 rfl (Nat.le_of_ble_eq_true rfl) (fun _ => none) rfl ?_
    repeat' ((conv => whnf); first
      | refine Br.yes rfl ?_
      | refine Br.no rfl ?_
      | refine Br.yes (beq_self_eq_true _) ?_
      | refine Br.not ?_
      | refine Br.yes (decide_eq_true (by assumption)) ?_
      | refine Br.no (decide_eq_false (by assumption)) ?_
      | refine Br.yes (beq_iff_eq.2 (by assumption)) ?_
      | refine Br.no (beq_eq_false_iff_ne.2 (by assumption)) ?_
      | refine Br.yes (bne_iff_ne.2 (by assumption)) ?_
      | (refine Br.dec (fun h => ?_) (fun h => ?_) <;> try dsimp only at h)
      | (refine Br.beqI (fun h => ?_) (fun h => ?_) <;> try dsimp only at h)
      | (refine Br.bneI (fun h => ?_) (fun h => ?_) <;> try dsimp only at h)
      | refine Br.mk (fun h => ?_) (fun h => ?_)
      | refine Need.mk (by first | kernel_rfl | exact ⟨of_decide_eq_true rfl, of_decide_eq_true rfl⟩ | omega) ?_
      | refine Len.mk ⟨_, by simp only [List.length_cons, List.length_nil, Nat.reduceAdd, Int.cast_ofNat_Int]; rfl, ?_⟩
      | refine Wr.lit _ (by simp only [Int.reduceAdd, Int.reduceSub, Int.reduceMul]; rfl) (by decide) ?_
      | refine Wr.fit (by omega) ?_
      | refine Wr.fit (by dsimp only; omega) ?_
      | refine Elem.mk ⟨_, ⟨of_decide_eq_true rfl, rfl⟩, ?_⟩
      | refine Len.map ?_
      | refine Len.dropM ?_
      | refine Elem.dropM ?_
      | refine Len.takeM ?_
      | refine Elem.takeM ?_
      | refine Elem.mapK (by assumption) ?_
      | refine Elem.mapI (by omega) (by assumption) ?_
      | refine Elem.mapN (by omega) (fun x hx => ?_)
      | refine Elem.map (by omega) (by omega) (fun x hx => ?_)
      | refine (h1).use ⟨rfl, ?_⟩
      | refine (h2).use ⟨rfl, ?_⟩
      | refine CallX.mk ⟨_, _, (h1).x, rfl, ?_⟩
      | refine CallX.mk ⟨_, _, (h2).x, rfl, ?_⟩
      | refine Done.mk ⟨rfl, rfl⟩
      | refine Done.mk ⟨congrArg gb ?_, rfl⟩
      | refine Done.mk ⟨?_, rfl⟩
      | refine Done.mk ⟨?_, ?_⟩)
    all_goals first | omega | exact congrArg gb (decide_eq_false (fun h => he h.1)).symm | (exact (decide_eq_false (fun h => he h.1)).symm) | exact congrArg gb (Bool.eq_iff_iff.2 (by simp [he])) | (exact Bool.eq_iff_iff.2 (by simp [he]))
  case pos =>
    rw [ofAll_err he] at h2
    rw [he] at h1
    generalize (ofAll b l).2.1 = q at *
    generalize (ofAll b l).1 = mm at *
    refine ICalls.of_body Try.func9 rfl Try.call9 rfl (Nat.le_of_ble_eq_true rfl) (fun _ => none) rfl ?_
    repeat' ((conv => whnf); first
      | refine Br.yes rfl ?_
      | refine Br.no rfl ?_
      | refine Br.yes (beq_self_eq_true _) ?_
      | refine Br.not ?_
      | refine Br.yes (decide_eq_true (by assumption)) ?_
      | refine Br.no (decide_eq_false (by assumption)) ?_
      | refine Br.yes (beq_iff_eq.2 (by assumption)) ?_
      | refine Br.no (beq_eq_false_iff_ne.2 (by assumption)) ?_
      | refine Br.yes (bne_iff_ne.2 (by assumption)) ?_
      | (refine Br.dec (fun h => ?_) (fun h => ?_) <;> try dsimp only at h)
      | (refine Br.beqI (fun h => ?_) (fun h => ?_) <;> try dsimp only at h)
      | (refine Br.bneI (fun h => ?_) (fun h => ?_) <;> try dsimp only at h)
      | refine Br.mk (fun h => ?_) (fun h => ?_)
      | refine Need.mk (by first | kernel_rfl | exact ⟨of_decide_eq_true rfl, of_decide_eq_true rfl⟩ | omega) ?_
      | refine Len.mk ⟨_, by simp only [List.length_cons, List.length_nil, Nat.reduceAdd, Int.cast_ofNat_Int]; rfl, ?_⟩
      | refine Wr.lit _ (by simp only [Int.reduceAdd, Int.reduceSub, Int.reduceMul]; rfl) (by decide) ?_
      | refine Wr.fit (by omega) ?_
      | refine Wr.fit (by dsimp only; omega) ?_
      | refine Elem.mk ⟨_, ⟨of_decide_eq_true rfl, rfl⟩, ?_⟩
      | refine Len.map ?_
      | refine Len.dropM ?_
      | refine Elem.dropM ?_
      | refine Len.takeM ?_
      | refine Elem.takeM ?_
      | refine Elem.mapK (by assumption) ?_
      | refine Elem.mapI (by omega) (by assumption) ?_
      | refine Elem.mapN (by omega) (fun x hx => ?_)
      | refine Elem.map (by omega) (by omega) (fun x hx => ?_)
      | refine (h1).use ⟨rfl, ?_⟩
      | refine (h2).use ⟨rfl, ?_⟩
      | refine CallX.mk ⟨_, _, (h1).x, rfl, ?_⟩
      | refine CallX.mk ⟨_, _, (h2).x, rfl, ?_⟩
      | refine Done.mk ⟨rfl, rfl⟩
      | refine Done.mk ⟨congrArg gb ?_, rfl⟩
      | refine Done.mk ⟨?_, rfl⟩
      | refine Done.mk ⟨?_, ?_⟩)
    all_goals first | omega | exact congrArg gb (decide_eq_false (fun h => he h.1)).symm | (exact (decide_eq_false (fun h => he h.1)).symm) | exact congrArg gb (Bool.eq_iff_iff.2 (by simp [he])) | (exact Bool.eq_iff_iff.2 (by simp [he]))

theorem Tgt_iff (a c : Book) : Tgt a c ↔ a.Break = c.Break ∧ a.First = c.First ∧ a.Second = c.Second ∧ a.Regular = c.Regular ∧ a.Reduced = c.Reduced ∧ a.Part = c.Part ∧ a.Weekly = c.Weekly ∧ a.Short = c.Short ∧ a.Length = c.Length ∧ a.Drive ≤ c.Drive ∧ a.Day ≤ c.Day ∧ a.Longer ≤ c.Longer ∧ a.Longers ≤ c.Longers ∧ a.Reduces ≤ c.Reduces ∧ a.Round ≤ c.Round ∧ a.Rounds ≤ c.Rounds ∧ a.Week ≤ c.Week ∧ a.Fortnight ≤ c.Fortnight ∧ a.Labour ≤ c.Labour :=
  ⟨fun h => ⟨h.1, h.2, h.3, h.4, h.5, h.6, h.7, h.8, h.9, h.10, h.11, h.12, h.13, h.14, h.15, h.16, h.17, h.18, h.19⟩, fun ⟨h1, h2, h3, h4, h5, h6, h7, h8, h9, h10, h11, h12, h13, h14, h15, h16, h17, h18, h19⟩ => ⟨h1, h2, h3, h4, h5, h6, h7, h8, h9, h10, h11, h12, h13, h14, h15, h16, h17, h18, h19⟩⟩
instance (a c : Book) : Decidable (Tgt a c) := decidable_of_iff _ (Tgt_iff a c).symm

end Go.Hl

/- Chapter 16: the clauses of what is found; nothing is found just if all is accepted: plain Lean.  -/
set_option linter.unusedVariables false
set_option linter.unusedSimpArgs false
namespace Go.Hl
open Go.Gh Go.Proofs

theorem duty_cl {b : Book} {l : List Rec} {f : Fnd} (hf : f ∈ auditF b l) : 0 ≤ f.Clause ∧ f.Clause < 10 := by
  unfold auditF at hf
  split at hf
  case isFalse => cases hf
  rename_i h
  obtain ⟨hb, _, _, hc⟩ := dutyErr_0 h
  have key : ∀ (l : List Rec) (w : SW), (∀ f, f ∈ w.x.out → 0 ≤ f.Clause ∧ f.Clause < 10) → ∀ f, f ∈ (swAll b l w).x.out → 0 ≤ f.Clause ∧ f.Clause < 10 := by
    intro l
    induction l with
    | nil => intro w h; exact h
    | cons r t ih =>
      intro w h
      refine ih _ ?_
      have hB : ∀ (k n : Int) (w : SW), (∀ f, f ∈ w.x.out → 0 ≤ f.Clause ∧ f.Clause < 10) → ∀ f, f ∈ (bS b k n w).x.out → 0 ≤ f.Clause ∧ f.Clause < 10 := by
        intro k n w h f hf
        rcases bS_mem.1 hf with g | ⟨d, h1, _, _, rfl⟩
        · exact h f g
        · simp only; omega
      unfold sweptS
      split
      · exact hB _ _ _ (hB _ _ _ h)
      · exact hB _ _ _ h
  exact key l SW.start (fun f h => by cases h) f (sortF_mem.1 hf)

theorem duty_none {b : Book} {l : List Rec} : accB b l = true ↔ dutyErr b l = 0 ∧ auditF b l = [] := by
  unfold accB
  rw [decide_eq_true_eq]
  constructor
  · rintro ⟨h1, h2⟩
    refine ⟨h1, ?_⟩
    rw [audit_run h1] at h2
    simp only at h2
    have h3 : setN (auditF b l) = 0 := by omega
    cases hl : auditF b l with
    | nil => rfl
    | cons f t =>
      exfalso
      have hf : f ∈ auditF b l := by rw [hl]; exact List.mem_cons_self ..
      have hc := duty_cl hf
      have := (setN_bits (auditF b l) 0 f.Clause.toNat).2 (.inr ⟨by omega, f, hf, by omega⟩)
      unfold setN at h3
      rw [h3] at this; simp at this
  · rintro ⟨h1, h2⟩
    refine ⟨h1, ?_⟩
    rw [audit_run h1, h2]; rfl

end Go.Hl
