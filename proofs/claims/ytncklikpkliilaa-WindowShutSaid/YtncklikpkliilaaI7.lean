/- Contracts of functions, bundle I7; proved for whatever the arguments' types allow, as each theorem says. -/
import Derived.Test.YtncklikpkliilaaI2
import Derived.Test.YtncklikpkliilaaI3

/- What two sets of spans have, and what one has alone: plain Lean. -/
set_option linter.unusedVariables false
set_option linter.unusedSimpArgs false
namespace Go.Hl
open Go.Gh

theorem rf_none : ∀ {l : List Span} {e : Option Int}, rightFrom l e = true → rightFrom l none = true
  | [], _, _ => rfl
  | s :: r, e, h => by obtain ⟨h1, _, h3⟩ := rf_cons.1 h; exact rf_cons.2 ⟨h1, rfl, h3⟩
theorem rf_after {l : List Span} {t : Int} (h : rightFrom l none = true) (hm : ∀ m, hasL l m = true → t < m) : rightFrom l (some t) = true := by
  cases l with
  | nil => rfl
  | cons s r =>
    obtain ⟨h1, _, h3⟩ := rf_cons.1 h
    refine rf_cons.2 ⟨h1, ?_, h3⟩
    have := hm s.From (by rw [hasL_cons, has_iff.2 ⟨Int.le_refl _, h1⟩]; rfl)
    simpa [okAfter] using this
theorem endS_le : ∀ {A : List Span} {e : Option Int} {t : Int}, rightFrom A e = true → (∀ m, hasL A m = true → m < t) → (∀ x, e = some x → x ≤ t) → ∀ x, endS A e = some x → x ≤ t
  | [], e, t, _, _, he, x, hx => he x hx
  | s :: A, e, t, h, hm, he, x, hx => by
    obtain ⟨h1, _, h3⟩ := rf_cons.1 h
    refine endS_le (A := A) (e := some s.To) (t := t) h3 (fun m hmm => hm m (by rw [hasL_cons, hmm, Bool.or_true])) (fun y hy => ?_) x hx
    cases hy
    have := hm (s.To - 1) (by rw [hasL_cons, has_iff.2 ⟨by omega, by omega⟩]; rfl)
    omega
theorem rf_join {A C : List Span} {t : Int} (hA : rightFrom A none = true) (hm : ∀ m, hasL A m = true → m < t) (hC : rightFrom C none = true) (hc : ∀ m, hasL C m = true → t < m) : rightFrom (A ++ C) none = true := by
  rw [rf_app]
  refine ⟨hA, ?_⟩
  cases hE : endS A none with
  | none => exact hC
  | some x =>
    have := endS_le hA hm (fun y hy => by cases hy) x hE
    exact rf_after hC fun m h => by have := hc m h; omega

/-! ### What both have -/
def isect (s t : Span) : Span := ⟨if s.From < t.From then t.From else s.From, if t.To < s.To then t.To else s.To⟩
theorem isect_has (s t : Span) (m : Int) : (isect s t).has m = (s.has m && t.has m) := by
  apply Bool.eq_iff_iff.2
  rw [Bool.and_eq_true, has_iff, has_iff, has_iff]
  unfold isect
  simp only
  split <;> split <;> omega
def isectL (s t : Span) : List Span := if (isect s t).right then [isect s t] else []
theorem isectL_has (s t : Span) (m : Int) : hasL (isectL s t) m = (s.has m && t.has m) := by
  rw [← isect_has]
  unfold isectL
  split
  · rw [hasL_cons, hasL_nil, Bool.or_false]
  · rename_i h
    rw [hasL_nil]
    cases hh : (isect s t).has m with
    | false => rfl
    | true => rw [has_iff] at hh; rw [right_iff] at h; omega
def bothL : List Span → List Span → List Span
  | s :: a, t :: b => isectL s t ++ (if s.To < t.To then bothL a (t :: b) else bothL (s :: a) b)
  | [], _ => []
  | _ :: _, [] => []
termination_by a b => a.length + b.length
theorem bothL_nil1 (b : List Span) : bothL [] b = [] := by unfold bothL; rfl
theorem bothL_nil2 (a : List Span) : bothL a [] = [] := by cases a <;> (unfold bothL; rfl)
theorem bothL_cons (s t : Span) (a b : List Span) : bothL (s :: a) (t :: b) = isectL s t ++ (if s.To < t.To then bothL a (t :: b) else bothL (s :: a) b) := by
  conv => lhs; unfold bothL
theorem bothL_spec : ∀ (n : Nat) (a b : List Span) (e f : Option Int), a.length + b.length ≤ n → rightFrom a e = true → rightFrom b f = true →
    rightFrom (bothL a b) none = true ∧ (∀ m, hasL (bothL a b) m = (hasL a m && hasL b m)) ∧ (bothL a b).length ≤ a.length + b.length
  | n, [], b, e, f, _, _, _ => by rw [bothL_nil1]; exact ⟨rfl, fun m => rfl, by simp⟩
  | n, s :: a, [], e, f, _, _, _ => by rw [bothL_nil2]; exact ⟨rfl, fun m => by rw [hasL_nil, Bool.and_false], by simp⟩
  | 0, s :: a, t :: b, e, f, hn, _, _ => by simp at hn
  | n + 1, s :: a, t :: b, e, f, hn, ha, hb => by
    obtain ⟨a1, _, a3⟩ := rf_cons.1 ha
    obtain ⟨b1, _, b3⟩ := rf_cons.1 hb
    simp only [List.length_cons] at hn
    rw [bothL_cons]
    have hil : (isectL s t).length ≤ 1 := by unfold isectL; split <;> simp
    have hir : rightFrom (isectL s t) none = true := by
      unfold isectL
      split
      · rename_i h; exact rf_cons.2 ⟨right_iff.1 h, rfl, rfl⟩
      · rfl
    have tb : ∀ m, hasL b m = true → t.To < m := fun m h => rf_lt b3 h
    have sa : ∀ m, hasL a m = true → s.To < m := fun m h => rf_lt a3 h
    by_cases hc : s.To < t.To
    · rw [if_pos hc]
      obtain ⟨i1, i2, i3⟩ := bothL_spec n a (t :: b) _ _ (by simp only [List.length_cons]; omega) a3 hb
      refine ⟨rf_join (t := s.To) hir (fun m hm => ?_) i1 (fun m hm => ?_), fun m => ?_, by simp only [List.length_append, List.length_cons] at i3 ⊢; omega⟩
      · rw [isectL_has, Bool.and_eq_true, has_iff] at hm; omega
      · rw [i2, Bool.and_eq_true] at hm; exact sa m hm.1
      · rw [hasL_app, isectL_has, i2, hasL_cons s, hasL_cons t]
        apply Bool.eq_iff_iff.2
        simp only [Bool.or_eq_true, Bool.and_eq_true]
        constructor
        · rintro (⟨h1, h2⟩ | ⟨h1, h2⟩)
          · exact ⟨.inl h1, .inl h2⟩
          · exact ⟨.inr h1, h2⟩
        · rintro ⟨h1 | h1, h2⟩
          · rcases h2 with h2 | h2
            · exact .inl ⟨h1, h2⟩
            · have := tb m h2; rw [has_iff] at h1; omega
          · exact .inr ⟨h1, h2⟩
    · rw [if_neg hc]
      obtain ⟨i1, i2, i3⟩ := bothL_spec n (s :: a) b _ _ (by simp only [List.length_cons]; omega) ha b3
      refine ⟨rf_join (t := t.To) hir (fun m hm => ?_) i1 (fun m hm => ?_), fun m => ?_, by simp only [List.length_append, List.length_cons] at i3 ⊢; omega⟩
      · rw [isectL_has, Bool.and_eq_true, has_iff, has_iff] at hm; omega
      · rw [i2, Bool.and_eq_true] at hm; exact tb m hm.2
      · rw [hasL_app, isectL_has, i2, hasL_cons s, hasL_cons t]
        apply Bool.eq_iff_iff.2
        simp only [Bool.or_eq_true, Bool.and_eq_true]
        constructor
        · rintro (⟨h1, h2⟩ | ⟨h1, h2⟩)
          · exact ⟨.inl h1, .inl h2⟩
          · exact ⟨h1, .inr h2⟩
        · rintro ⟨h1, h2 | h2⟩
          · rcases h1 with h1 | h1
            · exact .inl ⟨h1, h2⟩
            · have := sa m h1; rw [has_iff] at h2; omega
          · exact .inr ⟨h1, h2⟩

/-! ### What one has alone -/
def pieceL (f t : Int) : List Span := if f < t then [⟨f, t⟩] else []
theorem pieceL_has (f t m : Int) : hasL (pieceL f t) m = true ↔ f ≤ m ∧ m < t := by
  unfold pieceL
  split
  · rw [hasL_cons, hasL_nil, Bool.or_false, has_iff]
  · rw [hasL_nil]; exact ⟨fun h => (by cases h), fun h => by omega⟩
theorem pieceL_rf (f t : Int) : rightFrom (pieceL f t) none = true := by
  unfold pieceL
  split
  · rename_i h; exact rf_cons.2 ⟨h, rfl, rfl⟩
  · rfl
theorem pieceL_le (f t : Int) : (pieceL f t).length ≤ 1 := by unfold pieceL; split <;> simp
def cutL (f t : Int) : List Span → List Span
  | [] => pieceL f t
  | y :: b => if y.To ≤ f ∨ t ≤ y.From then cutL f t b else pieceL f y.From ++ (if t ≤ y.To then [] else cutL y.To t b)
theorem cutL_spec : ∀ (b : List Span) (e : Option Int) (f t : Int), rightFrom b e = true →
    rightFrom (cutL f t b) none = true ∧ (∀ m, hasL (cutL f t b) m = true ↔ (f ≤ m ∧ m < t) ∧ hasL b m = false) ∧ (cutL f t b).length ≤ b.length + 1
  | [], e, f, t, _ => ⟨pieceL_rf f t, fun m => by show hasL (pieceL f t) m = true ↔ _; rw [pieceL_has]; simp [hasL_nil], by have := pieceL_le f t; show (pieceL f t).length ≤ _; simpa using this⟩
  | y :: b, e, f, t, h => by
    obtain ⟨h1, _, h3⟩ := rf_cons.1 h
    have yb : ∀ m, hasL b m = true → y.To < m := fun m hm => rf_lt h3 hm
    have nb : ∀ m, m ≤ y.To → hasL b m = false := fun m hm => by
      cases hh : hasL b m with
      | false => rfl
      | true => have := yb m hh; omega
    rw [cutL]
    by_cases hc : y.To ≤ f ∨ t ≤ y.From
    · rw [if_pos hc]
      obtain ⟨i1, i2, i3⟩ := cutL_spec b _ f t h3
      refine ⟨i1, fun m => ?_, by simp only [List.length_cons]; omega⟩
      rw [i2, hasL_cons, Bool.or_eq_false_iff]
      constructor
      · rintro ⟨k1, k2⟩
        refine ⟨k1, ?_, k2⟩
        cases hh : y.has m with
        | false => rfl
        | true => rw [has_iff] at hh; omega
      · rintro ⟨k1, _, k2⟩; exact ⟨k1, k2⟩
    · rw [if_neg hc]
      have hyf : ∀ m, y.has m = false ↔ ¬ (y.From ≤ m ∧ m < y.To) := fun m => by
        rw [← has_iff]; simp
      by_cases ht : t ≤ y.To
      · rw [if_pos ht, List.append_nil]
        refine ⟨pieceL_rf _ _, fun m => ?_, by have := pieceL_le f y.From; simp only [List.length_cons]; omega⟩
        rw [pieceL_has, hasL_cons, Bool.or_eq_false_iff, hyf]
        constructor
        · rintro ⟨k1, k2⟩; exact ⟨⟨k1, by omega⟩, by omega, nb m (by omega)⟩
        · rintro ⟨⟨k1, k2⟩, k3, k4⟩; omega
      · rw [if_neg ht]
        obtain ⟨i1, i2, i3⟩ := cutL_spec b _ y.To t h3
        refine ⟨rf_join (t := y.From) (pieceL_rf _ _) (fun m hm => ((pieceL_has ..).1 hm).2) i1 (fun m hm => by have := (i2 m).1 hm; omega), fun m => ?_, by have := pieceL_le f y.From; simp only [List.length_append, List.length_cons]; omega⟩
        rw [hasL_app, Bool.or_eq_true, pieceL_has, i2, hasL_cons, Bool.or_eq_false_iff, hyf]
        constructor
        · rintro (⟨k1, k2⟩ | ⟨⟨k1, k2⟩, k3⟩)
          · exact ⟨⟨k1, by omega⟩, by omega, nb m (by omega)⟩
          · exact ⟨⟨by omega, k2⟩, by omega, k3⟩
        · rintro ⟨⟨k1, k2⟩, k3, k4⟩
          by_cases hm : m < y.From
          · exact .inl ⟨k1, hm⟩
          · exact .inr ⟨⟨by omega, k2⟩, k4⟩
def minusL (b : List Span) : List Span → List Span
  | [] => []
  | s :: a => cutL s.From s.To b ++ minusL b a
theorem minusL_spec (b : List Span) (hb : rightFrom b none = true) : ∀ (a : List Span) (e : Option Int), rightFrom a e = true →
    rightFrom (minusL b a) none = true ∧ (∀ m, hasL (minusL b a) m = (hasL a m && !hasL b m)) ∧ (minusL b a).length ≤ a.length * (b.length + 1)
  | [], e, _ => ⟨rfl, fun m => rfl, by simp [minusL]⟩
  | s :: a, e, h => by
    obtain ⟨h1, _, h3⟩ := rf_cons.1 h
    obtain ⟨i1, i2, i3⟩ := minusL_spec b hb a _ h3
    obtain ⟨c1, c2, c3⟩ := cutL_spec b none s.From s.To hb
    refine ⟨rf_join (t := s.To) c1 (fun m hm => by have := (c2 m).1 hm; omega) i1 (fun m hm => ?_), fun m => ?_, ?_⟩
    · rw [i2, Bool.and_eq_true] at hm; exact rf_lt h3 hm.1
    · show hasL (cutL s.From s.To b ++ minusL b a) m = _
      rw [hasL_app, i2, hasL_cons]
      apply Bool.eq_iff_iff.2
      simp only [Bool.or_eq_true, Bool.and_eq_true, Bool.not_eq_true', c2, has_iff]
      constructor
      · rintro (⟨k1, k2⟩ | ⟨k1, k2⟩)
        · exact ⟨.inl k1, k2⟩
        · exact ⟨.inr k1, k2⟩
      · rintro ⟨k1 | k1, k2⟩
        · exact .inl ⟨k1, k2⟩
        · exact .inr ⟨k1, k2⟩
    · show (cutL s.From s.To b ++ minusL b a).length ≤ _
      rw [List.length_append, List.length_cons, Nat.add_mul, Nat.one_mul]; omega

end Go.Hl

/- Contracts: spans of lists one behind the other; what two lists have; what one has alone.  -/
set_option linter.unusedVariables false
set_option linter.unusedSimpArgs false
namespace Go.Hl
open Go.Gh Go.Proofs



def pl_P8_1 : Nat → Option (List Nat × List Nat) := (fun k => bif Nat.beq k 5000022 then some ([], []) else bif Nat.beq k 4000000 then some ([122], []) else none)
def pl_P8_2 : Nat → Option (List Nat × List Nat) := (fun k => bif Nat.beq k 5000004 then some ([], []) else bif Nat.beq k 4000000 then some ([104], []) else none)
set_option maxRecDepth 100000 in
theorem growSpan_ok (n : Int) (h0 : 0 ≤ n) (h1 : n ≤ 1000000000) : ICalls Try.prog 91 [.v (.slice none 0 0), gi n] [] (Done (.ms 2 0 1 0) [.mvec 26 2 [] 1]) := by
  rcases Int.lt_or_eq_of_le h0 with hn | hn
  {
  refine ICalls.of_body Try.func91 rfl Try.call91 rfl (Nat.le_of_ble_eq_true rfl) pl_P8_1 rfl ?_
  repeat' ((conv => whnf); first
    | refine Br.yes rfl ?_
    | refine Br.no rfl ?_
    | refine Br.yes (beq_self_eq_true _) ?_
    | refine Br.not ?_
    | refine Br.yes (decide_eq_true (by assumption)) ?_
    | refine Br.no (decide_eq_false (by assumption)) ?_
    | refine Br.yes (beq_iff_eq.2 (by assumption)) ?_
    | refine Br.no (beq_eq_false_iff_ne.2 (by assumption)) ?_
    | refine Br.yes (bne_iff_ne.2 (by assumption)) ?_
    | (refine Br.dec (fun h => ?_) (fun h => ?_) <;> try dsimp only at h)
    | (refine Br.beqI (fun h => ?_) (fun h => ?_) <;> try dsimp only at h)
    | (refine Br.bneI (fun h => ?_) (fun h => ?_) <;> try dsimp only at h)
    | refine Br.mk (fun h => ?_) (fun h => ?_)
    | refine Need.mk (app_need (by first | (simp only [List.length_append, List.length_map, List.length_nil, List.length_cons, List.nil_append, Nat.zero_add, Nat.add_zero]; done) | (simp only [List.length_append, List.length_map, List.length_nil, List.length_cons, List.nil_append, Nat.zero_add, Nat.add_zero]; omega) | omega) (Nat.le_of_ble_eq_true rfl) (by first | (simp only [List.length_append, List.length_map, List.length_nil, List.length_cons, List.nil_append, Nat.zero_add, Nat.add_zero]; done) | (simp only [List.length_append, List.length_map, List.length_nil, List.length_cons, List.nil_append, Nat.zero_add, Nat.add_zero]; omega) | omega)) ?_
    | refine Need.mk (app_need0 (Nat.le_of_ble_eq_true rfl) (by first | (simp only [List.length_append, List.length_map, List.length_nil, List.length_cons, List.nil_append, Nat.zero_add, Nat.add_zero]; done) | (simp only [List.length_append, List.length_map, List.length_nil, List.length_cons, List.nil_append, Nat.zero_add, Nat.add_zero]; omega) | omega)) ?_
    | refine Need.mk (app_needM rfl (Nat.le_of_ble_eq_true rfl) (by first | (simp only [List.length_append, List.length_map, List.length_nil, List.length_cons, List.nil_append, Nat.zero_add, Nat.add_zero]; done) | (simp only [List.length_append, List.length_map, List.length_nil, List.length_cons, List.nil_append, Nat.zero_add, Nat.add_zero]; omega) | omega)) ?_
    | refine Need.mk (zeros_need (by omega) (Nat.le_of_ble_eq_true rfl) (by omega)) ?_
    | refine Need.mk (by first | kernel_rfl | exact ⟨of_decide_eq_true rfl, of_decide_eq_true rfl⟩ | omega) ?_
    | refine Len.mk ⟨_, by simp only [List.length_cons, List.length_nil, Nat.reduceAdd, Int.cast_ofNat_Int]; rfl, ?_⟩
    | refine Wr.lit _ (by simp only [Int.reduceAdd, Int.reduceSub, Int.reduceMul]; rfl) (by decide) ?_
    | refine Wr.fit (by omega) ?_
    | refine Wr.fit (by dsimp only; omega) ?_
    | refine Elem.mk ⟨_, ⟨of_decide_eq_true rfl, rfl⟩, ?_⟩
    | refine Len.map ?_
    | refine Len.dropM ?_
    | refine Elem.dropM ?_
    | refine Len.takeM ?_
    | refine Elem.takeM ?_
    | refine Elem.mapK (by assumption) ?_
    | refine Elem.mapI (by omega) (by assumption) ?_
    | refine Elem.mapN (by omega) (fun x hx => ?_)
    | refine Elem.map (by omega) (by omega) (fun x hx => ?_)
    | refine Done.mk ⟨rfl, rfl⟩
    | refine Done.mk ⟨congrArg gb ?_, rfl⟩
    | refine Done.mk ⟨?_, rfl⟩
    | refine Done.mk ⟨?_, ?_⟩)
  all_goals omega
  }
  {
  refine ICalls.of_body Try.func91 rfl Try.call91 rfl (Nat.le_of_ble_eq_true rfl) pl_P8_2 rfl ?_
  repeat' ((conv => whnf); first
    | refine Br.yes rfl ?_
    | refine Br.no rfl ?_
    | refine Br.yes (beq_self_eq_true _) ?_
    | refine Br.not ?_
    | refine Br.yes (decide_eq_true (by assumption)) ?_
    | refine Br.no (decide_eq_false (by assumption)) ?_
    | refine Br.yes (beq_iff_eq.2 (by assumption)) ?_
    | refine Br.no (beq_eq_false_iff_ne.2 (by assumption)) ?_
    | refine Br.yes (bne_iff_ne.2 (by assumption)) ?_
    | (refine Br.dec (fun h => ?_) (fun h => ?_) <;> try dsimp only at h)
    | (refine Br.beqI (fun h => ?_) (fun h => ?_) <;> try dsimp only at h)
    | (refine Br.bneI (fun h => ?_) (fun h => ?_) <;> try dsimp only at h)
    | refine Br.mk (fun h => ?_) (fun h => ?_)
    | refine Need.mk (app_need (by first | (simp only [List.length_append, List.length_map, List.length_nil, List.length_cons, List.nil_append, Nat.zero_add, Nat.add_zero]; done) | (simp only [List.length_append, List.length_map, List.length_nil, List.length_cons, List.nil_append, Nat.zero_add, Nat.add_zero]; omega) | omega) (Nat.le_of_ble_eq_true rfl) (by first | (simp only [List.length_append, List.length_map, List.length_nil, List.length_cons, List.nil_append, Nat.zero_add, Nat.add_zero]; done) | (simp only [List.length_append, List.length_map, List.length_nil, List.length_cons, List.nil_append, Nat.zero_add, Nat.add_zero]; omega) | omega)) ?_
    | refine Need.mk (app_need0 (Nat.le_of_ble_eq_true rfl) (by first | (simp only [List.length_append, List.length_map, List.length_nil, List.length_cons, List.nil_append, Nat.zero_add, Nat.add_zero]; done) | (simp only [List.length_append, List.length_map, List.length_nil, List.length_cons, List.nil_append, Nat.zero_add, Nat.add_zero]; omega) | omega)) ?_
    | refine Need.mk (app_needM rfl (Nat.le_of_ble_eq_true rfl) (by first | (simp only [List.length_append, List.length_map, List.length_nil, List.length_cons, List.nil_append, Nat.zero_add, Nat.add_zero]; done) | (simp only [List.length_append, List.length_map, List.length_nil, List.length_cons, List.nil_append, Nat.zero_add, Nat.add_zero]; omega) | omega)) ?_
    | refine Need.mk (zeros_need (by omega) (Nat.le_of_ble_eq_true rfl) (by omega)) ?_
    | refine Need.mk (by first | kernel_rfl | exact ⟨of_decide_eq_true rfl, of_decide_eq_true rfl⟩ | omega) ?_
    | refine Len.mk ⟨_, by simp only [List.length_cons, List.length_nil, Nat.reduceAdd, Int.cast_ofNat_Int]; rfl, ?_⟩
    | refine Wr.lit _ (by simp only [Int.reduceAdd, Int.reduceSub, Int.reduceMul]; rfl) (by decide) ?_
    | refine Wr.fit (by omega) ?_
    | refine Wr.fit (by dsimp only; omega) ?_
    | refine Elem.mk ⟨_, ⟨of_decide_eq_true rfl, rfl⟩, ?_⟩
    | refine Len.map ?_
    | refine Len.dropM ?_
    | refine Elem.dropM ?_
    | refine Len.takeM ?_
    | refine Elem.takeM ?_
    | refine Elem.mapK (by assumption) ?_
    | refine Elem.mapI (by omega) (by assumption) ?_
    | refine Elem.mapN (by omega) (fun x hx => ?_)
    | refine Elem.map (by omega) (by omega) (fun x hx => ?_)
    | refine Done.mk ⟨rfl, rfl⟩
    | refine Done.mk ⟨congrArg gb ?_, rfl⟩
    | refine Done.mk ⟨?_, rfl⟩
    | refine Done.mk ⟨?_, ?_⟩)
  all_goals omega
  }

abbrev spanss (ls : List (List Span)) : List GV := ls.map fun l => .list 2 (spans l) none
theorem take_flatS {ls : List (List Span)} {i : Nat} {x : List Span} (h : ls[i]? = some x) : (ls.take (i + 1)).flatten = (ls.take i).flatten ++ x := by
  obtain ⟨h1, h2⟩ := List.getElem?_eq_some_iff.1 h
  rw [List.take_succ_eq_append_getElem h1, h2]; simp
theorem take_flat_leS {ls : List (List Span)} {i : Nat} : (ls.take i).flatten.length ≤ ls.flatten.length := by
  have := congrArg (fun l => l.flatten.length) (List.take_append_drop i ls)
  simp only [List.flatten_append, List.length_append] at this
  omega
theorem sum_nextS {ls : List (List Span)} {i : Nat} {x : List Span} {n : Int} (h : ls[i]? = some x) (hn : n = ((ls.take i).flatten.length : Nat)) : n + (x.length : Int) = ((ls.take (i + 1)).flatten.length : Nat) := by
  rw [take_flatS h, hn]; simp
theorem flat_endS {α : Type} {ls : List α} {i : Nat} (h : ¬ (i : Int) < ls.length) : ls.take i = ls := List.take_of_length_le (by omega)
theorem flat_roomS {ls : List (List Span)} {i : Nat} {x : List Span} (h : ls[i]? = some x) (ht : (ls.flatten.length : Int) ≤ 1000000000) {g : List GV} (hg : g = spans (ls.take i).flatten) : g.length + (spans x).length ≤ 10000000000 := by
  have := @take_flat_leS ls (i + 1)
  rw [take_flatS h, List.length_append] at this
  rw [hg, spans_len, spans_len]; omega

def pl_P8_3 : Nat → Option (List Nat × List Nat) := (fun k => bif Nat.beq k 3 then some ([1000003, 0, 3, 9, 10, 11, 6000002], []) else bif Nat.beq k 11 then some ([1000011, 6, 25, 26, 27, 6000002], [124, 133]) else bif Nat.beq k 6000002 then some ([], []) else none)
set_option maxRecDepth 100000 in
set_option maxHeartbeats 1000000 in
theorem concatSpan_ok (ls : List (List Span)) (hl : (ls.length : Int) ≤ 1000000000) (ht : (ls.flatten.length : Int) ≤ 1000000000) :
    ICalls Try.prog 63 [.list 1 (spanss ls) none] [] (Done (.list 2 (spans ls.flatten) none) []) := by
  refine ICalls.of_body Try.func63 rfl Try.call63 rfl (Nat.le_of_ble_eq_true rfl) pl_P8_3 rfl ?_
  repeat' ((conv => whnf); first
    | refine Br.yes rfl ?_
    | refine Br.no rfl ?_
    | (refine Wr.fit (by have e := sum_nextS hx hn; have := @take_flat_leS ls (i + 1); omega) ?_)
    | (refine Need.mk (app_needM rfl (Nat.le_of_ble_eq_true rfl) (flat_roomS hx ht hg)) ?_)
    | (refine ILoop.ov 1000003 (fun ((i, n) : Nat × Int) => [(11, gi i), (3, gi n)]) (fun ((i, n) : Nat × Int) => []) (fun ((i, n) : Nat × Int) => i ≤ ls.length ∧ n = ((ls.take i).flatten.length : Nat)) (fun ((i, n) : Nat × Int) => ls.length - i) ((0, 0)) (by exact rfl) ?_; (conv => whnf); refine Start.mk rfl ?_ ?_; (try dsimp only); rotate_left; rintro ⟨i, n⟩ ⟨hi, hn⟩)
    | (refine Again.mk ⟨((i + 1, n + (x.length : Int))), rfl, ?_, ?_⟩ <;> try dsimp only)
    | (refine ILoop.ov 1000011 (fun ((i', g, k, v) : Nat × List GV × Nat × Nat) => [(27, gi i'), (6, .ms 2 124 v k)]) (fun ((i', g, k, v) : Nat × List GV × Nat × Nat) => [(124, .mvec 26 2 g v)]) (fun ((i', g, k, v) : Nat × List GV × Nat × Nat) => i' ≤ ls.length ∧ g = spans (ls.take i').flatten ∧ k = g.length) (fun ((i', g, k, v) : Nat × List GV × Nat × Nat) => ls.length - i') ((0, [], 0, 1)) (by exact rfl) ?_; (conv => whnf); refine Start.mk rfl ?_ ?_; (try dsimp only); rotate_left; rintro ⟨i', g, k, v⟩ ⟨hi', hg, hk⟩)
    | (refine Again.mk ⟨((i' + 1, _, _, _)), rfl, ?_, ?_⟩ <;> try dsimp only)
    | refine Br.yes (beq_self_eq_true _) ?_
    | refine Br.not ?_
    | refine Br.yes (decide_eq_true (by assumption)) ?_
    | refine Br.no (decide_eq_false (by assumption)) ?_
    | refine Br.yes (beq_iff_eq.2 (by assumption)) ?_
    | refine Br.no (beq_eq_false_iff_ne.2 (by assumption)) ?_
    | refine Br.yes (bne_iff_ne.2 (by assumption)) ?_
    | (refine Br.dec (fun h => ?_) (fun h => ?_) <;> try dsimp only at h)
    | (refine Br.beqI (fun h => ?_) (fun h => ?_) <;> try dsimp only at h)
    | (refine Br.bneI (fun h => ?_) (fun h => ?_) <;> try dsimp only at h)
    | refine Br.mk (fun h => ?_) (fun h => ?_)
    | refine Need.mk (app_need (by first | (simp only [List.length_append, List.length_map, List.length_nil, List.length_cons, List.nil_append, Nat.zero_add, Nat.add_zero]; done) | (simp only [List.length_append, List.length_map, List.length_nil, List.length_cons, List.nil_append, Nat.zero_add, Nat.add_zero]; omega) | omega) (Nat.le_of_ble_eq_true rfl) (by first | (simp only [List.length_append, List.length_map, List.length_nil, List.length_cons, List.nil_append, Nat.zero_add, Nat.add_zero]; done) | (simp only [List.length_append, List.length_map, List.length_nil, List.length_cons, List.nil_append, Nat.zero_add, Nat.add_zero]; omega) | omega)) ?_
    | refine Need.mk (app_need0 (Nat.le_of_ble_eq_true rfl) (by first | (simp only [List.length_append, List.length_map, List.length_nil, List.length_cons, List.nil_append, Nat.zero_add, Nat.add_zero]; done) | (simp only [List.length_append, List.length_map, List.length_nil, List.length_cons, List.nil_append, Nat.zero_add, Nat.add_zero]; omega) | omega)) ?_
    | refine Need.mk (app_needM rfl (Nat.le_of_ble_eq_true rfl) (by first | (simp only [List.length_append, List.length_map, List.length_nil, List.length_cons, List.nil_append, Nat.zero_add, Nat.add_zero]; done) | (simp only [List.length_append, List.length_map, List.length_nil, List.length_cons, List.nil_append, Nat.zero_add, Nat.add_zero]; omega) | omega)) ?_
    | refine Need.mk (zeros_need (by omega) (Nat.le_of_ble_eq_true rfl) (by omega)) ?_
    | refine Need.mk (by first | kernel_rfl | exact ⟨of_decide_eq_true rfl, of_decide_eq_true rfl⟩ | omega) ?_
    | refine Len.mk ⟨_, by simp only [List.length_cons, List.length_nil, Nat.reduceAdd, Int.cast_ofNat_Int]; rfl, ?_⟩
    | refine Wr.lit _ (by simp only [Int.reduceAdd, Int.reduceSub, Int.reduceMul]; rfl) (by decide) ?_
    | refine Wr.fit (by omega) ?_
    | refine Wr.fit (by dsimp only; omega) ?_
    | refine Elem.mk ⟨_, ⟨of_decide_eq_true rfl, rfl⟩, ?_⟩
    | refine Len.map ?_
    | refine Len.dropM ?_
    | refine Elem.dropM ?_
    | refine Len.takeM ?_
    | refine Elem.takeM ?_
    | refine Elem.mapK (by assumption) ?_
    | refine Elem.mapI (by omega) (by assumption) ?_
    | refine Elem.mapN (by omega) (fun x hx => ?_)
    | refine Elem.map (by omega) (by omega) (fun x hx => ?_)
    | refine (growSpan_ok n (by omega) (by have := @take_flat_leS ls i; omega)).use ⟨rfl, ?_⟩
    | refine CallX.mk ⟨_, _, (growSpan_ok n (by omega) (by have := @take_flat_leS ls i; omega)).x, rfl, ?_⟩
    | refine Done.mk ⟨rfl, rfl⟩
    | refine Done.mk ⟨congrArg gb ?_, rfl⟩
    | refine Done.mk ⟨?_, rfl⟩
    | refine Done.mk ⟨?_, ?_⟩)
  all_goals first
    | omega
    | exact ⟨by omega, sum_nextS hx hn⟩
    | (have e := sum_nextS hx hn; omega)
    | exact ⟨by omega, by rw [take_flatS hx, spans_app, hg], by rw [List.length_append]⟩
    | (rw [flat_endS h] at hg; rw [hg]; rfl)
    | exact ⟨by omega, rfl⟩
    | exact ⟨by omega, rfl, rfl⟩

set_option maxRecDepth 100000 in
set_option maxHeartbeats 1000000 in
theorem union_ok (a b : List Span) (ha : (a.length : Int) ≤ 10000000) (hb : (b.length : Int) ≤ 10000000) :
    ICalls Try.prog 27 [.list 2 (spans a) none, .list 2 (spans b) none] [] (Done (.list 2 (spans (mkL (a ++ b))) none) []) := by
  have h1 := concatSpan_ok [a, b] (by simp) (by simp only [List.flatten_cons, List.flatten_nil, List.append_nil, List.length_append]; omega)
  rw [show [a, b].flatten = a ++ b by simp] at h1
  have h2 := make_ok (a ++ b) (by rw [List.length_append]; omega)
  refine ICalls.of_body Try.func27 rfl Try.call27 rfl (Nat.le_of_ble_eq_true rfl) (fun _ => none) rfl ?_
  repeat' ((conv => whnf); first
    | refine Br.yes rfl ?_
    | refine Br.no rfl ?_
    | refine Br.yes (beq_self_eq_true _) ?_
    | refine Br.not ?_
    | refine Br.yes (decide_eq_true (by assumption)) ?_
    | refine Br.no (decide_eq_false (by assumption)) ?_
    | refine Br.yes (beq_iff_eq.2 (by assumption)) ?_
    | refine Br.no (beq_eq_false_iff_ne.2 (by assumption)) ?_
    | refine Br.yes (bne_iff_ne.2 (by assumption)) ?_
    | (refine Br.dec (fun h => ?_) (fun h => ?_) <;> try dsimp only at h)
    | (refine Br.beqI (fun h => ?_) (fun h => ?_) <;> try dsimp only at h)
    | (refine Br.bneI (fun h => ?_) (fun h => ?_) <;> try dsimp only at h)
    | refine Br.mk (fun h => ?_) (fun h => ?_)
    | refine Need.mk (app_need (by first | (simp only [List.length_append, List.length_map, List.length_nil, List.length_cons, List.nil_append, Nat.zero_add, Nat.add_zero]; done) | (simp only [List.length_append, List.length_map, List.length_nil, List.length_cons, List.nil_append, Nat.zero_add, Nat.add_zero]; omega) | omega) (Nat.le_of_ble_eq_true rfl) (by first | (simp only [List.length_append, List.length_map, List.length_nil, List.length_cons, List.nil_append, Nat.zero_add, Nat.add_zero]; done) | (simp only [List.length_append, List.length_map, List.length_nil, List.length_cons, List.nil_append, Nat.zero_add, Nat.add_zero]; omega) | omega)) ?_
    | refine Need.mk (app_need0 (Nat.le_of_ble_eq_true rfl) (by first | (simp only [List.length_append, List.length_map, List.length_nil, List.length_cons, List.nil_append, Nat.zero_add, Nat.add_zero]; done) | (simp only [List.length_append, List.length_map, List.length_nil, List.length_cons, List.nil_append, Nat.zero_add, Nat.add_zero]; omega) | omega)) ?_
    | refine Need.mk (app_needM rfl (Nat.le_of_ble_eq_true rfl) (by first | (simp only [List.length_append, List.length_map, List.length_nil, List.length_cons, List.nil_append, Nat.zero_add, Nat.add_zero]; done) | (simp only [List.length_append, List.length_map, List.length_nil, List.length_cons, List.nil_append, Nat.zero_add, Nat.add_zero]; omega) | omega)) ?_
    | refine Need.mk (zeros_need (by omega) (Nat.le_of_ble_eq_true rfl) (by omega)) ?_
    | refine Need.mk (by first | kernel_rfl | exact ⟨of_decide_eq_true rfl, of_decide_eq_true rfl⟩ | omega) ?_
    | refine Len.mk ⟨_, by simp only [List.length_cons, List.length_nil, Nat.reduceAdd, Int.cast_ofNat_Int]; rfl, ?_⟩
    | refine Wr.lit _ (by simp only [Int.reduceAdd, Int.reduceSub, Int.reduceMul]; rfl) (by decide) ?_
    | refine Wr.fit (by omega) ?_
    | refine Wr.fit (by dsimp only; omega) ?_
    | refine Elem.mk ⟨_, ⟨of_decide_eq_true rfl, rfl⟩, ?_⟩
    | refine Len.map ?_
    | refine Len.dropM ?_
    | refine Elem.dropM ?_
    | refine Len.takeM ?_
    | refine Elem.takeM ?_
    | refine Elem.mapK (by assumption) ?_
    | refine Elem.mapI (by omega) (by assumption) ?_
    | refine Elem.mapN (by omega) (fun x hx => ?_)
    | refine Elem.map (by omega) (by omega) (fun x hx => ?_)
    | refine (h1).use ⟨rfl, ?_⟩
    | refine (h2).use ⟨rfl, ?_⟩
    | refine CallX.mk ⟨_, _, (h1).x, rfl, ?_⟩
    | refine CallX.mk ⟨_, _, (h2).x, rfl, ?_⟩
    | refine Done.mk ⟨rfl, rfl⟩
    | refine Done.mk ⟨congrArg gb ?_, rfl⟩
    | refine Done.mk ⟨?_, rfl⟩
    | refine Done.mk ⟨?_, ?_⟩)

def pickS (b : Bool) (s : Span) : Span := if b then s else ⟨0, 0⟩

set_option maxRecDepth 100000 in
theorem ivalBoth_ok (s t : Span) : ICalls Try.prog 64 [s.g, t.g] [] (Done (.tup [(pickS (isect s t).right (isect s t)).g, gb (isect s t).right]) []) := by
  have hr := ivalRight_ok (isect s t)
  generalize hb : (isect s t).right = r at *
  cases r
  {
  unfold pickS
  refine ICalls.of_body Try.func64 rfl Try.call64 rfl (Nat.le_of_ble_eq_true rfl) (fun _ => none) rfl ?_
  repeat' ((conv => whnf); first
    | refine Br.yes rfl ?_
    | refine Br.no rfl ?_
    | refine Br.yes (beq_self_eq_true _) ?_
    | refine Br.not ?_
    | refine Br.yes (decide_eq_true (by assumption)) ?_
    | refine Br.no (decide_eq_false (by assumption)) ?_
    | refine Br.yes (beq_iff_eq.2 (by assumption)) ?_
    | refine Br.no (beq_eq_false_iff_ne.2 (by assumption)) ?_
    | refine Br.yes (bne_iff_ne.2 (by assumption)) ?_
    | (refine Br.dec (fun h => ?_) (fun h => ?_) <;> try dsimp only at h)
    | (refine Br.beqI (fun h => ?_) (fun h => ?_) <;> try dsimp only at h)
    | (refine Br.bneI (fun h => ?_) (fun h => ?_) <;> try dsimp only at h)
    | refine Br.mk (fun h => ?_) (fun h => ?_)
    | refine Need.mk (app_need (by first | (simp only [List.length_append, List.length_map, List.length_nil, List.length_cons, List.nil_append, Nat.zero_add, Nat.add_zero]; done) | (simp only [List.length_append, List.length_map, List.length_nil, List.length_cons, List.nil_append, Nat.zero_add, Nat.add_zero]; omega) | omega) (Nat.le_of_ble_eq_true rfl) (by first | (simp only [List.length_append, List.length_map, List.length_nil, List.length_cons, List.nil_append, Nat.zero_add, Nat.add_zero]; done) | (simp only [List.length_append, List.length_map, List.length_nil, List.length_cons, List.nil_append, Nat.zero_add, Nat.add_zero]; omega) | omega)) ?_
    | refine Need.mk (app_need0 (Nat.le_of_ble_eq_true rfl) (by first | (simp only [List.length_append, List.length_map, List.length_nil, List.length_cons, List.nil_append, Nat.zero_add, Nat.add_zero]; done) | (simp only [List.length_append, List.length_map, List.length_nil, List.length_cons, List.nil_append, Nat.zero_add, Nat.add_zero]; omega) | omega)) ?_
    | refine Need.mk (app_needM rfl (Nat.le_of_ble_eq_true rfl) (by first | (simp only [List.length_append, List.length_map, List.length_nil, List.length_cons, List.nil_append, Nat.zero_add, Nat.add_zero]; done) | (simp only [List.length_append, List.length_map, List.length_nil, List.length_cons, List.nil_append, Nat.zero_add, Nat.add_zero]; omega) | omega)) ?_
    | refine Need.mk (zeros_need (by omega) (Nat.le_of_ble_eq_true rfl) (by omega)) ?_
    | refine Need.mk (by first | kernel_rfl | exact ⟨of_decide_eq_true rfl, of_decide_eq_true rfl⟩ | omega) ?_
    | refine Len.mk ⟨_, by simp only [List.length_cons, List.length_nil, Nat.reduceAdd, Int.cast_ofNat_Int]; rfl, ?_⟩
    | refine Wr.lit _ (by simp only [Int.reduceAdd, Int.reduceSub, Int.reduceMul]; rfl) (by decide) ?_
    | refine Wr.fit (by omega) ?_
    | refine Wr.fit (by dsimp only; omega) ?_
    | refine Elem.mk ⟨_, ⟨of_decide_eq_true rfl, rfl⟩, ?_⟩
    | refine Len.map ?_
    | refine Len.dropM ?_
    | refine Elem.dropM ?_
    | refine Len.takeM ?_
    | refine Elem.takeM ?_
    | refine Elem.mapK (by assumption) ?_
    | refine Elem.mapI (by omega) (by assumption) ?_
    | refine Elem.mapN (by omega) (fun x hx => ?_)
    | refine Elem.map (by omega) (by omega) (fun x hx => ?_)
    | refine (hr).use ⟨rfl, ?_⟩
    | refine CallX.mk ⟨_, _, (hr).x, rfl, ?_⟩
    | refine Done.mk ⟨rfl, rfl⟩
    | refine Done.mk ⟨congrArg gb ?_, rfl⟩
    | refine Done.mk ⟨?_, rfl⟩
    | refine Done.mk ⟨?_, ?_⟩)
  }
  {
  unfold pickS
  refine ICalls.of_body Try.func64 rfl Try.call64 rfl (Nat.le_of_ble_eq_true rfl) (fun _ => none) rfl ?_
  repeat' ((conv => whnf); first
    | refine Br.yes rfl ?_
    | refine Br.no rfl ?_
    | refine Br.yes (beq_self_eq_true _) ?_
    | refine Br.not ?_
    | refine Br.yes (decide_eq_true (by assumption)) ?_
    | refine Br.no (decide_eq_false (by assumption)) ?_
    | refine Br.yes (beq_iff_eq.2 (by assumption)) ?_
    | refine Br.no (beq_eq_false_iff_ne.2 (by assumption)) ?_
    | refine Br.yes (bne_iff_ne.2 (by assumption)) ?_
    | (refine Br.dec (fun h => ?_) (fun h => ?_) <;> try dsimp only at h)
    | (refine Br.beqI (fun h => ?_) (fun h => ?_) <;> try dsimp only at h)
    | (refine Br.bneI (fun h => ?_) (fun h => ?_) <;> try dsimp only at h)
    | refine Br.mk (fun h => ?_) (fun h => ?_)
    | refine Need.mk (app_need (by first | (simp only [List.length_append, List.length_map, List.length_nil, List.length_cons, List.nil_append, Nat.zero_add, Nat.add_zero]; done) | (simp only [List.length_append, List.length_map, List.length_nil, List.length_cons, List.nil_append, Nat.zero_add, Nat.add_zero]; omega) | omega) (Nat.le_of_ble_eq_true rfl) (by first | (simp only [List.length_append, List.length_map, List.length_nil, List.length_cons, List.nil_append, Nat.zero_add, Nat.add_zero]; done) | (simp only [List.length_append, List.length_map, List.length_nil, List.length_cons, List.nil_append, Nat.zero_add, Nat.add_zero]; omega) | omega)) ?_
    | refine Need.mk (app_need0 (Nat.le_of_ble_eq_true rfl) (by first | (simp only [List.length_append, List.length_map, List.length_nil, List.length_cons, List.nil_append, Nat.zero_add, Nat.add_zero]; done) | (simp only [List.length_append, List.length_map, List.length_nil, List.length_cons, List.nil_append, Nat.zero_add, Nat.add_zero]; omega) | omega)) ?_
    | refine Need.mk (app_needM rfl (Nat.le_of_ble_eq_true rfl) (by first | (simp only [List.length_append, List.length_map, List.length_nil, List.length_cons, List.nil_append, Nat.zero_add, Nat.add_zero]; done) | (simp only [List.length_append, List.length_map, List.length_nil, List.length_cons, List.nil_append, Nat.zero_add, Nat.add_zero]; omega) | omega)) ?_
    | refine Need.mk (zeros_need (by omega) (Nat.le_of_ble_eq_true rfl) (by omega)) ?_
    | refine Need.mk (by first | kernel_rfl | exact ⟨of_decide_eq_true rfl, of_decide_eq_true rfl⟩ | omega) ?_
    | refine Len.mk ⟨_, by simp only [List.length_cons, List.length_nil, Nat.reduceAdd, Int.cast_ofNat_Int]; rfl, ?_⟩
    | refine Wr.lit _ (by simp only [Int.reduceAdd, Int.reduceSub, Int.reduceMul]; rfl) (by decide) ?_
    | refine Wr.fit (by omega) ?_
    | refine Wr.fit (by dsimp only; omega) ?_
    | refine Elem.mk ⟨_, ⟨of_decide_eq_true rfl, rfl⟩, ?_⟩
    | refine Len.map ?_
    | refine Len.dropM ?_
    | refine Elem.dropM ?_
    | refine Len.takeM ?_
    | refine Elem.takeM ?_
    | refine Elem.mapK (by assumption) ?_
    | refine Elem.mapI (by omega) (by assumption) ?_
    | refine Elem.mapN (by omega) (fun x hx => ?_)
    | refine Elem.map (by omega) (by omega) (fun x hx => ?_)
    | refine (hr).use ⟨rfl, ?_⟩
    | refine CallX.mk ⟨_, _, (hr).x, rfl, ?_⟩
    | refine Done.mk ⟨rfl, rfl⟩
    | refine Done.mk ⟨congrArg gb ?_, rfl⟩
    | refine Done.mk ⟨?_, rfl⟩
    | refine Done.mk ⟨?_, ?_⟩)
  }

theorem get0 {x : List Span} {s : Span} (h : x[(0 : Int).toNat]? = some s) : x = s :: x.drop 1 := by
  cases x with
  | nil => simp at h
  | cons a x => simp at h; subst h; rfl
theorem both_go {x y : List Span} {s t : Span} (hs : x[(0 : Int).toNat]? = some s) (ht : y[(0 : Int).toNat]? = some t) : bothL x y = isectL s t ++ (if s.To < t.To then bothL (x.drop 1) y else bothL x (y.drop 1)) := by
  have e1 := get0 hs
  have e2 := get0 ht
  conv => lhs; rw [e1, e2]
  rw [bothL_cons, ← e1, ← e2]
theorem spans_drop (x : List Span) : (spans x).drop (1 : Int).toNat = spans (x.drop 1) := List.map_drop.symm
theorem drop_len {x : List Span} {s : Span} (h : x[(0 : Int).toNat]? = some s) : (x.drop 1).length + 1 = x.length := by
  have := (List.getElem?_eq_some_iff.1 h).1
  rw [List.length_drop]; omega
theorem both_11 {x y out R : List Span} {s t : Span} (hr : out ++ bothL x y = R) (hs : x[(0 : Int).toNat]? = some s) (ht : y[(0 : Int).toNat]? = some t) (h : (isect s t).right = true) (hc : s.To < t.To) : (out ++ [isect s t]) ++ bothL (x.drop 1) y = R := by
  rw [both_go hs ht, if_pos hc] at hr; unfold isectL at hr; rw [if_pos h] at hr; rw [← hr]; simp
theorem both_12 {x y out R : List Span} {s t : Span} (hr : out ++ bothL x y = R) (hs : x[(0 : Int).toNat]? = some s) (ht : y[(0 : Int).toNat]? = some t) (h : (isect s t).right = true) (hc : ¬ s.To < t.To) : (out ++ [isect s t]) ++ bothL x (y.drop 1) = R := by
  rw [both_go hs ht, if_neg hc] at hr; unfold isectL at hr; rw [if_pos h] at hr; rw [← hr]; simp
theorem both_21 {x y out R : List Span} {s t : Span} (hr : out ++ bothL x y = R) (hs : x[(0 : Int).toNat]? = some s) (ht : y[(0 : Int).toNat]? = some t) (h : (isect s t).right = false) (hc : s.To < t.To) : out ++ bothL (x.drop 1) y = R := by
  rw [both_go hs ht, if_pos hc] at hr; unfold isectL at hr; rw [if_neg (by rw [h]; decide)] at hr; rw [← hr]; simp
theorem both_22 {x y out R : List Span} {s t : Span} (hr : out ++ bothL x y = R) (hs : x[(0 : Int).toNat]? = some s) (ht : y[(0 : Int).toNat]? = some t) (h : (isect s t).right = false) (hc : ¬ s.To < t.To) : out ++ bothL x (y.drop 1) = R := by
  rw [both_go hs ht, if_neg hc] at hr; unfold isectL at hr; rw [if_neg (by rw [h]; decide)] at hr; rw [← hr]; simp
theorem both_end1 {x y out R : List Span} (hr : out ++ bothL x y = R) (h : ¬ (x.length : Int) > 0) : out = R := by
  have : x = [] := List.eq_nil_of_length_eq_zero (by omega)
  subst this; rw [bothL_nil1, List.append_nil] at hr; exact hr
theorem both_end2 {x y out R : List Span} (hr : out ++ bothL x y = R) (h : ¬ (y.length : Int) > 0) : out = R := by
  have : y = [] := List.eq_nil_of_length_eq_zero (by omega)
  subst this; rw [bothL_nil2, List.append_nil] at hr; exact hr
theorem both_app {out : List Span} {s t : Span} (h : (isect s t).right = true) : spans out ++ [.agg [gi (pickS (isect s t).right (isect s t)).From, gi (pickS (isect s t).right (isect s t)).To]] = spans (out ++ [isect s t]) ∧
    (spans out).length + [GV.agg [gi (pickS (isect s t).right (isect s t)).From, gi (pickS (isect s t).right (isect s t)).To]].length = (out ++ [isect s t]).length := by
  rw [h]
  exact ⟨by rw [spans_app]; rfl, by simp [spans_len]⟩
theorem right_no {s : Span} (h : ¬ s.From < s.To) : s.right = false := by simp [Span.right, h]

def pl_P8_4 : Nat → Option (List Nat × List Nat) := (fun k => bif Nat.beq k 3 then some ([1000003, 0, 1, 5, 5000005, 6000004], [105, 134]) else bif Nat.beq k 5000005 then some ([], []) else bif Nat.beq k 6000004 then some ([], []) else none)
set_option maxRecDepth 100000 in
set_option maxHeartbeats 1000000 in
theorem both_ok (a b : List Span) (ha : (a.length : Int) ≤ 10000000) (hb : (b.length : Int) ≤ 10000000) :
    ICalls Try.prog 28 [.list 2 (spans a) none, .list 2 (spans b) none] [] (Done (.list 2 (spans (bothL (mkL a) (mkL b))) none) []) := by
  have h1 := make_ok a (by omega)
  have h2 := make_ok b (by omega)
  have hla := mkL_le a
  have hlb := mkL_le b
  have hlen := (bothL_spec _ (mkL a) (mkL b) none none (Nat.le_refl _) (mkL_rf a) (mkL_rf b)).2.2
  generalize mkL a = A at *
  generalize mkL b = B at *
  generalize hR : bothL A B = R at *
  refine ICalls.of_body Try.func28 rfl Try.call28 rfl (Nat.le_of_ble_eq_true rfl) pl_P8_4 rfl ?_
  repeat' ((conv => whnf); first
    | refine Br.yes rfl ?_
    | refine Br.no rfl ?_
    | (refine Elem.mapI (by omega) (by assumption) ?_)
    | (refine Elem.map (xs := x) (i := 0) (by omega) (by omega) (fun s hs => ?_))
    | (refine Elem.map (xs := y) (i := 0) (by omega) (by omega) (fun t ht => ?_))
    | (refine Need.mk (app_needM rfl (Nat.le_of_ble_eq_true rfl) (by rw [spans_len]; simp only [List.length_cons, List.length_nil]; omega)) ?_)
    | (refine Need.mk ⟨by omega, by rw [spans_len]; omega⟩ ?_)
    | (refine ILoop.ov 1000003 (fun ((x, y, out, gx, gy, g, k, v) : List Span × List Span × List Span × List GV × List GV × List GV × Nat × Nat) => [(0, .list 2 gx none), (1, .list 2 gy none), (5, .ms 2 105 v k)]) (fun ((x, y, out, gx, gy, g, k, v) : List Span × List Span × List Span × List GV × List GV × List GV × Nat × Nat) => [(105, .mvec 26 2 g v)]) (fun ((x, y, out, gx, gy, g, k, v) : List Span × List Span × List Span × List GV × List GV × List GV × Nat × Nat) => (gx = spans x ∧ gy = spans y) ∧ (g = spans out ∧ k = out.length) ∧ out ++ bothL x y = R) (fun ((x, y, out, gx, gy, g, k, v) : List Span × List Span × List Span × List GV × List GV × List GV × Nat × Nat) => x.length + y.length) ((A, B, [], spans A, spans B, [], 0, 0)) (by exact rfl) ?_; (conv => whnf); refine Start.mk rfl ?_ ?_; (try dsimp only); rotate_left; rintro ⟨x, y, out, gx, gy, g, k, v⟩ ⟨⟨rfl, rfl⟩, ⟨rfl, rfl⟩, hr⟩; (have hol : out.length ≤ R.length := (by rw [← hr, List.length_append]; omega)))
    | (refine Again.mk ⟨((x.drop 1, y, out ++ [isect s t], _, spans y, spans out ++ [_], _, _)), rfl, ?_, ?_⟩ <;> try dsimp only)
    | (refine Again.mk ⟨((x, y.drop 1, out ++ [isect s t], spans x, _, spans out ++ [_], _, _)), rfl, ?_, ?_⟩ <;> try dsimp only)
    | (refine Again.mk ⟨((x.drop 1, y, out, _, spans y, spans out, _, _)), rfl, ?_, ?_⟩ <;> try dsimp only)
    | (refine Again.mk ⟨((x, y.drop 1, out, spans x, _, spans out, _, _)), rfl, ?_, ?_⟩ <;> try dsimp only)
    | refine Br.yes (beq_self_eq_true _) ?_
    | refine Br.not ?_
    | refine Br.yes (decide_eq_true (by assumption)) ?_
    | refine Br.no (decide_eq_false (by assumption)) ?_
    | refine Br.yes (beq_iff_eq.2 (by assumption)) ?_
    | refine Br.no (beq_eq_false_iff_ne.2 (by assumption)) ?_
    | refine Br.yes (bne_iff_ne.2 (by assumption)) ?_
    | (refine Br.dec (fun h => ?_) (fun h => ?_) <;> try dsimp only at h)
    | (refine Br.beqI (fun h => ?_) (fun h => ?_) <;> try dsimp only at h)
    | (refine Br.bneI (fun h => ?_) (fun h => ?_) <;> try dsimp only at h)
    | refine Br.mk (fun h => ?_) (fun h => ?_)
    | refine Need.mk (app_need (by first | (simp only [List.length_append, List.length_map, List.length_nil, List.length_cons, List.nil_append, Nat.zero_add, Nat.add_zero]; done) | (simp only [List.length_append, List.length_map, List.length_nil, List.length_cons, List.nil_append, Nat.zero_add, Nat.add_zero]; omega) | omega) (Nat.le_of_ble_eq_true rfl) (by first | (simp only [List.length_append, List.length_map, List.length_nil, List.length_cons, List.nil_append, Nat.zero_add, Nat.add_zero]; done) | (simp only [List.length_append, List.length_map, List.length_nil, List.length_cons, List.nil_append, Nat.zero_add, Nat.add_zero]; omega) | omega)) ?_
    | refine Need.mk (app_need0 (Nat.le_of_ble_eq_true rfl) (by first | (simp only [List.length_append, List.length_map, List.length_nil, List.length_cons, List.nil_append, Nat.zero_add, Nat.add_zero]; done) | (simp only [List.length_append, List.length_map, List.length_nil, List.length_cons, List.nil_append, Nat.zero_add, Nat.add_zero]; omega) | omega)) ?_
    | refine Need.mk (app_needM rfl (Nat.le_of_ble_eq_true rfl) (by first | (simp only [List.length_append, List.length_map, List.length_nil, List.length_cons, List.nil_append, Nat.zero_add, Nat.add_zero]; done) | (simp only [List.length_append, List.length_map, List.length_nil, List.length_cons, List.nil_append, Nat.zero_add, Nat.add_zero]; omega) | omega)) ?_
    | refine Need.mk (zeros_need (by omega) (Nat.le_of_ble_eq_true rfl) (by omega)) ?_
    | refine Need.mk (by first | kernel_rfl | exact ⟨of_decide_eq_true rfl, of_decide_eq_true rfl⟩ | omega) ?_
    | refine Len.mk ⟨_, by simp only [List.length_cons, List.length_nil, Nat.reduceAdd, Int.cast_ofNat_Int]; rfl, ?_⟩
    | refine Wr.lit _ (by simp only [Int.reduceAdd, Int.reduceSub, Int.reduceMul]; rfl) (by decide) ?_
    | refine Wr.fit (by omega) ?_
    | refine Wr.fit (by dsimp only; omega) ?_
    | refine Elem.mk ⟨_, ⟨of_decide_eq_true rfl, rfl⟩, ?_⟩
    | refine Len.map ?_
    | refine Len.dropM ?_
    | refine Elem.dropM ?_
    | refine Len.takeM ?_
    | refine Elem.takeM ?_
    | refine Elem.mapK (by assumption) ?_
    | refine Elem.mapI (by omega) (by assumption) ?_
    | refine Elem.mapN (by omega) (fun x hx => ?_)
    | refine Elem.map (by omega) (by omega) (fun x hx => ?_)
    | refine (h1).use ⟨rfl, ?_⟩
    | refine (h2).use ⟨rfl, ?_⟩
    | refine (ivalBoth_ok s t).use ⟨rfl, ?_⟩
    | refine CallX.mk ⟨_, _, (h1).x, rfl, ?_⟩
    | refine CallX.mk ⟨_, _, (h2).x, rfl, ?_⟩
    | refine CallX.mk ⟨_, _, (ivalBoth_ok s t).x, rfl, ?_⟩
    | refine Done.mk ⟨rfl, rfl⟩
    | refine Done.mk ⟨congrArg gb ?_, rfl⟩
    | refine Done.mk ⟨?_, rfl⟩
    | refine Done.mk ⟨?_, ?_⟩)
  all_goals first
    | omega
    | (have e1 := drop_len hs; omega)
    | (have e1 := drop_len ht; omega)
    | exact ⟨⟨spans_drop x, rfl⟩, both_app (right_iff.2 (by assumption)), both_11 hr hs ht (right_iff.2 (by assumption)) h⟩
    | exact ⟨⟨rfl, spans_drop y⟩, both_app (right_iff.2 (by assumption)), both_12 hr hs ht (right_iff.2 (by assumption)) h⟩
    | exact ⟨⟨spans_drop x, rfl⟩, ⟨rfl, rfl⟩, both_21 hr hs ht (right_no (by assumption)) h⟩
    | exact ⟨⟨rfl, spans_drop y⟩, ⟨rfl, rfl⟩, both_22 hr hs ht (right_no (by assumption)) h⟩
    | exact congrArg (fun q => GV.list 2 (spans q) none) (both_end1 hr (by omega))
    | exact congrArg (fun q => GV.list 2 (spans q) none) (both_end2 hr (by omega))
    | exact ⟨⟨rfl, rfl⟩, ⟨rfl, rfl⟩, hR⟩

theorem cut_step1 {f t : Int} {b out Z : List Span} {j : Nat} {y : Span} (hy : b[j]? = some y) (hr : out ++ cutL f t (b.drop j) = Z) (h : y.To ≤ f ∨ t ≤ y.From) : out ++ cutL f t (b.drop (j + 1)) = Z := by
  rw [drop_of_get hy, cutL, if_pos h] at hr; exact hr
theorem cut_step2 {f t : Int} {b out Z : List Span} {j : Nat} {y : Span} (hy : b[j]? = some y) (hr : out ++ cutL f t (b.drop j) = Z) (h1 : ¬ y.To ≤ f) (h2 : ¬ t ≤ y.From) : out ++ (pieceL f y.From ++ (if t ≤ y.To then [] else cutL y.To t (b.drop (j + 1)))) = Z := by
  rw [drop_of_get hy, cutL, if_neg (by omega)] at hr; exact hr
theorem cut_go {f t : Int} {b out out' Z : List Span} {j : Nat} {y : Span} (hy : b[j]? = some y) (hr : out ++ cutL f t (b.drop j) = Z) (h1 : ¬ y.To ≤ f) (h2 : ¬ t ≤ y.From) (h3 : ¬ t ≤ y.To) (ho : out' = out ++ pieceL f y.From) : out' ++ cutL y.To t (b.drop (j + 1)) = Z := by
  have := cut_step2 hy hr h1 h2
  rw [if_neg h3] at this
  rw [ho, ← this]; simp
theorem cut_stop {f t : Int} {b out out' Z : List Span} {j : Nat} {y : Span} (hy : b[j]? = some y) (hr : out ++ cutL f t (b.drop j) = Z) (h1 : ¬ y.To ≤ f) (h2 : ¬ t ≤ y.From) (h3 : t ≤ y.To) (ho : out' = out ++ pieceL f y.From) : out' = Z := by
  have := cut_step2 hy hr h1 h2
  rw [if_pos h3, List.append_nil] at this
  rw [ho, ← this]
theorem cut_end {f t : Int} {b out out' Z : List Span} {j : Nat} (hj : ¬ (j : Int) < b.length) (hr : out ++ cutL f t (b.drop j) = Z) (ho : out' = out ++ pieceL f t) : out' = Z := by
  rw [List.drop_eq_nil_of_le (by omega), cutL] at hr
  rw [ho, ← hr]
theorem piece_yes {f t : Int} (out : List Span) (h : f < t) : out ++ [⟨f, t⟩] = out ++ pieceL f t := by unfold pieceL; rw [if_pos h]
theorem piece_no {f t : Int} (out : List Span) (h : ¬ f < t) : out = out ++ pieceL f t := by unfold pieceL; rw [if_neg h, List.append_nil]
theorem minus_next {a b out R Z : List Span} {i : Nat} {s : Span} (hs : a[i]? = some s) (hr : out ++ minusL b (a.drop i) = R) (hz : Z = out ++ cutL s.From s.To b) : Z ++ minusL b (a.drop (i + 1)) = R := by
  rw [drop_of_get hs, minusL] at hr
  rw [hz, ← hr]; simp
theorem minus_end {a b out R : List Span} {i : Nat} (hi : ¬ (i : Int) < a.length) (hr : out ++ minusL b (a.drop i) = R) : out = R := by
  rw [List.drop_eq_nil_of_le (by omega), minusL, List.append_nil] at hr; exact hr
theorem spans_push (out : List Span) (f t : Int) : spans out ++ [.agg [gi f, gi t]] = spans (out ++ [⟨f, t⟩]) ∧ (spans out).length + [GV.agg [gi f, gi t]].length = (out ++ [(⟨f, t⟩ : Span)]).length :=
  ⟨by rw [spans_app]; rfl, by simp [spans_len]⟩

def pl_P8_5 : Nat → Option (List Nat × List Nat) := (fun k => bif Nat.beq k 4 then some ([1000004, 1, 5, 13, 14, 15, 5000005, 6000004], [105, 149, 167]) else bif Nat.beq k 7 then some ([1000007, 1, 5, 7, 13, 14, 15, 19, 20, 21, 5000005, 6000004], [105, 107, 149, 167]) else bif Nat.beq k 5000005 then some ([], []) else bif Nat.beq k 6000004 then some ([], []) else none)
set_option maxRecDepth 100000 in
set_option maxHeartbeats 1000000 in
theorem minus_ok (a b : List Span) (ha : (a.length : Int) ≤ 1000) (hb : (b.length : Int) ≤ 1000) :
    ICalls Try.prog 29 [.list 2 (spans a) none, .list 2 (spans b) none] [] (Done (.list 2 (spans (minusL (mkL b) (mkL a))) none) []) := by
  have h1 := make_ok a (by omega)
  have h2 := make_ok b (by omega)
  have hla := mkL_le a
  have hlb := mkL_le b
  have hlen := (minusL_spec (mkL b) (mkL_rf b) (mkL a) none (mkL_rf a)).2.2
  generalize mkL a = A at *
  generalize mkL b = B at *
  have hbig : (minusL B A).length ≤ 2000000 := Nat.le_trans hlen (Nat.le_trans (Nat.mul_le_mul (show A.length ≤ 1000 by omega) (show B.length + 1 ≤ 1001 by omega)) (by decide))
  generalize hR : minusL B A = R at *
  refine ICalls.of_body Try.func29 rfl Try.call29 rfl (Nat.le_of_ble_eq_true rfl) pl_P8_5 rfl ?_
  repeat' ((conv => whnf); first
    | refine Br.yes rfl ?_
    | refine Br.no rfl ?_
    | (refine Elem.mapN (xs := A) (i := i) (by omega) (fun s hs => ?_))
    | (refine Elem.mapN (xs := B) (i := j) (by omega) (fun y hy => ?_))
    | (refine Need.mk (app_needM rfl (Nat.le_of_ble_eq_true rfl) (by rw [spans_len]; simp only [List.length_cons, List.length_nil]; omega)) ?_)
    | (refine ILoop.ov 1000004 (fun ((i, out, g, k, v) : Nat × List Span × List GV × Nat × Nat) => [(15, gi i), (5, .ms 2 105 v k)]) (fun ((i, out, g, k, v) : Nat × List Span × List GV × Nat × Nat) => [(105, .mvec 26 2 g v)]) (fun ((i, out, g, k, v) : Nat × List Span × List GV × Nat × Nat) => (i ≤ A.length ∧ (g = spans out ∧ k = out.length)) ∧ out ++ minusL B (A.drop i) = R) (fun ((i, out, g, k, v) : Nat × List Span × List GV × Nat × Nat) => A.length - i) ((0, [], [], 0, 0)) (by exact rfl) ?_; (conv => whnf); refine Start.mk rfl ?_ ?_; (try dsimp only); rotate_left; rintro ⟨i, out, g, k, v⟩ ⟨⟨hi, ⟨rfl, rfl⟩⟩, hr⟩; (have hol : out.length ≤ R.length := (by rw [← hr, List.length_append]; omega)))
    | (refine Again.mk ⟨((i + 1, o2 ++ [⟨f, y.From⟩], spans o2 ++ [GV.agg [gi f, gi y.From]], _, _)), rfl, ?_, ?_⟩ <;> try dsimp only)
    | (refine Again.mk ⟨((i + 1, o2 ++ [⟨f, s.To⟩], spans o2 ++ [GV.agg [gi f, gi s.To]], _, _)), rfl, ?_, ?_⟩ <;> try dsimp only)
    | (refine Again.mk ⟨((i + 1, o2, spans o2, _, _)), rfl, ?_, ?_⟩ <;> try dsimp only)
    | (refine ILoop.ov 1000007 (fun ((j, f, o2, g2, k2, v2) : Nat × Int × List Span × List GV × Nat × Nat) => [(21, gi j), (5, .ms 2 105 v2 k2)]) (fun ((j, f, o2, g2, k2, v2) : Nat × Int × List Span × List GV × Nat × Nat) => [(107, .cells ([gi f, gi s.To])), (105, .mvec 26 2 g2 v2)]) (fun ((j, f, o2, g2, k2, v2) : Nat × Int × List Span × List GV × Nat × Nat) => (j ≤ B.length ∧ (g2 = spans o2 ∧ k2 = o2.length)) ∧ o2 ++ cutL f s.To (B.drop j) = out ++ cutL s.From s.To B) (fun ((j, f, o2, g2, k2, v2) : Nat × Int × List Span × List GV × Nat × Nat) => B.length - j) ((0, s.From, out, spans out, out.length, v)) (by exact rfl) ?_; (conv => whnf); refine Start.mk rfl ?_ ?_; (try dsimp only); rotate_left; rintro ⟨j, f, o2, g2, k2, v2⟩ ⟨⟨hj, ⟨rfl, rfl⟩⟩, hc⟩; (have hol2 : o2.length ≤ R.length := (by have e1 := congrArg List.length hc; have e2 := congrArg List.length (minus_next hs hr rfl); rw [List.length_append] at e1 e2; omega)))
    | (refine Again.mk ⟨((j + 1, y.To, o2 ++ [⟨f, y.From⟩], spans o2 ++ [_], _, _)), rfl, ?_, ?_⟩ <;> try dsimp only)
    | (refine Again.mk ⟨((j + 1, f, o2, spans o2, _, _)), rfl, ?_, ?_⟩ <;> try dsimp only)
    | (refine Again.mk ⟨((j + 1, y.To, o2, spans o2, _, _)), rfl, ?_, ?_⟩ <;> try dsimp only)
    | refine Br.yes (beq_self_eq_true _) ?_
    | refine Br.not ?_
    | refine Br.yes (decide_eq_true (by assumption)) ?_
    | refine Br.no (decide_eq_false (by assumption)) ?_
    | refine Br.yes (beq_iff_eq.2 (by assumption)) ?_
    | refine Br.no (beq_eq_false_iff_ne.2 (by assumption)) ?_
    | refine Br.yes (bne_iff_ne.2 (by assumption)) ?_
    | (refine Br.dec (fun h => ?_) (fun h => ?_) <;> try dsimp only at h)
    | (refine Br.beqI (fun h => ?_) (fun h => ?_) <;> try dsimp only at h)
    | (refine Br.bneI (fun h => ?_) (fun h => ?_) <;> try dsimp only at h)
    | refine Br.mk (fun h => ?_) (fun h => ?_)
    | refine Need.mk (app_need (by first | (simp only [List.length_append, List.length_map, List.length_nil, List.length_cons, List.nil_append, Nat.zero_add, Nat.add_zero]; done) | (simp only [List.length_append, List.length_map, List.length_nil, List.length_cons, List.nil_append, Nat.zero_add, Nat.add_zero]; omega) | omega) (Nat.le_of_ble_eq_true rfl) (by first | (simp only [List.length_append, List.length_map, List.length_nil, List.length_cons, List.nil_append, Nat.zero_add, Nat.add_zero]; done) | (simp only [List.length_append, List.length_map, List.length_nil, List.length_cons, List.nil_append, Nat.zero_add, Nat.add_zero]; omega) | omega)) ?_
    | refine Need.mk (app_need0 (Nat.le_of_ble_eq_true rfl) (by first | (simp only [List.length_append, List.length_map, List.length_nil, List.length_cons, List.nil_append, Nat.zero_add, Nat.add_zero]; done) | (simp only [List.length_append, List.length_map, List.length_nil, List.length_cons, List.nil_append, Nat.zero_add, Nat.add_zero]; omega) | omega)) ?_
    | refine Need.mk (app_needM rfl (Nat.le_of_ble_eq_true rfl) (by first | (simp only [List.length_append, List.length_map, List.length_nil, List.length_cons, List.nil_append, Nat.zero_add, Nat.add_zero]; done) | (simp only [List.length_append, List.length_map, List.length_nil, List.length_cons, List.nil_append, Nat.zero_add, Nat.add_zero]; omega) | omega)) ?_
    | refine Need.mk (zeros_need (by omega) (Nat.le_of_ble_eq_true rfl) (by omega)) ?_
    | refine Need.mk (by first | kernel_rfl | exact ⟨of_decide_eq_true rfl, of_decide_eq_true rfl⟩ | omega) ?_
    | refine Len.mk ⟨_, by simp only [List.length_cons, List.length_nil, Nat.reduceAdd, Int.cast_ofNat_Int]; rfl, ?_⟩
    | refine Wr.lit _ (by simp only [Int.reduceAdd, Int.reduceSub, Int.reduceMul]; rfl) (by decide) ?_
    | refine Wr.fit (by omega) ?_
    | refine Wr.fit (by dsimp only; omega) ?_
    | refine Elem.mk ⟨_, ⟨of_decide_eq_true rfl, rfl⟩, ?_⟩
    | refine Len.map ?_
    | refine Len.dropM ?_
    | refine Elem.dropM ?_
    | refine Len.takeM ?_
    | refine Elem.takeM ?_
    | refine Elem.mapK (by assumption) ?_
    | refine Elem.mapI (by omega) (by assumption) ?_
    | refine Elem.mapN (by omega) (fun x hx => ?_)
    | refine Elem.map (by omega) (by omega) (fun x hx => ?_)
    | refine (h1).use ⟨rfl, ?_⟩
    | refine (h2).use ⟨rfl, ?_⟩
    | refine CallX.mk ⟨_, _, (h1).x, rfl, ?_⟩
    | refine CallX.mk ⟨_, _, (h2).x, rfl, ?_⟩
    | refine Done.mk ⟨rfl, rfl⟩
    | refine Done.mk ⟨congrArg gb ?_, rfl⟩
    | refine Done.mk ⟨?_, rfl⟩
    | refine Done.mk ⟨?_, ?_⟩)
  all_goals first
    | omega
    | exact ⟨⟨by omega, rfl, rfl⟩, cut_step1 hy hc (.inl h)⟩
    | exact ⟨⟨by omega, rfl, rfl⟩, cut_step1 hy hc (.inr h)⟩
    | exact ⟨⟨by omega, spans_push o2 f y.From⟩, cut_go hy hc (by omega) (by omega) (by omega) (piece_yes o2 (by omega))⟩
    | exact ⟨⟨by omega, rfl, rfl⟩, cut_go hy hc (by omega) (by omega) (by omega) (piece_no o2 (by omega))⟩
    | exact ⟨⟨by omega, spans_push o2 f y.From⟩, minus_next hs hr (cut_stop hy hc (by omega) (by omega) (by omega) (piece_yes o2 (by omega)))⟩
    | exact ⟨⟨by omega, rfl, rfl⟩, minus_next hs hr (cut_stop hy hc (by omega) (by omega) (by omega) (piece_no o2 (by omega)))⟩
    | exact ⟨⟨by omega, spans_push o2 f s.To⟩, minus_next hs hr (cut_end (by omega) hc (piece_yes o2 h))⟩
    | exact ⟨⟨by omega, rfl, rfl⟩, minus_next hs hr (cut_end (by omega) hc (piece_no o2 h))⟩
    | exact congrArg (fun q => GV.list 2 (spans q) none) (minus_end h hr)
    | exact ⟨⟨by omega, rfl, rfl⟩, rfl⟩
    | exact ⟨⟨by omega, rfl, rfl⟩, hR⟩

end Go.Hl
