/- Contracts of functions, bundle I9; proved for whatever the arguments' types allow, as each theorem says. -/
import Derived.Test.YtncklikpkliilaaI2
import Derived.Test.YtncklikpkliilaaI8
import Derived.Test.YtncklikpkliilaaI5

/- The last minute of a set: plain Lean. -/
set_option linter.unusedVariables false
set_option linter.unusedSimpArgs false
namespace Go.Hl
open Go.Gh

theorem endS_ge : ∀ (A : List Span) (t : Int), rightFrom A (some t) = true → ∃ x, endS A (some t) = some x ∧ t ≤ x
  | [], t, _ => ⟨t, rfl, Int.le_refl _⟩
  | s :: A, t, h => by
    obtain ⟨h1, h2, h3⟩ := rf_cons.1 h
    simp only [okAfter, decide_eq_true_eq] at h2
    obtain ⟨x, e, hx⟩ := endS_ge A s.To h3
    exact ⟨x, e, by omega⟩
theorem endS_minute : ∀ (A : List Span) (e : Option Int) (m : Int), rightFrom A e = true → hasL A m = true → ∃ x, endS A e = some x ∧ m < x
  | [], e, m, _, h => by simp [hasL] at h
  | s :: A, e, m, h, hm => by
    obtain ⟨h1, h2, h3⟩ := rf_cons.1 h
    rw [hasL_cons, Bool.or_eq_true, has_iff] at hm
    rcases hm with hm | hm
    · obtain ⟨x, e, hx⟩ := endS_ge A s.To h3
      exact ⟨x, e, by omega⟩
    · exact endS_minute A _ m h3 hm

structure IsLast (l : List Span) (x : Int × Bool) : Prop where
  yes : x.2 = true → hasL l x.1 = true ∧ ∀ k, x.1 < k → hasL l k = false
  no : x.2 = false → x.1 = 0 ∧ ∀ k, hasL l k = false
theorem IsLast.unique {l : List Span} {x y : Int × Bool} (hx : IsLast l x) (hy : IsLast l y) : x = y := by
  obtain ⟨a, f⟩ := x
  obtain ⟨b, g⟩ := y
  cases f <;> cases g
  · have h1 := (hx.no rfl).1
    have h2 := (hy.no rfl).1
    simp only at h1 h2
    rw [h1, h2]
  · have h1 := (hx.no rfl).2 b
    have h2 := (hy.yes rfl).1
    simp only at h2
    rw [h1] at h2; cases h2
  · have h1 := (hy.no rfl).2 a
    have h2 := (hx.yes rfl).1
    simp only at h2
    rw [h1] at h2; cases h2
  · obtain ⟨h1, h2⟩ := hx.yes rfl
    obtain ⟨k1, k2⟩ := hy.yes rfl
    simp only at h1 h2 k1 k2
    rcases Int.lt_trichotomy a b with h | h | h
    · rw [h2 b h] at k1; cases k1
    · rw [h]
    · rw [k2 a h] at h1; cases h1
theorem IsLast.congr {l l' : List Span} {x : Int × Bool} (h : ∀ k, hasL l k = hasL l' k) (hx : IsLast l x) : IsLast l' x :=
  ⟨fun e => by obtain ⟨h1, h2⟩ := hx.yes e; exact ⟨by rw [← h]; exact h1, fun k a => by rw [← h]; exact h2 k a⟩, fun e => by obtain ⟨h1, h2⟩ := hx.no e; exact ⟨h1, fun k => by rw [← h]; exact h2 k⟩⟩

def lastM (R : List Span) : Int × Bool := match R[R.length - 1]? with
  | some q => (q.To - 1, true)
  | none => (0, false)
theorem lastM_nil : lastM [] = (0, false) := rfl
theorem lastM_at {R : List Span} {q : Span} {i : Nat} (hi : i = R.length - 1) (h : R[i]? = some q) : lastM R = (q.To - 1, true) := by
  subst hi; unfold lastM; rw [h]
theorem last_split {R : List Span} {q : Span} (h : R[R.length - 1]? = some q) : ∃ A, R = A ++ [q] := by
  have hl := (List.getElem?_eq_some_iff.1 h).1
  have ha : R ≠ [] := by intro e; subst e; simp at hl
  refine ⟨R.dropLast, ?_⟩
  conv => lhs; rw [← List.dropLast_concat_getLast ha]
  congr 1
  have e2 := List.getElem?_eq_some_iff.1 h
  rw [List.getLast_eq_getElem, e2.2]
theorem lastM_is {R : List Span} (h : rightFrom R none = true) : IsLast R (lastM R) := by
  cases hq : R[R.length - 1]? with
  | none =>
    have : R = [] := by
      cases R with
      | nil => rfl
      | cons a R => simp at hq
    subst this
    exact ⟨fun h => (by cases h), fun _ => ⟨rfl, fun k => rfl⟩⟩
  | some q =>
    rw [lastM_at rfl hq]
    obtain ⟨A, rfl⟩ := last_split hq
    obtain ⟨h1, h2, h3⟩ := rf_snoc.1 h
    refine ⟨fun _ => ⟨?_, fun k hk => ?_⟩, fun h => (by cases h)⟩
    · rw [hasL_app, Bool.or_eq_true, hasL_cons, Bool.or_eq_true, has_iff]; right; left; simp only; omega
    · simp only at hk
      rw [hasL_app, Bool.or_eq_false_iff, hasL_cons, hasL_nil, Bool.or_false]
      constructor
      · cases hh : hasL A k with
        | false => rfl
        | true =>
          obtain ⟨x, e, hx⟩ := endS_minute A none k h1 hh
          rw [e] at h3
          simp only [okAfter, decide_eq_true_eq] at h3
          omega
      · cases hh : q.has k with
        | false => rfl
        | true => rw [has_iff] at hh; omega

/-- The reference's search. -/
structure RLast (l : List Span) (i : Nat) (n : Int) (f : Bool) : Prop where
  no : f = false → n = 0 ∧ ∀ j s, j < i → l[j]? = some s → ¬ s.From < s.To
  yes : f = true → hasL l n = true ∧ ∀ j s, j < i → l[j]? = some s → s.From < s.To → s.To - 1 ≤ n
theorem RLast.start (l : List Span) : RLast l 0 0 false := ⟨fun _ => ⟨rfl, fun j s h => by omega⟩, fun h => (by cases h)⟩
theorem RLast.skip {l : List Span} {n : Int} {i : Nat} {f : Bool} {x : Span} (h : RLast l i n f) (hx : l[i]? = some x) (hs : ¬ x.From < x.To) : RLast l (i + 1) n f := by
  refine ⟨fun e => ⟨(h.no e).1, fun j s hj hl h1 => ?_⟩, fun e => ⟨(h.yes e).1, fun j s hj hl h1 => ?_⟩⟩
  · by_cases e2 : j = i
    · subst e2; rw [hx] at hl; cases hl; omega
    · exact (h.no e).2 j s (by omega) hl h1
  · by_cases e2 : j = i
    · subst e2; rw [hx] at hl; cases hl; omega
    · exact (h.yes e).2 j s (by omega) hl h1
theorem RLast.keep {l : List Span} {n : Int} {i : Nat} {f : Bool} {x : Span} (h : RLast l i n f) (hf : f = true) (hx : l[i]? = some x) (hn : ¬ n < x.To - 1) : RLast l (i + 1) n f := by
  refine ⟨fun e => (by rw [hf] at e; cases e), fun e => ⟨(h.yes e).1, fun j s hj hl h1 => ?_⟩⟩
  by_cases e2 : j = i
  · subst e2; rw [hx] at hl; cases hl; omega
  · exact (h.yes e).2 j s (by omega) hl h1
theorem RLast.take {l : List Span} {n : Int} {i : Nat} {f : Bool} {x : Span} (h : RLast l i n f) (hx : l[i]? = some x) (hr : x.From < x.To) (hn : f = true → n < x.To - 1) : RLast l (i + 1) (x.To - 1) true := by
  refine ⟨fun e => (by cases e), fun _ => ⟨hasL_iff.2 ⟨x, List.mem_of_getElem? hx, by omega, by omega⟩, fun j s hj hl h1 => ?_⟩⟩
  by_cases e2 : j = i
  · subst e2; rw [hx] at hl; cases hl; omega
  · cases f with
    | false => exact absurd h1 ((h.no rfl).2 j s (by omega) hl)
    | true =>
      have := (h.yes rfl).2 j s (by omega) hl h1
      have := hn rfl
      omega
theorem RLast.is {l : List Span} {n : Int} {i : Nat} {f : Bool} (h : RLast l i n f) (hi : ¬ (i : Int) < l.length) : IsLast l (n, f) := by
  refine ⟨fun e => ⟨(h.yes e).1, fun k b => ?_⟩, fun e => ⟨(h.no e).1, fun k => ?_⟩⟩
  · cases hh : hasL l k with
    | false => rfl
    | true =>
      obtain ⟨s, h1, h2, h3⟩ := hasL_iff.1 hh
      obtain ⟨j, hj⟩ := List.getElem?_of_mem h1
      have := (h.yes e).2 j s (by have := (List.getElem?_eq_some_iff.1 hj).1; omega) hj (by omega)
      simp only at b; omega
  · cases hh : hasL l k with
    | false => rfl
    | true =>
      obtain ⟨s, h1, h2, h3⟩ := hasL_iff.1 hh
      obtain ⟨j, hj⟩ := List.getElem?_of_mem h1
      exact absurd (by omega) ((h.no e).2 j s (by have := (List.getElem?_eq_some_iff.1 hj).1; omega) hj)

end Go.Hl

/- Contracts and laws of chapter 18: the last minute, what is shut, windows.  -/
set_option linter.unusedVariables false
set_option linter.unusedSimpArgs false
namespace Go.Hl
open Go.Gh Go.Proofs

theorem mkL_fits {l : List Span} {q : Span} (hf : ∀ s, s ∈ l → s.Fits) (hq : q ∈ mkL l) : -9223372036854775808 ≤ q.To - 1 ∧ q.To - 1 ≤ 9223372036854775807 := by
  have hr : q.From < q.To := by
    have : ∀ (R : List Span) (e : Option Int), rightFrom R e = true → q ∈ R → q.From < q.To := by
      intro R
      induction R with
      | nil => intro e _ h; cases h
      | cons s R ih =>
        intro e h hm
        obtain ⟨h1, _, h3⟩ := rf_cons.1 h
        rcases List.mem_cons.1 hm with rfl | hm
        · exact h1
        · exact ih _ h3 hm
    exact this _ _ (mkL_rf l) hq
  have hh : hasL (mkL l) (q.To - 1) = true := hasL_iff.2 ⟨q, hq, by omega, by omega⟩
  rw [mkL_has] at hh
  obtain ⟨s, h1, h2, h3⟩ := hasL_iff.1 hh
  obtain ⟨⟨f1, f2⟩, f3, f4⟩ := hf s h1
  omega

set_option maxRecDepth 100000 in
theorem winNext_ok (l : List Span) (m : Int) (hl : (l.length : Int) ≤ 10000000) :
    ICalls Try.prog 31 [.list 2 (spans l) none, gi m] [] (Done (.tup [gi (nextM m (mkL l)).1, gb (nextM m (mkL l)).2]) []) := by
  have he := next_ok l m (by omega)
  generalize nextM m (mkL l) = z at *
  obtain ⟨z1, z2⟩ := z
  refine ICalls.of_body Try.func31 rfl Try.call31 rfl (Nat.le_of_ble_eq_true rfl) (fun _ => none) rfl ?_
  repeat' ((conv => whnf); first
    | refine Br.yes rfl ?_
    | refine Br.no rfl ?_
    | refine Br.yes (beq_self_eq_true _) ?_
    | refine Br.not ?_
    | refine Br.yes (decide_eq_true (by assumption)) ?_
    | refine Br.no (decide_eq_false (by assumption)) ?_
    | refine Br.yes (beq_iff_eq.2 (by assumption)) ?_
    | refine Br.no (beq_eq_false_iff_ne.2 (by assumption)) ?_
    | refine Br.yes (bne_iff_ne.2 (by assumption)) ?_
    | (refine Br.dec (fun h => ?_) (fun h => ?_) <;> try dsimp only at h)
    | (refine Br.beqI (fun h => ?_) (fun h => ?_) <;> try dsimp only at h)
    | (refine Br.bneI (fun h => ?_) (fun h => ?_) <;> try dsimp only at h)
    | refine Br.mk (fun h => ?_) (fun h => ?_)
    | refine Need.mk (app_need (by first | (simp only [List.length_append, List.length_map, List.length_nil, List.length_cons, List.nil_append, Nat.zero_add, Nat.add_zero]; done) | (simp only [List.length_append, List.length_map, List.length_nil, List.length_cons, List.nil_append, Nat.zero_add, Nat.add_zero]; omega) | omega) (Nat.le_of_ble_eq_true rfl) (by first | (simp only [List.length_append, List.length_map, List.length_nil, List.length_cons, List.nil_append, Nat.zero_add, Nat.add_zero]; done) | (simp only [List.length_append, List.length_map, List.length_nil, List.length_cons, List.nil_append, Nat.zero_add, Nat.add_zero]; omega) | omega)) ?_
    | refine Need.mk (app_need0 (Nat.le_of_ble_eq_true rfl) (by first | (simp only [List.length_append, List.length_map, List.length_nil, List.length_cons, List.nil_append, Nat.zero_add, Nat.add_zero]; done) | (simp only [List.length_append, List.length_map, List.length_nil, List.length_cons, List.nil_append, Nat.zero_add, Nat.add_zero]; omega) | omega)) ?_
    | refine Need.mk (by first | kernel_rfl | exact ⟨of_decide_eq_true rfl, of_decide_eq_true rfl⟩ | omega) ?_
    | refine Len.mk ⟨_, by simp only [List.length_cons, List.length_nil, Nat.reduceAdd, Int.cast_ofNat_Int]; rfl, ?_⟩
    | refine Wr.lit _ (by simp only [Int.reduceAdd, Int.reduceSub, Int.reduceMul]; rfl) (by decide) ?_
    | refine Wr.fit (by omega) ?_
    | refine Wr.fit (by dsimp only; omega) ?_
    | refine Elem.mk ⟨_, ⟨of_decide_eq_true rfl, rfl⟩, ?_⟩
    | refine Len.map ?_
    | refine Len.dropM ?_
    | refine Elem.dropM ?_
    | refine Len.takeM ?_
    | refine Elem.takeM ?_
    | refine Elem.mapK (by assumption) ?_
    | refine Elem.mapI (by omega) (by assumption) ?_
    | refine Elem.mapN (by omega) (fun x hx => ?_)
    | refine Elem.map (by omega) (by omega) (fun x hx => ?_)
    | refine (he).use ⟨rfl, ?_⟩
    | refine CallX.mk ⟨_, _, (he).x, rfl, ?_⟩
    | refine Done.mk ⟨rfl, rfl⟩
    | refine Done.mk ⟨congrArg gb ?_, rfl⟩
    | refine Done.mk ⟨?_, rfl⟩
    | refine Done.mk ⟨?_, ?_⟩)

set_option maxRecDepth 100000 in
theorem winLast_ok (l : List Span) (hl : (l.length : Int) ≤ 10000000) (hf : ∀ s, s ∈ l → s.Fits) :
    ICalls Try.prog 32 [.list 2 (spans l) none] [] (Done (.tup [gi (lastM (mkL l)).1, gb (lastM (mkL l)).2]) []) := by
  have hm := make_ok l (by omega)
  have hfit : ∀ q, q ∈ mkL l → _ := fun q hq => mkL_fits hf hq
  have hle := mkL_le l
  generalize mkL l = R at *
  cases R with
  | nil =>
    refine ICalls.of_body Try.func32 rfl Try.call32 rfl (Nat.le_of_ble_eq_true rfl) (fun _ => none) rfl ?_
    repeat' ((conv => whnf); first
      | refine Br.yes rfl ?_
      | refine Br.no rfl ?_
      | refine Br.yes (beq_self_eq_true _) ?_
      | refine Br.not ?_
      | refine Br.yes (decide_eq_true (by assumption)) ?_
      | refine Br.no (decide_eq_false (by assumption)) ?_
      | refine Br.yes (beq_iff_eq.2 (by assumption)) ?_
      | refine Br.no (beq_eq_false_iff_ne.2 (by assumption)) ?_
      | refine Br.yes (bne_iff_ne.2 (by assumption)) ?_
      | (refine Br.dec (fun h => ?_) (fun h => ?_) <;> try dsimp only at h)
      | (refine Br.beqI (fun h => ?_) (fun h => ?_) <;> try dsimp only at h)
      | (refine Br.bneI (fun h => ?_) (fun h => ?_) <;> try dsimp only at h)
      | refine Br.mk (fun h => ?_) (fun h => ?_)
      | refine Need.mk (app_need (by first | (simp only [List.length_append, List.length_map, List.length_nil, List.length_cons, List.nil_append, Nat.zero_add, Nat.add_zero]; done) | (simp only [List.length_append, List.length_map, List.length_nil, List.length_cons, List.nil_append, Nat.zero_add, Nat.add_zero]; omega) | omega) (Nat.le_of_ble_eq_true rfl) (by first | (simp only [List.length_append, List.length_map, List.length_nil, List.length_cons, List.nil_append, Nat.zero_add, Nat.add_zero]; done) | (simp only [List.length_append, List.length_map, List.length_nil, List.length_cons, List.nil_append, Nat.zero_add, Nat.add_zero]; omega) | omega)) ?_
      | refine Need.mk (app_need0 (Nat.le_of_ble_eq_true rfl) (by first | (simp only [List.length_append, List.length_map, List.length_nil, List.length_cons, List.nil_append, Nat.zero_add, Nat.add_zero]; done) | (simp only [List.length_append, List.length_map, List.length_nil, List.length_cons, List.nil_append, Nat.zero_add, Nat.add_zero]; omega) | omega)) ?_
      | refine Need.mk (by first | kernel_rfl | exact ⟨of_decide_eq_true rfl, of_decide_eq_true rfl⟩ | omega) ?_
      | refine Len.mk ⟨_, by simp only [List.length_cons, List.length_nil, Nat.reduceAdd, Int.cast_ofNat_Int]; rfl, ?_⟩
      | refine Wr.lit _ (by simp only [Int.reduceAdd, Int.reduceSub, Int.reduceMul]; rfl) (by decide) ?_
      | refine Wr.fit (by omega) ?_
      | refine Wr.fit (by dsimp only; omega) ?_
      | refine Elem.mk ⟨_, ⟨of_decide_eq_true rfl, rfl⟩, ?_⟩
      | refine Len.map ?_
      | refine Len.dropM ?_
      | refine Elem.dropM ?_
      | refine Len.takeM ?_
      | refine Elem.takeM ?_
      | refine Elem.mapK (by assumption) ?_
      | refine Elem.mapI (by omega) (by assumption) ?_
      | refine Elem.mapN (by omega) (fun x hx => ?_)
      | refine Elem.map (by omega) (by omega) (fun x hx => ?_)
      | refine (hm).use ⟨rfl, ?_⟩
      | refine CallX.mk ⟨_, _, (hm).x, rfl, ?_⟩
      | refine Done.mk ⟨rfl, rfl⟩
      | refine Done.mk ⟨congrArg gb ?_, rfl⟩
      | refine Done.mk ⟨?_, rfl⟩
      | refine Done.mk ⟨?_, ?_⟩)
  | cons s R =>
    refine ICalls.of_body Try.func32 rfl Try.call32 rfl (Nat.le_of_ble_eq_true rfl) (fun _ => none) rfl ?_
    repeat' ((conv => whnf); first
      | refine Br.yes rfl ?_
      | refine Br.no rfl ?_
      | (refine Elem.map (xs := s :: R) (by simp only [List.length_cons]; omega) (by simp only [List.length_cons]; omega) (fun q hq => ?_))
      | (refine Wr.fit (by simp only [List.length_cons] at *; omega) ?_)
      | (refine Wr.fit (hfit q (List.mem_of_getElem? hq)) ?_)
      | refine Br.yes (beq_self_eq_true _) ?_
      | refine Br.not ?_
      | refine Br.yes (decide_eq_true (by assumption)) ?_
      | refine Br.no (decide_eq_false (by assumption)) ?_
      | refine Br.yes (beq_iff_eq.2 (by assumption)) ?_
      | refine Br.no (beq_eq_false_iff_ne.2 (by assumption)) ?_
      | refine Br.yes (bne_iff_ne.2 (by assumption)) ?_
      | (refine Br.dec (fun h => ?_) (fun h => ?_) <;> try dsimp only at h)
      | (refine Br.beqI (fun h => ?_) (fun h => ?_) <;> try dsimp only at h)
      | (refine Br.bneI (fun h => ?_) (fun h => ?_) <;> try dsimp only at h)
      | refine Br.mk (fun h => ?_) (fun h => ?_)
      | refine Need.mk (app_need (by first | (simp only [List.length_append, List.length_map, List.length_nil, List.length_cons, List.nil_append, Nat.zero_add, Nat.add_zero]; done) | (simp only [List.length_append, List.length_map, List.length_nil, List.length_cons, List.nil_append, Nat.zero_add, Nat.add_zero]; omega) | omega) (Nat.le_of_ble_eq_true rfl) (by first | (simp only [List.length_append, List.length_map, List.length_nil, List.length_cons, List.nil_append, Nat.zero_add, Nat.add_zero]; done) | (simp only [List.length_append, List.length_map, List.length_nil, List.length_cons, List.nil_append, Nat.zero_add, Nat.add_zero]; omega) | omega)) ?_
      | refine Need.mk (app_need0 (Nat.le_of_ble_eq_true rfl) (by first | (simp only [List.length_append, List.length_map, List.length_nil, List.length_cons, List.nil_append, Nat.zero_add, Nat.add_zero]; done) | (simp only [List.length_append, List.length_map, List.length_nil, List.length_cons, List.nil_append, Nat.zero_add, Nat.add_zero]; omega) | omega)) ?_
      | refine Need.mk (by first | kernel_rfl | exact ⟨of_decide_eq_true rfl, of_decide_eq_true rfl⟩ | omega) ?_
      | refine Len.mk ⟨_, by simp only [List.length_cons, List.length_nil, Nat.reduceAdd, Int.cast_ofNat_Int]; rfl, ?_⟩
      | refine Wr.lit _ (by simp only [Int.reduceAdd, Int.reduceSub, Int.reduceMul]; rfl) (by decide) ?_
      | refine Wr.fit (by omega) ?_
      | refine Wr.fit (by dsimp only; omega) ?_
      | refine Elem.mk ⟨_, ⟨of_decide_eq_true rfl, rfl⟩, ?_⟩
      | refine Len.map ?_
      | refine Len.dropM ?_
      | refine Elem.dropM ?_
      | refine Len.takeM ?_
      | refine Elem.takeM ?_
      | refine Elem.mapK (by assumption) ?_
      | refine Elem.mapI (by omega) (by assumption) ?_
      | refine Elem.mapN (by omega) (fun x hx => ?_)
      | refine Elem.map (by omega) (by omega) (fun x hx => ?_)
      | refine (hm).use ⟨rfl, ?_⟩
      | refine CallX.mk ⟨_, _, (hm).x, rfl, ?_⟩
      | refine Done.mk ⟨rfl, rfl⟩
      | refine Done.mk ⟨congrArg gb ?_, rfl⟩
      | refine Done.mk ⟨?_, rfl⟩
      | refine Done.mk ⟨?_, ?_⟩)
    all_goals (rw [lastM_at (by simp only [List.length_cons]; omega) hq]; done)

def pl_P10_1 : Nat → Option (List Nat × List Nat) := (fun k => bif Nat.beq k 3 then some ([1000003, 0, 4, 5, 6], []) else none)
set_option maxRecDepth 100000 in
set_option maxHeartbeats 1000000 in
theorem refLast_ok (l : List Span) (hl : (l.length : Int) ≤ 10000000) (hf : ∀ s, s ∈ l → s.Fits) :
    ICalls Try.prog 36 [.list 2 (spans l) none] [] (Done (.tup [gi (lastM (mkL l)).1, gb (lastM (mkL l)).2]) []) := by
  have hN : IsLast l (lastM (mkL l)) := (lastM_is (mkL_rf l)).congr (mkL_has l)
  generalize lastM (mkL l) = z at *
  obtain ⟨z1, z2⟩ := z
  refine ICalls.of_body Try.func36 rfl Try.call36 rfl (Nat.le_of_ble_eq_true rfl) pl_P10_1 rfl ?_
  repeat' ((conv => whnf); first
    | refine Br.yes rfl ?_
    | refine Br.no rfl ?_
    | (refine Elem.mapK (by assumption) ?_)
    | (refine Elem.mapN (by omega) (fun x hx => ?_))
    | (refine Wr.fit (by obtain ⟨⟨f1, f2⟩, f3, f4⟩ := hf x (List.mem_of_getElem? hx); omega) ?_)
    | (refine ILoop.ov 1000003 (fun ((i, n, f) : Nat × Int × Bool) => [(6, gi i), (4, gi n), (5, gb f)]) (fun ((i, n, f) : Nat × Int × Bool) => []) (fun ((i, n, f) : Nat × Int × Bool) => i ≤ l.length ∧ RLast l i n f) (fun ((i, n, f) : Nat × Int × Bool) => l.length - i) ((0, 0, false)) (by exact rfl) ?_; (conv => whnf); refine Start.mk rfl ?_ ?_; (try dsimp only); rotate_left; rintro ⟨i, n, f⟩ ⟨hi, hI⟩)
    | (refine Again.mk ⟨((i + 1, n, f)), rfl, ?_, ?_⟩ <;> try dsimp only)
    | (refine Again.mk ⟨((i + 1, x.To - 1, true)), rfl, ?_, ?_⟩ <;> try dsimp only)
    | refine Br.yes (beq_self_eq_true _) ?_
    | refine Br.not ?_
    | refine Br.yes (decide_eq_true (by assumption)) ?_
    | refine Br.no (decide_eq_false (by assumption)) ?_
    | refine Br.yes (beq_iff_eq.2 (by assumption)) ?_
    | refine Br.no (beq_eq_false_iff_ne.2 (by assumption)) ?_
    | refine Br.yes (bne_iff_ne.2 (by assumption)) ?_
    | (refine Br.dec (fun h => ?_) (fun h => ?_) <;> try dsimp only at h)
    | (refine Br.beqI (fun h => ?_) (fun h => ?_) <;> try dsimp only at h)
    | (refine Br.bneI (fun h => ?_) (fun h => ?_) <;> try dsimp only at h)
    | refine Br.mk (fun h => ?_) (fun h => ?_)
    | refine Need.mk (app_need (by first | (simp only [List.length_append, List.length_map, List.length_nil, List.length_cons, List.nil_append, Nat.zero_add, Nat.add_zero]; done) | (simp only [List.length_append, List.length_map, List.length_nil, List.length_cons, List.nil_append, Nat.zero_add, Nat.add_zero]; omega) | omega) (Nat.le_of_ble_eq_true rfl) (by first | (simp only [List.length_append, List.length_map, List.length_nil, List.length_cons, List.nil_append, Nat.zero_add, Nat.add_zero]; done) | (simp only [List.length_append, List.length_map, List.length_nil, List.length_cons, List.nil_append, Nat.zero_add, Nat.add_zero]; omega) | omega)) ?_
    | refine Need.mk (app_need0 (Nat.le_of_ble_eq_true rfl) (by first | (simp only [List.length_append, List.length_map, List.length_nil, List.length_cons, List.nil_append, Nat.zero_add, Nat.add_zero]; done) | (simp only [List.length_append, List.length_map, List.length_nil, List.length_cons, List.nil_append, Nat.zero_add, Nat.add_zero]; omega) | omega)) ?_
    | refine Need.mk (by first | kernel_rfl | exact ⟨of_decide_eq_true rfl, of_decide_eq_true rfl⟩ | omega) ?_
    | refine Len.mk ⟨_, by simp only [List.length_cons, List.length_nil, Nat.reduceAdd, Int.cast_ofNat_Int]; rfl, ?_⟩
    | refine Wr.lit _ (by simp only [Int.reduceAdd, Int.reduceSub, Int.reduceMul]; rfl) (by decide) ?_
    | refine Wr.fit (by omega) ?_
    | refine Wr.fit (by dsimp only; omega) ?_
    | refine Elem.mk ⟨_, ⟨of_decide_eq_true rfl, rfl⟩, ?_⟩
    | refine Len.map ?_
    | refine Len.dropM ?_
    | refine Elem.dropM ?_
    | refine Len.takeM ?_
    | refine Elem.takeM ?_
    | refine Elem.mapK (by assumption) ?_
    | refine Elem.mapI (by omega) (by assumption) ?_
    | refine Elem.mapN (by omega) (fun x hx => ?_)
    | refine Elem.map (by omega) (by omega) (fun x hx => ?_)
    | refine (refIvalRight_ok x).use ⟨rfl, ?_⟩
    | refine CallX.mk ⟨_, _, (refIvalRight_ok x).x, rfl, ?_⟩
    | refine Done.mk ⟨rfl, rfl⟩
    | refine Done.mk ⟨congrArg gb ?_, rfl⟩
    | refine Done.mk ⟨?_, rfl⟩
    | refine Done.mk ⟨?_, ?_⟩)
  all_goals first
    | omega
    | exact ⟨by omega, hI.skip hx (by assumption)⟩
    | exact ⟨by omega, hI.take hx (by assumption) (fun _ => h)⟩
    | exact ⟨by omega, hI.take hx (by assumption) (fun e => by rw [h] at e; cases e)⟩
    | exact ⟨by omega, hI.keep (by assumption) hx h⟩
    | exact ⟨by omega, RLast.start l⟩
    | (have e := (hI.is h).unique hN; cases e; rfl)

set_option maxRecDepth 100000 in
set_option maxHeartbeats 1000000 in
theorem shut_ok (l : List Span) (s : Span) (hl : (l.length : Int) ≤ 1000) :
    ICalls Try.prog 34 [.list 2 (spans l) none, s.g] [] (Done (.list 2 (spans (minusL (mkL l) (mkL [s]))) none) []) := by
  have h := minus_ok [s] l (by simp) hl
  refine ICalls.of_body Try.func34 rfl Try.call34 rfl (Nat.le_of_ble_eq_true rfl) (fun _ => none) rfl ?_
  repeat' ((conv => whnf); first
    | refine Br.yes rfl ?_
    | refine Br.no rfl ?_
    | refine Br.yes (beq_self_eq_true _) ?_
    | refine Br.not ?_
    | refine Br.yes (decide_eq_true (by assumption)) ?_
    | refine Br.no (decide_eq_false (by assumption)) ?_
    | refine Br.yes (beq_iff_eq.2 (by assumption)) ?_
    | refine Br.no (beq_eq_false_iff_ne.2 (by assumption)) ?_
    | refine Br.yes (bne_iff_ne.2 (by assumption)) ?_
    | (refine Br.dec (fun h => ?_) (fun h => ?_) <;> try dsimp only at h)
    | (refine Br.beqI (fun h => ?_) (fun h => ?_) <;> try dsimp only at h)
    | (refine Br.bneI (fun h => ?_) (fun h => ?_) <;> try dsimp only at h)
    | refine Br.mk (fun h => ?_) (fun h => ?_)
    | refine Need.mk (app_need (by first | (simp only [List.length_append, List.length_map, List.length_nil, List.length_cons, List.nil_append, Nat.zero_add, Nat.add_zero]; done) | (simp only [List.length_append, List.length_map, List.length_nil, List.length_cons, List.nil_append, Nat.zero_add, Nat.add_zero]; omega) | omega) (Nat.le_of_ble_eq_true rfl) (by first | (simp only [List.length_append, List.length_map, List.length_nil, List.length_cons, List.nil_append, Nat.zero_add, Nat.add_zero]; done) | (simp only [List.length_append, List.length_map, List.length_nil, List.length_cons, List.nil_append, Nat.zero_add, Nat.add_zero]; omega) | omega)) ?_
    | refine Need.mk (app_need0 (Nat.le_of_ble_eq_true rfl) (by first | (simp only [List.length_append, List.length_map, List.length_nil, List.length_cons, List.nil_append, Nat.zero_add, Nat.add_zero]; done) | (simp only [List.length_append, List.length_map, List.length_nil, List.length_cons, List.nil_append, Nat.zero_add, Nat.add_zero]; omega) | omega)) ?_
    | refine Need.mk (by first | kernel_rfl | exact ⟨of_decide_eq_true rfl, of_decide_eq_true rfl⟩ | omega) ?_
    | refine Len.mk ⟨_, by simp only [List.length_cons, List.length_nil, Nat.reduceAdd, Int.cast_ofNat_Int]; rfl, ?_⟩
    | refine Wr.lit _ (by simp only [Int.reduceAdd, Int.reduceSub, Int.reduceMul]; rfl) (by decide) ?_
    | refine Wr.fit (by omega) ?_
    | refine Wr.fit (by dsimp only; omega) ?_
    | refine Elem.mk ⟨_, ⟨of_decide_eq_true rfl, rfl⟩, ?_⟩
    | refine Len.map ?_
    | refine Len.dropM ?_
    | refine Elem.dropM ?_
    | refine Len.takeM ?_
    | refine Elem.takeM ?_
    | refine Elem.mapK (by assumption) ?_
    | refine Elem.mapI (by omega) (by assumption) ?_
    | refine Elem.mapN (by omega) (fun x hx => ?_)
    | refine Elem.map (by omega) (by omega) (fun x hx => ?_)
    | refine (h).use ⟨rfl, ?_⟩
    | refine CallX.mk ⟨_, _, (h).x, rfl, ?_⟩
    | refine Done.mk ⟨rfl, rfl⟩
    | refine Done.mk ⟨congrArg gb ?_, rfl⟩
    | refine Done.mk ⟨?_, rfl⟩
    | refine Done.mk ⟨?_, ?_⟩)

theorem alive18_mk : mkL [⟨480, 720⟩, ⟨840, 960⟩] = [⟨480, 720⟩, ⟨840, 960⟩] := (mkL_of (by decide) fun m => rfl).symm

set_option maxRecDepth 100000 in
set_option maxHeartbeats 1000000 in
theorem alive18_ok : ICalls Try.prog 30 [] [] (Done (gb true) []) := by
  have h1 := winNext_ok [⟨480, 720⟩, ⟨840, 960⟩] 800 (by decide)
  have h2 := winLast_ok [⟨480, 720⟩, ⟨840, 960⟩] (by decide) (by intro s hs; simp only [List.mem_cons, List.not_mem_nil, or_false] at hs; rcases hs with rfl | rfl <;> (unfold Span.Fits I64; simp only; omega))
  rw [alive18_mk] at h1 h2
  rw [show nextM 800 [⟨480, 720⟩, ⟨840, 960⟩] = (840, true) by decide] at h1
  rw [show lastM [⟨480, 720⟩, ⟨840, 960⟩] = (959, true) by decide] at h2
  refine ICalls.of_body Try.func30 rfl Try.call30 rfl (Nat.le_of_ble_eq_true rfl) (fun _ => none) rfl ?_
  repeat' ((conv => whnf); first
    | refine Br.yes rfl ?_
    | refine Br.no rfl ?_
    | refine Br.yes (beq_self_eq_true _) ?_
    | refine Br.not ?_
    | refine Br.yes (decide_eq_true (by assumption)) ?_
    | refine Br.no (decide_eq_false (by assumption)) ?_
    | refine Br.yes (beq_iff_eq.2 (by assumption)) ?_
    | refine Br.no (beq_eq_false_iff_ne.2 (by assumption)) ?_
    | refine Br.yes (bne_iff_ne.2 (by assumption)) ?_
    | (refine Br.dec (fun h => ?_) (fun h => ?_) <;> try dsimp only at h)
    | (refine Br.beqI (fun h => ?_) (fun h => ?_) <;> try dsimp only at h)
    | (refine Br.bneI (fun h => ?_) (fun h => ?_) <;> try dsimp only at h)
    | refine Br.mk (fun h => ?_) (fun h => ?_)
    | refine Need.mk (app_need (by first | (simp only [List.length_append, List.length_map, List.length_nil, List.length_cons, List.nil_append, Nat.zero_add, Nat.add_zero]; done) | (simp only [List.length_append, List.length_map, List.length_nil, List.length_cons, List.nil_append, Nat.zero_add, Nat.add_zero]; omega) | omega) (Nat.le_of_ble_eq_true rfl) (by first | (simp only [List.length_append, List.length_map, List.length_nil, List.length_cons, List.nil_append, Nat.zero_add, Nat.add_zero]; done) | (simp only [List.length_append, List.length_map, List.length_nil, List.length_cons, List.nil_append, Nat.zero_add, Nat.add_zero]; omega) | omega)) ?_
    | refine Need.mk (app_need0 (Nat.le_of_ble_eq_true rfl) (by first | (simp only [List.length_append, List.length_map, List.length_nil, List.length_cons, List.nil_append, Nat.zero_add, Nat.add_zero]; done) | (simp only [List.length_append, List.length_map, List.length_nil, List.length_cons, List.nil_append, Nat.zero_add, Nat.add_zero]; omega) | omega)) ?_
    | refine Need.mk (by first | kernel_rfl | exact ⟨of_decide_eq_true rfl, of_decide_eq_true rfl⟩ | omega) ?_
    | refine Len.mk ⟨_, by simp only [List.length_cons, List.length_nil, Nat.reduceAdd, Int.cast_ofNat_Int]; rfl, ?_⟩
    | refine Wr.lit _ (by simp only [Int.reduceAdd, Int.reduceSub, Int.reduceMul]; rfl) (by decide) ?_
    | refine Wr.fit (by omega) ?_
    | refine Wr.fit (by dsimp only; omega) ?_
    | refine Elem.mk ⟨_, ⟨of_decide_eq_true rfl, rfl⟩, ?_⟩
    | refine Len.map ?_
    | refine Len.dropM ?_
    | refine Elem.dropM ?_
    | refine Len.takeM ?_
    | refine Elem.takeM ?_
    | refine Elem.mapK (by assumption) ?_
    | refine Elem.mapI (by omega) (by assumption) ?_
    | refine Elem.mapN (by omega) (fun x hx => ?_)
    | refine Elem.map (by omega) (by omega) (fun x hx => ?_)
    | refine (h1).use ⟨rfl, ?_⟩
    | refine (h2).use ⟨rfl, ?_⟩
    | refine CallX.mk ⟨_, _, (h1).x, rfl, ?_⟩
    | refine CallX.mk ⟨_, _, (h2).x, rfl, ?_⟩
    | refine Done.mk ⟨rfl, rfl⟩
    | refine Done.mk ⟨congrArg gb ?_, rfl⟩
    | refine Done.mk ⟨?_, rfl⟩
    | refine Done.mk ⟨?_, ?_⟩)

set_option maxRecDepth 100000 in
set_option maxHeartbeats 1000000 in
theorem windowShut_ok (l : List Span) (s : Span) (m : Int) : ICalls Try.prog 9 [.list 2 (spans l) none, s.g, gi m] [] (Done (gb true) []) := by
  by_cases hl : (l.length : Int) ≤ 30
  case neg =>
    refine ICalls.of_body Try.func9 rfl Try.call9 rfl (Nat.le_of_ble_eq_true rfl) (fun _ => none) rfl ?_
    repeat' ((conv => whnf); first
      | refine Br.yes rfl ?_
      | refine Br.no rfl ?_
      | refine Br.yes (beq_self_eq_true _) ?_
      | refine Br.not ?_
      | refine Br.yes (decide_eq_true (by assumption)) ?_
      | refine Br.no (decide_eq_false (by assumption)) ?_
      | refine Br.yes (beq_iff_eq.2 (by assumption)) ?_
      | refine Br.no (beq_eq_false_iff_ne.2 (by assumption)) ?_
      | refine Br.yes (bne_iff_ne.2 (by assumption)) ?_
      | (refine Br.dec (fun h => ?_) (fun h => ?_) <;> try dsimp only at h)
      | (refine Br.beqI (fun h => ?_) (fun h => ?_) <;> try dsimp only at h)
      | (refine Br.bneI (fun h => ?_) (fun h => ?_) <;> try dsimp only at h)
      | refine Br.mk (fun h => ?_) (fun h => ?_)
      | refine Need.mk (app_need (by first | (simp only [List.length_append, List.length_map, List.length_nil, List.length_cons, List.nil_append, Nat.zero_add, Nat.add_zero]; done) | (simp only [List.length_append, List.length_map, List.length_nil, List.length_cons, List.nil_append, Nat.zero_add, Nat.add_zero]; omega) | omega) (Nat.le_of_ble_eq_true rfl) (by first | (simp only [List.length_append, List.length_map, List.length_nil, List.length_cons, List.nil_append, Nat.zero_add, Nat.add_zero]; done) | (simp only [List.length_append, List.length_map, List.length_nil, List.length_cons, List.nil_append, Nat.zero_add, Nat.add_zero]; omega) | omega)) ?_
      | refine Need.mk (app_need0 (Nat.le_of_ble_eq_true rfl) (by first | (simp only [List.length_append, List.length_map, List.length_nil, List.length_cons, List.nil_append, Nat.zero_add, Nat.add_zero]; done) | (simp only [List.length_append, List.length_map, List.length_nil, List.length_cons, List.nil_append, Nat.zero_add, Nat.add_zero]; omega) | omega)) ?_
      | refine Need.mk (by first | kernel_rfl | exact ⟨of_decide_eq_true rfl, of_decide_eq_true rfl⟩ | omega) ?_
      | refine Len.mk ⟨_, by simp only [List.length_cons, List.length_nil, Nat.reduceAdd, Int.cast_ofNat_Int]; rfl, ?_⟩
      | refine Wr.lit _ (by simp only [Int.reduceAdd, Int.reduceSub, Int.reduceMul]; rfl) (by decide) ?_
      | refine Wr.fit (by omega) ?_
      | refine Wr.fit (by dsimp only; omega) ?_
      | refine Elem.mk ⟨_, ⟨of_decide_eq_true rfl, rfl⟩, ?_⟩
      | refine Len.map ?_
      | refine Len.dropM ?_
      | refine Elem.dropM ?_
      | refine Len.takeM ?_
      | refine Elem.takeM ?_
      | refine Elem.mapK (by assumption) ?_
      | refine Elem.mapI (by omega) (by assumption) ?_
      | refine Elem.mapN (by omega) (fun x hx => ?_)
      | refine Elem.map (by omega) (by omega) (fun x hx => ?_)
      | refine (alive18_ok).use ⟨rfl, ?_⟩
      | refine CallX.mk ⟨_, _, (alive18_ok).x, rfl, ?_⟩
      | refine Done.mk ⟨rfl, rfl⟩
      | refine Done.mk ⟨congrArg gb ?_, rfl⟩
      | refine Done.mk ⟨?_, rfl⟩
      | refine Done.mk ⟨?_, ?_⟩)
    all_goals omega
  case pos =>
    have h1 := shut_ok l s (by omega)
    have l3 := minus_le [s] l (by simp) (by omega)
    have r := (refRight_ok (minusL (mkL l) (mkL [s])) (by omega)).to (congrArg gb (minus_rf [s] l))
    have q := (refHas_ok (minusL (mkL l) (mkL [s])) m (by omega)).to (congrArg gb (minus_has [s] l m))
    rw [hasL_cons, hasL_nil, Bool.or_false] at q
    have h2 := refIvalHas_ok s m
    have h3 := refHas_ok l m (by omega)
    clear l3
    generalize minusL (mkL l) (mkL [s]) = W at *
    generalize hasL l m = y at *
    generalize s.has m = x at *
    cases x <;> cases y
    all_goals
      refine ICalls.of_body Try.func9 rfl Try.call9 rfl (Nat.le_of_ble_eq_true rfl) (fun _ => none) rfl ?_
      repeat' ((conv => whnf); first
        | refine Br.yes rfl ?_
        | refine Br.no rfl ?_
        | refine Br.yes (beq_self_eq_true _) ?_
        | refine Br.not ?_
        | refine Br.yes (decide_eq_true (by assumption)) ?_
        | refine Br.no (decide_eq_false (by assumption)) ?_
        | refine Br.yes (beq_iff_eq.2 (by assumption)) ?_
        | refine Br.no (beq_eq_false_iff_ne.2 (by assumption)) ?_
        | refine Br.yes (bne_iff_ne.2 (by assumption)) ?_
        | (refine Br.dec (fun h => ?_) (fun h => ?_) <;> try dsimp only at h)
        | (refine Br.beqI (fun h => ?_) (fun h => ?_) <;> try dsimp only at h)
        | (refine Br.bneI (fun h => ?_) (fun h => ?_) <;> try dsimp only at h)
        | refine Br.mk (fun h => ?_) (fun h => ?_)
        | refine Need.mk (app_need (by first | (simp only [List.length_append, List.length_map, List.length_nil, List.length_cons, List.nil_append, Nat.zero_add, Nat.add_zero]; done) | (simp only [List.length_append, List.length_map, List.length_nil, List.length_cons, List.nil_append, Nat.zero_add, Nat.add_zero]; omega) | omega) (Nat.le_of_ble_eq_true rfl) (by first | (simp only [List.length_append, List.length_map, List.length_nil, List.length_cons, List.nil_append, Nat.zero_add, Nat.add_zero]; done) | (simp only [List.length_append, List.length_map, List.length_nil, List.length_cons, List.nil_append, Nat.zero_add, Nat.add_zero]; omega) | omega)) ?_
        | refine Need.mk (app_need0 (Nat.le_of_ble_eq_true rfl) (by first | (simp only [List.length_append, List.length_map, List.length_nil, List.length_cons, List.nil_append, Nat.zero_add, Nat.add_zero]; done) | (simp only [List.length_append, List.length_map, List.length_nil, List.length_cons, List.nil_append, Nat.zero_add, Nat.add_zero]; omega) | omega)) ?_
        | refine Need.mk (by first | kernel_rfl | exact ⟨of_decide_eq_true rfl, of_decide_eq_true rfl⟩ | omega) ?_
        | refine Len.mk ⟨_, by simp only [List.length_cons, List.length_nil, Nat.reduceAdd, Int.cast_ofNat_Int]; rfl, ?_⟩
        | refine Wr.lit _ (by simp only [Int.reduceAdd, Int.reduceSub, Int.reduceMul]; rfl) (by decide) ?_
        | refine Wr.fit (by omega) ?_
        | refine Wr.fit (by dsimp only; omega) ?_
        | refine Elem.mk ⟨_, ⟨of_decide_eq_true rfl, rfl⟩, ?_⟩
        | refine Len.map ?_
        | refine Len.dropM ?_
        | refine Elem.dropM ?_
        | refine Len.takeM ?_
        | refine Elem.takeM ?_
        | refine Elem.mapK (by assumption) ?_
        | refine Elem.mapI (by omega) (by assumption) ?_
        | refine Elem.mapN (by omega) (fun x hx => ?_)
        | refine Elem.map (by omega) (by omega) (fun x hx => ?_)
        | refine (h1).use ⟨rfl, ?_⟩
        | refine (r).use ⟨rfl, ?_⟩
        | refine (q).use ⟨rfl, ?_⟩
        | refine (h2).use ⟨rfl, ?_⟩
        | refine (h3).use ⟨rfl, ?_⟩
        | refine (alive18_ok).use ⟨rfl, ?_⟩
        | refine CallX.mk ⟨_, _, (h1).x, rfl, ?_⟩
        | refine CallX.mk ⟨_, _, (r).x, rfl, ?_⟩
        | refine CallX.mk ⟨_, _, (q).x, rfl, ?_⟩
        | refine CallX.mk ⟨_, _, (h2).x, rfl, ?_⟩
        | refine CallX.mk ⟨_, _, (h3).x, rfl, ?_⟩
        | refine CallX.mk ⟨_, _, (alive18_ok).x, rfl, ?_⟩
        | refine Done.mk ⟨rfl, rfl⟩
        | refine Done.mk ⟨congrArg gb ?_, rfl⟩
        | refine Done.mk ⟨?_, rfl⟩
        | refine Done.mk ⟨?_, ?_⟩)
      all_goals first | omega | simp_all

set_option maxRecDepth 100000 in
set_option maxHeartbeats 1000000 in
theorem windowChecks_ok (l : List Span) (m : Int) (hf : ∀ s, s ∈ l → s.Fits) : ICalls Try.prog 10 [.list 2 (spans l) none, gi m] [] (Done (gb true) []) := by
  by_cases hl : (l.length : Int) ≤ 30
  case neg =>
    refine ICalls.of_body Try.func10 rfl Try.call10 rfl (Nat.le_of_ble_eq_true rfl) (fun _ => none) rfl ?_
    repeat' ((conv => whnf); first
      | refine Br.yes rfl ?_
      | refine Br.no rfl ?_
      | refine Br.yes (beq_self_eq_true _) ?_
      | refine Br.not ?_
      | refine Br.yes (decide_eq_true (by assumption)) ?_
      | refine Br.no (decide_eq_false (by assumption)) ?_
      | refine Br.yes (beq_iff_eq.2 (by assumption)) ?_
      | refine Br.no (beq_eq_false_iff_ne.2 (by assumption)) ?_
      | refine Br.yes (bne_iff_ne.2 (by assumption)) ?_
      | (refine Br.dec (fun h => ?_) (fun h => ?_) <;> try dsimp only at h)
      | (refine Br.beqI (fun h => ?_) (fun h => ?_) <;> try dsimp only at h)
      | (refine Br.bneI (fun h => ?_) (fun h => ?_) <;> try dsimp only at h)
      | refine Br.mk (fun h => ?_) (fun h => ?_)
      | refine Need.mk (app_need (by first | (simp only [List.length_append, List.length_map, List.length_nil, List.length_cons, List.nil_append, Nat.zero_add, Nat.add_zero]; done) | (simp only [List.length_append, List.length_map, List.length_nil, List.length_cons, List.nil_append, Nat.zero_add, Nat.add_zero]; omega) | omega) (Nat.le_of_ble_eq_true rfl) (by first | (simp only [List.length_append, List.length_map, List.length_nil, List.length_cons, List.nil_append, Nat.zero_add, Nat.add_zero]; done) | (simp only [List.length_append, List.length_map, List.length_nil, List.length_cons, List.nil_append, Nat.zero_add, Nat.add_zero]; omega) | omega)) ?_
      | refine Need.mk (app_need0 (Nat.le_of_ble_eq_true rfl) (by first | (simp only [List.length_append, List.length_map, List.length_nil, List.length_cons, List.nil_append, Nat.zero_add, Nat.add_zero]; done) | (simp only [List.length_append, List.length_map, List.length_nil, List.length_cons, List.nil_append, Nat.zero_add, Nat.add_zero]; omega) | omega)) ?_
      | refine Need.mk (by first | kernel_rfl | exact ⟨of_decide_eq_true rfl, of_decide_eq_true rfl⟩ | omega) ?_
      | refine Len.mk ⟨_, by simp only [List.length_cons, List.length_nil, Nat.reduceAdd, Int.cast_ofNat_Int]; rfl, ?_⟩
      | refine Wr.lit _ (by simp only [Int.reduceAdd, Int.reduceSub, Int.reduceMul]; rfl) (by decide) ?_
      | refine Wr.fit (by omega) ?_
      | refine Wr.fit (by dsimp only; omega) ?_
      | refine Elem.mk ⟨_, ⟨of_decide_eq_true rfl, rfl⟩, ?_⟩
      | refine Len.map ?_
      | refine Len.dropM ?_
      | refine Elem.dropM ?_
      | refine Len.takeM ?_
      | refine Elem.takeM ?_
      | refine Elem.mapK (by assumption) ?_
      | refine Elem.mapI (by omega) (by assumption) ?_
      | refine Elem.mapN (by omega) (fun x hx => ?_)
      | refine Elem.map (by omega) (by omega) (fun x hx => ?_)
      | refine (alive18_ok).use ⟨rfl, ?_⟩
      | refine CallX.mk ⟨_, _, (alive18_ok).x, rfl, ?_⟩
      | refine Done.mk ⟨rfl, rfl⟩
      | refine Done.mk ⟨congrArg gb ?_, rfl⟩
      | refine Done.mk ⟨?_, rfl⟩
      | refine Done.mk ⟨?_, ?_⟩)
    all_goals omega
  case pos =>
    have h1 := winNext_ok l m (by omega)
    have h2 := refNext_ok l m (by omega)
    have h3 := winLast_ok l (by omega) hf
    have h4 := refLast_ok l (by omega) hf
    have h5 := winCheck_ok l
    have h6 := refWinCheck_ok l
    have h7 := winMay_ok l m (by omega)
    have h8 := refHas_ok l m (by omega)
    generalize nextM m (mkL l) = z at *
    obtain ⟨z1, z2⟩ := z
    generalize lastM (mkL l) = w at *
    obtain ⟨w1, w2⟩ := w
    generalize winCheck l = e at *
    generalize hasL l m = y at *
    cases y <;> cases z2 <;> cases w2
    all_goals
      refine ICalls.of_body Try.func10 rfl Try.call10 rfl (Nat.le_of_ble_eq_true rfl) (fun _ => none) rfl ?_
      repeat' ((conv => whnf); first
        | refine Br.yes rfl ?_
        | refine Br.no rfl ?_
        | refine Br.yes (beq_self_eq_true _) ?_
        | refine Br.not ?_
        | refine Br.yes (decide_eq_true (by assumption)) ?_
        | refine Br.no (decide_eq_false (by assumption)) ?_
        | refine Br.yes (beq_iff_eq.2 (by assumption)) ?_
        | refine Br.no (beq_eq_false_iff_ne.2 (by assumption)) ?_
        | refine Br.yes (bne_iff_ne.2 (by assumption)) ?_
        | (refine Br.dec (fun h => ?_) (fun h => ?_) <;> try dsimp only at h)
        | (refine Br.beqI (fun h => ?_) (fun h => ?_) <;> try dsimp only at h)
        | (refine Br.bneI (fun h => ?_) (fun h => ?_) <;> try dsimp only at h)
        | refine Br.mk (fun h => ?_) (fun h => ?_)
        | refine Need.mk (app_need (by first | (simp only [List.length_append, List.length_map, List.length_nil, List.length_cons, List.nil_append, Nat.zero_add, Nat.add_zero]; done) | (simp only [List.length_append, List.length_map, List.length_nil, List.length_cons, List.nil_append, Nat.zero_add, Nat.add_zero]; omega) | omega) (Nat.le_of_ble_eq_true rfl) (by first | (simp only [List.length_append, List.length_map, List.length_nil, List.length_cons, List.nil_append, Nat.zero_add, Nat.add_zero]; done) | (simp only [List.length_append, List.length_map, List.length_nil, List.length_cons, List.nil_append, Nat.zero_add, Nat.add_zero]; omega) | omega)) ?_
        | refine Need.mk (app_need0 (Nat.le_of_ble_eq_true rfl) (by first | (simp only [List.length_append, List.length_map, List.length_nil, List.length_cons, List.nil_append, Nat.zero_add, Nat.add_zero]; done) | (simp only [List.length_append, List.length_map, List.length_nil, List.length_cons, List.nil_append, Nat.zero_add, Nat.add_zero]; omega) | omega)) ?_
        | refine Need.mk (by first | kernel_rfl | exact ⟨of_decide_eq_true rfl, of_decide_eq_true rfl⟩ | omega) ?_
        | refine Len.mk ⟨_, by simp only [List.length_cons, List.length_nil, Nat.reduceAdd, Int.cast_ofNat_Int]; rfl, ?_⟩
        | refine Wr.lit _ (by simp only [Int.reduceAdd, Int.reduceSub, Int.reduceMul]; rfl) (by decide) ?_
        | refine Wr.fit (by omega) ?_
        | refine Wr.fit (by dsimp only; omega) ?_
        | refine Elem.mk ⟨_, ⟨of_decide_eq_true rfl, rfl⟩, ?_⟩
        | refine Len.map ?_
        | refine Len.dropM ?_
        | refine Elem.dropM ?_
        | refine Len.takeM ?_
        | refine Elem.takeM ?_
        | refine Elem.mapK (by assumption) ?_
        | refine Elem.mapI (by omega) (by assumption) ?_
        | refine Elem.mapN (by omega) (fun x hx => ?_)
        | refine Elem.map (by omega) (by omega) (fun x hx => ?_)
        | refine (h1).use ⟨rfl, ?_⟩
        | refine (h2).use ⟨rfl, ?_⟩
        | refine (h3).use ⟨rfl, ?_⟩
        | refine (h4).use ⟨rfl, ?_⟩
        | refine (h5).use ⟨rfl, ?_⟩
        | refine (h6).use ⟨rfl, ?_⟩
        | refine (h7).use ⟨rfl, ?_⟩
        | refine (h8).use ⟨rfl, ?_⟩
        | refine (alive18_ok).use ⟨rfl, ?_⟩
        | refine CallX.mk ⟨_, _, (h1).x, rfl, ?_⟩
        | refine CallX.mk ⟨_, _, (h2).x, rfl, ?_⟩
        | refine CallX.mk ⟨_, _, (h3).x, rfl, ?_⟩
        | refine CallX.mk ⟨_, _, (h4).x, rfl, ?_⟩
        | refine CallX.mk ⟨_, _, (h5).x, rfl, ?_⟩
        | refine CallX.mk ⟨_, _, (h6).x, rfl, ?_⟩
        | refine CallX.mk ⟨_, _, (h7).x, rfl, ?_⟩
        | refine CallX.mk ⟨_, _, (h8).x, rfl, ?_⟩
        | refine CallX.mk ⟨_, _, (alive18_ok).x, rfl, ?_⟩
        | refine Done.mk ⟨rfl, rfl⟩
        | refine Done.mk ⟨congrArg gb ?_, rfl⟩
        | refine Done.mk ⟨?_, rfl⟩
        | refine Done.mk ⟨?_, ?_⟩)
      all_goals first | omega | simp_all

end Go.Hl
