/- Contracts of functions, bundle I2; proved for whatever the arguments' types allow, as each theorem says. -/
import Derived.Test.YtncklikpkliilaaH1
import Derived.Test.YtncklikpkliilaaI1

/- Sets of spans: there is one list in the canonical form to each set of minutes: plain Lean. -/
set_option linter.unusedVariables false
set_option linter.unusedSimpArgs false
namespace Go.Hl
open Go.Gh

theorem has_iff {s : Span} {m : Int} : s.has m = true ↔ s.From ≤ m ∧ m < s.To := by simp [Span.has]
theorem right_iff {s : Span} : s.right = true ↔ s.From < s.To := by simp [Span.right]
theorem hasL_iff {l : List Span} {m : Int} : hasL l m = true ↔ ∃ s, s ∈ l ∧ s.From ≤ m ∧ m < s.To := by
  unfold hasL
  rw [List.any_eq_true]
  constructor
  · rintro ⟨s, h1, h2⟩; exact ⟨s, h1, has_iff.1 h2⟩
  · rintro ⟨s, h1, h2⟩; exact ⟨s, h1, has_iff.2 h2⟩
theorem hasL_nil (m : Int) : hasL [] m = false := rfl
theorem hasL_cons (s : Span) (l : List Span) (m : Int) : hasL (s :: l) m = (s.has m || hasL l m) := rfl
theorem hasL_app (a b : List Span) (m : Int) : hasL (a ++ b) m = (hasL a m || hasL b m) := by simp [hasL]
theorem rf_cons {s : Span} {r : List Span} {e : Option Int} : rightFrom (s :: r) e = true ↔ s.From < s.To ∧ okAfter e s = true ∧ rightFrom r (some s.To) = true := by
  rw [rightFrom]
  split
  · rename_i h; simp only [Bool.and_eq_true] at h; rw [right_iff] at h; exact ⟨fun k => ⟨h.1, h.2, k⟩, fun k => k.2.2⟩
  · rename_i h; simp only [Bool.and_eq_true] at h; rw [right_iff] at h; exact ⟨fun k => (by cases k), fun k => absurd ⟨k.1, k.2.1⟩ h⟩
theorem rf_lt : ∀ {l : List Span} {t m : Int}, rightFrom l (some t) = true → hasL l m = true → t < m
  | [], t, m, _, h => by simp [hasL] at h
  | s :: r, t, m, h, hm => by
    obtain ⟨h1, h2, h3⟩ := rf_cons.1 h
    simp only [okAfter, decide_eq_true_eq] at h2
    rw [hasL_cons, Bool.or_eq_true, has_iff] at hm
    rcases hm with hm | hm
    · omega
    · have := rf_lt h3 hm; omega
theorem rf_eq : ∀ (a b : List Span) (e : Option Int), rightFrom a e = true → rightFrom b e = true → (∀ m, hasL a m = hasL b m) → a = b
  | [], [], _, _, _, _ => rfl
  | [], t :: b, e, _, hb, h => by
    have h1 := (rf_cons.1 hb).1
    have := h t.From
    rw [hasL_nil, hasL_cons, has_iff.2 ⟨Int.le_refl _, h1⟩] at this
    cases this
  | s :: a, [], e, ha, _, h => by
    have h1 := (rf_cons.1 ha).1
    have := h s.From
    rw [hasL_nil, hasL_cons, has_iff.2 ⟨Int.le_refl _, h1⟩] at this
    cases this
  | s :: a, t :: b, e, ha, hb, h => by
    obtain ⟨a1, _, a3⟩ := rf_cons.1 ha
    obtain ⟨b1, _, b3⟩ := rf_cons.1 hb
    have to_b : ∀ m, (s.From ≤ m ∧ m < s.To) ∨ hasL a m = true → (t.From ≤ m ∧ m < t.To) ∨ hasL b m = true := by
      intro m hm
      have h1 : hasL (s :: a) m = true := by rw [hasL_cons, Bool.or_eq_true, has_iff]; exact hm
      rw [h m, hasL_cons, Bool.or_eq_true, has_iff] at h1; exact h1
    have to_a : ∀ m, (t.From ≤ m ∧ m < t.To) ∨ hasL b m = true → (s.From ≤ m ∧ m < s.To) ∨ hasL a m = true := by
      intro m hm
      have h1 : hasL (t :: b) m = true := by rw [hasL_cons, Bool.or_eq_true, has_iff]; exact hm
      rw [← h m, hasL_cons, Bool.or_eq_true, has_iff] at h1; exact h1
    have e1 : s.From = t.From := by
      have x1 : t.From ≤ s.From := by
        rcases to_b s.From (.inl ⟨Int.le_refl _, a1⟩) with k | k
        · exact k.1
        · have := rf_lt b3 k; omega
      have x2 : s.From ≤ t.From := by
        rcases to_a t.From (.inl ⟨Int.le_refl _, b1⟩) with k | k
        · exact k.1
        · have := rf_lt a3 k; omega
      omega
    have e2 : s.To = t.To := by
      rcases Int.lt_trichotomy s.To t.To with k | k | k
      · rcases to_a s.To (.inl ⟨by omega, k⟩) with q | q
        · omega
        · have := rf_lt a3 q; omega
      · exact k
      · rcases to_b t.To (.inl ⟨by omega, k⟩) with q | q
        · omega
        · have := rf_lt b3 q; omega
    have e3 : a = b := by
      refine rf_eq a b (some s.To) a3 (by rw [e2]; exact b3) fun m => ?_
      apply Bool.eq_iff_iff.2
      constructor
      · intro hm
        have := rf_lt a3 hm
        rcases to_b m (.inr hm) with k | k
        · omega
        · exact k
      · intro hm
        have := rf_lt b3 hm
        rcases to_a m (.inr hm) with k | k
        · omega
        · exact k
    obtain ⟨_, _⟩ := s; obtain ⟨_, _⟩ := t
    simp only at e1 e2
    rw [e1, e2, e3]

/-- Where a list of spans ends. -/
def endS : List Span → Option Int → Option Int
  | [], e => e
  | s :: r, _ => endS r (some s.To)
theorem rf_app : ∀ (a b : List Span) (e : Option Int), rightFrom (a ++ b) e = true ↔ rightFrom a e = true ∧ rightFrom b (endS a e) = true
  | [], b, e => by simp [rightFrom, endS]
  | s :: a, b, e => by
    rw [List.cons_append, rf_cons, rf_app a b, rf_cons, endS]
    exact ⟨fun ⟨h1, h2, h3, h4⟩ => ⟨⟨h1, h2, h3⟩, h4⟩, fun ⟨⟨h1, h2, h3⟩, h4⟩ => ⟨h1, h2, h3, h4⟩⟩
theorem rf_snoc {a : List Span} {q : Span} {e : Option Int} : rightFrom (a ++ [q]) e = true ↔ rightFrom a e = true ∧ q.From < q.To ∧ okAfter (endS a e) q = true := by
  rw [rf_app, rf_cons]
  exact ⟨fun ⟨h1, h2, h3, _⟩ => ⟨h1, h2, h3⟩, fun ⟨h1, h2, h3⟩ => ⟨h1, h2, h3, rfl⟩⟩
theorem endS_snoc : ∀ (a : List Span) (q : Span) (e : Option Int), endS (a ++ [q]) e = some q.To
  | [], q, e => rfl
  | s :: a, q, e => endS_snoc a q _
theorem endS_last {a : List Span} {q : Span} {i : Nat} {e : Option Int} (hi : i = a.length - 1) (h : a[i]? = some q) : endS a e = some q.To := by
  have hl := (List.getElem?_eq_some_iff.1 h).1
  have ha : a ≠ [] := by intro e; subst e; simp at hl
  have : a = a.dropLast ++ [q] := by
    conv => lhs; rw [← List.dropLast_concat_getLast ha]
    congr 1
    have e2 := List.getElem?_eq_some_iff.1 h
    rw [List.getLast_eq_getElem]
    subst hi
    rw [e2.2]
  rw [this]; exact endS_snoc ..

theorem filter_lt {α : Type} {p q : α → Bool} : ∀ {l : List α}, (∀ s, s ∈ l → q s = true → p s = true) → (∃ s, s ∈ l ∧ p s = true ∧ q s = false) → (l.filter q).length < (l.filter p).length
  | [], _, ⟨s, h, _⟩ => by cases h
  | x :: l, h, ⟨s, hs, h1, h2⟩ => by
    have mono : (l.filter q).length ≤ (l.filter p).length := by
      have : ∀ l : List α, (∀ s, s ∈ l → q s = true → p s = true) → (l.filter q).length ≤ (l.filter p).length := by
        intro l
        induction l with
        | nil => intro _; simp
        | cons y r ih =>
          intro h
          have := ih fun s hs => h s (List.mem_cons_of_mem _ hs)
          by_cases hq : q y = true
          · simp [List.filter_cons, hq, h y (List.mem_cons_self ..) hq, this]
          · by_cases hp : p y = true
            · simp [List.filter_cons, hq, hp]; omega
            · simp [List.filter_cons, hq, hp, this]
      exact this l fun s hs => h s (List.mem_cons_of_mem _ hs)
    rcases List.mem_cons.1 hs with rfl | hs
    · simp [List.filter_cons, h1, h2]; omega
    · have := filter_lt (l := l) (fun s hs => h s (List.mem_cons_of_mem _ hs)) ⟨s, hs, h1, h2⟩
      by_cases hq : q x = true
      · simp [List.filter_cons, hq, h x (List.mem_cons_self ..) hq, this]
      · by_cases hp : p x = true
        · simp [List.filter_cons, hq, hp]; omega
        · simp [List.filter_cons, hq, hp, this]

/-! ### The reference's way to a set -/
/-- It is right, and lies behind all that is there. -/
def cand (out : List Span) (s : Span) : Bool := s.right && okAfter (endS out none) s
structure RInv (l out : List Span) : Prop where
  rf : rightFrom out none = true
  sub : ∀ m, hasL out m = true → hasL l m = true
  cov : ∀ s, s ∈ l → s.From < s.To → cand out s = false → ∀ m, s.From ≤ m → m < s.To → hasL out m = true
  cnt : out.length + (l.filter (cand out)).length ≤ l.length
theorem RInv.start (l : List Span) : RInv l [] where
  rf := rfl
  sub := fun m h => by simp [hasL] at h
  cov := fun s hs h1 h2 => by simp [cand, endS, okAfter, right_iff.2 h1] at h2
  cnt := by simpa using List.length_filter_le ..
theorem RInv.has {l out : List Span} (h : RInv l out) (hn : ∀ s, s ∈ l → cand out s = false) (m : Int) : hasL out m = hasL l m := by
  apply Bool.eq_iff_iff.2
  refine ⟨h.sub m, fun hm => ?_⟩
  obtain ⟨s, h1, h2, h3⟩ := hasL_iff.1 hm
  exact h.cov s h1 (by omega) (hn s h1) m h2 h3

/-- The least begin, as far as it is looked for. -/
structure BInv (l out : List Span) (i : Nat) (best : Span) (found : Bool) : Prop where
  no : found = false → ∀ j s, j < i → l[j]? = some s → cand out s = false
  yes : found = true → cand out best = true ∧ best ∈ l ∧ ∀ j s, j < i → l[j]? = some s → cand out s = true → best.From ≤ s.From
theorem BInv.start (l out : List Span) : BInv l out 0 ⟨0, 0⟩ false := ⟨fun _ j s h => by omega, fun h => (by cases h)⟩
theorem BInv.skip {l out : List Span} {i : Nat} {b x : Span} {f : Bool} (h : BInv l out i b f) (hx : l[i]? = some x) (hc : cand out x = false) : BInv l out (i + 1) b f := by
  refine ⟨fun hf j s hj hs => ?_, fun hf => ?_⟩
  · by_cases e : j = i
    · subst e; rw [hx] at hs; cases hs; exact hc
    · exact h.no hf j s (by omega) hs
  · obtain ⟨h1, h2, h3⟩ := h.yes hf
    refine ⟨h1, h2, fun j s hj hs hcs => ?_⟩
    by_cases e : j = i
    · subst e; rw [hx] at hs; cases hs; rw [hc] at hcs; cases hcs
    · exact h3 j s (by omega) hs hcs
theorem BInv.take {l out : List Span} {i : Nat} {b x : Span} {f : Bool} (h : BInv l out i b f) (hx : l[i]? = some x) (hc : cand out x = true) (hlt : f = true → x.From < b.From) : BInv l out (i + 1) x true := by
  refine ⟨fun hf => (by cases hf), fun _ => ⟨hc, List.mem_of_getElem? hx, fun j s hj hs hcs => ?_⟩⟩
  by_cases e : j = i
  · subst e; rw [hx] at hs; cases hs; exact Int.le_refl _
  · cases f with
    | false => rw [h.no rfl j s (by omega) hs] at hcs; cases hcs
    | true =>
      have := (h.yes rfl).2.2 j s (by omega) hs hcs
      have := hlt rfl
      omega
theorem BInv.keep {l out : List Span} {i : Nat} {b x : Span} (h : BInv l out i b true) (hx : l[i]? = some x) (hge : ¬ x.From < b.From) : BInv l out (i + 1) b true := by
  refine ⟨fun hf => (by cases hf), fun _ => ?_⟩
  obtain ⟨h1, h2, h3⟩ := h.yes rfl
  refine ⟨h1, h2, fun j s hj hs hcs => ?_⟩
  by_cases e : j = i
  · subst e; rw [hx] at hs; cases hs; omega
  · exact h3 j s (by omega) hs hcs
theorem BInv.empty {l out : List Span} {i : Nat} {b : Span} (h : BInv l out i b false) (hi : ¬ (i : Int) < l.length) : ∀ s, s ∈ l → cand out s = false := by
  intro s hs
  obtain ⟨j, hj⟩ := List.getElem?_of_mem hs
  exact h.no rfl j s (by have := (List.getElem?_eq_some_iff.1 hj).1; omega) hj
/-- What the search has found. -/
structure Best (l out : List Span) (b : Span) : Prop where
  cand : cand out b = true
  mem : b ∈ l
  least : ∀ s, s ∈ l → Go.Hl.cand out s = true → b.From ≤ s.From
theorem BInv.best {l out : List Span} {i : Nat} {b : Span} (h : BInv l out i b true) (hi : ¬ (i : Int) < l.length) : Best l out b := by
  obtain ⟨h1, h2, h3⟩ := h.yes rfl
  refine ⟨h1, h2, fun s hs => ?_⟩
  obtain ⟨j, hj⟩ := List.getElem?_of_mem hs
  exact h3 j s (by have := (List.getElem?_eq_some_iff.1 hj).1; omega) hj

/-- It goes on as far as the minutes go on. -/
def closedL (l : List Span) (t : Int) : Prop := ∀ s, s ∈ l → s.From < s.To → s.From ≤ t → s.To ≤ t
def cntE (l : List Span) (t : Int) : Nat := (l.filter fun s => s.right && decide (t < s.To)).length
structure EInv (l : List Span) (b0 b : Span) : Prop where
  from_ : b.From = b0.From
  le : b0.To ≤ b.To
  cov : ∀ m, b0.From ≤ m → m < b.To → hasL l m = true
theorem EInv.start {l : List Span} {b : Span} (h : b ∈ l) : EInv l b b := ⟨rfl, Int.le_refl _, fun m h1 h2 => hasL_iff.2 ⟨b, h, h1, h2⟩⟩
theorem EInv.step {l : List Span} {b0 b x : Span} (h : EInv l b0 b) (hx : x ∈ l) (h1 : x.From ≤ b.To) (h2 : b.To < x.To) : EInv l b0 ⟨b.From, x.To⟩ := by
  refine ⟨h.from_, by have := h.le; simp only; omega, fun m k1 k2 => ?_⟩
  by_cases hm : m < b.To
  · exact h.cov m k1 hm
  · exact hasL_iff.2 ⟨x, hx, by omega, k2⟩
/-- One round. -/
structure NInv (l : List Span) (b0 b : Span) (i : Nat) (c : Span) : Prop where
  e : EInv l b0 c
  le : b.To ≤ c.To
  same : c.To = b.To → ∀ j s, j < i → l[j]? = some s → s.From < s.To → s.From ≤ b.To → s.To ≤ b.To
  more : b.To < c.To → ∃ s, s ∈ l ∧ s.From < s.To ∧ s.To = c.To
  keep : closedL l b.To → c.To = b.To
theorem NInv.start {l : List Span} {b0 b : Span} (h : EInv l b0 b) : NInv l b0 b 0 b := ⟨h, Int.le_refl _, fun _ j s hj => by omega, fun h => by omega, fun _ => rfl⟩
theorem NInv.skip {l : List Span} {b0 b c x : Span} {i : Nat} (h : NInv l b0 b i c) (hx : l[i]? = some x) (hs : ¬ (x.From < x.To ∧ x.From ≤ c.To ∧ c.To < x.To)) : NInv l b0 b (i + 1) c := by
  refine ⟨h.e, h.le, fun he j s hj hs' h1 h2 => ?_, h.more, h.keep⟩
  by_cases e : j = i
  · subst e; rw [hx] at hs'; cases hs'; omega
  · exact h.same he j s (by omega) hs' h1 h2
theorem NInv.step {l : List Span} {b0 b c x : Span} {i : Nat} (h : NInv l b0 b i c) (hx : l[i]? = some x) (h0 : x.From < x.To) (h1 : x.From ≤ c.To) (h2 : c.To < x.To) : NInv l b0 b (i + 1) ⟨c.From, x.To⟩ := by
  have hm := List.mem_of_getElem? hx
  have hle := h.le
  refine ⟨h.e.step hm h1 h2, by simp only; omega, fun he => by simp only at he; omega, fun _ => ⟨x, hm, h0, rfl⟩, fun hc => ?_⟩
  have e := h.keep hc
  have := hc x hm h0 (by omega)
  omega
/-- Closed, or as many rounds as it takes are left. -/
def EOut (l : List Span) (b0 b : Span) (again : Nat) : Prop := EInv l b0 b ∧ (closedL l b.To ∨ again + cntE l b.To ≤ l.length)
theorem EOut.start {l : List Span} {b : Span} (h : b ∈ l) : EOut l b b 0 := ⟨.start h, .inr (by unfold cntE; rw [Nat.zero_add]; exact List.length_filter_le ..)⟩
theorem EOut.round {l : List Span} {b0 b c : Span} {again i : Nat} (h : EOut l b0 b again) (n : NInv l b0 b i c) (hi : ¬ (i : Int) < l.length) : EOut l b0 c (again + 1) := by
  refine ⟨n.e, ?_⟩
  have hle := n.le
  by_cases he : c.To = b.To
  · left
    intro s hs h1 h2
    obtain ⟨j, hj⟩ := List.getElem?_of_mem hs
    rw [he] at h2 ⊢
    exact n.same he j s (by have := (List.getElem?_eq_some_iff.1 hj).1; omega) hj h1 h2
  · rcases h.2 with hc | hc
    · exact absurd (n.keep hc) he
    · right
      obtain ⟨s, k1, k2, k3⟩ := n.more (by omega)
      have : cntE l c.To < cntE l b.To := filter_lt (fun s _ hq => by simp only [Bool.and_eq_true, decide_eq_true_eq] at hq ⊢; exact ⟨hq.1, by omega⟩)
        ⟨s, k1, by simp only [Bool.and_eq_true, decide_eq_true_eq]; exact ⟨right_iff.2 k2, by omega⟩, by simp only [Bool.and_eq_false_iff, decide_eq_false_iff_not]; right; omega⟩
      omega
theorem EOut.closed {l : List Span} {b0 b : Span} {again : Nat} (h : EOut l b0 b again) (ha : ¬ (again : Int) ≤ l.length) : closedL l b.To := by
  rcases h.2 with h | h
  · exact h
  · omega
theorem RInv.next {l out : List Span} {b0 b : Span} {again : Nat} (h : RInv l out) (hb : Best l out b0) (he : EOut l b0 b again) (ha : ¬ (again : Int) ≤ l.length) : RInv l (out ++ [b]) := by
  have hc := he.closed ha
  obtain ⟨⟨e1, e2, e3⟩, _⟩ := he
  have hcand := hb.cand
  unfold cand at hcand
  simp only [Bool.and_eq_true] at hcand
  have hr := right_iff.1 hcand.1
  have ok : okAfter (endS out none) b = true := by
    have := hcand.2
    cases hE : endS out none with
    | none => rfl
    | some t => rw [hE] at this; simp only [okAfter, decide_eq_true_eq] at this ⊢; omega
  have cand' : ∀ s, cand (out ++ [b]) s = true ↔ s.From < s.To ∧ b.To < s.From := by
    intro s
    unfold cand
    rw [endS_snoc]
    simp only [Bool.and_eq_true, okAfter, decide_eq_true_eq, right_iff]
  have sub' : ∀ s, s ∈ l → cand (out ++ [b]) s = true → cand out s = true := by
    intro s hs hq
    rw [cand'] at hq
    unfold cand
    simp only [Bool.and_eq_true]
    refine ⟨right_iff.2 hq.1, ?_⟩
    cases hE : endS out none with
    | none => rfl
    | some t => rw [hE] at ok; simp only [okAfter, decide_eq_true_eq] at ok ⊢; omega
  refine ⟨rf_snoc.2 ⟨h.rf, by omega, ok⟩, fun m hm => ?_, fun s hs h1 h2 m k1 k2 => ?_, ?_⟩
  · rw [hasL_app, Bool.or_eq_true] at hm
    rcases hm with hm | hm
    · exact h.sub m hm
    · rw [hasL_cons, hasL_nil, Bool.or_false, has_iff] at hm
      exact e3 m (by omega) hm.2
  · rw [hasL_app, Bool.or_eq_true]
    by_cases hq : cand out s = true
    · right
      have := hb.least s hs hq
      have hle : ¬ (b.To < s.From) := fun e => by rw [(cand' s).2 ⟨h1, e⟩] at h2; cases h2
      have := hc s hs h1 (by omega)
      rw [hasL_cons, hasL_nil, Bool.or_false, has_iff]
      omega
    · left; exact h.cov s hs h1 (by simpa using hq) m k1 k2
  · have := filter_lt (l := l) (p := cand out) (q := cand (out ++ [b])) sub' ⟨b0, hb.mem, hb.cand, by
      have : ¬ cand (out ++ [b]) b0 = true := by rw [cand']; omega
      simpa using this⟩
    have := h.cnt
    rw [List.length_append, List.length_singleton]
    omega
theorem RInv.over {l out : List Span} (h : RInv l out) : (out.length : Int) ≤ l.length := by have := h.cnt; omega

end Go.Hl

/- The next minute of a set: plain Lean. -/
set_option linter.unusedVariables false
set_option linter.unusedSimpArgs false
namespace Go.Hl
open Go.Gh

/-- The first minute of a set that is not ahead of one. -/
def nextM (m : Int) : List Span → Int × Bool
  | [] => (0, false)
  | s :: r => if m < s.To then (if s.From < m then m else s.From, true) else nextM m r

/-- The first minute that a list has from m on; else there is none. -/
structure IsNext (l : List Span) (m : Int) (x : Int × Bool) : Prop where
  yes : x.2 = true → m ≤ x.1 ∧ hasL l x.1 = true ∧ ∀ k, m ≤ k → k < x.1 → hasL l k = false
  no : x.2 = false → x.1 = 0 ∧ ∀ k, m ≤ k → hasL l k = false
theorem IsNext.unique {l : List Span} {m : Int} {x y : Int × Bool} (hx : IsNext l m x) (hy : IsNext l m y) : x = y := by
  obtain ⟨a, f⟩ := x
  obtain ⟨b, g⟩ := y
  cases f <;> cases g
  · have h1 := (hx.no rfl).1
    have h2 := (hy.no rfl).1
    simp only at h1 h2
    rw [h1, h2]
  · have h1 := (hx.no rfl).2
    obtain ⟨h2, h3, _⟩ := hy.yes rfl
    simp only at h1 h2 h3
    rw [h1 b h2] at h3; cases h3
  · have h1 := (hy.no rfl).2
    obtain ⟨h2, h3, _⟩ := hx.yes rfl
    simp only at h1 h2 h3
    rw [h1 a h2] at h3; cases h3
  · obtain ⟨h1, h2, h3⟩ := hx.yes rfl
    obtain ⟨k1, k2, k3⟩ := hy.yes rfl
    simp only at h1 h2 h3 k1 k2 k3
    rcases Int.lt_trichotomy a b with h | h | h
    · rw [k3 a h1 h] at h2; cases h2
    · rw [h]
    · rw [h3 b k1 h] at k2; cases k2
theorem IsNext.congr {l l' : List Span} {m : Int} {x : Int × Bool} (h : ∀ k, hasL l k = hasL l' k) (hx : IsNext l m x) : IsNext l' m x :=
  ⟨fun e => by obtain ⟨h1, h2, h3⟩ := hx.yes e; exact ⟨h1, by rw [← h]; exact h2, fun k a b => by rw [← h]; exact h3 k a b⟩, fun e => by obtain ⟨h1, h2⟩ := hx.no e; exact ⟨h1, fun k a => by rw [← h]; exact h2 k a⟩⟩
theorem nextM_is : ∀ (l : List Span) (e : Option Int) (m : Int), rightFrom l e = true → IsNext l m (nextM m l)
  | [], e, m, _ => ⟨fun h => (by cases h), fun _ => ⟨rfl, fun k _ => rfl⟩⟩
  | s :: r, e, m, h => by
    obtain ⟨h1, _, h3⟩ := rf_cons.1 h
    have later : ∀ k, k ≤ s.To → hasL r k = false := fun k hk => by
      cases hh : hasL r k with
      | false => rfl
      | true => have := rf_lt h3 hh; omega
    unfold nextM
    by_cases hm : m < s.To
    · rw [if_pos hm]
      refine ⟨fun _ => ⟨?_, ?_, fun k a b => ?_⟩, fun e => (by cases e)⟩
      · simp only; split <;> omega
      · rw [hasL_cons, Bool.or_eq_true, has_iff]; left; simp only; split <;> omega
      · simp only at b
        rw [hasL_cons, Bool.or_eq_false_iff]
        refine ⟨?_, later k (by split at b <;> omega)⟩
        cases hh : s.has k with
        | false => rfl
        | true => rw [has_iff] at hh; split at b <;> omega
    · rw [if_neg hm]
      have ih := nextM_is r (some s.To) m h3
      have hs : ∀ k, m ≤ k → s.has k = false := fun k hk => by
        cases hh : s.has k with
        | false => rfl
        | true => rw [has_iff] at hh; omega
      refine ⟨fun e => ?_, fun e => ?_⟩
      · obtain ⟨a1, a2, a3⟩ := ih.yes e
        exact ⟨a1, by rw [hasL_cons, a2, Bool.or_true], fun k x y => by rw [hasL_cons, hs k x, a3 k x y]; rfl⟩
      · obtain ⟨a1, a2⟩ := ih.no e
        exact ⟨a1, fun k x => by rw [hasL_cons, hs k x, a2 k x]; rfl⟩

/-- The reference's search. -/
structure RNext (l : List Span) (m : Int) (i : Nat) (n : Int) (f : Bool) : Prop where
  no : f = false → n = 0 ∧ ∀ j s, j < i → l[j]? = some s → s.From < s.To → s.To ≤ m
  yes : f = true → m ≤ n ∧ hasL l n = true ∧ ∀ j s, j < i → l[j]? = some s → s.From < s.To → m < s.To → n ≤ s.From ∨ n ≤ m
theorem RNext.start (l : List Span) (m : Int) : RNext l m 0 0 false := ⟨fun _ => ⟨rfl, fun j s h => by omega⟩, fun h => (by cases h)⟩
theorem RNext.skip {l : List Span} {m n : Int} {i : Nat} {f : Bool} {x : Span} (h : RNext l m i n f) (hx : l[i]? = some x) (hs : ¬ (x.From < x.To ∧ m < x.To)) : RNext l m (i + 1) n f := by
  refine ⟨fun e => ⟨(h.no e).1, fun j s hj hl h1 => ?_⟩, fun e => ⟨(h.yes e).1, (h.yes e).2.1, fun j s hj hl h1 h2 => ?_⟩⟩
  · by_cases e2 : j = i
    · subst e2; rw [hx] at hl; cases hl; omega
    · exact (h.no e).2 j s (by omega) hl h1
  · by_cases e2 : j = i
    · subst e2; rw [hx] at hl; cases hl; omega
    · exact (h.yes e).2.2 j s (by omega) hl h1 h2
theorem RNext.keep {l : List Span} {m n k : Int} {i : Nat} {f : Bool} {x : Span} (h : RNext l m i n f) (hf : f = true) (hx : l[i]? = some x) (hk : k = x.From ∨ k = m) (hn : ¬ k < n) : RNext l m (i + 1) n f := by
  refine ⟨fun e => (by rw [hf] at e; cases e), fun e => ⟨(h.yes e).1, (h.yes e).2.1, fun j s hj hl h1 h2 => ?_⟩⟩
  by_cases e2 : j = i
  · subst e2; rw [hx] at hl; cases hl; omega
  · exact (h.yes e).2.2 j s (by omega) hl h1 h2
theorem RNext.take {l : List Span} {m n k : Int} {i : Nat} {f : Bool} {x : Span} (h : RNext l m i n f) (hx : l[i]? = some x) (hr : x.From < x.To) (ht : m < x.To) (hk : (k = x.From ∧ m ≤ x.From) ∨ (k = m ∧ x.From < m)) (hn : f = true → k < n) : RNext l m (i + 1) k true := by
  refine ⟨fun e => (by cases e), fun _ => ⟨by omega, hasL_iff.2 ⟨x, List.mem_of_getElem? hx, by omega, by omega⟩, fun j s hj hl h1 h2 => ?_⟩⟩
  by_cases e2 : j = i
  · subst e2; rw [hx] at hl; cases hl; omega
  · cases f with
    | false => have := (h.no rfl).2 j s (by omega) hl h1; omega
    | true =>
      have := (h.yes rfl).2.2 j s (by omega) hl h1 h2
      have := hn rfl
      omega
theorem RNext.is {l : List Span} {m n : Int} {i : Nat} {f : Bool} (h : RNext l m i n f) (hi : ¬ (i : Int) < l.length) : IsNext l m (n, f) := by
  refine ⟨fun e => ⟨(h.yes e).1, (h.yes e).2.1, fun k a b => ?_⟩, fun e => ⟨(h.no e).1, fun k a => ?_⟩⟩
  · cases hh : hasL l k with
    | false => rfl
    | true =>
      obtain ⟨s, h1, h2, h3⟩ := hasL_iff.1 hh
      obtain ⟨j, hj⟩ := List.getElem?_of_mem h1
      have := (h.yes e).2.2 j s (by have := (List.getElem?_eq_some_iff.1 hj).1; omega) hj (by omega) (by omega)
      simp only at b; omega
  · cases hh : hasL l k with
    | false => rfl
    | true =>
      obtain ⟨s, h1, h2, h3⟩ := hasL_iff.1 hh
      obtain ⟨j, hj⟩ := List.getElem?_of_mem h1
      have := (h.no e).2 j s (by have := (List.getElem?_eq_some_iff.1 hj).1; omega) hj (by omega)
      omega

end Go.Hl

/- Contracts: the set of a list of spans.  -/
set_option linter.unusedVariables false
set_option linter.unusedSimpArgs false
namespace Go.Hl
open Go.Gh Go.Proofs



def ivStep (acc : List Span) (s : Span) : List Span := match acc[acc.length - 1]? with
  | some q => if s.From ≤ q.To then acc.set (acc.length - 1) ⟨q.From, if q.To < s.To then s.To else q.To⟩ else acc ++ [s]
  | none => acc ++ [s]
def ivL (acc l : List Span) : List Span := l.foldl ivStep acc
theorem ivL_next {acc l R : List Span} {i : Nat} {x : Span} (h : l[i]? = some x) (hR : ivL acc (l.drop i) = R) : ivL (ivStep acc x) (l.drop (i + 1)) = R := by
  rw [drop_of_get h] at hR; exact hR
theorem iv_len {acc : List Span} {r : Span} {i : Nat} (h : acc.length ≤ i) : (ivStep acc r).length ≤ i + 1 := by
  unfold ivStep
  split
  · split
    · simp; omega
    · simp; omega
  · simp; omega
theorem spans_app (a b : List Span) : spans (a ++ b) = spans a ++ spans b := List.map_append
theorem spans_len (a : List Span) : (spans a).length = a.length := List.length_map ..
theorem spans_set (acc : List Span) (i : Nat) (r : Span) : (spans acc).set i r.g = spans (acc.set i r) := (List.map_set (f := Span.g)).symm
theorem iv_stepA {acc : List Span} {q r : Span} {i : Int} (h0 : 0 ≤ i) (hi : i = (acc.length : Int) - 1) (h : acc[i.toNat]? = some q) (he : r.From ≤ q.To) :
    (spans acc).set i.toNat (.agg [gi q.From, gi (if q.To < r.To then r.To else q.To)]) = spans (ivStep acc r) ∧ acc.length = (ivStep acc r).length := by
  have hi' : i.toNat = acc.length - 1 := by omega
  unfold ivStep
  rw [← hi', h]
  simp only [if_pos he]
  exact ⟨spans_set acc i.toNat ⟨q.From, if q.To < r.To then r.To else q.To⟩, by simp⟩
theorem iv_stepB {acc : List Span} {q r : Span} {i : Int} (h0 : 0 ≤ i) (hi : i = (acc.length : Int) - 1) (h : acc[i.toNat]? = some q) (he : ¬ r.From ≤ q.To) :
    spans acc ++ [.agg [gi r.From, gi r.To]] = spans (ivStep acc r) ∧ (spans acc).length + 1 = (ivStep acc r).length := by
  have hi' : i.toNat = acc.length - 1 := by omega
  unfold ivStep
  rw [← hi', h]
  simp only [if_neg he]
  exact ⟨by rw [spans_app]; rfl, by simp⟩
theorem iv_stepC {acc : List Span} {r : Span} (h : ¬ 0 ≤ (acc.length : Int) - 1) :
    spans acc ++ [.agg [gi r.From, gi r.To]] = spans (ivStep acc r) ∧ (spans acc).length + 1 = (ivStep acc r).length := by
  have : acc = [] := List.eq_nil_of_length_eq_zero (by omega)
  subst this
  exact ⟨rfl, rfl⟩

/-- The set of a list. -/
def mkL (l : List Span) : List Span := ivL [] (sortL (l.filter (·.right)))

set_option maxRecDepth 100000 in
theorem notRight_ok (s : Span) : ICalls Try.prog 55 [s.g] [] (Done (gb (!s.right)) []) := by
  refine ICalls.of_body Try.func55 rfl Try.call55 rfl (Nat.le_of_ble_eq_true rfl) (fun _ => none) rfl ?_
  repeat' ((conv => whnf); first
    | refine Br.yes rfl ?_
    | refine Br.no rfl ?_
    | refine Br.yes (beq_self_eq_true _) ?_
    | refine Br.not ?_
    | refine Br.yes (decide_eq_true (by assumption)) ?_
    | refine Br.no (decide_eq_false (by assumption)) ?_
    | refine Br.yes (beq_iff_eq.2 (by assumption)) ?_
    | refine Br.no (beq_eq_false_iff_ne.2 (by assumption)) ?_
    | refine Br.yes (bne_iff_ne.2 (by assumption)) ?_
    | (refine Br.dec (fun h => ?_) (fun h => ?_) <;> try dsimp only at h)
    | (refine Br.beqI (fun h => ?_) (fun h => ?_) <;> try dsimp only at h)
    | (refine Br.bneI (fun h => ?_) (fun h => ?_) <;> try dsimp only at h)
    | refine Br.mk (fun h => ?_) (fun h => ?_)
    | refine Need.mk (app_need (by first | (simp only [List.length_append, List.length_map, List.length_nil, List.length_cons, List.nil_append, Nat.zero_add, Nat.add_zero]; done) | (simp only [List.length_append, List.length_map, List.length_nil, List.length_cons, List.nil_append, Nat.zero_add, Nat.add_zero]; omega) | omega) (Nat.le_of_ble_eq_true rfl) (by first | (simp only [List.length_append, List.length_map, List.length_nil, List.length_cons, List.nil_append, Nat.zero_add, Nat.add_zero]; done) | (simp only [List.length_append, List.length_map, List.length_nil, List.length_cons, List.nil_append, Nat.zero_add, Nat.add_zero]; omega) | omega)) ?_
    | refine Need.mk (app_need0 (Nat.le_of_ble_eq_true rfl) (by first | (simp only [List.length_append, List.length_map, List.length_nil, List.length_cons, List.nil_append, Nat.zero_add, Nat.add_zero]; done) | (simp only [List.length_append, List.length_map, List.length_nil, List.length_cons, List.nil_append, Nat.zero_add, Nat.add_zero]; omega) | omega)) ?_
    | refine Need.mk (app_needM rfl (Nat.le_of_ble_eq_true rfl) (by first | (simp only [List.length_append, List.length_map, List.length_nil, List.length_cons, List.nil_append, Nat.zero_add, Nat.add_zero]; done) | (simp only [List.length_append, List.length_map, List.length_nil, List.length_cons, List.nil_append, Nat.zero_add, Nat.add_zero]; omega) | omega)) ?_
    | refine Need.mk (zeros_need (by omega) (Nat.le_of_ble_eq_true rfl) (by omega)) ?_
    | refine Need.mk (by first | kernel_rfl | exact ⟨of_decide_eq_true rfl, of_decide_eq_true rfl⟩ | omega) ?_
    | refine Len.mk ⟨_, by simp only [List.length_cons, List.length_nil, Nat.reduceAdd, Int.cast_ofNat_Int]; rfl, ?_⟩
    | refine Wr.lit _ (by simp only [Int.reduceAdd, Int.reduceSub, Int.reduceMul]; rfl) (by decide) ?_
    | refine Wr.fit (by omega) ?_
    | refine Wr.fit (by dsimp only; omega) ?_
    | refine Elem.mk ⟨_, ⟨of_decide_eq_true rfl, rfl⟩, ?_⟩
    | refine Len.map ?_
    | refine Len.dropM ?_
    | refine Elem.dropM ?_
    | refine Len.takeM ?_
    | refine Elem.takeM ?_
    | refine Elem.mapK (by assumption) ?_
    | refine Elem.mapI (by omega) (by assumption) ?_
    | refine Elem.mapN (by omega) (fun x hx => ?_)
    | refine Elem.map (by omega) (by omega) (fun x hx => ?_)
    | refine (ivalRight_ok s).use ⟨rfl, ?_⟩
    | refine CallX.mk ⟨_, _, (ivalRight_ok s).x, rfl, ?_⟩
    | refine Done.mk ⟨rfl, rfl⟩
    | refine Done.mk ⟨congrArg gb ?_, rfl⟩
    | refine Done.mk ⟨?_, rfl⟩
    | refine Done.mk ⟨?_, ?_⟩)

theorem sortL_len (l : List Span) : (sortL l).length = l.length := List.length_mergeSort ..
theorem filter2 (l : List Span) : (l.filter fun s => !(!s.right)) = l.filter (·.right) := by simp

def pl_P3_1 : Nat → Option (List Nat × List Nat) := (fun k => bif Nat.beq k 5 then some ([1000005, 4, 13, 14, 15, 5000004, 6000002], [104, 109, 149]) else bif Nat.beq k 5000004 then some ([], []) else bif Nat.beq k 6000002 then some ([], []) else none)
set_option maxRecDepth 100000 in
set_option maxHeartbeats 1000000 in
theorem makeCons_ok (s : Span) (r : List Span) (hl : (r.length : Int) ≤ 100000000) :
    ICalls Try.prog 20 [.list 2 (spans (s :: r)) none] [] (Done (.list 2 (spans (mkL (s :: r))) none) []) := by
  have hC := cloneSpan_ok s r (by omega)
  have hD := delSpan_ok 55 (fun s => !s.right) notRight_ok (s :: r) 1 (by simp only [List.length_cons]; omega)
  rw [filter2] at hD
  have hf : ((s :: r).filter (·.right)).length ≤ r.length + 1 := List.length_filter_le ..
  have hS := sortSpan_ok ((s :: r).filter (·.right)) (delV (fun s => !s.right) (s :: r) 1) (by omega)
  generalize hR : mkL (s :: r) = R
  unfold mkL at hR
  have hSl := sortL_len ((s :: r).filter (·.right))
  generalize sortL ((s :: r).filter (·.right)) = S at *
  generalize delV (fun s => !s.right) (s :: r) 1 = v0 at *
  generalize (s :: r).filter (·.right) = F at *
  refine ICalls.of_body Try.func20 rfl Try.call20 rfl (Nat.le_of_ble_eq_true rfl) pl_P3_1 rfl ?_
  repeat' ((conv => whnf); first
    | refine Br.yes rfl ?_
    | refine Br.no rfl ?_
    | (refine Elem.mapN (i := i) (by omega) (fun x hx => ?_))
    | (refine Elem.mapI (by assumption) (by assumption) ?_)
    | (refine Elem.map (by omega) (by omega) (fun q hq => ?_))
    | (refine ILoop.ov 1000005 (fun ((i, acc, g, k, v) : Nat × List Span × List GV × Nat × Nat) => [(15, gi i), (4, .ms 2 104 v k)]) (fun ((i, acc, g, k, v) : Nat × List Span × List GV × Nat × Nat) => [(104, .mvec 26 2 g v)]) (fun ((i, acc, g, k, v) : Nat × List Span × List GV × Nat × Nat) => (i ≤ S.length ∧ acc.length ≤ i) ∧ (g = spans acc ∧ k = acc.length) ∧ ivL acc (S.drop i) = R) (fun ((i, acc, g, k, v) : Nat × List Span × List GV × Nat × Nat) => S.length - i) ((0, [], [], 0, 0)) (by exact rfl) ?_; (conv => whnf); refine Start.mk rfl ?_ ?_; (try dsimp only); rotate_left; rintro ⟨i, acc, g, k, v⟩ ⟨⟨hi, ha⟩, ⟨rfl, rfl⟩, hr⟩)
    | (refine Again.mk ⟨((i + 1, ivStep acc x, _, _, _)), rfl, ?_, ?_⟩ <;> try dsimp only)
    | refine Br.yes (beq_self_eq_true _) ?_
    | refine Br.not ?_
    | refine Br.yes (decide_eq_true (by assumption)) ?_
    | refine Br.no (decide_eq_false (by assumption)) ?_
    | refine Br.yes (beq_iff_eq.2 (by assumption)) ?_
    | refine Br.no (beq_eq_false_iff_ne.2 (by assumption)) ?_
    | refine Br.yes (bne_iff_ne.2 (by assumption)) ?_
    | (refine Br.dec (fun h => ?_) (fun h => ?_) <;> try dsimp only at h)
    | (refine Br.beqI (fun h => ?_) (fun h => ?_) <;> try dsimp only at h)
    | (refine Br.bneI (fun h => ?_) (fun h => ?_) <;> try dsimp only at h)
    | refine Br.mk (fun h => ?_) (fun h => ?_)
    | refine Need.mk (app_need (by first | (simp only [List.length_append, List.length_map, List.length_nil, List.length_cons, List.nil_append, Nat.zero_add, Nat.add_zero]; done) | (simp only [List.length_append, List.length_map, List.length_nil, List.length_cons, List.nil_append, Nat.zero_add, Nat.add_zero]; omega) | omega) (Nat.le_of_ble_eq_true rfl) (by first | (simp only [List.length_append, List.length_map, List.length_nil, List.length_cons, List.nil_append, Nat.zero_add, Nat.add_zero]; done) | (simp only [List.length_append, List.length_map, List.length_nil, List.length_cons, List.nil_append, Nat.zero_add, Nat.add_zero]; omega) | omega)) ?_
    | refine Need.mk (app_need0 (Nat.le_of_ble_eq_true rfl) (by first | (simp only [List.length_append, List.length_map, List.length_nil, List.length_cons, List.nil_append, Nat.zero_add, Nat.add_zero]; done) | (simp only [List.length_append, List.length_map, List.length_nil, List.length_cons, List.nil_append, Nat.zero_add, Nat.add_zero]; omega) | omega)) ?_
    | refine Need.mk (app_needM rfl (Nat.le_of_ble_eq_true rfl) (by first | (simp only [List.length_append, List.length_map, List.length_nil, List.length_cons, List.nil_append, Nat.zero_add, Nat.add_zero]; done) | (simp only [List.length_append, List.length_map, List.length_nil, List.length_cons, List.nil_append, Nat.zero_add, Nat.add_zero]; omega) | omega)) ?_
    | refine Need.mk (zeros_need (by omega) (Nat.le_of_ble_eq_true rfl) (by omega)) ?_
    | refine Need.mk (by first | kernel_rfl | exact ⟨of_decide_eq_true rfl, of_decide_eq_true rfl⟩ | omega) ?_
    | refine Len.mk ⟨_, by simp only [List.length_cons, List.length_nil, Nat.reduceAdd, Int.cast_ofNat_Int]; rfl, ?_⟩
    | refine Wr.lit _ (by simp only [Int.reduceAdd, Int.reduceSub, Int.reduceMul]; rfl) (by decide) ?_
    | refine Wr.fit (by omega) ?_
    | refine Wr.fit (by dsimp only; omega) ?_
    | refine Elem.mk ⟨_, ⟨of_decide_eq_true rfl, rfl⟩, ?_⟩
    | refine Len.map ?_
    | refine Len.dropM ?_
    | refine Elem.dropM ?_
    | refine Len.takeM ?_
    | refine Elem.takeM ?_
    | refine Elem.mapK (by assumption) ?_
    | refine Elem.mapI (by omega) (by assumption) ?_
    | refine Elem.mapN (by omega) (fun x hx => ?_)
    | refine Elem.map (by omega) (by omega) (fun x hx => ?_)
    | refine (hC).use ⟨rfl, ?_⟩
    | refine (hD).use ⟨rfl, ?_⟩
    | refine (hS).use ⟨rfl, ?_⟩
    | refine CallX.mk ⟨_, _, (hC).x, rfl, ?_⟩
    | refine CallX.mk ⟨_, _, (hD).x, rfl, ?_⟩
    | refine CallX.mk ⟨_, _, (hS).x, rfl, ?_⟩
    | refine Done.mk ⟨rfl, rfl⟩
    | refine Done.mk ⟨congrArg gb ?_, rfl⟩
    | refine Done.mk ⟨?_, rfl⟩
    | refine Done.mk ⟨?_, ?_⟩)
  all_goals first
    | omega
    | exact ⟨⟨by omega, iv_len ha⟩, iv_stepA (by assumption) rfl hq h, ivL_next hx hr⟩
    | exact ⟨⟨by omega, iv_len ha⟩, iv_stepB (by assumption) rfl hq h, ivL_next hx hr⟩
    | exact ⟨⟨by omega, iv_len ha⟩, iv_stepC h, ivL_next hx hr⟩
    | exact ⟨⟨by omega, by decide⟩, ⟨rfl, rfl⟩, hR⟩
    | (rw [List.drop_eq_nil_of_le (by omega)] at hr; subst hr; rfl)

def pl_P3_2 : Nat → Option (List Nat × List Nat) := (fun k => bif Nat.beq k 5 then some ([1000005, 4, 13, 14, 15, 5000004, 6000002], [104, 109, 149]) else bif Nat.beq k 5000004 then some ([], []) else bif Nat.beq k 6000002 then some ([], []) else none)
set_option maxRecDepth 100000 in
theorem makeEmp_ok : ICalls Try.prog 20 [.emp] [] (Done (.list 2 [] none) []) := by
  have hC := cloneEmp_ok
  have hD := delSpan_ok 55 (fun s => !s.right) notRight_ok [] 1 (by simp)
  have hS := sortSpan_ok [] (delV (fun s => !s.right) [] 1) (by simp)
  generalize delV (fun s => !s.right) [] 1 = v0 at *
  rw [show sortL [] = [] by simp [sortL]] at hS
  refine ICalls.of_body Try.func20 rfl Try.call20 rfl (Nat.le_of_ble_eq_true rfl) pl_P3_2 rfl ?_
  repeat' ((conv => whnf); first
    | refine Br.yes rfl ?_
    | refine Br.no rfl ?_
    | refine Br.yes (beq_self_eq_true _) ?_
    | refine Br.not ?_
    | refine Br.yes (decide_eq_true (by assumption)) ?_
    | refine Br.no (decide_eq_false (by assumption)) ?_
    | refine Br.yes (beq_iff_eq.2 (by assumption)) ?_
    | refine Br.no (beq_eq_false_iff_ne.2 (by assumption)) ?_
    | refine Br.yes (bne_iff_ne.2 (by assumption)) ?_
    | (refine Br.dec (fun h => ?_) (fun h => ?_) <;> try dsimp only at h)
    | (refine Br.beqI (fun h => ?_) (fun h => ?_) <;> try dsimp only at h)
    | (refine Br.bneI (fun h => ?_) (fun h => ?_) <;> try dsimp only at h)
    | refine Br.mk (fun h => ?_) (fun h => ?_)
    | refine Need.mk (app_need (by first | (simp only [List.length_append, List.length_map, List.length_nil, List.length_cons, List.nil_append, Nat.zero_add, Nat.add_zero]; done) | (simp only [List.length_append, List.length_map, List.length_nil, List.length_cons, List.nil_append, Nat.zero_add, Nat.add_zero]; omega) | omega) (Nat.le_of_ble_eq_true rfl) (by first | (simp only [List.length_append, List.length_map, List.length_nil, List.length_cons, List.nil_append, Nat.zero_add, Nat.add_zero]; done) | (simp only [List.length_append, List.length_map, List.length_nil, List.length_cons, List.nil_append, Nat.zero_add, Nat.add_zero]; omega) | omega)) ?_
    | refine Need.mk (app_need0 (Nat.le_of_ble_eq_true rfl) (by first | (simp only [List.length_append, List.length_map, List.length_nil, List.length_cons, List.nil_append, Nat.zero_add, Nat.add_zero]; done) | (simp only [List.length_append, List.length_map, List.length_nil, List.length_cons, List.nil_append, Nat.zero_add, Nat.add_zero]; omega) | omega)) ?_
    | refine Need.mk (app_needM rfl (Nat.le_of_ble_eq_true rfl) (by first | (simp only [List.length_append, List.length_map, List.length_nil, List.length_cons, List.nil_append, Nat.zero_add, Nat.add_zero]; done) | (simp only [List.length_append, List.length_map, List.length_nil, List.length_cons, List.nil_append, Nat.zero_add, Nat.add_zero]; omega) | omega)) ?_
    | refine Need.mk (zeros_need (by omega) (Nat.le_of_ble_eq_true rfl) (by omega)) ?_
    | refine Need.mk (by first | kernel_rfl | exact ⟨of_decide_eq_true rfl, of_decide_eq_true rfl⟩ | omega) ?_
    | refine Len.mk ⟨_, by simp only [List.length_cons, List.length_nil, Nat.reduceAdd, Int.cast_ofNat_Int]; rfl, ?_⟩
    | refine Wr.lit _ (by simp only [Int.reduceAdd, Int.reduceSub, Int.reduceMul]; rfl) (by decide) ?_
    | refine Wr.fit (by omega) ?_
    | refine Wr.fit (by dsimp only; omega) ?_
    | refine Elem.mk ⟨_, ⟨of_decide_eq_true rfl, rfl⟩, ?_⟩
    | refine Len.map ?_
    | refine Len.dropM ?_
    | refine Elem.dropM ?_
    | refine Len.takeM ?_
    | refine Elem.takeM ?_
    | refine Elem.mapK (by assumption) ?_
    | refine Elem.mapI (by omega) (by assumption) ?_
    | refine Elem.mapN (by omega) (fun x hx => ?_)
    | refine Elem.map (by omega) (by omega) (fun x hx => ?_)
    | refine (hC).use ⟨rfl, ?_⟩
    | refine (hD).use ⟨rfl, ?_⟩
    | refine (hS).use ⟨rfl, ?_⟩
    | refine CallX.mk ⟨_, _, (hC).x, rfl, ?_⟩
    | refine CallX.mk ⟨_, _, (hD).x, rfl, ?_⟩
    | refine CallX.mk ⟨_, _, (hS).x, rfl, ?_⟩
    | refine ILoop.unroll 1 ?_
    | refine Done.mk ⟨rfl, rfl⟩
    | refine Done.mk ⟨congrArg gb ?_, rfl⟩
    | refine Done.mk ⟨?_, rfl⟩
    | refine Done.mk ⟨?_, ?_⟩)

def pl_P3_3 : Nat → Option (List Nat × List Nat) := (fun k => bif Nat.beq k 5 then some ([1000005, 0, 1, 5, 6], []) else none)
set_option maxRecDepth 100000 in
theorem delNil_ok (g : Nat) (p : Span → Bool) (hp : ∀ s : Span, ICalls Try.prog g [s.g] [] (Done (gb (p s)) [])) :
    ICalls Try.prog 53 [.list 2 [] none, .fn (.func g) [] []] [] (Done (.list 2 [] none) []) := by
  have hix := idxSpan0_ok g p hp [] (by simp)
  refine ICalls.of_body Try.func53 rfl Try.call53 rfl (Nat.le_of_ble_eq_true rfl) pl_P3_3 rfl ?_
  repeat' ((conv => whnf); first
    | refine Br.yes rfl ?_
    | refine Br.no rfl ?_
    | refine Br.yes (beq_self_eq_true _) ?_
    | refine Br.not ?_
    | refine Br.yes (decide_eq_true (by assumption)) ?_
    | refine Br.no (decide_eq_false (by assumption)) ?_
    | refine Br.yes (beq_iff_eq.2 (by assumption)) ?_
    | refine Br.no (beq_eq_false_iff_ne.2 (by assumption)) ?_
    | refine Br.yes (bne_iff_ne.2 (by assumption)) ?_
    | (refine Br.dec (fun h => ?_) (fun h => ?_) <;> try dsimp only at h)
    | (refine Br.beqI (fun h => ?_) (fun h => ?_) <;> try dsimp only at h)
    | (refine Br.bneI (fun h => ?_) (fun h => ?_) <;> try dsimp only at h)
    | refine Br.mk (fun h => ?_) (fun h => ?_)
    | refine Need.mk (app_need (by first | (simp only [List.length_append, List.length_map, List.length_nil, List.length_cons, List.nil_append, Nat.zero_add, Nat.add_zero]; done) | (simp only [List.length_append, List.length_map, List.length_nil, List.length_cons, List.nil_append, Nat.zero_add, Nat.add_zero]; omega) | omega) (Nat.le_of_ble_eq_true rfl) (by first | (simp only [List.length_append, List.length_map, List.length_nil, List.length_cons, List.nil_append, Nat.zero_add, Nat.add_zero]; done) | (simp only [List.length_append, List.length_map, List.length_nil, List.length_cons, List.nil_append, Nat.zero_add, Nat.add_zero]; omega) | omega)) ?_
    | refine Need.mk (app_need0 (Nat.le_of_ble_eq_true rfl) (by first | (simp only [List.length_append, List.length_map, List.length_nil, List.length_cons, List.nil_append, Nat.zero_add, Nat.add_zero]; done) | (simp only [List.length_append, List.length_map, List.length_nil, List.length_cons, List.nil_append, Nat.zero_add, Nat.add_zero]; omega) | omega)) ?_
    | refine Need.mk (app_needM rfl (Nat.le_of_ble_eq_true rfl) (by first | (simp only [List.length_append, List.length_map, List.length_nil, List.length_cons, List.nil_append, Nat.zero_add, Nat.add_zero]; done) | (simp only [List.length_append, List.length_map, List.length_nil, List.length_cons, List.nil_append, Nat.zero_add, Nat.add_zero]; omega) | omega)) ?_
    | refine Need.mk (zeros_need (by omega) (Nat.le_of_ble_eq_true rfl) (by omega)) ?_
    | refine Need.mk (by first | kernel_rfl | exact ⟨of_decide_eq_true rfl, of_decide_eq_true rfl⟩ | omega) ?_
    | refine Len.mk ⟨_, by simp only [List.length_cons, List.length_nil, Nat.reduceAdd, Int.cast_ofNat_Int]; rfl, ?_⟩
    | refine Wr.lit _ (by simp only [Int.reduceAdd, Int.reduceSub, Int.reduceMul]; rfl) (by decide) ?_
    | refine Wr.fit (by omega) ?_
    | refine Wr.fit (by dsimp only; omega) ?_
    | refine Elem.mk ⟨_, ⟨of_decide_eq_true rfl, rfl⟩, ?_⟩
    | refine Len.map ?_
    | refine Len.dropM ?_
    | refine Elem.dropM ?_
    | refine Len.takeM ?_
    | refine Elem.takeM ?_
    | refine Elem.mapK (by assumption) ?_
    | refine Elem.mapI (by omega) (by assumption) ?_
    | refine Elem.mapN (by omega) (fun x hx => ?_)
    | refine Elem.map (by omega) (by omega) (fun x hx => ?_)
    | refine (hix).use ⟨rfl, ?_⟩
    | refine CallX.mk ⟨_, _, (hix).x, rfl, ?_⟩
    | refine Done.mk ⟨rfl, rfl⟩
    | refine Done.mk ⟨congrArg gb ?_, rfl⟩
    | refine Done.mk ⟨?_, rfl⟩
    | refine Done.mk ⟨?_, ?_⟩)

theorem sortNone_ok : ICalls Try.prog 57 [.list 2 [] none, .fn (.func 58) [] []] [] (Done (.tup []) []) := by
  unfold ICalls
  refine ⟨fun vals w => Try.sortSpan.f6.enters rfl vals w, fun w I T vals hr hsz hrel => ?_⟩
  obtain ⟨r0, r1, rfl⟩ : ∃ r0 r1, vals = #[r0, r1] := by
    obtain ⟨lst⟩ := vals
    match lst, hsz with
    | [a, b], _ => exact ⟨a, b, rfl⟩
  have v0 := hrel 0 _ r0 rfl rfl
  have hz : ∃ b c, r0 = .slice b 0 c := by
    generalize hg : GV.list 2 [] none = g at v0
    cases v0 <;> cases hg
    · exact ⟨_, _, rfl⟩
    · exact ⟨_, _, rfl⟩
  obtain ⟨b, c, rfl⟩ := hz
  refine (AnyF.slices_SortFunc_none Try.sortSpan b c r1 w).mono ?_
  rintro ee w' ⟨rfl, rfl⟩
  exact ⟨_, _, _, I, T, ⟨rfl, rfl⟩, rfl, .refl _ _ _, .tup rfl fun i c r hc => by simp at hc, hr⟩

def pl_P3_4 : Nat → Option (List Nat × List Nat) := (fun k => bif Nat.beq k 5 then some ([1000005, 4, 13, 14, 15, 5000004, 6000002], [104, 109, 149]) else bif Nat.beq k 5000004 then some ([], []) else bif Nat.beq k 6000002 then some ([], []) else none)
set_option maxRecDepth 100000 in
theorem makeNil_ok : ICalls Try.prog 20 [.v (.slice none 0 0)] [] (Done (.list 2 [] none) []) := by
  have hD := delNil_ok 55 (fun s => !s.right) notRight_ok
  refine ICalls.of_body Try.func20 rfl Try.call20 rfl (Nat.le_of_ble_eq_true rfl) pl_P3_4 rfl ?_
  repeat' ((conv => whnf); first
    | refine Br.yes rfl ?_
    | refine Br.no rfl ?_
    | refine Br.yes (beq_self_eq_true _) ?_
    | refine Br.not ?_
    | refine Br.yes (decide_eq_true (by assumption)) ?_
    | refine Br.no (decide_eq_false (by assumption)) ?_
    | refine Br.yes (beq_iff_eq.2 (by assumption)) ?_
    | refine Br.no (beq_eq_false_iff_ne.2 (by assumption)) ?_
    | refine Br.yes (bne_iff_ne.2 (by assumption)) ?_
    | (refine Br.dec (fun h => ?_) (fun h => ?_) <;> try dsimp only at h)
    | (refine Br.beqI (fun h => ?_) (fun h => ?_) <;> try dsimp only at h)
    | (refine Br.bneI (fun h => ?_) (fun h => ?_) <;> try dsimp only at h)
    | refine Br.mk (fun h => ?_) (fun h => ?_)
    | refine Need.mk (app_need (by first | (simp only [List.length_append, List.length_map, List.length_nil, List.length_cons, List.nil_append, Nat.zero_add, Nat.add_zero]; done) | (simp only [List.length_append, List.length_map, List.length_nil, List.length_cons, List.nil_append, Nat.zero_add, Nat.add_zero]; omega) | omega) (Nat.le_of_ble_eq_true rfl) (by first | (simp only [List.length_append, List.length_map, List.length_nil, List.length_cons, List.nil_append, Nat.zero_add, Nat.add_zero]; done) | (simp only [List.length_append, List.length_map, List.length_nil, List.length_cons, List.nil_append, Nat.zero_add, Nat.add_zero]; omega) | omega)) ?_
    | refine Need.mk (app_need0 (Nat.le_of_ble_eq_true rfl) (by first | (simp only [List.length_append, List.length_map, List.length_nil, List.length_cons, List.nil_append, Nat.zero_add, Nat.add_zero]; done) | (simp only [List.length_append, List.length_map, List.length_nil, List.length_cons, List.nil_append, Nat.zero_add, Nat.add_zero]; omega) | omega)) ?_
    | refine Need.mk (app_needM rfl (Nat.le_of_ble_eq_true rfl) (by first | (simp only [List.length_append, List.length_map, List.length_nil, List.length_cons, List.nil_append, Nat.zero_add, Nat.add_zero]; done) | (simp only [List.length_append, List.length_map, List.length_nil, List.length_cons, List.nil_append, Nat.zero_add, Nat.add_zero]; omega) | omega)) ?_
    | refine Need.mk (zeros_need (by omega) (Nat.le_of_ble_eq_true rfl) (by omega)) ?_
    | refine Need.mk (by first | kernel_rfl | exact ⟨of_decide_eq_true rfl, of_decide_eq_true rfl⟩ | omega) ?_
    | refine Len.mk ⟨_, by simp only [List.length_cons, List.length_nil, Nat.reduceAdd, Int.cast_ofNat_Int]; rfl, ?_⟩
    | refine Wr.lit _ (by simp only [Int.reduceAdd, Int.reduceSub, Int.reduceMul]; rfl) (by decide) ?_
    | refine Wr.fit (by omega) ?_
    | refine Wr.fit (by dsimp only; omega) ?_
    | refine Elem.mk ⟨_, ⟨of_decide_eq_true rfl, rfl⟩, ?_⟩
    | refine Len.map ?_
    | refine Len.dropM ?_
    | refine Elem.dropM ?_
    | refine Len.takeM ?_
    | refine Elem.takeM ?_
    | refine Elem.mapK (by assumption) ?_
    | refine Elem.mapI (by omega) (by assumption) ?_
    | refine Elem.mapN (by omega) (fun x hx => ?_)
    | refine Elem.map (by omega) (by omega) (fun x hx => ?_)
    | refine (cloneNil_ok).use ⟨rfl, ?_⟩
    | refine (hD).use ⟨rfl, ?_⟩
    | refine (sortNone_ok).use ⟨rfl, ?_⟩
    | refine CallX.mk ⟨_, _, (cloneNil_ok).x, rfl, ?_⟩
    | refine CallX.mk ⟨_, _, (hD).x, rfl, ?_⟩
    | refine CallX.mk ⟨_, _, (sortNone_ok).x, rfl, ?_⟩
    | refine ILoop.unroll 1 ?_
    | refine Done.mk ⟨rfl, rfl⟩
    | refine Done.mk ⟨congrArg gb ?_, rfl⟩
    | refine Done.mk ⟨?_, rfl⟩
    | refine Done.mk ⟨?_, ?_⟩)

theorem mkL_nil : mkL [] = [] := by simp [mkL, sortL, ivL]
theorem make_ok (l : List Span) (hl : (l.length : Int) ≤ 100000000) : ICalls Try.prog 20 [.list 2 (spans l) none] [] (Done (.list 2 (spans (mkL l)) none) []) := by
  cases l with
  | nil => rw [mkL_nil]; exact ICalls.nils (a := []) makeNil_ok makeEmp_ok
  | cons s r => exact makeCons_ok s r (by simp only [List.length_cons] at hl; omega)

end Go.Hl
