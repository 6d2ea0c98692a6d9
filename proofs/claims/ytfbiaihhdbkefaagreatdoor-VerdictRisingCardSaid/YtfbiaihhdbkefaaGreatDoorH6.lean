/- Contracts of functions, bundle H6; proved for whatever the arguments' types allow, as each theorem says. -/
import Derived.Test.YtfbiaihhdbkefaaGreatDoorH1
import Derived.Test.YtfbiaihhdbkefaaGreatDoorGh16

/- Tasks, and how far they are done: plain Lean. -/
set_option linter.unusedVariables false
set_option linter.unusedSimpArgs false
namespace Go.Hl
open Go.Gh

def firstErr {α : Type} (f : α → Int) : List α → Int
  | [] => 0
  | x :: r => if f x ≠ 0 then f x else firstErr f r
theorem firstErr_ok {α : Type} {f : α → Int} : ∀ {l : List α}, firstErr f l = 0 → ∀ x, x ∈ l → f x = 0
  | [], _, x, h => by cases h
  | y :: r, h, x, hx => by
    unfold firstErr at h
    split at h
    · rename_i h1; exact absurd h h1
    · rename_i h1
      rcases List.mem_cons.1 hx with rfl | hx
      · omega
      · exact firstErr_ok h x hx
theorem firstErr_hit {α : Type} {f : α → Int} {l : List α} {i : Nat} {x : α} {R : Int} (hr : firstErr f (l.drop i) = R) (hx : l[i]? = some x) (h : f x ≠ 0) : f x = R := by
  rw [drop_of_get hx, firstErr, if_pos h] at hr; exact hr
theorem firstErr_next {α : Type} {f : α → Int} {l : List α} {i : Nat} {x : α} {R : Int} (hr : firstErr f (l.drop i) = R) (hx : l[i]? = some x) (h : f x = 0) : firstErr f (l.drop (i + 1)) = R := by
  rw [drop_of_get hx, firstErr, if_neg (by simp [h])] at hr; exact hr
theorem firstErr_end {α : Type} {f : α → Int} {l : List α} {i : Nat} {R : Int} (hr : firstErr f (l.drop i) = R) (h : ¬ (i : Int) < l.length) : 0 = R := by
  rw [List.drop_eq_nil_of_le (by omega), firstErr] at hr; exact hr

def taskErr (t : Task) : Int := if t.Drive < 0 ∨ 10080 < t.Drive ∨ t.Serve < 0 ∨ 1440 < t.Serve then 4 else if 0 < t.Serve then winCheck t.Open else if 0 < t.Open.length then 1 else 0
def tasksErr (l : List Task) : Int := if 2001 < l.length then 12 else firstErr taskErr l

theorem tasksErr_many {l : List Task} (h : (2001 : Int) < l.length) : 12 = tasksErr l := by unfold tasksErr; rw [if_pos (by omega)]
theorem tasksErr_eq {l : List Task} (h : ¬ (2001 : Int) < l.length) : tasksErr l = firstErr taskErr l := by unfold tasksErr; rw [if_neg (by omega)]

structure Task.May (t : Task) : Prop where
  drive : 0 ≤ t.Drive ∧ t.Drive ≤ 10080
  serve : 0 ≤ t.Serve ∧ t.Serve ≤ 1440
  len : t.Open.length ≤ 8
theorem taskErr_ok {t : Task} (h : taskErr t = 0) : t.May := by
  unfold taskErr at h
  split at h
  · cases h
  · split at h
    · refine ⟨by omega, by omega, ?_⟩
      unfold winCheck at h
      split at h
      · cases h
      · split at h
        · cases h
        · omega
    · split at h
      · cases h
      · exact ⟨by omega, by omega, by omega⟩
theorem tasksErr_ok {l : List Task} (h : tasksErr l = 0) : l.length ≤ 2001 ∧ ∀ t, t ∈ l → t.May := by
  unfold tasksErr at h
  split at h
  · cases h
  · exact ⟨by omega, fun t ht => taskErr_ok (firstErr_ok h t ht)⟩

def tAt (l : List Task) (i : Int) : Task := (l[i.toNat]?).getD ⟨0, 0, []⟩
theorem tAt_get {l : List Task} {i : Int} {x : Task} (h : l[i.toNat]? = some x) : tAt l i = x := by simp [tAt, h]
theorem tAt_out {l : List Task} {i : Int} (h : (l.length : Int) ≤ i) : tAt l i = ⟨0, 0, []⟩ := by simp [tAt, show l.length ≤ i.toNat by omega]
def overT (t : Task) (s : Spot) : Bool := decide (s.Driven = t.Drive) && decide (s.Served = t.Serve)
def fitsS (l : List Task) (s : Spot) : Bool :=
  if s.Task < 0 ∨ (l.length : Int) ≤ s.Task then decide (s.Task = l.length ∧ s.Driven = 0 ∧ s.Served = 0)
  else decide (0 ≤ s.Driven ∧ s.Driven ≤ (tAt l s.Task).Drive ∧ 0 ≤ s.Served ∧ s.Served ≤ (tAt l s.Task).Serve ∧ (s.Served = 0 ∨ s.Driven = (tAt l s.Task).Drive) ∧ ¬ (s.Driven = (tAt l s.Task).Drive ∧ s.Served = (tAt l s.Task).Serve))
def pastN (l : List Task) : Nat → Spot → Spot
  | 0, s => s
  | n + 1, s => if s.Task < l.length ∧ s.Driven = (tAt l s.Task).Drive ∧ s.Served = (tAt l s.Task).Serve then pastN l n ⟨s.Task + 1, 0, 0⟩ else s
def pastS (l : List Task) (s : Spot) : Spot := pastN l (l.length - s.Task.toNat) s
theorem pastN_stop {l : List Task} {n : Nat} {s : Spot} (h : ¬ (s.Task < l.length ∧ s.Driven = (tAt l s.Task).Drive ∧ s.Served = (tAt l s.Task).Serve)) : pastN l n s = s := by
  cases n with
  | zero => rfl
  | succ n => rw [pastN, if_neg h]
theorem pastS_stop {l : List Task} {s : Spot} (h : ¬ (s.Task < l.length ∧ s.Driven = (tAt l s.Task).Drive ∧ s.Served = (tAt l s.Task).Serve)) : pastS l s = s := pastN_stop h
theorem pastS_next {l : List Task} {s : Spot} (h0 : 0 ≤ s.Task) (h : s.Task < l.length ∧ s.Driven = (tAt l s.Task).Drive ∧ s.Served = (tAt l s.Task).Serve) : pastS l s = pastS l ⟨s.Task + 1, 0, 0⟩ := by
  unfold pastS
  have e : l.length - s.Task.toNat = (l.length - (s.Task + 1).toNat) + 1 := by omega
  rw [e, pastN, if_pos h]
def errCheck (l : List Task) (s : Spot) : Int := if tasksErr l ≠ 0 then tasksErr l else if fitsS l s then 0 else 1

def sumDrive : List Task → Int
  | [] => 0
  | t :: r => t.Drive + sumDrive r
def sumServe : List Task → Int
  | [] => 0
  | t :: r => t.Serve + sumServe r
theorem sumDrive_drop {l : List Task} {i : Nat} {x : Task} (h : l[i]? = some x) : sumDrive (l.drop i) = x.Drive + sumDrive (l.drop (i + 1)) := by rw [drop_of_get h]; rfl
theorem sumServe_drop {l : List Task} {i : Nat} {x : Task} (h : l[i]? = some x) : sumServe (l.drop i) = x.Serve + sumServe (l.drop (i + 1)) := by rw [drop_of_get h]; rfl
def leftD (l : List Task) (s : Spot) : Int := sumDrive (l.drop s.Task.toNat) - s.Driven
def leftS (l : List Task) (s : Spot) : Int := sumServe (l.drop s.Task.toNat) - s.Served

/-- What a spot that is right comes to in numbers. -/
theorem fits_in {l : List Task} {s : Spot} (h : fitsS l s = true) : (0 ≤ s.Task ∧ s.Task ≤ l.length) ∧ (0 ≤ s.Driven ∧ s.Driven ≤ (tAt l s.Task).Drive) ∧ (0 ≤ s.Served ∧ s.Served ≤ (tAt l s.Task).Serve) ∧ (s.Served = 0 ∨ s.Driven = (tAt l s.Task).Drive) := by
  unfold fitsS at h
  split at h
  · have := of_decide_eq_true h
    have e := tAt_out (l := l) (i := s.Task) (by omega)
    rw [e]; simp only; omega
  · have := of_decide_eq_true h
    omega
theorem tAt_may {l : List Task} (h : ∀ t, t ∈ l → t.May) (i : Int) : (tAt l i).May := by
  unfold tAt
  cases hx : l[i.toNat]? with
  | none => exact ⟨by simp, by simp, by simp⟩
  | some x => exact h x (List.mem_of_getElem? hx)

structure B4 where
  b0 : Bool
  b1 : Bool
  b2 : Bool
  b3 : Bool
  deriving DecidableEq
def B4.c (b : B4) : List GV := [gb b.b0, gb b.b1, gb b.b2, gb b.b3]
def minuteS (l : List Task) (s : Spot) (m k : Int) : Spot × B4 :=
  if k = 3 then (if s.Driven < (tAt l s.Task).Drive then (pastS l ⟨s.Task, s.Driven + 1, s.Served⟩, ⟨false, false, false, decide (0 < s.Served)⟩) else (pastS l s, ⟨true, false, false, decide (0 < s.Served)⟩))
  else if k = 2 then (if s.Driven = (tAt l s.Task).Drive ∧ s.Served < (tAt l s.Task).Serve then (pastS l ⟨s.Task, s.Driven, s.Served + 1⟩, ⟨false, false, decide (s.Served = 0) && !hasL (tAt l s.Task).Open m, false⟩) else (pastS l s, ⟨false, true, false, false⟩))
  else (pastS l s, ⟨false, false, false, decide (0 < s.Served)⟩)
def minG' (r : Spot × B4) : GV := .tup [r.1.g, .agg r.2.c]

/-- A spot that may be, though all of its task may be done. -/
structure Mid (l : List Task) (s : Spot) : Prop where
  task : 0 ≤ s.Task ∧ s.Task ≤ l.length
  driven : 0 ≤ s.Driven ∧ s.Driven ≤ (tAt l s.Task).Drive
  served : 0 ≤ s.Served ∧ s.Served ≤ (tAt l s.Task).Serve
  order : s.Served = 0 ∨ s.Driven = (tAt l s.Task).Drive
theorem fits_mid {l : List Task} {s : Spot} (h : fitsS l s = true) : Mid l s := by
  obtain ⟨h1, h2, h3, h4⟩ := fits_in h
  exact ⟨h1, h2, h3, h4⟩
theorem mid_stop {l : List Task} {s : Spot} (h : Mid l s) (hs : ¬ (s.Task < l.length ∧ s.Driven = (tAt l s.Task).Drive ∧ s.Served = (tAt l s.Task).Serve)) : fitsS l s = true := by
  obtain ⟨h1, h2, h3, h4⟩ := h
  unfold fitsS
  by_cases hlt : s.Task < l.length
  · rw [if_neg (by omega)]
    simp only [decide_eq_true_eq]
    omega
  · rw [if_pos (by omega)]
    have e := tAt_out (l := l) (i := s.Task) (by omega)
    rw [e] at h2 h3
    simp only at h2 h3
    simp only [decide_eq_true_eq]
    omega
theorem pastN_mid {l : List Task} (hm : ∀ t, t ∈ l → t.May) : ∀ (n : Nat) (s : Spot), l.length - s.Task.toNat ≤ n → Mid l s → fitsS l (pastN l n s) = true ∧ leftD l (pastN l n s) = leftD l s ∧ leftS l (pastN l n s) = leftS l s
  | 0, s, hn, h => by
    have ht := h.task
    exact ⟨mid_stop (s := s) h (by omega), rfl, rfl⟩
  | n + 1, s, hn, h => by
    unfold pastN
    split
    · rename_i hc
      obtain ⟨h1, h2, h3, h4⟩ := h
      obtain ⟨t, hx⟩ : ∃ t, l[s.Task.toNat]? = some t := ⟨_, List.getElem?_eq_getElem (by omega)⟩
      have ht := tAt_may hm (s.Task + 1)
      obtain ⟨g1, g2, g3⟩ := pastN_mid hm n ⟨s.Task + 1, 0, 0⟩ (by simp only; omega) ⟨by simp only; omega, by simp only; have := ht.drive; omega, by simp only; have := ht.serve; omega, .inl rfl⟩
      refine ⟨g1, g2.trans ?_, g3.trans ?_⟩
      · unfold leftD
        rw [tAt_get hx] at hc
        rw [sumDrive_drop hx, show (s.Task + 1).toNat = s.Task.toNat + 1 by omega]; simp only; omega
      · unfold leftS
        rw [tAt_get hx] at hc
        rw [sumServe_drop hx, show (s.Task + 1).toNat = s.Task.toNat + 1 by omega]; simp only; omega
    · rename_i hc
      exact ⟨mid_stop h hc, rfl, rfl⟩
theorem pastS_mid {l : List Task} (hm : ∀ t, t ∈ l → t.May) {s : Spot} (h : Mid l s) : fitsS l (pastS l s) = true ∧ leftD l (pastS l s) = leftD l s ∧ leftS l (pastS l s) = leftS l s :=
  pastN_mid hm _ s (Nat.le_refl _) h
theorem fits_stop {l : List Task} {s : Spot} (h : fitsS l s = true) : pastS l s = s := by
  refine pastS_stop ?_
  unfold fitsS at h
  split at h
  · have := of_decide_eq_true h
    omega
  · have := of_decide_eq_true h
    omega
/-- What is left behind a minute, and whether the spot is right. -/
theorem minuteS_left {l : List Task} (hm : ∀ t, t ∈ l → t.May) {s : Spot} (h : fitsS l s = true) (m k : Int) :
    fitsS l (minuteS l s m k).1 = true ∧
    (((minuteS l s m k).2.b0 = true ∨ (minuteS l s m k).2.b1 = true) → (minuteS l s m k).1 = s) ∧
    (k = 3 → (minuteS l s m k).2.b0 = false → leftD l (minuteS l s m k).1 = leftD l s - 1 ∧ leftS l (minuteS l s m k).1 = leftS l s) ∧
    (k = 2 → (minuteS l s m k).2.b1 = false → leftD l (minuteS l s m k).1 = leftD l s ∧ leftS l (minuteS l s m k).1 = leftS l s - 1) ∧
    (k ≠ 3 → k ≠ 2 → (minuteS l s m k).1 = s) := by
  have hs := fits_stop h
  obtain ⟨h1, h2, h3, h4⟩ := fits_mid h
  unfold minuteS
  by_cases hk : k = 3
  · rw [if_pos hk]
    by_cases hd : s.Driven < (tAt l s.Task).Drive
    · rw [if_pos hd]
      obtain ⟨g1, g2, g3⟩ := pastS_mid hm (s := ⟨s.Task, s.Driven + 1, s.Served⟩) ⟨h1, by simp only; omega, h3, .inl (by simp only; omega)⟩
      refine ⟨g1, by simp, fun _ _ => ⟨g2.trans ?_, g3⟩, fun e => by omega, fun e => absurd hk e⟩
      unfold leftD; simp only; omega
    · rw [if_neg hd]
      simp only [hs]
      exact ⟨h, fun _ => trivial, fun _ e => by simp at e, fun e => by omega, fun e => absurd hk e⟩
  · rw [if_neg hk]
    by_cases hw : k = 2
    · rw [if_pos hw]
      by_cases hd : s.Driven = (tAt l s.Task).Drive ∧ s.Served < (tAt l s.Task).Serve
      · rw [if_pos hd]
        obtain ⟨g1, g2, g3⟩ := pastS_mid hm (s := ⟨s.Task, s.Driven, s.Served + 1⟩) ⟨h1, h2, by simp only; omega, .inr hd.1⟩
        refine ⟨g1, by simp, fun e => absurd e hk, fun _ _ => ⟨g2, g3.trans ?_⟩, fun _ e => absurd hw e⟩
        unfold leftS; simp only; omega
      · rw [if_neg hd]
        simp only [hs]
        exact ⟨h, fun _ => trivial, fun e => absurd e hk, fun _ e => by simp at e, fun _ e => absurd hw e⟩
    · rw [if_neg hw]
      simp only [hs]
      exact ⟨h, fun _ => trivial, fun e => absurd e hk, fun e => absurd e hw, fun _ _ => trivial⟩
end Go.Hl

/- Contracts: spans, and lists of them.  -/
set_option linter.unusedVariables false
set_option linter.unusedSimpArgs false
namespace Go.Hl
open Go.Gh Go.Proofs

set_option maxRecDepth 100000 in
theorem ivalRight_ok (s : Span) : ICalls Tryz.prog 106 [s.g] [] (Done (gb s.right) []) := by
  refine ICalls.of_body Tryz.func106 rfl Tryz.call106 rfl (Nat.le_of_ble_eq_true rfl) (fun _ => none) rfl ?_
  repeat' ((conv => whnf); first
    | refine Br.yes rfl ?_
    | refine Br.no rfl ?_
    | refine Br.yes (beq_self_eq_true _) ?_
    | refine Br.not ?_
    | refine Br.yes (decide_eq_true (by assumption)) ?_
    | refine Br.no (decide_eq_false (by assumption)) ?_
    | refine Br.yes (beq_iff_eq.2 (by assumption)) ?_
    | refine Br.no (beq_eq_false_iff_ne.2 (by assumption)) ?_
    | refine Br.yes (bne_iff_ne.2 (by assumption)) ?_
    | (refine Br.dec (fun h => ?_) (fun h => ?_) <;> try dsimp only at h)
    | (refine Br.beqI (fun h => ?_) (fun h => ?_) <;> try dsimp only at h)
    | (refine Br.bneI (fun h => ?_) (fun h => ?_) <;> try dsimp only at h)
    | refine Br.mk (fun h => ?_) (fun h => ?_)
    | refine Need.mk (by first | kernel_rfl | exact ⟨of_decide_eq_true rfl, of_decide_eq_true rfl⟩ | omega) ?_
    | refine Len.mk ⟨_, by simp only [List.length_cons, List.length_nil, Nat.reduceAdd, Int.cast_ofNat_Int]; rfl, ?_⟩
    | refine Wr.lit _ (by simp only [Int.reduceAdd, Int.reduceSub, Int.reduceMul]; rfl) (by decide) ?_
    | refine Wr.fit (by omega) ?_
    | refine Wr.fit (by dsimp only; omega) ?_
    | refine Elem.mk ⟨_, ⟨of_decide_eq_true rfl, rfl⟩, ?_⟩
    | refine Len.map ?_
    | refine Len.dropM ?_
    | refine Elem.dropM ?_
    | refine Len.takeM ?_
    | refine Elem.takeM ?_
    | refine Elem.mapK (by assumption) ?_
    | refine Elem.mapI (by omega) (by assumption) ?_
    | refine Elem.mapN (by omega) (fun x hx => ?_)
    | refine Elem.map (by omega) (by omega) (fun x hx => ?_)
    | refine Done.mk ⟨rfl, rfl⟩
    | refine Done.mk ⟨congrArg gb ?_, rfl⟩
    | refine Done.mk ⟨?_, rfl⟩
    | refine Done.mk ⟨?_, ?_⟩)
set_option maxRecDepth 100000 in
theorem ivalHas_ok (s : Span) (m : Int) : ICalls Tryz.prog 124 [s.g, gi m] [] (Done (gb (s.has m)) []) := by
  refine ICalls.of_body Tryz.func124 rfl Tryz.call124 rfl (Nat.le_of_ble_eq_true rfl) (fun _ => none) rfl ?_
  repeat' ((conv => whnf); first
    | refine Br.yes rfl ?_
    | refine Br.no rfl ?_
    | refine Br.yes (beq_self_eq_true _) ?_
    | refine Br.not ?_
    | refine Br.yes (decide_eq_true (by assumption)) ?_
    | refine Br.no (decide_eq_false (by assumption)) ?_
    | refine Br.yes (beq_iff_eq.2 (by assumption)) ?_
    | refine Br.no (beq_eq_false_iff_ne.2 (by assumption)) ?_
    | refine Br.yes (bne_iff_ne.2 (by assumption)) ?_
    | (refine Br.dec (fun h => ?_) (fun h => ?_) <;> try dsimp only at h)
    | (refine Br.beqI (fun h => ?_) (fun h => ?_) <;> try dsimp only at h)
    | (refine Br.bneI (fun h => ?_) (fun h => ?_) <;> try dsimp only at h)
    | refine Br.mk (fun h => ?_) (fun h => ?_)
    | refine Need.mk (by first | kernel_rfl | exact ⟨of_decide_eq_true rfl, of_decide_eq_true rfl⟩ | omega) ?_
    | refine Len.mk ⟨_, by simp only [List.length_cons, List.length_nil, Nat.reduceAdd, Int.cast_ofNat_Int]; rfl, ?_⟩
    | refine Wr.lit _ (by simp only [Int.reduceAdd, Int.reduceSub, Int.reduceMul]; rfl) (by decide) ?_
    | refine Wr.fit (by omega) ?_
    | refine Wr.fit (by dsimp only; omega) ?_
    | refine Elem.mk ⟨_, ⟨of_decide_eq_true rfl, rfl⟩, ?_⟩
    | refine Len.map ?_
    | refine Len.dropM ?_
    | refine Elem.dropM ?_
    | refine Len.takeM ?_
    | refine Elem.takeM ?_
    | refine Elem.mapK (by assumption) ?_
    | refine Elem.mapI (by omega) (by assumption) ?_
    | refine Elem.mapN (by omega) (fun x hx => ?_)
    | refine Elem.map (by omega) (by omega) (fun x hx => ?_)
    | refine Done.mk ⟨rfl, rfl⟩
    | refine Done.mk ⟨congrArg gb ?_, rfl⟩
    | refine Done.mk ⟨?_, rfl⟩
    | refine Done.mk ⟨?_, ?_⟩)
  all_goals simp [Span.has, *]
set_option maxRecDepth 100000 in
theorem hasC_ok (s : Span) (m : Int) : ICalls Tryz.prog 123 [s.g, .ptr 0 0] [[gi m]] (Done (gb (s.has m)) [[gi m]]) := by
  refine ICalls.of_body Tryz.func123 rfl Tryz.call123 rfl (Nat.le_of_ble_eq_true rfl) (fun _ => none) rfl ?_
  repeat' ((conv => whnf); first
    | refine Br.yes rfl ?_
    | refine Br.no rfl ?_
    | refine Br.yes (beq_self_eq_true _) ?_
    | refine Br.not ?_
    | refine Br.yes (decide_eq_true (by assumption)) ?_
    | refine Br.no (decide_eq_false (by assumption)) ?_
    | refine Br.yes (beq_iff_eq.2 (by assumption)) ?_
    | refine Br.no (beq_eq_false_iff_ne.2 (by assumption)) ?_
    | refine Br.yes (bne_iff_ne.2 (by assumption)) ?_
    | (refine Br.dec (fun h => ?_) (fun h => ?_) <;> try dsimp only at h)
    | (refine Br.beqI (fun h => ?_) (fun h => ?_) <;> try dsimp only at h)
    | (refine Br.bneI (fun h => ?_) (fun h => ?_) <;> try dsimp only at h)
    | refine Br.mk (fun h => ?_) (fun h => ?_)
    | refine Need.mk (by first | kernel_rfl | exact ⟨of_decide_eq_true rfl, of_decide_eq_true rfl⟩ | omega) ?_
    | refine Len.mk ⟨_, by simp only [List.length_cons, List.length_nil, Nat.reduceAdd, Int.cast_ofNat_Int]; rfl, ?_⟩
    | refine Wr.lit _ (by simp only [Int.reduceAdd, Int.reduceSub, Int.reduceMul]; rfl) (by decide) ?_
    | refine Wr.fit (by omega) ?_
    | refine Wr.fit (by dsimp only; omega) ?_
    | refine Elem.mk ⟨_, ⟨of_decide_eq_true rfl, rfl⟩, ?_⟩
    | refine Len.map ?_
    | refine Len.dropM ?_
    | refine Elem.dropM ?_
    | refine Len.takeM ?_
    | refine Elem.takeM ?_
    | refine Elem.mapK (by assumption) ?_
    | refine Elem.mapI (by omega) (by assumption) ?_
    | refine Elem.mapN (by omega) (fun x hx => ?_)
    | refine Elem.map (by omega) (by omega) (fun x hx => ?_)
    | refine (ivalHas_ok s m).use ⟨rfl, ?_⟩
    | refine CallX.mk ⟨_, _, (ivalHas_ok s m).x, rfl, ?_⟩
    | refine Done.mk ⟨rfl, rfl⟩
    | refine Done.mk ⟨congrArg gb ?_, rfl⟩
    | refine Done.mk ⟨?_, rfl⟩
    | refine Done.mk ⟨?_, ?_⟩)
set_option maxRecDepth 100000 in
theorem wrongC_ok (s : Span) : ICalls Tryz.prog 105 [s.g] [] (Done (gb (!s.right)) []) := by
  refine ICalls.of_body Tryz.func105 rfl Tryz.call105 rfl (Nat.le_of_ble_eq_true rfl) (fun _ => none) rfl ?_
  repeat' ((conv => whnf); first
    | refine Br.yes rfl ?_
    | refine Br.no rfl ?_
    | refine Br.yes (beq_self_eq_true _) ?_
    | refine Br.not ?_
    | refine Br.yes (decide_eq_true (by assumption)) ?_
    | refine Br.no (decide_eq_false (by assumption)) ?_
    | refine Br.yes (beq_iff_eq.2 (by assumption)) ?_
    | refine Br.no (beq_eq_false_iff_ne.2 (by assumption)) ?_
    | refine Br.yes (bne_iff_ne.2 (by assumption)) ?_
    | (refine Br.dec (fun h => ?_) (fun h => ?_) <;> try dsimp only at h)
    | (refine Br.beqI (fun h => ?_) (fun h => ?_) <;> try dsimp only at h)
    | (refine Br.bneI (fun h => ?_) (fun h => ?_) <;> try dsimp only at h)
    | refine Br.mk (fun h => ?_) (fun h => ?_)
    | refine Need.mk (by first | kernel_rfl | exact ⟨of_decide_eq_true rfl, of_decide_eq_true rfl⟩ | omega) ?_
    | refine Len.mk ⟨_, by simp only [List.length_cons, List.length_nil, Nat.reduceAdd, Int.cast_ofNat_Int]; rfl, ?_⟩
    | refine Wr.lit _ (by simp only [Int.reduceAdd, Int.reduceSub, Int.reduceMul]; rfl) (by decide) ?_
    | refine Wr.fit (by omega) ?_
    | refine Wr.fit (by dsimp only; omega) ?_
    | refine Elem.mk ⟨_, ⟨of_decide_eq_true rfl, rfl⟩, ?_⟩
    | refine Len.map ?_
    | refine Len.dropM ?_
    | refine Elem.dropM ?_
    | refine Len.takeM ?_
    | refine Elem.takeM ?_
    | refine Elem.mapK (by assumption) ?_
    | refine Elem.mapI (by omega) (by assumption) ?_
    | refine Elem.mapN (by omega) (fun x hx => ?_)
    | refine Elem.map (by omega) (by omega) (fun x hx => ?_)
    | refine (ivalRight_ok s).use ⟨rfl, ?_⟩
    | refine CallX.mk ⟨_, _, (ivalRight_ok s).x, rfl, ?_⟩
    | refine Done.mk ⟨rfl, rfl⟩
    | refine Done.mk ⟨congrArg gb ?_, rfl⟩
    | refine Done.mk ⟨?_, rfl⟩
    | refine Done.mk ⟨?_, ?_⟩)
set_option maxRecDepth 100000 in
theorem beyondC_ok (s : Span) : ICalls Tryz.prog 107 [s.g] [] (Done (gb (beyond s)) []) := by
  refine ICalls.of_body Tryz.func107 rfl Tryz.call107 rfl (Nat.le_of_ble_eq_true rfl) (fun _ => none) rfl ?_
  repeat' ((conv => whnf); first
    | refine Br.yes rfl ?_
    | refine Br.no rfl ?_
    | refine Br.yes (beq_self_eq_true _) ?_
    | refine Br.not ?_
    | refine Br.yes (decide_eq_true (by assumption)) ?_
    | refine Br.no (decide_eq_false (by assumption)) ?_
    | refine Br.yes (beq_iff_eq.2 (by assumption)) ?_
    | refine Br.no (beq_eq_false_iff_ne.2 (by assumption)) ?_
    | refine Br.yes (bne_iff_ne.2 (by assumption)) ?_
    | (refine Br.dec (fun h => ?_) (fun h => ?_) <;> try dsimp only at h)
    | (refine Br.beqI (fun h => ?_) (fun h => ?_) <;> try dsimp only at h)
    | (refine Br.bneI (fun h => ?_) (fun h => ?_) <;> try dsimp only at h)
    | refine Br.mk (fun h => ?_) (fun h => ?_)
    | refine Need.mk (by first | kernel_rfl | exact ⟨of_decide_eq_true rfl, of_decide_eq_true rfl⟩ | omega) ?_
    | refine Len.mk ⟨_, by simp only [List.length_cons, List.length_nil, Nat.reduceAdd, Int.cast_ofNat_Int]; rfl, ?_⟩
    | refine Wr.lit _ (by simp only [Int.reduceAdd, Int.reduceSub, Int.reduceMul]; rfl) (by decide) ?_
    | refine Wr.fit (by omega) ?_
    | refine Wr.fit (by dsimp only; omega) ?_
    | refine Elem.mk ⟨_, ⟨of_decide_eq_true rfl, rfl⟩, ?_⟩
    | refine Len.map ?_
    | refine Len.dropM ?_
    | refine Elem.dropM ?_
    | refine Len.takeM ?_
    | refine Elem.takeM ?_
    | refine Elem.mapK (by assumption) ?_
    | refine Elem.mapI (by omega) (by assumption) ?_
    | refine Elem.mapN (by omega) (fun x hx => ?_)
    | refine Elem.map (by omega) (by omega) (fun x hx => ?_)
    | refine Done.mk ⟨rfl, rfl⟩
    | refine Done.mk ⟨congrArg gb ?_, rfl⟩
    | refine Done.mk ⟨?_, rfl⟩
    | refine Done.mk ⟨?_, ?_⟩)
  all_goals simp [beyond, *]

def pl_D1_1 : Nat → Option (List Nat × List Nat) := (fun k => bif Nat.beq k 2 then some ([1000002, 0, 1, 7, 8], []) else none)
set_option maxRecDepth 100000 in
theorem idxSpan0_ok (g : Nat) (p : Span → Bool) (hp : ∀ s : Span, ICalls Tryz.prog g [s.g] [] (Done (gb (p s)) [])) (l : List Span) (hl : (l.length : Int) ≤ 1000000000) :
    ICalls Tryz.prog 125 [.list 2 (spans l) none, .fn (.func g) [] []] [] (Done (gi (idxFrom p 0 l)) []) := by
  refine ICalls.of_body Tryz.func125 rfl Tryz.call125 rfl (Nat.le_of_ble_eq_true rfl) pl_D1_1 rfl ?_
  repeat' ((conv => whnf); first
    | refine Br.yes rfl ?_
    | refine Br.no rfl ?_
    | (refine ILoop.ov 1000002 (fun (i : Nat) => [(8, gi i)]) (fun (i : Nat) => []) (fun (i : Nat) => i ≤ l.length ∧ idxFrom p i (l.drop i) = idxFrom p 0 l) (fun (i : Nat) => l.length - i) (0) (by exact rfl) ?_; (conv => whnf); refine Start.mk rfl ?_ ?_; (try dsimp only); rotate_left; rintro i ⟨hi, hr⟩)
    | (refine Again.mk ⟨(i + 1), rfl, ?_, ?_⟩ <;> try dsimp only)
    | refine Br.yes (beq_self_eq_true _) ?_
    | refine Br.not ?_
    | refine Br.yes (decide_eq_true (by assumption)) ?_
    | refine Br.no (decide_eq_false (by assumption)) ?_
    | refine Br.yes (beq_iff_eq.2 (by assumption)) ?_
    | refine Br.no (beq_eq_false_iff_ne.2 (by assumption)) ?_
    | refine Br.yes (bne_iff_ne.2 (by assumption)) ?_
    | (refine Br.dec (fun h => ?_) (fun h => ?_) <;> try dsimp only at h)
    | (refine Br.beqI (fun h => ?_) (fun h => ?_) <;> try dsimp only at h)
    | (refine Br.bneI (fun h => ?_) (fun h => ?_) <;> try dsimp only at h)
    | refine Br.mk (fun h => ?_) (fun h => ?_)
    | refine Need.mk (by first | kernel_rfl | exact ⟨of_decide_eq_true rfl, of_decide_eq_true rfl⟩ | omega) ?_
    | refine Len.mk ⟨_, by simp only [List.length_cons, List.length_nil, Nat.reduceAdd, Int.cast_ofNat_Int]; rfl, ?_⟩
    | refine Wr.lit _ (by simp only [Int.reduceAdd, Int.reduceSub, Int.reduceMul]; rfl) (by decide) ?_
    | refine Wr.fit (by omega) ?_
    | refine Wr.fit (by dsimp only; omega) ?_
    | refine Elem.mk ⟨_, ⟨of_decide_eq_true rfl, rfl⟩, ?_⟩
    | refine Len.map ?_
    | refine Len.dropM ?_
    | refine Elem.dropM ?_
    | refine Len.takeM ?_
    | refine Elem.takeM ?_
    | refine Elem.mapK (by assumption) ?_
    | refine Elem.mapI (by omega) (by assumption) ?_
    | refine Elem.mapN (by omega) (fun x hx => ?_)
    | refine Elem.map (by omega) (by omega) (fun x hx => ?_)
    | refine (hp x).use ⟨rfl, ?_⟩
    | refine CallX.mk ⟨_, _, (hp x).x, rfl, ?_⟩
    | refine Done.mk ⟨rfl, rfl⟩
    | refine Done.mk ⟨congrArg gb ?_, rfl⟩
    | refine Done.mk ⟨?_, rfl⟩
    | refine Done.mk ⟨?_, ?_⟩)
  · rw [drop_of_get hx, idxFrom, if_pos h] at hr
    rw [hr]
  · rw [drop_of_get hx, idxFrom, if_neg (by simp [h])] at hr
    exact ⟨by omega, hr⟩
  · omega
  · rw [List.drop_eq_nil_of_le (by omega), idxFrom] at hr
    rw [← hr]
  · exact ⟨by omega, rfl⟩
def pl_D1_2 : Nat → Option (List Nat × List Nat) := (fun k => bif Nat.beq k 2 then some ([1000002, 0, 1, 7, 8], [0]) else none)
set_option maxRecDepth 100000 in
theorem idxSpan1_ok (g : Nat) (m : Int) (p : Span → Bool) (hp : ∀ s : Span, ICalls Tryz.prog g [s.g, .ptr 0 0] [[gi m]] (Done (gb (p s)) [[gi m]])) (l : List Span) (hl : (l.length : Int) ≤ 1000000000) :
    ICalls Tryz.prog 125 [.list 2 (spans l) none, .fn (.func g) [] [.ptr 0 0]] [[gi m]] (Done (gi (idxFrom p 0 l)) [[gi m]]) := by
  refine ICalls.of_body Tryz.func125 rfl Tryz.call125 rfl (Nat.le_of_ble_eq_true rfl) pl_D1_2 rfl ?_
  repeat' ((conv => whnf); first
    | refine Br.yes rfl ?_
    | refine Br.no rfl ?_
    | (refine ILoop.ov 1000002 (fun (i : Nat) => [(8, gi i)]) (fun (i : Nat) => []) (fun (i : Nat) => i ≤ l.length ∧ idxFrom p i (l.drop i) = idxFrom p 0 l) (fun (i : Nat) => l.length - i) (0) (by exact rfl) ?_; (conv => whnf); refine Start.mk rfl ?_ ?_; (try dsimp only); rotate_left; rintro i ⟨hi, hr⟩)
    | (refine Again.mk ⟨(i + 1), rfl, ?_, ?_⟩ <;> try dsimp only)
    | refine Br.yes (beq_self_eq_true _) ?_
    | refine Br.not ?_
    | refine Br.yes (decide_eq_true (by assumption)) ?_
    | refine Br.no (decide_eq_false (by assumption)) ?_
    | refine Br.yes (beq_iff_eq.2 (by assumption)) ?_
    | refine Br.no (beq_eq_false_iff_ne.2 (by assumption)) ?_
    | refine Br.yes (bne_iff_ne.2 (by assumption)) ?_
    | (refine Br.dec (fun h => ?_) (fun h => ?_) <;> try dsimp only at h)
    | (refine Br.beqI (fun h => ?_) (fun h => ?_) <;> try dsimp only at h)
    | (refine Br.bneI (fun h => ?_) (fun h => ?_) <;> try dsimp only at h)
    | refine Br.mk (fun h => ?_) (fun h => ?_)
    | refine Need.mk (by first | kernel_rfl | exact ⟨of_decide_eq_true rfl, of_decide_eq_true rfl⟩ | omega) ?_
    | refine Len.mk ⟨_, by simp only [List.length_cons, List.length_nil, Nat.reduceAdd, Int.cast_ofNat_Int]; rfl, ?_⟩
    | refine Wr.lit _ (by simp only [Int.reduceAdd, Int.reduceSub, Int.reduceMul]; rfl) (by decide) ?_
    | refine Wr.fit (by omega) ?_
    | refine Wr.fit (by dsimp only; omega) ?_
    | refine Elem.mk ⟨_, ⟨of_decide_eq_true rfl, rfl⟩, ?_⟩
    | refine Len.map ?_
    | refine Len.dropM ?_
    | refine Elem.dropM ?_
    | refine Len.takeM ?_
    | refine Elem.takeM ?_
    | refine Elem.mapK (by assumption) ?_
    | refine Elem.mapI (by omega) (by assumption) ?_
    | refine Elem.mapN (by omega) (fun x hx => ?_)
    | refine Elem.map (by omega) (by omega) (fun x hx => ?_)
    | refine (hp x).use ⟨rfl, ?_⟩
    | refine CallX.mk ⟨_, _, (hp x).x, rfl, ?_⟩
    | refine Done.mk ⟨rfl, rfl⟩
    | refine Done.mk ⟨congrArg gb ?_, rfl⟩
    | refine Done.mk ⟨?_, rfl⟩
    | refine Done.mk ⟨?_, ?_⟩)
  · rw [drop_of_get hx, idxFrom, if_pos h] at hr
    rw [hr]
  · rw [drop_of_get hx, idxFrom, if_neg (by simp [h])] at hr
    exact ⟨by omega, hr⟩
  · omega
  · rw [List.drop_eq_nil_of_le (by omega), idxFrom] at hr
    rw [← hr]
  · exact ⟨by omega, rfl⟩
set_option maxRecDepth 100000 in
theorem conSpan0_ok (g : Nat) (p : Span → Bool) (hp : ∀ s : Span, ICalls Tryz.prog g [s.g] [] (Done (gb (p s)) [])) (l : List Span) (hl : (l.length : Int) ≤ 1000000000) :
    ICalls Tryz.prog 108 [.list 2 (spans l) none, .fn (.func g) [] []] [] (Done (gb (l.any p)) []) := by
  refine ICalls.of_body Tryz.func108 rfl Tryz.call108 rfl (Nat.le_of_ble_eq_true rfl) (fun _ => none) rfl ?_
  repeat' ((conv => whnf); first
    | refine Br.yes rfl ?_
    | refine Br.no rfl ?_
    | refine Br.yes (beq_self_eq_true _) ?_
    | refine Br.not ?_
    | refine Br.yes (decide_eq_true (by assumption)) ?_
    | refine Br.no (decide_eq_false (by assumption)) ?_
    | refine Br.yes (beq_iff_eq.2 (by assumption)) ?_
    | refine Br.no (beq_eq_false_iff_ne.2 (by assumption)) ?_
    | refine Br.yes (bne_iff_ne.2 (by assumption)) ?_
    | (refine Br.dec (fun h => ?_) (fun h => ?_) <;> try dsimp only at h)
    | (refine Br.beqI (fun h => ?_) (fun h => ?_) <;> try dsimp only at h)
    | (refine Br.bneI (fun h => ?_) (fun h => ?_) <;> try dsimp only at h)
    | refine Br.mk (fun h => ?_) (fun h => ?_)
    | refine Need.mk (by first | kernel_rfl | exact ⟨of_decide_eq_true rfl, of_decide_eq_true rfl⟩ | omega) ?_
    | refine Len.mk ⟨_, by simp only [List.length_cons, List.length_nil, Nat.reduceAdd, Int.cast_ofNat_Int]; rfl, ?_⟩
    | refine Wr.lit _ (by simp only [Int.reduceAdd, Int.reduceSub, Int.reduceMul]; rfl) (by decide) ?_
    | refine Wr.fit (by omega) ?_
    | refine Wr.fit (by dsimp only; omega) ?_
    | refine Elem.mk ⟨_, ⟨of_decide_eq_true rfl, rfl⟩, ?_⟩
    | refine Len.map ?_
    | refine Len.dropM ?_
    | refine Elem.dropM ?_
    | refine Len.takeM ?_
    | refine Elem.takeM ?_
    | refine Elem.mapK (by assumption) ?_
    | refine Elem.mapI (by omega) (by assumption) ?_
    | refine Elem.mapN (by omega) (fun x hx => ?_)
    | refine Elem.map (by omega) (by omega) (fun x hx => ?_)
    | refine (idxSpan0_ok g p hp l hl).use ⟨rfl, ?_⟩
    | refine CallX.mk ⟨_, _, (idxSpan0_ok g p hp l hl).x, rfl, ?_⟩
    | refine Done.mk ⟨rfl, rfl⟩
    | refine Done.mk ⟨congrArg gb ?_, rfl⟩
    | refine Done.mk ⟨?_, rfl⟩
    | refine Done.mk ⟨?_, ?_⟩)
  exact idxFrom_any p l 0 (by omega)
set_option maxRecDepth 100000 in
theorem conSpan1_ok (g : Nat) (m : Int) (p : Span → Bool) (hp : ∀ s : Span, ICalls Tryz.prog g [s.g, .ptr 0 0] [[gi m]] (Done (gb (p s)) [[gi m]])) (l : List Span) (hl : (l.length : Int) ≤ 1000000000) :
    ICalls Tryz.prog 108 [.list 2 (spans l) none, .fn (.func g) [] [.ptr 0 0]] [[gi m]] (Done (gb (l.any p)) [[gi m]]) := by
  refine ICalls.of_body Tryz.func108 rfl Tryz.call108 rfl (Nat.le_of_ble_eq_true rfl) (fun _ => none) rfl ?_
  repeat' ((conv => whnf); first
    | refine Br.yes rfl ?_
    | refine Br.no rfl ?_
    | refine Br.yes (beq_self_eq_true _) ?_
    | refine Br.not ?_
    | refine Br.yes (decide_eq_true (by assumption)) ?_
    | refine Br.no (decide_eq_false (by assumption)) ?_
    | refine Br.yes (beq_iff_eq.2 (by assumption)) ?_
    | refine Br.no (beq_eq_false_iff_ne.2 (by assumption)) ?_
    | refine Br.yes (bne_iff_ne.2 (by assumption)) ?_
    | (refine Br.dec (fun h => ?_) (fun h => ?_) <;> try dsimp only at h)
    | (refine Br.beqI (fun h => ?_) (fun h => ?_) <;> try dsimp only at h)
    | (refine Br.bneI (fun h => ?_) (fun h => ?_) <;> try dsimp only at h)
    | refine Br.mk (fun h => ?_) (fun h => ?_)
    | refine Need.mk (by first | kernel_rfl | exact ⟨of_decide_eq_true rfl, of_decide_eq_true rfl⟩ | omega) ?_
    | refine Len.mk ⟨_, by simp only [List.length_cons, List.length_nil, Nat.reduceAdd, Int.cast_ofNat_Int]; rfl, ?_⟩
    | refine Wr.lit _ (by simp only [Int.reduceAdd, Int.reduceSub, Int.reduceMul]; rfl) (by decide) ?_
    | refine Wr.fit (by omega) ?_
    | refine Wr.fit (by dsimp only; omega) ?_
    | refine Elem.mk ⟨_, ⟨of_decide_eq_true rfl, rfl⟩, ?_⟩
    | refine Len.map ?_
    | refine Len.dropM ?_
    | refine Elem.dropM ?_
    | refine Len.takeM ?_
    | refine Elem.takeM ?_
    | refine Elem.mapK (by assumption) ?_
    | refine Elem.mapI (by omega) (by assumption) ?_
    | refine Elem.mapN (by omega) (fun x hx => ?_)
    | refine Elem.map (by omega) (by omega) (fun x hx => ?_)
    | refine (idxSpan1_ok g m p hp l hl).use ⟨rfl, ?_⟩
    | refine CallX.mk ⟨_, _, (idxSpan1_ok g m p hp l hl).x, rfl, ?_⟩
    | refine Done.mk ⟨rfl, rfl⟩
    | refine Done.mk ⟨congrArg gb ?_, rfl⟩
    | refine Done.mk ⟨?_, rfl⟩
    | refine Done.mk ⟨?_, ?_⟩)
  exact idxFrom_any p l 0 (by omega)
set_option maxRecDepth 100000 in
theorem ivalsHas_ok (l : List Span) (m : Int) (hl : (l.length : Int) ≤ 1000000000) : ICalls Tryz.prog 103 [.list 2 (spans l) none, gi m] [] (Done (gb (hasL l m)) []) := by
  refine ICalls.of_body Tryz.func103 rfl Tryz.call103 rfl (Nat.le_of_ble_eq_true rfl) (fun _ => none) rfl ?_
  repeat' ((conv => whnf); first
    | refine Br.yes rfl ?_
    | refine Br.no rfl ?_
    | refine Br.yes (beq_self_eq_true _) ?_
    | refine Br.not ?_
    | refine Br.yes (decide_eq_true (by assumption)) ?_
    | refine Br.no (decide_eq_false (by assumption)) ?_
    | refine Br.yes (beq_iff_eq.2 (by assumption)) ?_
    | refine Br.no (beq_eq_false_iff_ne.2 (by assumption)) ?_
    | refine Br.yes (bne_iff_ne.2 (by assumption)) ?_
    | (refine Br.dec (fun h => ?_) (fun h => ?_) <;> try dsimp only at h)
    | (refine Br.beqI (fun h => ?_) (fun h => ?_) <;> try dsimp only at h)
    | (refine Br.bneI (fun h => ?_) (fun h => ?_) <;> try dsimp only at h)
    | refine Br.mk (fun h => ?_) (fun h => ?_)
    | refine Need.mk (by first | kernel_rfl | exact ⟨of_decide_eq_true rfl, of_decide_eq_true rfl⟩ | omega) ?_
    | refine Len.mk ⟨_, by simp only [List.length_cons, List.length_nil, Nat.reduceAdd, Int.cast_ofNat_Int]; rfl, ?_⟩
    | refine Wr.lit _ (by simp only [Int.reduceAdd, Int.reduceSub, Int.reduceMul]; rfl) (by decide) ?_
    | refine Wr.fit (by omega) ?_
    | refine Wr.fit (by dsimp only; omega) ?_
    | refine Elem.mk ⟨_, ⟨of_decide_eq_true rfl, rfl⟩, ?_⟩
    | refine Len.map ?_
    | refine Len.dropM ?_
    | refine Elem.dropM ?_
    | refine Len.takeM ?_
    | refine Elem.takeM ?_
    | refine Elem.mapK (by assumption) ?_
    | refine Elem.mapI (by omega) (by assumption) ?_
    | refine Elem.mapN (by omega) (fun x hx => ?_)
    | refine Elem.map (by omega) (by omega) (fun x hx => ?_)
    | refine (conSpan1_ok 123 m (·.has m) (fun s => hasC_ok s m) l hl).use ⟨rfl, ?_⟩
    | refine CallX.mk ⟨_, _, (conSpan1_ok 123 m (·.has m) (fun s => hasC_ok s m) l hl).x, rfl, ?_⟩
    | refine Done.mk ⟨rfl, rfl⟩
    | refine Done.mk ⟨congrArg gb ?_, rfl⟩
    | refine Done.mk ⟨?_, rfl⟩
    | refine Done.mk ⟨?_, ?_⟩)
set_option maxRecDepth 100000 in
theorem winMay_ok (l : List Span) (m : Int) (hl : (l.length : Int) ≤ 1000000000) : ICalls Tryz.prog 80 [.list 2 (spans l) none, gi m] [] (Done (gb (hasL l m)) []) := by
  refine ICalls.of_body Tryz.func80 rfl Tryz.call80 rfl (Nat.le_of_ble_eq_true rfl) (fun _ => none) rfl ?_
  repeat' ((conv => whnf); first
    | refine Br.yes rfl ?_
    | refine Br.no rfl ?_
    | refine Br.yes (beq_self_eq_true _) ?_
    | refine Br.not ?_
    | refine Br.yes (decide_eq_true (by assumption)) ?_
    | refine Br.no (decide_eq_false (by assumption)) ?_
    | refine Br.yes (beq_iff_eq.2 (by assumption)) ?_
    | refine Br.no (beq_eq_false_iff_ne.2 (by assumption)) ?_
    | refine Br.yes (bne_iff_ne.2 (by assumption)) ?_
    | (refine Br.dec (fun h => ?_) (fun h => ?_) <;> try dsimp only at h)
    | (refine Br.beqI (fun h => ?_) (fun h => ?_) <;> try dsimp only at h)
    | (refine Br.bneI (fun h => ?_) (fun h => ?_) <;> try dsimp only at h)
    | refine Br.mk (fun h => ?_) (fun h => ?_)
    | refine Need.mk (by first | kernel_rfl | exact ⟨of_decide_eq_true rfl, of_decide_eq_true rfl⟩ | omega) ?_
    | refine Len.mk ⟨_, by simp only [List.length_cons, List.length_nil, Nat.reduceAdd, Int.cast_ofNat_Int]; rfl, ?_⟩
    | refine Wr.lit _ (by simp only [Int.reduceAdd, Int.reduceSub, Int.reduceMul]; rfl) (by decide) ?_
    | refine Wr.fit (by omega) ?_
    | refine Wr.fit (by dsimp only; omega) ?_
    | refine Elem.mk ⟨_, ⟨of_decide_eq_true rfl, rfl⟩, ?_⟩
    | refine Len.map ?_
    | refine Len.dropM ?_
    | refine Elem.dropM ?_
    | refine Len.takeM ?_
    | refine Elem.takeM ?_
    | refine Elem.mapK (by assumption) ?_
    | refine Elem.mapI (by omega) (by assumption) ?_
    | refine Elem.mapN (by omega) (fun x hx => ?_)
    | refine Elem.map (by omega) (by omega) (fun x hx => ?_)
    | refine (ivalsHas_ok l m hl).use ⟨rfl, ?_⟩
    | refine CallX.mk ⟨_, _, (ivalsHas_ok l m hl).x, rfl, ?_⟩
    | refine Done.mk ⟨rfl, rfl⟩
    | refine Done.mk ⟨congrArg gb ?_, rfl⟩
    | refine Done.mk ⟨?_, rfl⟩
    | refine Done.mk ⟨?_, ?_⟩)
end Go.Hl

/- Contracts: sets of spans, windows.  -/
set_option linter.unusedVariables false
set_option linter.unusedSimpArgs false
namespace Go.Hl
open Go.Gh Go.Proofs

/-- Where the span ahead of the i-th one ends. -/
def prevTo (l : List Span) (i : Nat) : Option Int := if i = 0 then none else (l[i - 1]?).map (·.To)
theorem prevTo_next {l : List Span} {i : Nat} {x : Span} (h : l[i]? = some x) : prevTo l (i + 1) = some x.To := by
  simp [prevTo, h]
theorem prevTo_pos {l : List Span} {i : Nat} {y : Span} (hi : 0 < (i : Int)) (h : l[((i : Int) - 1).toNat]? = some y) : prevTo l i = some y.To := by
  have e : ((i : Int) - 1).toNat = i - 1 := by omega
  rw [e] at h
  simp [prevTo, show i ≠ 0 by omega, h]
theorem prevTo_zero {l : List Span} {i : Nat} (hi : ¬ 0 < (i : Int)) : prevTo l i = none := by simp [prevTo, show i = 0 by omega]
theorem right_bad1 {l : List Span} {i : Nat} {x y : Span} {R : Bool} (hr : rightFrom (l.drop i) (prevTo l i) = R) (hx : l[i]? = some x) (hi : 0 < (i : Int)) (hy : l[((i : Int) - 1).toNat]? = some y) (h : x.From ≤ y.To) : false = R := by
  rw [drop_of_get hx, prevTo_pos hi hy, rightFrom, if_neg (by simp [okAfter, h])] at hr
  exact hr
theorem right_bad2 {l : List Span} {i : Nat} {x : Span} {R : Bool} (hr : rightFrom (l.drop i) (prevTo l i) = R) (hx : l[i]? = some x) (h : ¬ x.From < x.To) : false = R := by
  rw [drop_of_get hx, rightFrom, if_neg (by simp [Span.right]; omega)] at hr
  exact hr
theorem right_step1 {l : List Span} {i : Nat} {x y : Span} {R : Bool} (hr : rightFrom (l.drop i) (prevTo l i) = R) (hx : l[i]? = some x) (hi : 0 < (i : Int)) (hy : l[((i : Int) - 1).toNat]? = some y) (h1 : x.From < x.To) (h : ¬ x.From ≤ y.To) : rightFrom (l.drop (i + 1)) (prevTo l (i + 1)) = R := by
  rw [drop_of_get hx, prevTo_pos hi hy, rightFrom, if_pos (by simp [okAfter, Span.right]; omega)] at hr
  rw [prevTo_next hx]; exact hr
theorem right_step2 {l : List Span} {i : Nat} {x : Span} {R : Bool} (hr : rightFrom (l.drop i) (prevTo l i) = R) (hx : l[i]? = some x) (hi : ¬ 0 < (i : Int)) (h1 : x.From < x.To) : rightFrom (l.drop (i + 1)) (prevTo l (i + 1)) = R := by
  rw [drop_of_get hx, prevTo_zero hi, rightFrom, if_pos (by simp [okAfter, Span.right]; omega)] at hr
  rw [prevTo_next hx]; exact hr

def pl_D2_1 : Nat → Option (List Nat × List Nat) := (fun k => bif Nat.beq k 2 then some ([1000002, 0, 5, 6, 7], []) else none)
set_option maxRecDepth 100000 in
theorem ivalsRight_ok (l : List Span) (hl : (l.length : Int) ≤ 1000000000) : ICalls Tryz.prog 109 [.list 2 (spans l) none] [] (Done (gb (rightFrom l none)) []) := by
  refine ICalls.of_body Tryz.func109 rfl Tryz.call109 rfl (Nat.le_of_ble_eq_true rfl) pl_D2_1 rfl ?_
  repeat' ((conv => whnf); first
    | refine Br.yes rfl ?_
    | refine Br.no rfl ?_
    | (refine ILoop.ov 1000002 (fun (i : Nat) => [(7, gi i)]) (fun (i : Nat) => []) (fun (i : Nat) => i ≤ l.length ∧ rightFrom (l.drop i) (prevTo l i) = rightFrom l none) (fun (i : Nat) => l.length - i) (0) (by exact rfl) ?_; (conv => whnf); refine Start.mk rfl ?_ ?_; (try dsimp only); rotate_left; rintro i ⟨hi, hr⟩)
    | (refine Again.mk ⟨(i + 1), rfl, ?_, ?_⟩ <;> try dsimp only)
    | refine Br.yes (beq_self_eq_true _) ?_
    | refine Br.not ?_
    | refine Br.yes (decide_eq_true (by assumption)) ?_
    | refine Br.no (decide_eq_false (by assumption)) ?_
    | refine Br.yes (beq_iff_eq.2 (by assumption)) ?_
    | refine Br.no (beq_eq_false_iff_ne.2 (by assumption)) ?_
    | refine Br.yes (bne_iff_ne.2 (by assumption)) ?_
    | (refine Br.dec (fun h => ?_) (fun h => ?_) <;> try dsimp only at h)
    | (refine Br.beqI (fun h => ?_) (fun h => ?_) <;> try dsimp only at h)
    | (refine Br.bneI (fun h => ?_) (fun h => ?_) <;> try dsimp only at h)
    | refine Br.mk (fun h => ?_) (fun h => ?_)
    | refine Need.mk (by first | kernel_rfl | exact ⟨of_decide_eq_true rfl, of_decide_eq_true rfl⟩ | omega) ?_
    | refine Len.mk ⟨_, by simp only [List.length_cons, List.length_nil, Nat.reduceAdd, Int.cast_ofNat_Int]; rfl, ?_⟩
    | refine Wr.lit _ (by simp only [Int.reduceAdd, Int.reduceSub, Int.reduceMul]; rfl) (by decide) ?_
    | refine Wr.fit (by omega) ?_
    | refine Wr.fit (by dsimp only; omega) ?_
    | refine Elem.mk ⟨_, ⟨of_decide_eq_true rfl, rfl⟩, ?_⟩
    | refine Len.map ?_
    | refine Len.dropM ?_
    | refine Elem.dropM ?_
    | refine Len.takeM ?_
    | refine Elem.takeM ?_
    | refine Elem.mapK (by assumption) ?_
    | refine Elem.mapI (by omega) (by assumption) ?_
    | refine Elem.mapN (by omega) (fun x hx => ?_)
    | refine Elem.map (by omega) (by omega) (fun x hx => ?_)
    | refine (ivalRight_ok x).use ⟨rfl, ?_⟩
    | refine CallX.mk ⟨_, _, (ivalRight_ok x).x, rfl, ?_⟩
    | refine Done.mk ⟨rfl, rfl⟩
    | refine Done.mk ⟨congrArg gb ?_, rfl⟩
    | refine Done.mk ⟨?_, rfl⟩
    | refine Done.mk ⟨?_, ?_⟩)
  · exact right_bad1 hr (by assumption) (by assumption) hx h
  · exact ⟨by omega, right_step1 hr (by assumption) (by assumption) hx (by assumption) h⟩
  · omega
  · exact ⟨by omega, right_step2 hr hx h (by assumption)⟩
  · omega
  · exact right_bad2 hr hx h
  · rw [List.drop_eq_nil_of_le (by omega)] at hr; exact hr
  · exact ⟨by omega, rfl⟩
set_option maxRecDepth 100000 in
theorem winCheck_ok (l : List Span) : ICalls Tryz.prog 84 [.list 2 (spans l) none] [] (Done (gi (winCheck l)) []) := by
  refine ICalls.of_body Tryz.func84 rfl Tryz.call84 rfl (Nat.le_of_ble_eq_true rfl) (fun _ => none) rfl ?_
  repeat' ((conv => whnf); first
    | refine Br.yes rfl ?_
    | refine Br.no rfl ?_
    | refine Br.yes (beq_self_eq_true _) ?_
    | refine Br.not ?_
    | refine Br.yes (decide_eq_true (by assumption)) ?_
    | refine Br.no (decide_eq_false (by assumption)) ?_
    | refine Br.yes (beq_iff_eq.2 (by assumption)) ?_
    | refine Br.no (beq_eq_false_iff_ne.2 (by assumption)) ?_
    | refine Br.yes (bne_iff_ne.2 (by assumption)) ?_
    | (refine Br.dec (fun h => ?_) (fun h => ?_) <;> try dsimp only at h)
    | (refine Br.beqI (fun h => ?_) (fun h => ?_) <;> try dsimp only at h)
    | (refine Br.bneI (fun h => ?_) (fun h => ?_) <;> try dsimp only at h)
    | refine Br.mk (fun h => ?_) (fun h => ?_)
    | refine Need.mk (by first | kernel_rfl | exact ⟨of_decide_eq_true rfl, of_decide_eq_true rfl⟩ | omega) ?_
    | refine Len.mk ⟨_, by simp only [List.length_cons, List.length_nil, Nat.reduceAdd, Int.cast_ofNat_Int]; rfl, ?_⟩
    | refine Wr.lit _ (by simp only [Int.reduceAdd, Int.reduceSub, Int.reduceMul]; rfl) (by decide) ?_
    | refine Wr.fit (by omega) ?_
    | refine Wr.fit (by dsimp only; omega) ?_
    | refine Elem.mk ⟨_, ⟨of_decide_eq_true rfl, rfl⟩, ?_⟩
    | refine Len.map ?_
    | refine Len.dropM ?_
    | refine Elem.dropM ?_
    | refine Len.takeM ?_
    | refine Elem.takeM ?_
    | refine Elem.mapK (by assumption) ?_
    | refine Elem.mapI (by omega) (by assumption) ?_
    | refine Elem.mapN (by omega) (fun x hx => ?_)
    | refine Elem.map (by omega) (by omega) (fun x hx => ?_)
    | refine (conSpan0_ok 105 (fun s => !s.right) wrongC_ok l (by omega)).use ⟨rfl, ?_⟩
    | refine (conSpan0_ok 107 beyond beyondC_ok l (by omega)).use ⟨rfl, ?_⟩
    | refine (ivalsRight_ok l (by omega)).use ⟨rfl, ?_⟩
    | refine CallX.mk ⟨_, _, (conSpan0_ok 105 (fun s => !s.right) wrongC_ok l (by omega)).x, rfl, ?_⟩
    | refine CallX.mk ⟨_, _, (conSpan0_ok 107 beyond beyondC_ok l (by omega)).x, rfl, ?_⟩
    | refine CallX.mk ⟨_, _, (ivalsRight_ok l (by omega)).x, rfl, ?_⟩
    | refine Done.mk ⟨rfl, rfl⟩
    | refine Done.mk ⟨congrArg gb ?_, rfl⟩
    | refine Done.mk ⟨?_, rfl⟩
    | refine Done.mk ⟨?_, ?_⟩)
  all_goals (unfold winCheck; congr 1; grind)
end Go.Hl

/- Contracts: tasks, spots.  -/
set_option linter.unusedVariables false
set_option linter.unusedSimpArgs false
namespace Go.Hl
open Go.Gh Go.Proofs

set_option maxRecDepth 100000 in
theorem task_ok (t : Task) : ICalls Tryz.prog 64 [t.g] [] (Done (gi (taskErr t)) []) := by
  refine ICalls.of_body Tryz.func64 rfl Tryz.call64 rfl (Nat.le_of_ble_eq_true rfl) (fun _ => none) rfl ?_
  repeat' ((conv => whnf); first
    | refine Br.yes rfl ?_
    | refine Br.no rfl ?_
    | refine Done.mk ⟨congrArg gi ?_, rfl⟩
    | refine Br.yes (beq_self_eq_true _) ?_
    | refine Br.not ?_
    | refine Br.yes (decide_eq_true (by assumption)) ?_
    | refine Br.no (decide_eq_false (by assumption)) ?_
    | refine Br.yes (beq_iff_eq.2 (by assumption)) ?_
    | refine Br.no (beq_eq_false_iff_ne.2 (by assumption)) ?_
    | refine Br.yes (bne_iff_ne.2 (by assumption)) ?_
    | (refine Br.dec (fun h => ?_) (fun h => ?_) <;> try dsimp only at h)
    | (refine Br.beqI (fun h => ?_) (fun h => ?_) <;> try dsimp only at h)
    | (refine Br.bneI (fun h => ?_) (fun h => ?_) <;> try dsimp only at h)
    | refine Br.mk (fun h => ?_) (fun h => ?_)
    | refine Need.mk (by first | kernel_rfl | exact ⟨of_decide_eq_true rfl, of_decide_eq_true rfl⟩ | omega) ?_
    | refine Len.mk ⟨_, by simp only [List.length_cons, List.length_nil, Nat.reduceAdd, Int.cast_ofNat_Int]; rfl, ?_⟩
    | refine Wr.lit _ (by simp only [Int.reduceAdd, Int.reduceSub, Int.reduceMul]; rfl) (by decide) ?_
    | refine Wr.fit (by omega) ?_
    | refine Wr.fit (by dsimp only; omega) ?_
    | refine Elem.mk ⟨_, ⟨of_decide_eq_true rfl, rfl⟩, ?_⟩
    | refine Len.map ?_
    | refine Len.dropM ?_
    | refine Elem.dropM ?_
    | refine Len.takeM ?_
    | refine Elem.takeM ?_
    | refine Elem.mapK (by assumption) ?_
    | refine Elem.mapI (by omega) (by assumption) ?_
    | refine Elem.mapN (by omega) (fun x hx => ?_)
    | refine Elem.map (by omega) (by omega) (fun x hx => ?_)
    | refine (winCheck_ok t.Open).use ⟨rfl, ?_⟩
    | refine CallX.mk ⟨_, _, (winCheck_ok t.Open).x, rfl, ?_⟩
    | refine Done.mk ⟨rfl, rfl⟩
    | refine Done.mk ⟨congrArg gb ?_, rfl⟩
    | refine Done.mk ⟨?_, rfl⟩
    | refine Done.mk ⟨?_, ?_⟩)
  all_goals (unfold taskErr; grind)

def pl_D3_1 : Nat → Option (List Nat × List Nat) := (fun k => bif Nat.beq k 4 then some ([1000004, 9, 10, 11], []) else none)
set_option maxRecDepth 100000 in
theorem tasksCheck_ok (l : List Task) : ICalls Tryz.prog 37 [.list 3 (tasks l) none] [] (Done (gi (tasksErr l)) []) := by
  refine ICalls.of_body Tryz.func37 rfl Tryz.call37 rfl (Nat.le_of_ble_eq_true rfl) pl_D3_1 rfl ?_
  repeat' ((conv => whnf); first
    | refine Br.yes rfl ?_
    | refine Br.no rfl ?_
    | refine Done.mk ⟨congrArg gi ?_, rfl⟩
    | (refine ILoop.ov 1000004 (fun (i : Nat) => [(11, gi i)]) (fun (i : Nat) => []) (fun (i : Nat) => i ≤ l.length ∧ firstErr taskErr (l.drop i) = firstErr taskErr l) (fun (i : Nat) => l.length - i) (0) (by exact rfl) ?_; (conv => whnf); refine Start.mk rfl ?_ ?_; (try dsimp only); rotate_left; rintro i ⟨hi, hr⟩)
    | (refine Again.mk ⟨(i + 1), rfl, ?_, ?_⟩ <;> try dsimp only)
    | refine Br.yes (beq_self_eq_true _) ?_
    | refine Br.not ?_
    | refine Br.yes (decide_eq_true (by assumption)) ?_
    | refine Br.no (decide_eq_false (by assumption)) ?_
    | refine Br.yes (beq_iff_eq.2 (by assumption)) ?_
    | refine Br.no (beq_eq_false_iff_ne.2 (by assumption)) ?_
    | refine Br.yes (bne_iff_ne.2 (by assumption)) ?_
    | (refine Br.dec (fun h => ?_) (fun h => ?_) <;> try dsimp only at h)
    | (refine Br.beqI (fun h => ?_) (fun h => ?_) <;> try dsimp only at h)
    | (refine Br.bneI (fun h => ?_) (fun h => ?_) <;> try dsimp only at h)
    | refine Br.mk (fun h => ?_) (fun h => ?_)
    | refine Need.mk (by first | kernel_rfl | exact ⟨of_decide_eq_true rfl, of_decide_eq_true rfl⟩ | omega) ?_
    | refine Len.mk ⟨_, by simp only [List.length_cons, List.length_nil, Nat.reduceAdd, Int.cast_ofNat_Int]; rfl, ?_⟩
    | refine Wr.lit _ (by simp only [Int.reduceAdd, Int.reduceSub, Int.reduceMul]; rfl) (by decide) ?_
    | refine Wr.fit (by omega) ?_
    | refine Wr.fit (by dsimp only; omega) ?_
    | refine Elem.mk ⟨_, ⟨of_decide_eq_true rfl, rfl⟩, ?_⟩
    | refine Len.map ?_
    | refine Len.dropM ?_
    | refine Elem.dropM ?_
    | refine Len.takeM ?_
    | refine Elem.takeM ?_
    | refine Elem.mapK (by assumption) ?_
    | refine Elem.mapI (by omega) (by assumption) ?_
    | refine Elem.mapN (by omega) (fun x hx => ?_)
    | refine Elem.map (by omega) (by omega) (fun x hx => ?_)
    | refine (task_ok x).use ⟨rfl, ?_⟩
    | refine CallX.mk ⟨_, _, (task_ok x).x, rfl, ?_⟩
    | refine Done.mk ⟨rfl, rfl⟩
    | refine Done.mk ⟨congrArg gb ?_, rfl⟩
    | refine Done.mk ⟨?_, rfl⟩
    | refine Done.mk ⟨?_, ?_⟩)
  all_goals first
    | omega
    | exact ⟨by omega, rfl⟩
    | exact tasksErr_many (by assumption)
    | exact ⟨by omega, firstErr_next hr hx h⟩
    | (rw [tasksErr_eq (by assumption)]; exact firstErr_hit hr hx h)
    | (rw [tasksErr_eq (by assumption)]; exact firstErr_end hr h)

set_option maxRecDepth 100000 in
theorem overT_ok (t : Task) (s : Spot) : ICalls Tryz.prog 85 [t.g, s.g] [] (Done (gb (overT t s)) []) := by
  refine ICalls.of_body Tryz.func85 rfl Tryz.call85 rfl (Nat.le_of_ble_eq_true rfl) (fun _ => none) rfl ?_
  repeat' ((conv => whnf); first
    | refine Br.yes rfl ?_
    | refine Br.no rfl ?_
    | refine Br.yes (beq_self_eq_true _) ?_
    | refine Br.not ?_
    | refine Br.yes (decide_eq_true (by assumption)) ?_
    | refine Br.no (decide_eq_false (by assumption)) ?_
    | refine Br.yes (beq_iff_eq.2 (by assumption)) ?_
    | refine Br.no (beq_eq_false_iff_ne.2 (by assumption)) ?_
    | refine Br.yes (bne_iff_ne.2 (by assumption)) ?_
    | (refine Br.dec (fun h => ?_) (fun h => ?_) <;> try dsimp only at h)
    | (refine Br.beqI (fun h => ?_) (fun h => ?_) <;> try dsimp only at h)
    | (refine Br.bneI (fun h => ?_) (fun h => ?_) <;> try dsimp only at h)
    | refine Br.mk (fun h => ?_) (fun h => ?_)
    | refine Need.mk (by first | kernel_rfl | exact ⟨of_decide_eq_true rfl, of_decide_eq_true rfl⟩ | omega) ?_
    | refine Len.mk ⟨_, by simp only [List.length_cons, List.length_nil, Nat.reduceAdd, Int.cast_ofNat_Int]; rfl, ?_⟩
    | refine Wr.lit _ (by simp only [Int.reduceAdd, Int.reduceSub, Int.reduceMul]; rfl) (by decide) ?_
    | refine Wr.fit (by omega) ?_
    | refine Wr.fit (by dsimp only; omega) ?_
    | refine Elem.mk ⟨_, ⟨of_decide_eq_true rfl, rfl⟩, ?_⟩
    | refine Len.map ?_
    | refine Len.dropM ?_
    | refine Elem.dropM ?_
    | refine Len.takeM ?_
    | refine Elem.takeM ?_
    | refine Elem.mapK (by assumption) ?_
    | refine Elem.mapI (by omega) (by assumption) ?_
    | refine Elem.mapN (by omega) (fun x hx => ?_)
    | refine Elem.map (by omega) (by omega) (fun x hx => ?_)
    | refine Done.mk ⟨rfl, rfl⟩
    | refine Done.mk ⟨congrArg gb ?_, rfl⟩
    | refine Done.mk ⟨?_, rfl⟩
    | refine Done.mk ⟨?_, ?_⟩)
  all_goals (simp [overT, *]; try grind)

set_option maxRecDepth 100000 in
theorem fits_ok (l : List Task) (s : Spot) (hl : l.length ≤ 2001) : ICalls Tryz.prog 65 [.list 3 (tasks l) none, s.g] [] (Done (gb (fitsS l s)) []) := by
  refine ICalls.of_body Tryz.func65 rfl Tryz.call65 rfl (Nat.le_of_ble_eq_true rfl) (fun _ => none) rfl ?_
  repeat' ((conv => whnf); first
    | refine Br.yes rfl ?_
    | refine Br.no rfl ?_
    | refine Need.mk (EqRun.flat (by kernel_rfl) rfl) ?_
    | refine Br.yes (beq_self_eq_true _) ?_
    | refine Br.not ?_
    | refine Br.yes (decide_eq_true (by assumption)) ?_
    | refine Br.no (decide_eq_false (by assumption)) ?_
    | refine Br.yes (beq_iff_eq.2 (by assumption)) ?_
    | refine Br.no (beq_eq_false_iff_ne.2 (by assumption)) ?_
    | refine Br.yes (bne_iff_ne.2 (by assumption)) ?_
    | (refine Br.dec (fun h => ?_) (fun h => ?_) <;> try dsimp only at h)
    | (refine Br.beqI (fun h => ?_) (fun h => ?_) <;> try dsimp only at h)
    | (refine Br.bneI (fun h => ?_) (fun h => ?_) <;> try dsimp only at h)
    | refine Br.mk (fun h => ?_) (fun h => ?_)
    | refine Need.mk (by first | kernel_rfl | exact ⟨of_decide_eq_true rfl, of_decide_eq_true rfl⟩ | omega) ?_
    | refine Len.mk ⟨_, by simp only [List.length_cons, List.length_nil, Nat.reduceAdd, Int.cast_ofNat_Int]; rfl, ?_⟩
    | refine Wr.lit _ (by simp only [Int.reduceAdd, Int.reduceSub, Int.reduceMul]; rfl) (by decide) ?_
    | refine Wr.fit (by omega) ?_
    | refine Wr.fit (by dsimp only; omega) ?_
    | refine Elem.mk ⟨_, ⟨of_decide_eq_true rfl, rfl⟩, ?_⟩
    | refine Len.map ?_
    | refine Len.dropM ?_
    | refine Elem.dropM ?_
    | refine Len.takeM ?_
    | refine Elem.takeM ?_
    | refine Elem.mapK (by assumption) ?_
    | refine Elem.mapI (by omega) (by assumption) ?_
    | refine Elem.mapN (by omega) (fun x hx => ?_)
    | refine Elem.map (by omega) (by omega) (fun x hx => ?_)
    | refine (overT_ok x s).use ⟨rfl, ?_⟩
    | refine CallX.mk ⟨_, _, (overT_ok x s).x, rfl, ?_⟩
    | refine Done.mk ⟨rfl, rfl⟩
    | refine Done.mk ⟨congrArg gb ?_, rfl⟩
    | refine Done.mk ⟨?_, rfl⟩
    | refine Done.mk ⟨?_, ?_⟩)
  all_goals (try rw [← tAt_get hx] at *)
  all_goals (unfold fitsS; try simp only [overT]); all_goals grind
end Go.Hl

/- Contracts: how far tasks are done; a minute more.  -/
set_option linter.unusedVariables false
set_option linter.unusedSimpArgs false
namespace Go.Hl
open Go.Gh Go.Proofs

def pl_D4_1 : Nat → Option (List Nat × List Nat) := (fun k => bif Nat.beq k 1 then some ([1000001, 0, 3, 4], [103, 104]) else none)
set_option maxRecDepth 100000 in
theorem past_ok (l : List Task) (s : Spot) (hl : l.length ≤ 2001) (h0 : 0 ≤ s.Task) : ICalls Tryz.prog 81 [.list 3 (tasks l) none, s.g] [] (Done (pastS l s).g []) := by
  refine ICalls.of_body Tryz.func81 rfl Tryz.call81 rfl (Nat.le_of_ble_eq_true rfl) pl_D4_1 rfl ?_
  repeat' ((conv => whnf); first
    | refine Br.yes rfl ?_
    | refine Br.no rfl ?_
    | (refine ILoop.ov 1000001 (fun (s' : Spot) => []) (fun (s' : Spot) => [(103, .cells (s'.c))]) (fun (s' : Spot) => 0 ≤ s'.Task ∧ pastS l s' = pastS l s) (fun (s' : Spot) => (l.length - s'.Task).toNat) (s) (by exact rfl) ?_; (conv => whnf); refine Start.mk rfl ?_ ?_; (try dsimp only); rotate_left; rintro s' ⟨hi, hr⟩)
    | (refine Again.mk ⟨(⟨s'.Task + 1, 0, 0⟩), rfl, ?_, ?_⟩ <;> try dsimp only)
    | refine Br.yes (beq_self_eq_true _) ?_
    | refine Br.not ?_
    | refine Br.yes (decide_eq_true (by assumption)) ?_
    | refine Br.no (decide_eq_false (by assumption)) ?_
    | refine Br.yes (beq_iff_eq.2 (by assumption)) ?_
    | refine Br.no (beq_eq_false_iff_ne.2 (by assumption)) ?_
    | refine Br.yes (bne_iff_ne.2 (by assumption)) ?_
    | (refine Br.dec (fun h => ?_) (fun h => ?_) <;> try dsimp only at h)
    | (refine Br.beqI (fun h => ?_) (fun h => ?_) <;> try dsimp only at h)
    | (refine Br.bneI (fun h => ?_) (fun h => ?_) <;> try dsimp only at h)
    | refine Br.mk (fun h => ?_) (fun h => ?_)
    | refine Need.mk (by first | kernel_rfl | exact ⟨of_decide_eq_true rfl, of_decide_eq_true rfl⟩ | omega) ?_
    | refine Len.mk ⟨_, by simp only [List.length_cons, List.length_nil, Nat.reduceAdd, Int.cast_ofNat_Int]; rfl, ?_⟩
    | refine Wr.lit _ (by simp only [Int.reduceAdd, Int.reduceSub, Int.reduceMul]; rfl) (by decide) ?_
    | refine Wr.fit (by omega) ?_
    | refine Wr.fit (by dsimp only; omega) ?_
    | refine Elem.mk ⟨_, ⟨of_decide_eq_true rfl, rfl⟩, ?_⟩
    | refine Len.map ?_
    | refine Len.dropM ?_
    | refine Elem.dropM ?_
    | refine Len.takeM ?_
    | refine Elem.takeM ?_
    | refine Elem.mapK (by assumption) ?_
    | refine Elem.mapI (by omega) (by assumption) ?_
    | refine Elem.mapN (by omega) (fun x hx => ?_)
    | refine Elem.map (by omega) (by omega) (fun x hx => ?_)
    | refine (overT_ok x s').use ⟨rfl, ?_⟩
    | refine CallX.mk ⟨_, _, (overT_ok x s').x, rfl, ?_⟩
    | refine Done.mk ⟨rfl, rfl⟩
    | refine Done.mk ⟨congrArg gb ?_, rfl⟩
    | refine Done.mk ⟨?_, rfl⟩
    | refine Done.mk ⟨?_, ?_⟩)
  all_goals (try rw [← tAt_get hx] at *)
  all_goals (try simp only [overT] at h)
  all_goals first
    | omega
    | exact ⟨h0, rfl⟩
    | (rw [← hr, pastS_stop (by grind)]; rfl)
    | exact ⟨by omega, by rw [← hr]; exact (pastS_next hi (by grind)).symm⟩

set_option maxRecDepth 100000 in
theorem errCheck_ok (l : List Task) (s : Spot) : ICalls Tryz.prog 59 [.list 3 (tasks l) none, s.g] [] (Done (gi (errCheck l s)) []) := by
  refine ICalls.of_body Tryz.func59 rfl Tryz.call59 rfl (Nat.le_of_ble_eq_true rfl) (fun _ => none) rfl ?_
  repeat' ((conv => whnf); first
    | refine Br.yes rfl ?_
    | refine Br.no rfl ?_
    | refine Done.mk ⟨congrArg gi ?_, rfl⟩
    | refine Br.yes (beq_self_eq_true _) ?_
    | refine Br.not ?_
    | refine Br.yes (decide_eq_true (by assumption)) ?_
    | refine Br.no (decide_eq_false (by assumption)) ?_
    | refine Br.yes (beq_iff_eq.2 (by assumption)) ?_
    | refine Br.no (beq_eq_false_iff_ne.2 (by assumption)) ?_
    | refine Br.yes (bne_iff_ne.2 (by assumption)) ?_
    | (refine Br.dec (fun h => ?_) (fun h => ?_) <;> try dsimp only at h)
    | (refine Br.beqI (fun h => ?_) (fun h => ?_) <;> try dsimp only at h)
    | (refine Br.bneI (fun h => ?_) (fun h => ?_) <;> try dsimp only at h)
    | refine Br.mk (fun h => ?_) (fun h => ?_)
    | refine Need.mk (by first | kernel_rfl | exact ⟨of_decide_eq_true rfl, of_decide_eq_true rfl⟩ | omega) ?_
    | refine Len.mk ⟨_, by simp only [List.length_cons, List.length_nil, Nat.reduceAdd, Int.cast_ofNat_Int]; rfl, ?_⟩
    | refine Wr.lit _ (by simp only [Int.reduceAdd, Int.reduceSub, Int.reduceMul]; rfl) (by decide) ?_
    | refine Wr.fit (by omega) ?_
    | refine Wr.fit (by dsimp only; omega) ?_
    | refine Elem.mk ⟨_, ⟨of_decide_eq_true rfl, rfl⟩, ?_⟩
    | refine Len.map ?_
    | refine Len.dropM ?_
    | refine Elem.dropM ?_
    | refine Len.takeM ?_
    | refine Elem.takeM ?_
    | refine Elem.mapK (by assumption) ?_
    | refine Elem.mapI (by omega) (by assumption) ?_
    | refine Elem.mapN (by omega) (fun x hx => ?_)
    | refine Elem.map (by omega) (by omega) (fun x hx => ?_)
    | refine (tasksCheck_ok l).use ⟨rfl, ?_⟩
    | refine (fits_ok l s (tasksErr_ok (by assumption)).1).use ⟨rfl, ?_⟩
    | refine CallX.mk ⟨_, _, (tasksCheck_ok l).x, rfl, ?_⟩
    | refine CallX.mk ⟨_, _, (fits_ok l s (tasksErr_ok (by assumption)).1).x, rfl, ?_⟩
    | refine Done.mk ⟨rfl, rfl⟩
    | refine Done.mk ⟨congrArg gb ?_, rfl⟩
    | refine Done.mk ⟨?_, rfl⟩
    | refine Done.mk ⟨?_, ?_⟩)
  all_goals (unfold errCheck; grind)
set_option maxRecDepth 100000 in
theorem errRight_ok (l : List Task) (s : Spot) : ICalls Tryz.prog 38 [.list 3 (tasks l) none, s.g] [] (Done (gb (decide (errCheck l s = 0))) []) := by
  refine ICalls.of_body Tryz.func38 rfl Tryz.call38 rfl (Nat.le_of_ble_eq_true rfl) (fun _ => none) rfl ?_
  repeat' ((conv => whnf); first
    | refine Br.yes rfl ?_
    | refine Br.no rfl ?_
    | refine Br.yes (beq_self_eq_true _) ?_
    | refine Br.not ?_
    | refine Br.yes (decide_eq_true (by assumption)) ?_
    | refine Br.no (decide_eq_false (by assumption)) ?_
    | refine Br.yes (beq_iff_eq.2 (by assumption)) ?_
    | refine Br.no (beq_eq_false_iff_ne.2 (by assumption)) ?_
    | refine Br.yes (bne_iff_ne.2 (by assumption)) ?_
    | (refine Br.dec (fun h => ?_) (fun h => ?_) <;> try dsimp only at h)
    | (refine Br.beqI (fun h => ?_) (fun h => ?_) <;> try dsimp only at h)
    | (refine Br.bneI (fun h => ?_) (fun h => ?_) <;> try dsimp only at h)
    | refine Br.mk (fun h => ?_) (fun h => ?_)
    | refine Need.mk (by first | kernel_rfl | exact ⟨of_decide_eq_true rfl, of_decide_eq_true rfl⟩ | omega) ?_
    | refine Len.mk ⟨_, by simp only [List.length_cons, List.length_nil, Nat.reduceAdd, Int.cast_ofNat_Int]; rfl, ?_⟩
    | refine Wr.lit _ (by simp only [Int.reduceAdd, Int.reduceSub, Int.reduceMul]; rfl) (by decide) ?_
    | refine Wr.fit (by omega) ?_
    | refine Wr.fit (by dsimp only; omega) ?_
    | refine Elem.mk ⟨_, ⟨of_decide_eq_true rfl, rfl⟩, ?_⟩
    | refine Len.map ?_
    | refine Len.dropM ?_
    | refine Elem.dropM ?_
    | refine Len.takeM ?_
    | refine Elem.takeM ?_
    | refine Elem.mapK (by assumption) ?_
    | refine Elem.mapI (by omega) (by assumption) ?_
    | refine Elem.mapN (by omega) (fun x hx => ?_)
    | refine Elem.map (by omega) (by omega) (fun x hx => ?_)
    | refine (tasksCheck_ok l).use ⟨rfl, ?_⟩
    | refine (fits_ok l s (tasksErr_ok (by assumption)).1).use ⟨rfl, ?_⟩
    | refine CallX.mk ⟨_, _, (tasksCheck_ok l).x, rfl, ?_⟩
    | refine CallX.mk ⟨_, _, (fits_ok l s (tasksErr_ok (by assumption)).1).x, rfl, ?_⟩
    | refine Done.mk ⟨rfl, rfl⟩
    | refine Done.mk ⟨congrArg gb ?_, rfl⟩
    | refine Done.mk ⟨?_, rfl⟩
    | refine Done.mk ⟨?_, ?_⟩)
  all_goals (unfold errCheck; grind)
def zeroSpot : Spot := ⟨0, 0, 0⟩
def startS (l : List Task) : Spot := if tasksErr l = 0 then pastS l zeroSpot else zeroSpot
end Go.Hl
