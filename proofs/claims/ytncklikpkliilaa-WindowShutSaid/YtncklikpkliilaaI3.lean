/- Contracts of functions, bundle I3; proved for whatever the arguments' types allow, as each theorem says. -/
import Derived.Test.YtncklikpkliilaaI2
import Derived.Test.YtncklikpkliilaaH6

/- The set of a list is what it should be; the reference's.  -/
set_option linter.unusedVariables false
set_option linter.unusedSimpArgs false
namespace Go.Hl
open Go.Gh Go.Proofs

theorem iv_keep : ∀ (S A : List Span) (q : Span), rightFrom (A ++ [q]) none = true → (∀ s, s ∈ S → s.From < s.To ∧ q.From ≤ s.From) → S.Pairwise (fun x y => x.From ≤ y.From) →
    rightFrom (ivL (A ++ [q]) S) none = true ∧ ∀ m, hasL (ivL (A ++ [q]) S) m = (hasL (A ++ [q]) m || hasL S m)
  | [], A, q, h, _, _ => ⟨h, fun m => by simp [ivL, hasL_nil]⟩
  | s :: S, A, q, h, hs, hp => by
    obtain ⟨h1, h2, h3⟩ := rf_snoc.1 h
    obtain ⟨hs1, hs2⟩ := hs s (List.mem_cons_self ..)
    obtain ⟨hp1, hp2⟩ := List.pairwise_cons.1 hp
    have hq : (A ++ [q])[(A ++ [q]).length - 1]? = some q := by simp
    have hstep : ivStep (A ++ [q]) s = if s.From ≤ q.To then A ++ [⟨q.From, if q.To < s.To then s.To else q.To⟩] else (A ++ [q]) ++ [s] := by
      unfold ivStep
      rw [hq]
      simp only
      split
      · rw [show (A ++ [q]).length - 1 = A.length by simp, List.set_append_right _ _ (Nat.le_refl _)]
        simp
      · rfl
    show rightFrom (ivL (ivStep (A ++ [q]) s) S) none = true ∧ ∀ m, hasL (ivL (ivStep (A ++ [q]) s) S) m = _
    rw [hstep]
    by_cases hc : s.From ≤ q.To
    · rw [if_pos hc]
      obtain ⟨g1, g2⟩ := iv_keep S A ⟨q.From, if q.To < s.To then s.To else q.To⟩ (rf_snoc.2 ⟨h1, by simp only; split <;> omega, by
        cases hE : endS A none with
        | none => rfl
        | some t => rw [hE] at h3; simpa [okAfter] using h3⟩) (fun x hx => ⟨(hs x (List.mem_cons_of_mem _ hx)).1, by have := hp1 x hx; simp only; omega⟩) hp2
      refine ⟨g1, fun m => ?_⟩
      rw [g2 m, hasL_app, hasL_app, hasL_cons, hasL_nil, hasL_cons, hasL_nil, hasL_cons, Bool.or_false, Bool.or_false]
      have : Span.has ⟨q.From, if q.To < s.To then s.To else q.To⟩ m = (q.has m || s.has m) := by
        apply Bool.eq_iff_iff.2
        rw [Bool.or_eq_true, has_iff, has_iff, has_iff]
        simp only
        split <;> omega
      rw [this, Bool.or_assoc, Bool.or_assoc, Bool.or_assoc]
    · rw [if_neg hc]
      obtain ⟨g1, g2⟩ := iv_keep S (A ++ [q]) s (rf_snoc.2 ⟨h, hs1, by rw [endS_snoc]; simp only [okAfter, decide_eq_true_eq]; omega⟩) (fun x hx => ⟨(hs x (List.mem_cons_of_mem _ hx)).1, hp1 x hx⟩) hp2
      refine ⟨g1, fun m => ?_⟩
      rw [g2 m, hasL_app (A ++ [q]), hasL_cons s [], hasL_nil, hasL_cons, Bool.or_false, Bool.or_assoc]

theorem sortL_pair (l : List Span) : (sortL l).Pairwise fun x y => x.From ≤ y.From := by
  have h := List.pairwise_mergeSort (le := fun x y => !(Go.Proofs.ltOf ordS) y x) (fun a b c h1 h2 => by
    rw [ordS_lt] at *; simp only [Bool.not_eq_true', decide_eq_false_iff_not] at *; omega) (fun a b => by
    rw [ordS_lt, ordS_lt]; simp only [Bool.or_eq_true, Bool.not_eq_true', decide_eq_false_iff_not]; omega) l
  refine h.imp fun {a b} hab => ?_
  rw [ordS_lt] at hab; simp only [Bool.not_eq_true', decide_eq_false_iff_not] at hab; omega
theorem sortL_mem {l : List Span} {s : Span} : s ∈ sortL l ↔ s ∈ l := List.mem_mergeSort
theorem sortL_has (l : List Span) (m : Int) : hasL (sortL l) m = hasL l m := by
  apply Bool.eq_iff_iff.2
  rw [hasL_iff, hasL_iff]
  simp only [sortL_mem]
theorem filter_has (l : List Span) (m : Int) : hasL (l.filter (·.right)) m = hasL l m := by
  apply Bool.eq_iff_iff.2
  rw [hasL_iff, hasL_iff]
  constructor
  · rintro ⟨s, h1, h2⟩; exact ⟨s, (List.mem_filter.1 h1).1, h2⟩
  · rintro ⟨s, h1, h2⟩; exact ⟨s, List.mem_filter.2 ⟨h1, right_iff.2 (by omega)⟩, h2⟩

/-- The set of a list is a set, and has the list's minutes. -/
theorem mkL_spec (l : List Span) : rightFrom (mkL l) none = true ∧ ∀ m, hasL (mkL l) m = hasL l m := by
  unfold mkL
  have hp := sortL_pair (l.filter (·.right))
  have hr : ∀ s, s ∈ sortL (l.filter (·.right)) → s.From < s.To := fun s hs => right_iff.1 (List.mem_filter.1 (sortL_mem.1 hs)).2
  have hh : ∀ m, hasL (sortL (l.filter (·.right))) m = hasL l m := fun m => by rw [sortL_has, filter_has]
  generalize sortL (l.filter (·.right)) = S at *
  cases S with
  | nil => exact ⟨rfl, fun m => by rw [← hh m]; rfl⟩
  | cons s S =>
    obtain ⟨hp1, hp2⟩ := List.pairwise_cons.1 hp
    have h0 : ivL [] (s :: S) = ivL ([] ++ [s]) S := rfl
    obtain ⟨g1, g2⟩ := iv_keep S [] s (rf_snoc.2 ⟨rfl, hr s (List.mem_cons_self ..), rfl⟩) (fun x hx => ⟨hr x (List.mem_cons_of_mem _ hx), hp1 x hx⟩) hp2
    rw [h0]
    refine ⟨g1, fun m => ?_⟩
    rw [g2 m, ← hh m]
    simp [hasL_cons, hasL_nil]
theorem mkL_rf (l : List Span) : rightFrom (mkL l) none = true := (mkL_spec l).1
theorem mkL_has (l : List Span) (m : Int) : hasL (mkL l) m = hasL l m := (mkL_spec l).2 m
theorem mkL_of {o l : List Span} (h1 : rightFrom o none = true) (h2 : ∀ m, hasL o m = hasL l m) : o = mkL l := rf_eq o (mkL l) none h1 (mkL_rf l) fun m => by rw [h2, mkL_has]
theorem iv_le : ∀ (S acc : List Span), (ivL acc S).length ≤ acc.length + S.length
  | [], acc => by simp [ivL]
  | s :: S, acc => by
    have h1 := @iv_len acc s acc.length (Nat.le_refl _)
    have h2 := iv_le S (ivStep acc s)
    show (ivL (ivStep acc s) S).length ≤ _
    simp only [List.length_cons]; omega
theorem mkL_le (l : List Span) : (mkL l).length ≤ l.length := by
  have h1 := iv_le (sortL (l.filter (·.right))) []
  have h2 := sortL_len (l.filter (·.right))
  have h3 : (l.filter (·.right)).length ≤ l.length := List.length_filter_le ..
  unfold mkL
  simp only [List.length_nil] at h1
  omega

end Go.Hl

/- Contracts: the reference's set of a list of spans; whether two lists are the same.  -/
set_option linter.unusedVariables false
set_option linter.unusedSimpArgs false
namespace Go.Hl
open Go.Gh Go.Proofs

theorem cand_true1 {out : List Span} {x : Span} (hr : x.right = true) (h : ¬ (out.length : Int) > 0) : cand out x = true := by
  have : out = [] := List.eq_nil_of_length_eq_zero (by omega)
  subst this
  simp [cand, endS, okAfter, hr]
theorem cand_2 {out : List Span} {x q : Span} {i : Int} (hi : i = (out.length : Int) - 1) (hr : x.right = true) (hq : out[i.toNat]? = some q) : cand out x = decide (q.To < x.From) := by
  unfold cand
  rw [endS_last (by omega) hq, hr]
  rfl
theorem cand_not {out : List Span} {x : Span} (hr : ¬ x.From < x.To) : cand out x = false := by simp [cand, Span.right, hr]
theorem cand_no {out : List Span} {x q : Span} {i : Int} (hi : i = (out.length : Int) - 1) (hr : x.From < x.To) (hq : out[i.toNat]? = some q) (h : x.From ≤ q.To) : cand out x = false := by
  rw [cand_2 hi (right_iff.2 hr) hq]; simp only [decide_eq_false_iff_not]; omega
theorem cand_yes {out : List Span} {x q : Span} {i : Int} (hi : i = (out.length : Int) - 1) (hr : x.From < x.To) (hq : out[i.toNat]? = some q) (h : ¬ x.From ≤ q.To) : cand out x = true := by
  rw [cand_2 hi (right_iff.2 hr) hq]; simp only [decide_eq_true_eq]; omega
theorem BInv.keepT {l out : List Span} {i : Nat} {b x : Span} {f : Bool} (h : BInv l out i b f) (hf : f = true) (hx : l[i]? = some x) (hge : ¬ x.From < b.From) : BInv l out (i + 1) b f := by subst hf; exact h.keep hx hge
theorem BInv.takeF {l out : List Span} {i : Nat} {b x : Span} {f : Bool} (h : BInv l out i b f) (hf : f = false) (hx : l[i]? = some x) (hc : cand out x = true) : BInv l out (i + 1) x true := h.take hx hc fun e => by rw [hf] at e; cases e
theorem BInv.bestT {l out : List Span} {i : Nat} {b : Span} {f : Bool} (h : BInv l out i b f) (hf : f = true) (hi : ¬ (i : Int) < l.length) : Best l out b := by subst hf; exact h.best hi
theorem BInv.emptyF {l out : List Span} {i : Nat} {b : Span} {f : Bool} (h : BInv l out i b f) (hf : f = false) (hi : ¬ (i : Int) < l.length) : ∀ s, s ∈ l → cand out s = false := by subst hf; exact h.empty hi

def pl_P5_1 : Nat → Option (List Nat × List Nat) := (fun k => bif Nat.beq k 2 then some ([1000002, 0, 3, 5000003, 6000002], [103, 205]) else bif Nat.beq k 6 then some ([1000006, 0, 3, 4, 5, 6, 5000003, 6000002], [103, 104, 205]) else bif Nat.beq k 15 then some ([1000015, 0, 3, 4, 8, 5000003, 6000002], [103, 104, 205]) else bif Nat.beq k 18 then some ([1000018, 0, 3, 4, 8, 9, 5000003, 6000002], [103, 104, 205]) else bif Nat.beq k 5000003 then some ([], []) else bif Nat.beq k 6000002 then some ([], []) else none)
set_option maxRecDepth 100000 in
set_option maxHeartbeats 1000000 in
theorem refMake_ok (l : List Span) (hl : (l.length : Int) ≤ 100000000) : ICalls Try.prog 18 [.list 2 (spans l) none] [] (Done (.list 2 (spans (mkL l)) none) []) := by
  generalize hR : mkL l = R
  refine ICalls.of_body Try.func18 rfl Try.call18 rfl (Nat.le_of_ble_eq_true rfl) pl_P5_1 rfl ?_
  repeat' ((conv => whnf); first
    | refine Br.yes rfl ?_
    | refine Br.no rfl ?_
    | (refine Elem.mapK (by assumption) ?_)
    | (refine Elem.mapN (i := i) (by omega) (fun x hx => ?_))
    | (refine Elem.mapI (by assumption) (by assumption) ?_)
    | (refine Elem.map (by omega) (by omega) (fun q hq => ?_))
    | (refine ILoop.ov 1000002 (fun ((out, g, k, v) : List Span × List GV × Nat × Nat) => [(3, .ms 2 103 v k)]) (fun ((out, g, k, v) : List Span × List GV × Nat × Nat) => [(103, .mvec 26 2 g v)]) (fun ((out, g, k, v) : List Span × List GV × Nat × Nat) => (g = spans out ∧ k = out.length) ∧ RInv l out) (fun ((out, g, k, v) : List Span × List GV × Nat × Nat) => l.length + 1 - out.length) (([], [], 0, 0)) (by exact rfl) ?_; (conv => whnf); refine Start.mk rfl ?_ ?_; (try dsimp only); rotate_left; rintro ⟨out, g, k, v⟩ ⟨⟨rfl, rfl⟩, hI⟩; (have hover := hI.over))
    | (refine Again.mk ⟨((out ++ [b], _, _, _)), rfl, ?_, ?_⟩ <;> try dsimp only)
    | (refine ILoop.ov 1000006 (fun ((i, best, found) : Nat × Span × Bool) => [(6, gi i), (5, gb found)]) (fun ((i, best, found) : Nat × Span × Bool) => [(104, .cells (best.c))]) (fun ((i, best, found) : Nat × Span × Bool) => i ≤ l.length ∧ BInv l out i best found) (fun ((i, best, found) : Nat × Span × Bool) => l.length - i) ((0, ⟨0, 0⟩, false)) (by exact rfl) ?_; (conv => whnf); refine Start.mk rfl ?_ ?_; (try dsimp only); rotate_left; rintro ⟨i, best, found⟩ ⟨hi, hB⟩)
    | (refine Again.mk ⟨((i + 1, best, found)), rfl, ?_, ?_⟩ <;> try dsimp only)
    | (refine Again.mk ⟨((i + 1, x, true)), rfl, ?_, ?_⟩ <;> try dsimp only)
    | (refine ILoop.ov 1000015 (fun ((again, b) : Nat × Span) => [(8, gi again)]) (fun ((again, b) : Nat × Span) => [(104, .cells (b.c))]) (fun ((again, b) : Nat × Span) => again ≤ l.length + 1 ∧ EOut l best b again) (fun ((again, b) : Nat × Span) => l.length + 1 - again) ((0, best)) (by exact rfl) ?_; (conv => whnf); refine Start.mk rfl ?_ ?_; (try dsimp only); rotate_left; rintro ⟨again, b⟩ ⟨ha, hE⟩)
    | (refine Again.mk ⟨((again + 1, c)), rfl, ?_, ?_⟩ <;> try dsimp only)
    | (refine ILoop.ov 1000018 (fun ((i, c) : Nat × Span) => [(9, gi i)]) (fun ((i, c) : Nat × Span) => [(104, .cells (c.c))]) (fun ((i, c) : Nat × Span) => i ≤ l.length ∧ NInv l best b i c) (fun ((i, c) : Nat × Span) => l.length - i) ((0, b)) (by exact rfl) ?_; (conv => whnf); refine Start.mk rfl ?_ ?_; (try dsimp only); rotate_left; rintro ⟨i, c⟩ ⟨hi2, hN⟩)
    | (refine Again.mk ⟨((i + 1, ⟨c.From, x.To⟩)), rfl, ?_, ?_⟩ <;> try dsimp only)
    | (refine Again.mk ⟨((i + 1, c)), rfl, ?_, ?_⟩ <;> try dsimp only)
    | refine Br.yes (beq_self_eq_true _) ?_
    | refine Br.not ?_
    | refine Br.yes (decide_eq_true (by assumption)) ?_
    | refine Br.no (decide_eq_false (by assumption)) ?_
    | refine Br.yes (beq_iff_eq.2 (by assumption)) ?_
    | refine Br.no (beq_eq_false_iff_ne.2 (by assumption)) ?_
    | refine Br.yes (bne_iff_ne.2 (by assumption)) ?_
    | (refine Br.dec (fun h => ?_) (fun h => ?_) <;> try dsimp only at h)
    | (refine Br.beqI (fun h => ?_) (fun h => ?_) <;> try dsimp only at h)
    | (refine Br.bneI (fun h => ?_) (fun h => ?_) <;> try dsimp only at h)
    | refine Br.mk (fun h => ?_) (fun h => ?_)
    | refine Need.mk (app_need (by first | (simp only [List.length_append, List.length_map, List.length_nil, List.length_cons, List.nil_append, Nat.zero_add, Nat.add_zero]; done) | (simp only [List.length_append, List.length_map, List.length_nil, List.length_cons, List.nil_append, Nat.zero_add, Nat.add_zero]; omega) | omega) (Nat.le_of_ble_eq_true rfl) (by first | (simp only [List.length_append, List.length_map, List.length_nil, List.length_cons, List.nil_append, Nat.zero_add, Nat.add_zero]; done) | (simp only [List.length_append, List.length_map, List.length_nil, List.length_cons, List.nil_append, Nat.zero_add, Nat.add_zero]; omega) | omega)) ?_
    | refine Need.mk (app_need0 (Nat.le_of_ble_eq_true rfl) (by first | (simp only [List.length_append, List.length_map, List.length_nil, List.length_cons, List.nil_append, Nat.zero_add, Nat.add_zero]; done) | (simp only [List.length_append, List.length_map, List.length_nil, List.length_cons, List.nil_append, Nat.zero_add, Nat.add_zero]; omega) | omega)) ?_
    | refine Need.mk (app_needM rfl (Nat.le_of_ble_eq_true rfl) (by first | (simp only [List.length_append, List.length_map, List.length_nil, List.length_cons, List.nil_append, Nat.zero_add, Nat.add_zero]; done) | (simp only [List.length_append, List.length_map, List.length_nil, List.length_cons, List.nil_append, Nat.zero_add, Nat.add_zero]; omega) | omega)) ?_
    | refine Need.mk (zeros_need (by omega) (Nat.le_of_ble_eq_true rfl) (by omega)) ?_
    | refine Need.mk (by first | kernel_rfl | exact ⟨of_decide_eq_true rfl, of_decide_eq_true rfl⟩ | omega) ?_
    | refine Len.mk ⟨_, by simp only [List.length_cons, List.length_nil, Nat.reduceAdd, Int.cast_ofNat_Int]; rfl, ?_⟩
    | refine Wr.lit _ (by simp only [Int.reduceAdd, Int.reduceSub, Int.reduceMul]; rfl) (by decide) ?_
    | refine Wr.fit (by omega) ?_
    | refine Wr.fit (by dsimp only; omega) ?_
    | refine Elem.mk ⟨_, ⟨of_decide_eq_true rfl, rfl⟩, ?_⟩
    | refine Len.map ?_
    | refine Len.dropM ?_
    | refine Elem.dropM ?_
    | refine Len.takeM ?_
    | refine Elem.takeM ?_
    | refine Elem.mapK (by assumption) ?_
    | refine Elem.mapI (by omega) (by assumption) ?_
    | refine Elem.mapN (by omega) (fun x hx => ?_)
    | refine Elem.map (by omega) (by omega) (fun x hx => ?_)
    | refine (refIvalRight_ok x).use ⟨rfl, ?_⟩
    | refine CallX.mk ⟨_, _, (refIvalRight_ok x).x, rfl, ?_⟩
    | refine Done.mk ⟨rfl, rfl⟩
    | refine Done.mk ⟨congrArg gb ?_, rfl⟩
    | refine Done.mk ⟨?_, rfl⟩
    | refine Done.mk ⟨?_, ?_⟩)
  all_goals first
    | omega
    | (simp only [List.length_append, List.length_singleton]; omega)
    | exact ⟨by omega, hB.skip hx (cand_no rfl (by assumption) hq h)⟩
    | exact ⟨by omega, hB.take hx (cand_yes rfl (by assumption) hq (by assumption)) (fun _ => h)⟩
    | exact ⟨by omega, hB.keepT (by assumption) hx h⟩
    | exact ⟨by omega, hB.takeF h hx (cand_yes rfl (by assumption) hq (by assumption))⟩
    | exact ⟨by omega, hB.take hx (cand_true1 (right_iff.2 (by assumption)) (by assumption)) (fun _ => h)⟩
    | exact ⟨by omega, hB.takeF h hx (cand_true1 (right_iff.2 (by assumption)) (by assumption))⟩
    | exact ⟨by omega, hB.skip hx (cand_not h)⟩
    | exact ⟨by omega, hN.step hx (by assumption) (by assumption) h⟩
    | exact ⟨by omega, hN.skip hx (by omega)⟩
    | exact ⟨by omega, hE.round hN h⟩
    | exact ⟨by omega, NInv.start hE.1⟩
    | exact ⟨⟨by rw [spans_app]; rfl, by simp⟩, hI.next (hB.bestT (by assumption) (by assumption)) hE h⟩
    | exact ⟨by omega, EOut.start (hB.bestT h (by assumption)).mem⟩
    | exact congrArg (fun q => GV.list 2 (spans q) none) ((mkL_of hI.rf (hI.has (hB.emptyF h (by assumption)))).trans hR)
    | exact ⟨by omega, BInv.start _ _⟩
    | exact ⟨⟨rfl, rfl⟩, RInv.start l⟩

theorem take_sameS {a b : List Span} {i : Nat} {x y : Span} (h : a.take i = b.take i) (hx : a[i]? = some x) (hy : b[i]? = some y) (e : x = y) : a.take (i + 1) = b.take (i + 1) := by
  rw [take_succ_get hx, take_succ_get hy, h, e]
theorem not_sameS {a b : List Span} {i : Nat} {x y : Span} (hx : a[i]? = some x) (hy : b[i]? = some y) (e : x ≠ y) : decide (a = b) = false := by
  apply decide_eq_false
  intro h; subst h; rw [hx] at hy; exact e (Option.some.inj hy)
theorem same_lenS {a b : List Span} (h : ¬ ((a.length : Nat) : Int) = ((b.length : Nat) : Int)) : false = decide (a = b) := by
  symm; apply decide_eq_false; intro e; subst e; exact h rfl
theorem same_endS {a b : List Span} {i : Nat} (hi : ¬ (i : Int) < a.length) (hab : a.length = b.length) (h : a.take i = b.take i) : true = decide (a = b) := by
  symm; apply decide_eq_true
  rw [List.take_of_length_le (by omega), List.take_of_length_le (by omega)] at h; exact h
theorem spanB_true {x y : Span} (h : ((x.From == y.From) && ((x.To == y.To) && true)) = true) : x = y := by
  simp at h; cases x; cases y; simp_all
theorem spanB_false {x y : Span} (h : ((x.From == y.From) && ((x.To == y.To) && true)) = false) : x ≠ y := by
  intro e; subst e; simp at h

def pl_P5_2 : Nat → Option (List Nat × List Nat) := (fun k => bif Nat.beq k 4 then some ([1000004, 0, 1, 5], []) else none)
set_option maxRecDepth 100000 in
set_option maxHeartbeats 1000000 in
theorem refSameS_ok (a b : List Span) (ha : (a.length : Int) ≤ 1000000000) : ICalls Try.prog 19 [.list 2 (spans a) none, .list 2 (spans b) none] [] (Done (gb (decide (a = b))) []) := by
  refine ICalls.of_body Try.func19 rfl Try.call19 rfl (Nat.le_of_ble_eq_true rfl) pl_P5_2 rfl ?_
  repeat' ((conv => whnf); first
    | refine Br.yes rfl ?_
    | refine Br.no rfl ?_
    | refine Need.mk (EqRun.flat (by kernel_rfl) rfl) ?_
    | (refine ILoop.ov 1000004 (fun (i : Nat) => [(5, gi i)]) (fun (i : Nat) => []) (fun (i : Nat) => (i ≤ a.length ∧ a.length = b.length) ∧ a.take i = b.take i) (fun (i : Nat) => a.length - i) (0) (by exact rfl) ?_; (conv => whnf); refine Start.mk rfl ?_ ?_; (try dsimp only); rotate_left; rintro i ⟨⟨hi, hab⟩, hs⟩)
    | (refine Again.mk ⟨(i + 1), rfl, ?_, ?_⟩ <;> try dsimp only)
    | refine Br.yes (beq_self_eq_true _) ?_
    | refine Br.not ?_
    | refine Br.yes (decide_eq_true (by assumption)) ?_
    | refine Br.no (decide_eq_false (by assumption)) ?_
    | refine Br.yes (beq_iff_eq.2 (by assumption)) ?_
    | refine Br.no (beq_eq_false_iff_ne.2 (by assumption)) ?_
    | refine Br.yes (bne_iff_ne.2 (by assumption)) ?_
    | (refine Br.dec (fun h => ?_) (fun h => ?_) <;> try dsimp only at h)
    | (refine Br.beqI (fun h => ?_) (fun h => ?_) <;> try dsimp only at h)
    | (refine Br.bneI (fun h => ?_) (fun h => ?_) <;> try dsimp only at h)
    | refine Br.mk (fun h => ?_) (fun h => ?_)
    | refine Need.mk (app_need (by first | (simp only [List.length_append, List.length_map, List.length_nil, List.length_cons, List.nil_append, Nat.zero_add, Nat.add_zero]; done) | (simp only [List.length_append, List.length_map, List.length_nil, List.length_cons, List.nil_append, Nat.zero_add, Nat.add_zero]; omega) | omega) (Nat.le_of_ble_eq_true rfl) (by first | (simp only [List.length_append, List.length_map, List.length_nil, List.length_cons, List.nil_append, Nat.zero_add, Nat.add_zero]; done) | (simp only [List.length_append, List.length_map, List.length_nil, List.length_cons, List.nil_append, Nat.zero_add, Nat.add_zero]; omega) | omega)) ?_
    | refine Need.mk (app_need0 (Nat.le_of_ble_eq_true rfl) (by first | (simp only [List.length_append, List.length_map, List.length_nil, List.length_cons, List.nil_append, Nat.zero_add, Nat.add_zero]; done) | (simp only [List.length_append, List.length_map, List.length_nil, List.length_cons, List.nil_append, Nat.zero_add, Nat.add_zero]; omega) | omega)) ?_
    | refine Need.mk (app_needM rfl (Nat.le_of_ble_eq_true rfl) (by first | (simp only [List.length_append, List.length_map, List.length_nil, List.length_cons, List.nil_append, Nat.zero_add, Nat.add_zero]; done) | (simp only [List.length_append, List.length_map, List.length_nil, List.length_cons, List.nil_append, Nat.zero_add, Nat.add_zero]; omega) | omega)) ?_
    | refine Need.mk (zeros_need (by omega) (Nat.le_of_ble_eq_true rfl) (by omega)) ?_
    | refine Need.mk (by first | kernel_rfl | exact ⟨of_decide_eq_true rfl, of_decide_eq_true rfl⟩ | omega) ?_
    | refine Len.mk ⟨_, by simp only [List.length_cons, List.length_nil, Nat.reduceAdd, Int.cast_ofNat_Int]; rfl, ?_⟩
    | refine Wr.lit _ (by simp only [Int.reduceAdd, Int.reduceSub, Int.reduceMul]; rfl) (by decide) ?_
    | refine Wr.fit (by omega) ?_
    | refine Wr.fit (by dsimp only; omega) ?_
    | refine Elem.mk ⟨_, ⟨of_decide_eq_true rfl, rfl⟩, ?_⟩
    | refine Len.map ?_
    | refine Len.dropM ?_
    | refine Elem.dropM ?_
    | refine Len.takeM ?_
    | refine Elem.takeM ?_
    | refine Elem.mapK (by assumption) ?_
    | refine Elem.mapI (by omega) (by assumption) ?_
    | refine Elem.mapN (by omega) (fun x hx => ?_)
    | refine Elem.map (by omega) (by omega) (fun x hx => ?_)
    | refine Done.mk ⟨rfl, rfl⟩
    | refine Done.mk ⟨congrArg gb ?_, rfl⟩
    | refine Done.mk ⟨?_, rfl⟩
    | refine Done.mk ⟨?_, ?_⟩)
  all_goals first
    | omega
    | exact same_lenS h
    | exact same_endS h hab hs
    | exact ⟨⟨by omega, by omega⟩, rfl⟩
    | exact ⟨⟨by omega, by omega⟩, take_sameS hs (by assumption) hx (spanB_true h)⟩
    | exact (not_sameS (by assumption) hx (spanB_false h)).symm

/-! ### The chapter's examples -/
theorem alive03_mk : mkL [⟨2, 4⟩, ⟨7, 9⟩, ⟨4, 5⟩] = [⟨2, 5⟩, ⟨7, 9⟩] :=
  (mkL_of (by decide) fun m => by
    apply Bool.eq_iff_iff.2
    simp only [hasL_cons, hasL_nil, Bool.or_eq_true, has_iff, Bool.or_false]
    omega).symm

set_option maxRecDepth 100000 in
set_option maxHeartbeats 1000000 in
theorem alive03_ok : ICalls Try.prog 15 [] [] (Done (gb true) []) := by
  have h1 := make_ok [⟨2, 4⟩, ⟨7, 9⟩, ⟨4, 5⟩] (by decide)
  rw [alive03_mk] at h1
  have h2 := refSameS_ok [⟨2, 5⟩, ⟨7, 9⟩] [⟨2, 5⟩, ⟨7, 9⟩] (by decide)
  rw [decide_eq_true rfl] at h2
  refine ICalls.of_body Try.func15 rfl Try.call15 rfl (Nat.le_of_ble_eq_true rfl) (fun _ => none) rfl ?_
  repeat' ((conv => whnf); first
    | refine Br.yes rfl ?_
    | refine Br.no rfl ?_
    | refine Br.yes (beq_self_eq_true _) ?_
    | refine Br.not ?_
    | refine Br.yes (decide_eq_true (by assumption)) ?_
    | refine Br.no (decide_eq_false (by assumption)) ?_
    | refine Br.yes (beq_iff_eq.2 (by assumption)) ?_
    | refine Br.no (beq_eq_false_iff_ne.2 (by assumption)) ?_
    | refine Br.yes (bne_iff_ne.2 (by assumption)) ?_
    | (refine Br.dec (fun h => ?_) (fun h => ?_) <;> try dsimp only at h)
    | (refine Br.beqI (fun h => ?_) (fun h => ?_) <;> try dsimp only at h)
    | (refine Br.bneI (fun h => ?_) (fun h => ?_) <;> try dsimp only at h)
    | refine Br.mk (fun h => ?_) (fun h => ?_)
    | refine Need.mk (app_need (by first | (simp only [List.length_append, List.length_map, List.length_nil, List.length_cons, List.nil_append, Nat.zero_add, Nat.add_zero]; done) | (simp only [List.length_append, List.length_map, List.length_nil, List.length_cons, List.nil_append, Nat.zero_add, Nat.add_zero]; omega) | omega) (Nat.le_of_ble_eq_true rfl) (by first | (simp only [List.length_append, List.length_map, List.length_nil, List.length_cons, List.nil_append, Nat.zero_add, Nat.add_zero]; done) | (simp only [List.length_append, List.length_map, List.length_nil, List.length_cons, List.nil_append, Nat.zero_add, Nat.add_zero]; omega) | omega)) ?_
    | refine Need.mk (app_need0 (Nat.le_of_ble_eq_true rfl) (by first | (simp only [List.length_append, List.length_map, List.length_nil, List.length_cons, List.nil_append, Nat.zero_add, Nat.add_zero]; done) | (simp only [List.length_append, List.length_map, List.length_nil, List.length_cons, List.nil_append, Nat.zero_add, Nat.add_zero]; omega) | omega)) ?_
    | refine Need.mk (app_needM rfl (Nat.le_of_ble_eq_true rfl) (by first | (simp only [List.length_append, List.length_map, List.length_nil, List.length_cons, List.nil_append, Nat.zero_add, Nat.add_zero]; done) | (simp only [List.length_append, List.length_map, List.length_nil, List.length_cons, List.nil_append, Nat.zero_add, Nat.add_zero]; omega) | omega)) ?_
    | refine Need.mk (zeros_need (by omega) (Nat.le_of_ble_eq_true rfl) (by omega)) ?_
    | refine Need.mk (by first | kernel_rfl | exact ⟨of_decide_eq_true rfl, of_decide_eq_true rfl⟩ | omega) ?_
    | refine Len.mk ⟨_, by simp only [List.length_cons, List.length_nil, Nat.reduceAdd, Int.cast_ofNat_Int]; rfl, ?_⟩
    | refine Wr.lit _ (by simp only [Int.reduceAdd, Int.reduceSub, Int.reduceMul]; rfl) (by decide) ?_
    | refine Wr.fit (by omega) ?_
    | refine Wr.fit (by dsimp only; omega) ?_
    | refine Elem.mk ⟨_, ⟨of_decide_eq_true rfl, rfl⟩, ?_⟩
    | refine Len.map ?_
    | refine Len.dropM ?_
    | refine Elem.dropM ?_
    | refine Len.takeM ?_
    | refine Elem.takeM ?_
    | refine Elem.mapK (by assumption) ?_
    | refine Elem.mapI (by omega) (by assumption) ?_
    | refine Elem.mapN (by omega) (fun x hx => ?_)
    | refine Elem.map (by omega) (by omega) (fun x hx => ?_)
    | refine (h1).use ⟨rfl, ?_⟩
    | refine (h2).use ⟨rfl, ?_⟩
    | refine CallX.mk ⟨_, _, (h1).x, rfl, ?_⟩
    | refine CallX.mk ⟨_, _, (h2).x, rfl, ?_⟩
    | refine Done.mk ⟨rfl, rfl⟩
    | refine Done.mk ⟨congrArg gb ?_, rfl⟩
    | refine Done.mk ⟨?_, rfl⟩
    | refine Done.mk ⟨?_, ?_⟩)

set_option maxRecDepth 100000 in
set_option maxHeartbeats 1000000 in
theorem ivalsMake_ok (l : List Span) (m : Int) : ICalls Try.prog 4 [.list 2 (spans l) none, gi m] [] (Done (gb true) []) := by
  by_cases hl : (l.length : Int) ≤ 30
  case neg =>
    refine ICalls.of_body Try.func4 rfl Try.call4 rfl (Nat.le_of_ble_eq_true rfl) (fun _ => none) rfl ?_
    repeat' ((conv => whnf); first
      | refine Br.yes rfl ?_
      | refine Br.no rfl ?_
      | refine Br.yes (beq_self_eq_true _) ?_
      | refine Br.not ?_
      | refine Br.yes (decide_eq_true (by assumption)) ?_
      | refine Br.no (decide_eq_false (by assumption)) ?_
      | refine Br.yes (beq_iff_eq.2 (by assumption)) ?_
      | refine Br.no (beq_eq_false_iff_ne.2 (by assumption)) ?_
      | refine Br.yes (bne_iff_ne.2 (by assumption)) ?_
      | (refine Br.dec (fun h => ?_) (fun h => ?_) <;> try dsimp only at h)
      | (refine Br.beqI (fun h => ?_) (fun h => ?_) <;> try dsimp only at h)
      | (refine Br.bneI (fun h => ?_) (fun h => ?_) <;> try dsimp only at h)
      | refine Br.mk (fun h => ?_) (fun h => ?_)
      | refine Need.mk (app_need (by first | (simp only [List.length_append, List.length_map, List.length_nil, List.length_cons, List.nil_append, Nat.zero_add, Nat.add_zero]; done) | (simp only [List.length_append, List.length_map, List.length_nil, List.length_cons, List.nil_append, Nat.zero_add, Nat.add_zero]; omega) | omega) (Nat.le_of_ble_eq_true rfl) (by first | (simp only [List.length_append, List.length_map, List.length_nil, List.length_cons, List.nil_append, Nat.zero_add, Nat.add_zero]; done) | (simp only [List.length_append, List.length_map, List.length_nil, List.length_cons, List.nil_append, Nat.zero_add, Nat.add_zero]; omega) | omega)) ?_
      | refine Need.mk (app_need0 (Nat.le_of_ble_eq_true rfl) (by first | (simp only [List.length_append, List.length_map, List.length_nil, List.length_cons, List.nil_append, Nat.zero_add, Nat.add_zero]; done) | (simp only [List.length_append, List.length_map, List.length_nil, List.length_cons, List.nil_append, Nat.zero_add, Nat.add_zero]; omega) | omega)) ?_
      | refine Need.mk (app_needM rfl (Nat.le_of_ble_eq_true rfl) (by first | (simp only [List.length_append, List.length_map, List.length_nil, List.length_cons, List.nil_append, Nat.zero_add, Nat.add_zero]; done) | (simp only [List.length_append, List.length_map, List.length_nil, List.length_cons, List.nil_append, Nat.zero_add, Nat.add_zero]; omega) | omega)) ?_
      | refine Need.mk (zeros_need (by omega) (Nat.le_of_ble_eq_true rfl) (by omega)) ?_
      | refine Need.mk (by first | kernel_rfl | exact ⟨of_decide_eq_true rfl, of_decide_eq_true rfl⟩ | omega) ?_
      | refine Len.mk ⟨_, by simp only [List.length_cons, List.length_nil, Nat.reduceAdd, Int.cast_ofNat_Int]; rfl, ?_⟩
      | refine Wr.lit _ (by simp only [Int.reduceAdd, Int.reduceSub, Int.reduceMul]; rfl) (by decide) ?_
      | refine Wr.fit (by omega) ?_
      | refine Wr.fit (by dsimp only; omega) ?_
      | refine Elem.mk ⟨_, ⟨of_decide_eq_true rfl, rfl⟩, ?_⟩
      | refine Len.map ?_
      | refine Len.dropM ?_
      | refine Elem.dropM ?_
      | refine Len.takeM ?_
      | refine Elem.takeM ?_
      | refine Elem.mapK (by assumption) ?_
      | refine Elem.mapI (by omega) (by assumption) ?_
      | refine Elem.mapN (by omega) (fun x hx => ?_)
      | refine Elem.map (by omega) (by omega) (fun x hx => ?_)
      | refine (alive03_ok).use ⟨rfl, ?_⟩
      | refine CallX.mk ⟨_, _, (alive03_ok).x, rfl, ?_⟩
      | refine Done.mk ⟨rfl, rfl⟩
      | refine Done.mk ⟨congrArg gb ?_, rfl⟩
      | refine Done.mk ⟨?_, rfl⟩
      | refine Done.mk ⟨?_, ?_⟩)
    all_goals omega
  case pos =>
    have h1 := make_ok l (by omega)
    have h2 := refMake_ok l (by omega)
    have h3 := refSameS_ok (mkL l) (mkL l) (by have := mkL_le l; omega)
    rw [decide_eq_true rfl] at h3
    have h4 := ivalsRight_ok l (by omega)
    have h5 := refRight_ok l (by omega)
    have h6 := ivalsHas_ok l m (by omega)
    have h7 := refHas_ok l m (by omega)
    generalize rightFrom l none = r at *
    generalize hasL l m = q at *
    refine ICalls.of_body Try.func4 rfl Try.call4 rfl (Nat.le_of_ble_eq_true rfl) (fun _ => none) rfl ?_
    repeat' ((conv => whnf); first
      | refine Br.yes rfl ?_
      | refine Br.no rfl ?_
      | refine Br.yes (beq_self_eq_true _) ?_
      | refine Br.not ?_
      | refine Br.yes (decide_eq_true (by assumption)) ?_
      | refine Br.no (decide_eq_false (by assumption)) ?_
      | refine Br.yes (beq_iff_eq.2 (by assumption)) ?_
      | refine Br.no (beq_eq_false_iff_ne.2 (by assumption)) ?_
      | refine Br.yes (bne_iff_ne.2 (by assumption)) ?_
      | (refine Br.dec (fun h => ?_) (fun h => ?_) <;> try dsimp only at h)
      | (refine Br.beqI (fun h => ?_) (fun h => ?_) <;> try dsimp only at h)
      | (refine Br.bneI (fun h => ?_) (fun h => ?_) <;> try dsimp only at h)
      | refine Br.mk (fun h => ?_) (fun h => ?_)
      | refine Need.mk (app_need (by first | (simp only [List.length_append, List.length_map, List.length_nil, List.length_cons, List.nil_append, Nat.zero_add, Nat.add_zero]; done) | (simp only [List.length_append, List.length_map, List.length_nil, List.length_cons, List.nil_append, Nat.zero_add, Nat.add_zero]; omega) | omega) (Nat.le_of_ble_eq_true rfl) (by first | (simp only [List.length_append, List.length_map, List.length_nil, List.length_cons, List.nil_append, Nat.zero_add, Nat.add_zero]; done) | (simp only [List.length_append, List.length_map, List.length_nil, List.length_cons, List.nil_append, Nat.zero_add, Nat.add_zero]; omega) | omega)) ?_
      | refine Need.mk (app_need0 (Nat.le_of_ble_eq_true rfl) (by first | (simp only [List.length_append, List.length_map, List.length_nil, List.length_cons, List.nil_append, Nat.zero_add, Nat.add_zero]; done) | (simp only [List.length_append, List.length_map, List.length_nil, List.length_cons, List.nil_append, Nat.zero_add, Nat.add_zero]; omega) | omega)) ?_
      | refine Need.mk (app_needM rfl (Nat.le_of_ble_eq_true rfl) (by first | (simp only [List.length_append, List.length_map, List.length_nil, List.length_cons, List.nil_append, Nat.zero_add, Nat.add_zero]; done) | (simp only [List.length_append, List.length_map, List.length_nil, List.length_cons, List.nil_append, Nat.zero_add, Nat.add_zero]; omega) | omega)) ?_
      | refine Need.mk (zeros_need (by omega) (Nat.le_of_ble_eq_true rfl) (by omega)) ?_
      | refine Need.mk (by first | kernel_rfl | exact ⟨of_decide_eq_true rfl, of_decide_eq_true rfl⟩ | omega) ?_
      | refine Len.mk ⟨_, by simp only [List.length_cons, List.length_nil, Nat.reduceAdd, Int.cast_ofNat_Int]; rfl, ?_⟩
      | refine Wr.lit _ (by simp only [Int.reduceAdd, Int.reduceSub, Int.reduceMul]; rfl) (by decide) ?_
      | refine Wr.fit (by omega) ?_
      | refine Wr.fit (by dsimp only; omega) ?_
      | refine Elem.mk ⟨_, ⟨of_decide_eq_true rfl, rfl⟩, ?_⟩
      | refine Len.map ?_
      | refine Len.dropM ?_
      | refine Elem.dropM ?_
      | refine Len.takeM ?_
      | refine Elem.takeM ?_
      | refine Elem.mapK (by assumption) ?_
      | refine Elem.mapI (by omega) (by assumption) ?_
      | refine Elem.mapN (by omega) (fun x hx => ?_)
      | refine Elem.map (by omega) (by omega) (fun x hx => ?_)
      | refine (h1).use ⟨rfl, ?_⟩
      | refine (h2).use ⟨rfl, ?_⟩
      | refine (h3).use ⟨rfl, ?_⟩
      | refine (h4).use ⟨rfl, ?_⟩
      | refine (h5).use ⟨rfl, ?_⟩
      | refine (h6).use ⟨rfl, ?_⟩
      | refine (h7).use ⟨rfl, ?_⟩
      | refine (alive03_ok).use ⟨rfl, ?_⟩
      | refine CallX.mk ⟨_, _, (h1).x, rfl, ?_⟩
      | refine CallX.mk ⟨_, _, (h2).x, rfl, ?_⟩
      | refine CallX.mk ⟨_, _, (h3).x, rfl, ?_⟩
      | refine CallX.mk ⟨_, _, (h4).x, rfl, ?_⟩
      | refine CallX.mk ⟨_, _, (h5).x, rfl, ?_⟩
      | refine CallX.mk ⟨_, _, (h6).x, rfl, ?_⟩
      | refine CallX.mk ⟨_, _, (h7).x, rfl, ?_⟩
      | refine CallX.mk ⟨_, _, (alive03_ok).x, rfl, ?_⟩
      | refine Done.mk ⟨rfl, rfl⟩
      | refine Done.mk ⟨congrArg gb ?_, rfl⟩
      | refine Done.mk ⟨?_, rfl⟩
      | refine Done.mk ⟨?_, ?_⟩)
    all_goals simp_all

end Go.Hl
