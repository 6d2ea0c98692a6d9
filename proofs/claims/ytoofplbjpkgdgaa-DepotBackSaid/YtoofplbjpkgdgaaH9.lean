/- Contracts of functions, bundle H9; proved for whatever the arguments' types allow, as each theorem says. -/
import Derived.Test.YtoofplbjpkgdgaaH7
import Derived.Test.YtoofplbjpkgdgaaH5
import Derived.Test.YtoofplbjpkgdgaaGh17

/- Contracts: timelines, checked; the minutes' kinds.  -/
set_option linter.unusedVariables false
set_option linter.unusedSimpArgs false
namespace Go.Hl
open Go.Gh Go.Proofs

def gapErr (q r : Rec) : Int := if q.To < r.From then 5 else if r.From < q.To then 6 else 0
/-- The first record that is wrong, and why. -/
def recsErr : Int → Option Rec → List Rec → Int × Int
  | _, _, [] => (0, 0)
  | i, none, r :: t => if recErr r ≠ 0 then (i, recErr r) else recsErr (i + 1) (some r) t
  | i, some q, r :: t => if recErr r ≠ 0 then (i, recErr r) else if gapErr q r ≠ 0 then (i, gapErr q r) else recsErr (i + 1) (some r) t
def prevR (l : List Rec) (i : Nat) : Option Rec := if i = 0 then none else l[i - 1]?
theorem prevR_succ {l : List Rec} {i : Nat} {x : Rec} (h : l[i]? = some x) : prevR l (i + 1) = some x := by unfold prevR; simp [h]
theorem recsErr_0 {l : List Rec} {i : Nat} {x : Rec} {R : Int × Int} (hr : recsErr i (prevR l i) (l.drop i) = R) (h : l[i]? = some x) (hn : recErr x ≠ 0) : (↑i, recErr x) = R := by
  rw [drop_of_get h] at hr
  rw [← hr]
  cases prevR l i <;> simp [recsErr, hn]
theorem recsErr_first {l : List Rec} {i : Nat} {x : Rec} {R : Int × Int} (hr : recsErr i (prevR l i) (l.drop i) = R) (h : l[i]? = some x) (hn : recErr x = 0) (hi : ¬ 0 < (i : Int)) : recsErr (i + 1 : Nat) (prevR l (i + 1)) (l.drop (i + 1)) = R := by
  rw [drop_of_get h] at hr
  rw [prevR_succ h, ← hr, show i = 0 by omega]
  simp [recsErr, hn, prevR]
theorem recsErr_gap {l : List Rec} {i : Nat} {x y : Rec} {R : Int × Int} (hr : recsErr i (prevR l i) (l.drop i) = R) (h : l[i]? = some x) (hn : recErr x = 0) (hi : 0 < (i : Int)) (hy : l[((i : Int) - 1).toNat]? = some y) (hg : gapErr y x ≠ 0) : (↑i, gapErr y x) = R := by
  rw [drop_of_get h] at hr
  rw [← hr]
  have hy : l[i - 1]? = some y := by rw [← hy]; congr 1; omega
  have hi : i ≠ 0 := by omega
  simp [recsErr, hn, prevR, hi, hy, hg]
theorem recsErr_gap5 {l : List Rec} {i : Nat} {x y : Rec} {R : Int × Int} (hr : recsErr i (prevR l i) (l.drop i) = R) (h : l[i]? = some x) (hn : recErr x = 0) (hi : 0 < (i : Int)) (hy : l[((i : Int) - 1).toNat]? = some y) (hg : y.To < x.From) : (↑i, 5) = R := by
  have e : gapErr y x = 5 := if_pos hg
  rw [← recsErr_gap hr h hn hi hy (by rw [e]; decide), e]
theorem recsErr_gap6 {l : List Rec} {i : Nat} {x y : Rec} {R : Int × Int} (hr : recsErr i (prevR l i) (l.drop i) = R) (h : l[i]? = some x) (hn : recErr x = 0) (hi : 0 < (i : Int)) (hy : l[((i : Int) - 1).toNat]? = some y) (h5 : ¬ y.To < x.From) (hg : x.From < y.To) : (↑i, 6) = R := by
  have e : gapErr y x = 6 := by unfold gapErr; rw [if_neg h5, if_pos hg]
  rw [← recsErr_gap hr h hn hi hy (by rw [e]; decide), e]
theorem recsErr_next {l : List Rec} {i : Nat} {x y : Rec} {R : Int × Int} (hr : recsErr i (prevR l i) (l.drop i) = R) (h : l[i]? = some x) (hn : recErr x = 0) (hi : 0 < (i : Int)) (hy : l[((i : Int) - 1).toNat]? = some y) (h5 : ¬ y.To < x.From) (h6 : ¬ x.From < y.To) : recsErr (i + 1 : Nat) (prevR l (i + 1)) (l.drop (i + 1)) = R := by
  have e : gapErr y x = 0 := by unfold gapErr; rw [if_neg h5, if_neg h6]
  rw [drop_of_get h] at hr
  rw [prevR_succ h, ← hr]
  have hy : l[i - 1]? = some y := by rw [← hy]; congr 1; omega
  have hi : i ≠ 0 := by omega
  simp [recsErr, hn, prevR, hi, hy, e]
theorem recsErr_w {l : List Rec} {i : Nat} {x : Rec} {R : Int × Int} {c : Int} (hr : recsErr i (prevR l i) (l.drop i) = R) (h : l[i]? = some x) (hn : recErr x = c) (hc : c ≠ 0) : (↑i, c) = R := by
  rw [← hn] at hc ⊢; exact recsErr_0 hr h hc
theorem recsErr_end {l : List Rec} {i : Nat} {R : Int × Int} (hr : recsErr i (prevR l i) (l.drop i) = R) (h : ¬ (i : Int) < l.length) : (0, 0) = R := by
  rw [List.drop_eq_nil_of_le (by omega)] at hr
  rw [← hr]
  cases prevR l i <;> simp [recsErr]
def pairG (p : Int × Int) : GV := .tup [gi p.1, gi p.2]

set_option maxRecDepth 100000 in
theorem kind08_ok (k : Int) : ICalls Try.prog 140 [gi k] [] (Done (gb (decide (0 ≤ k) && decide (k < 4))) []) := by
  refine ICalls.of_body Try.func140 rfl Try.call140 rfl (Nat.le_of_ble_eq_true rfl) (fun _ => none) rfl ?_
  repeat' ((conv => whnf); first
    | refine Br.yes rfl ?_
    | refine Br.no rfl ?_
    | refine Br.yes (beq_self_eq_true _) ?_
    | refine Br.not ?_
    | refine Br.yes (decide_eq_true (by assumption)) ?_
    | refine Br.no (decide_eq_false (by assumption)) ?_
    | refine Br.yes (beq_iff_eq.2 (by assumption)) ?_
    | refine Br.no (beq_eq_false_iff_ne.2 (by assumption)) ?_
    | refine Br.yes (bne_iff_ne.2 (by assumption)) ?_
    | (refine Br.dec (fun h => ?_) (fun h => ?_) <;> try dsimp only at h)
    | (refine Br.beqI (fun h => ?_) (fun h => ?_) <;> try dsimp only at h)
    | (refine Br.bneI (fun h => ?_) (fun h => ?_) <;> try dsimp only at h)
    | refine Br.mk (fun h => ?_) (fun h => ?_)
    | refine Need.mk (by first | kernel_rfl | exact ⟨of_decide_eq_true rfl, of_decide_eq_true rfl⟩ | omega) ?_
    | refine Len.mk ⟨_, by simp only [List.length_cons, List.length_nil, Nat.reduceAdd, Int.cast_ofNat_Int]; rfl, ?_⟩
    | refine Wr.lit _ (by simp only [Int.reduceAdd, Int.reduceSub, Int.reduceMul]; rfl) (by decide) ?_
    | refine Wr.fit (by omega) ?_
    | refine Wr.fit (by dsimp only; omega) ?_
    | refine Elem.mk ⟨_, ⟨of_decide_eq_true rfl, rfl⟩, ?_⟩
    | refine Len.map ?_
    | refine Len.dropM ?_
    | refine Elem.dropM ?_
    | refine Len.takeM ?_
    | refine Elem.takeM ?_
    | refine Elem.mapK (by assumption) ?_
    | refine Elem.mapI (by omega) (by assumption) ?_
    | refine Elem.mapN (by omega) (fun x hx => ?_)
    | refine Elem.map (by omega) (by omega) (fun x hx => ?_)
    | refine Done.mk ⟨rfl, rfl⟩
    | refine Done.mk ⟨congrArg gb ?_, rfl⟩
    | refine Done.mk ⟨?_, rfl⟩
    | refine Done.mk ⟨?_, ?_⟩)
  all_goals first
    | (simp_all; done)
    | (simp_all; omega)
set_option maxRecDepth 100000 in
theorem in08_ok (k : Int) : ICalls Try.prog 141 [gi k] [] (Done (gb (decide (0 ≤ k) && decide (k ≤ 40320))) []) := by
  refine ICalls.of_body Try.func141 rfl Try.call141 rfl (Nat.le_of_ble_eq_true rfl) (fun _ => none) rfl ?_
  repeat' ((conv => whnf); first
    | refine Br.yes rfl ?_
    | refine Br.no rfl ?_
    | refine Br.yes (beq_self_eq_true _) ?_
    | refine Br.not ?_
    | refine Br.yes (decide_eq_true (by assumption)) ?_
    | refine Br.no (decide_eq_false (by assumption)) ?_
    | refine Br.yes (beq_iff_eq.2 (by assumption)) ?_
    | refine Br.no (beq_eq_false_iff_ne.2 (by assumption)) ?_
    | refine Br.yes (bne_iff_ne.2 (by assumption)) ?_
    | (refine Br.dec (fun h => ?_) (fun h => ?_) <;> try dsimp only at h)
    | (refine Br.beqI (fun h => ?_) (fun h => ?_) <;> try dsimp only at h)
    | (refine Br.bneI (fun h => ?_) (fun h => ?_) <;> try dsimp only at h)
    | refine Br.mk (fun h => ?_) (fun h => ?_)
    | refine Need.mk (by first | kernel_rfl | exact ⟨of_decide_eq_true rfl, of_decide_eq_true rfl⟩ | omega) ?_
    | refine Len.mk ⟨_, by simp only [List.length_cons, List.length_nil, Nat.reduceAdd, Int.cast_ofNat_Int]; rfl, ?_⟩
    | refine Wr.lit _ (by simp only [Int.reduceAdd, Int.reduceSub, Int.reduceMul]; rfl) (by decide) ?_
    | refine Wr.fit (by omega) ?_
    | refine Wr.fit (by dsimp only; omega) ?_
    | refine Elem.mk ⟨_, ⟨of_decide_eq_true rfl, rfl⟩, ?_⟩
    | refine Len.map ?_
    | refine Len.dropM ?_
    | refine Elem.dropM ?_
    | refine Len.takeM ?_
    | refine Elem.takeM ?_
    | refine Elem.mapK (by assumption) ?_
    | refine Elem.mapI (by omega) (by assumption) ?_
    | refine Elem.mapN (by omega) (fun x hx => ?_)
    | refine Elem.map (by omega) (by omega) (fun x hx => ?_)
    | refine Done.mk ⟨rfl, rfl⟩
    | refine Done.mk ⟨congrArg gb ?_, rfl⟩
    | refine Done.mk ⟨?_, rfl⟩
    | refine Done.mk ⟨?_, ?_⟩)
  all_goals first
    | (simp_all; done)
    | (simp_all; omega)
set_option maxRecDepth 100000 in
theorem fault_ok (r : Rec) : ICalls Try.prog 134 [r.g] [] (Done (gi (recErr r)) []) := by
  refine ICalls.of_body Try.func134 rfl Try.call134 rfl (Nat.le_of_ble_eq_true rfl) (fun _ => none) rfl ?_
  repeat' ((conv => whnf); first
    | refine Br.yes rfl ?_
    | refine Br.no rfl ?_
    | refine Done.mk ⟨congrArg gi ?_, rfl⟩
    | refine Br.yes (beq_self_eq_true _) ?_
    | refine Br.not ?_
    | refine Br.yes (decide_eq_true (by assumption)) ?_
    | refine Br.no (decide_eq_false (by assumption)) ?_
    | refine Br.yes (beq_iff_eq.2 (by assumption)) ?_
    | refine Br.no (beq_eq_false_iff_ne.2 (by assumption)) ?_
    | refine Br.yes (bne_iff_ne.2 (by assumption)) ?_
    | (refine Br.dec (fun h => ?_) (fun h => ?_) <;> try dsimp only at h)
    | (refine Br.beqI (fun h => ?_) (fun h => ?_) <;> try dsimp only at h)
    | (refine Br.bneI (fun h => ?_) (fun h => ?_) <;> try dsimp only at h)
    | refine Br.mk (fun h => ?_) (fun h => ?_)
    | refine Need.mk (by first | kernel_rfl | exact ⟨of_decide_eq_true rfl, of_decide_eq_true rfl⟩ | omega) ?_
    | refine Len.mk ⟨_, by simp only [List.length_cons, List.length_nil, Nat.reduceAdd, Int.cast_ofNat_Int]; rfl, ?_⟩
    | refine Wr.lit _ (by simp only [Int.reduceAdd, Int.reduceSub, Int.reduceMul]; rfl) (by decide) ?_
    | refine Wr.fit (by omega) ?_
    | refine Wr.fit (by dsimp only; omega) ?_
    | refine Elem.mk ⟨_, ⟨of_decide_eq_true rfl, rfl⟩, ?_⟩
    | refine Len.map ?_
    | refine Len.dropM ?_
    | refine Elem.dropM ?_
    | refine Len.takeM ?_
    | refine Elem.takeM ?_
    | refine Elem.mapK (by assumption) ?_
    | refine Elem.mapI (by omega) (by assumption) ?_
    | refine Elem.mapN (by omega) (fun x hx => ?_)
    | refine Elem.map (by omega) (by omega) (fun x hx => ?_)
    | refine (kind08_ok r.Kind).use ⟨rfl, ?_⟩
    | refine (in08_ok r.From).use ⟨rfl, ?_⟩
    | refine (in08_ok r.To).use ⟨rfl, ?_⟩
    | refine CallX.mk ⟨_, _, (kind08_ok r.Kind).x, rfl, ?_⟩
    | refine CallX.mk ⟨_, _, (in08_ok r.From).x, rfl, ?_⟩
    | refine CallX.mk ⟨_, _, (in08_ok r.To).x, rfl, ?_⟩
    | refine Done.mk ⟨rfl, rfl⟩
    | refine Done.mk ⟨congrArg gb ?_, rfl⟩
    | refine Done.mk ⟨?_, rfl⟩
    | refine Done.mk ⟨?_, ?_⟩)
  all_goals (simp only [Bool.and_eq_true, Bool.and_eq_false_iff, decide_eq_true_eq, decide_eq_false_iff_not] at *; unfold recErr; grind)

def pl_E1_1 : Nat → Option (List Nat × List Nat) := (fun k => bif Nat.beq k 2 then some ([1000002, 0, 8, 9, 10], []) else none)
set_option maxRecDepth 100000 in
set_option maxHeartbeats 1000000 in
theorem recCheck_ok (l : List Rec) (hl : (l.length : Int) ≤ 1000000000) : ICalls Try.prog 120 [.list 3 (recs l) none] [] (Done (pairG (recsErr 0 none l)) []) := by
  generalize hR : recsErr 0 none l = R
  refine ICalls.of_body Try.func120 rfl Try.call120 rfl (Nat.le_of_ble_eq_true rfl) pl_E1_1 rfl ?_
  repeat' ((conv => whnf); first
    | refine Br.yes rfl ?_
    | refine Br.no rfl ?_
    | (refine ILoop.ov 1000002 (fun (i : Nat) => [(10, gi i)]) (fun (i : Nat) => []) (fun (i : Nat) => i ≤ l.length ∧ recsErr i (prevR l i) (l.drop i) = R) (fun (i : Nat) => l.length - i) (0) (by exact rfl) ?_; (conv => whnf); refine Start.mk rfl ?_ ?_; (try dsimp only); rotate_left; rintro i ⟨hi, hr⟩)
    | (refine Again.mk ⟨(i + 1), rfl, ?_, ?_⟩ <;> try dsimp only)
    | refine Br.yes (beq_self_eq_true _) ?_
    | refine Br.not ?_
    | refine Br.yes (decide_eq_true (by assumption)) ?_
    | refine Br.no (decide_eq_false (by assumption)) ?_
    | refine Br.yes (beq_iff_eq.2 (by assumption)) ?_
    | refine Br.no (beq_eq_false_iff_ne.2 (by assumption)) ?_
    | refine Br.yes (bne_iff_ne.2 (by assumption)) ?_
    | (refine Br.dec (fun h => ?_) (fun h => ?_) <;> try dsimp only at h)
    | (refine Br.beqI (fun h => ?_) (fun h => ?_) <;> try dsimp only at h)
    | (refine Br.bneI (fun h => ?_) (fun h => ?_) <;> try dsimp only at h)
    | refine Br.mk (fun h => ?_) (fun h => ?_)
    | refine Need.mk (by first | kernel_rfl | exact ⟨of_decide_eq_true rfl, of_decide_eq_true rfl⟩ | omega) ?_
    | refine Len.mk ⟨_, by simp only [List.length_cons, List.length_nil, Nat.reduceAdd, Int.cast_ofNat_Int]; rfl, ?_⟩
    | refine Wr.lit _ (by simp only [Int.reduceAdd, Int.reduceSub, Int.reduceMul]; rfl) (by decide) ?_
    | refine Wr.fit (by omega) ?_
    | refine Wr.fit (by dsimp only; omega) ?_
    | refine Elem.mk ⟨_, ⟨of_decide_eq_true rfl, rfl⟩, ?_⟩
    | refine Len.map ?_
    | refine Len.dropM ?_
    | refine Elem.dropM ?_
    | refine Len.takeM ?_
    | refine Elem.takeM ?_
    | refine Elem.mapK (by assumption) ?_
    | refine Elem.mapI (by omega) (by assumption) ?_
    | refine Elem.mapN (by omega) (fun x hx => ?_)
    | refine Elem.map (by omega) (by omega) (fun x hx => ?_)
    | refine (fault_ok x).use ⟨rfl, ?_⟩
    | refine CallX.mk ⟨_, _, (fault_ok x).x, rfl, ?_⟩
    | refine Done.mk ⟨rfl, rfl⟩
    | refine Done.mk ⟨congrArg gb ?_, rfl⟩
    | refine Done.mk ⟨?_, rfl⟩
    | refine Done.mk ⟨?_, ?_⟩)
  all_goals first
    | omega
    | exact ⟨by omega, hR⟩
    | (have e := recsErr_end hr h; exact congrArg pairG e)
    | (have e := recsErr_w hr hx rfl h; exact congrArg pairG e)
    | exact ⟨by omega, recsErr_first hr hx (by assumption) (by omega)⟩
    | (have e := recsErr_gap5 hr (by assumption) (by assumption) (by omega) hx h; exact congrArg pairG e)
    | (have e := recsErr_gap6 hr (by assumption) (by assumption) (by omega) hx (by assumption) h; exact congrArg pairG e)
    | exact ⟨by omega, recsErr_next hr (by assumption) (by assumption) (by omega) hx (by assumption) h⟩

end Go.Hl

/- Contracts: the minutes' kinds of a timeline; what it comes to.  -/
set_option linter.unusedVariables false
set_option linter.unusedSimpArgs false
namespace Go.Hl
open Go.Gh Go.Proofs

def kindsOf (l : List Rec) : List Int := l.flatMap fun r => List.replicate (r.To - r.From).toNat r.Kind
def beginOf (l : List Rec) : Int := match l with
  | [] => 0
  | r :: _ => r.From
theorem kinds_cons {l : List Rec} {i : Nat} {x : Rec} (h : l[i]? = some x) : kindsOf (l.drop i) = List.replicate (x.To - x.From).toNat x.Kind ++ kindsOf (l.drop (i + 1)) := by
  rw [drop_of_get h]; rfl

end Go.Hl

/- What a timeline comes to: both texts; the law MeterOf.  -/
set_option linter.unusedVariables false
set_option linter.unusedSimpArgs false
namespace Go.Hl
open Go.Gh Go.Proofs

/-- Records that follow each other, from a minute on. -/
def Chain : Int → List Rec → Prop
  | _, [] => True
  | a, r :: t => r.From = a ∧ recErr r = 0 ∧ Chain r.To t
theorem recErr_inv {r : Rec} (h : recErr r = 0) : (0 ≤ r.Kind ∧ r.Kind < 4) ∧ 0 ≤ r.From ∧ r.From < r.To ∧ r.To ≤ 40320 := by unfold recErr at h; grind
theorem chain_of : ∀ (l : List Rec) (i : Int) (q : Rec), (recsErr i (some q) l).2 = 0 → Chain q.To l
  | [], _, _, _ => trivial
  | r :: t, i, q, h => by
    unfold recsErr at h
    split at h
    · rename_i h1; exact absurd h h1
    · rename_i h1
      split at h
      · rename_i h2; exact absurd h h2
      · rename_i h2
        refine ⟨?_, by omega, chain_of t _ r h⟩
        unfold gapErr at h2; grind
theorem chain_first {l : List Rec} (h : (recsErr 0 none l).2 = 0) : Chain (beginOf l) l := by
  cases l with
  | nil => trivial
  | cons r t =>
    unfold recsErr at h
    split at h
    · rename_i h1; exact absurd h h1
    · rename_i h1
      exact ⟨rfl, by omega, chain_of t _ r h⟩
theorem chain_len : ∀ (l : List Rec) (a : Int), Chain a l → a ≤ 40320 → ((kindsOf l).length : Int) + a ≤ 40320
  | [], a, _, h => by simp [kindsOf]; omega
  | r :: t, a, ⟨h1, h2, h3⟩, h => by
    have h4 := recErr_inv h2
    have h5 := chain_len t r.To h3 (by omega)
    have e : kindsOf (r :: t) = List.replicate (r.To - r.From).toNat r.Kind ++ kindsOf t := rfl
    rw [e, List.length_append, List.length_replicate]
    omega
theorem chain_all : ∀ (l : List Rec) (a : Int), Chain a l → ∀ r, r ∈ l → recErr r = 0
  | r :: t, a, ⟨h1, h2, h3⟩, x, hx => by
    rcases List.mem_cons.1 hx with rfl | hx
    · exact h2
    · exact chain_all t _ h3 x hx
theorem chain_get {l : List Rec} {i : Nat} {x : Rec} {a : Int} (h : Chain a (l.drop i)) (hx : l[i]? = some x) : x.From = a ∧ recErr x = 0 ∧ Chain x.To (l.drop (i + 1)) := by
  rw [drop_of_get hx] at h; exact h

def ofAll (b : Book) (l : List Rec) : Meter × Int × Int :=
  if b.May then (if (recsErr 0 none l).2 ≠ 0 then (Meter.zero, 0, (recsErr 0 none l).2) else if beginOf l ≠ 0 then (Meter.zero, 0, 5) else runM b (kindsOf l) Meter.zero 0) else (Meter.zero, 0, 14)
theorem zero_May : Meter.zero.May := by decide +kernel
theorem recsErr_pair {l : List Rec} {e : Int} (h : (recsErr 0 none l).2 = e) : ∃ i, recsErr 0 none l = (i, e) := ⟨(recsErr 0 none l).1, by rw [← h]⟩

theorem of_next {b : Book} {nn : Meter} {x : Rec} {j bb : Int} {r : List Int} {R : Meter × Int × Int} (hb : b.May) (hj : 0 ≤ j ∧ j ≤ x.To - x.From ∧ nn.Now = x.From + j ∧ 0 ≤ x.From ∧ x.To ≤ 40320) (hn : nn.May)
    (hq : runM b (List.replicate (x.To - x.From - j).toNat x.Kind ++ r) nn bb = R) (h : j < x.To - x.From) (hk : 0 ≤ x.Kind ∧ x.Kind < 4) :
    (0 ≤ j + 1 ∧ j + 1 ≤ x.To - x.From ∧ (nn.step b x.Kind).Now = x.From + (j + 1) ∧ 0 ≤ x.From ∧ x.To ≤ 40320) ∧ (nn.step b x.Kind).May ∧
      runM b (List.replicate (x.To - x.From - (j + 1)).toNat x.Kind ++ r) (nn.step b x.Kind) (stepBits b nn x.Kind bb) = R := by
  obtain ⟨g1, g2⟩ := hn.step (b := b) (by omega) x.Kind
  refine ⟨⟨by omega, by omega, by omega, by omega, by omega⟩, g1, ?_⟩
  rw [show (x.To - x.From - j).toNat = (x.To - x.From - (j + 1)).toNat + 1 by omega, List.replicate_succ, List.cons_append, runM, if_neg (by omega), if_neg (by omega)] at hq
  exact hq
theorem of_chain {l : List Rec} {i : Nat} {x : Rec} {mm nn : Meter} {j : Int} (hc : Chain mm.Now (l.drop i)) (hx : l[i]? = some x) (hj : 0 ≤ j ∧ j ≤ x.To - x.From ∧ nn.Now = x.From + j ∧ 0 ≤ x.From ∧ x.To ≤ 40320) (h : ¬ j < x.To - x.From) : Chain nn.Now (l.drop (i + 1)) := by
  have := (chain_get hc hx).2.2
  rwa [show nn.Now = x.To by omega]
theorem of_over {b : Book} {nn : Meter} {x : Rec} {j bb : Int} {r : List Int} {R : Meter × Int × Int} (hq : runM b (List.replicate (x.To - x.From - j).toNat x.Kind ++ r) nn bb = R) (h : ¬ j < x.To - x.From) : runM b r nn bb = R := by
  rw [show (x.To - x.From - j).toNat = 0 by omega] at hq; exact hq
theorem of_first {l : List Rec} {i : Nat} {x : Rec} {mm : Meter} (hc : Chain mm.Now (l.drop i)) (hx : l[i]? = some x) : 0 ≤ (0 : Int) ∧ (0 : Int) ≤ x.To - x.From ∧ mm.Now = x.From + 0 ∧ 0 ≤ x.From ∧ x.To ≤ 40320 := by
  have h1 := chain_get hc hx
  have h2 := recErr_inv h1.2.1
  omega
theorem of_kinds {b : Book} {l : List Rec} {i : Nat} {x : Rec} {mm : Meter} {bits : Int} {R : Meter × Int × Int} (hr : runM b (kindsOf (l.drop i)) mm bits = R) (hx : l[i]? = some x) : runM b (List.replicate (x.To - x.From - 0).toNat x.Kind ++ kindsOf (l.drop (i + 1))) mm bits = R := by
  rw [kinds_cons hx] at hr; simpa using hr
theorem of_room {l : List Rec} {i : Nat} {x : Rec} {mm : Meter} (hc : Chain mm.Now (l.drop i)) (hx : l[i]? = some x) : -9223372036854775808 ≤ x.To - x.From ∧ x.To - x.From ≤ 9223372036854775807 := by
  have h1 := chain_get hc hx
  have h2 := recErr_inv h1.2.1
  omega
theorem of_end {b : Book} {l : List Rec} {i : Nat} {mm : Meter} {bits : Int} {R : Meter × Int × Int} (hr : runM b (kindsOf (l.drop i)) mm bits = R) (h : ¬ (i : Int) < l.length) : (mm, bits, 0) = R := by
  rw [List.drop_eq_nil_of_le (by omega)] at hr; exact hr

def pl_E3_1 : Nat → Option (List Nat × List Nat) := (fun k => bif Nat.beq k 11 then some ([1000011, 4, 10, 42, 43, 44], [104, 141]) else bif Nat.beq k 14 then some ([1000014, 4, 10, 12, 42, 43, 44, 52, 53], [104, 112, 141]) else none)
def pl_E3_2 : Nat → Option (List Nat × List Nat) := (fun k => bif Nat.beq k 11 then some ([1000011, 4, 10, 42, 43, 44], [104, 141]) else bif Nat.beq k 14 then some ([1000014, 4, 10, 12, 42, 43, 44, 52, 53], [104, 112, 141]) else none)
def pl_E3_3 : Nat → Option (List Nat × List Nat) := (fun k => bif Nat.beq k 11 then some ([1000011, 4, 10, 42, 43, 44], [104, 141]) else bif Nat.beq k 14 then some ([1000014, 4, 10, 12, 42, 43, 44, 52, 53], [104, 112, 141]) else none)
def pl_E3_4 : Nat → Option (List Nat × List Nat) := (fun k => bif Nat.beq k 11 then some ([1000011, 4, 10, 42, 43, 44], [104, 141]) else bif Nat.beq k 14 then some ([1000014, 4, 10, 12, 42, 43, 44, 52, 53], [104, 112, 141]) else none)
set_option maxRecDepth 100000 in
set_option maxHeartbeats 1000000 in
theorem meterOf_ok (b : Book) (l : List Rec) (hl : (l.length : Int) ≤ 1000000000) : ICalls Try.prog 127 [b.g, .list 3 (recs l) none] [] (Done (runV (ofAll b l)) []) := by
  by_cases hb : b.May
  case neg =>
    have hc : b.code = 14 := if_neg hb
    rw [show ofAll b l = (Meter.zero, 0, 14) from if_neg hb]
    refine ICalls.of_body Try.func127 rfl Try.call127 rfl (Nat.le_of_ble_eq_true rfl) pl_E3_1 rfl ?_
    repeat' ((conv => whnf); first
      | refine Br.yes rfl ?_
      | refine Br.no rfl ?_
      | refine Br.yes (beq_self_eq_true _) ?_
      | refine Br.not ?_
      | refine Br.yes (decide_eq_true (by assumption)) ?_
      | refine Br.no (decide_eq_false (by assumption)) ?_
      | refine Br.yes (beq_iff_eq.2 (by assumption)) ?_
      | refine Br.no (beq_eq_false_iff_ne.2 (by assumption)) ?_
      | refine Br.yes (bne_iff_ne.2 (by assumption)) ?_
      | (refine Br.dec (fun h => ?_) (fun h => ?_) <;> try dsimp only at h)
      | (refine Br.beqI (fun h => ?_) (fun h => ?_) <;> try dsimp only at h)
      | (refine Br.bneI (fun h => ?_) (fun h => ?_) <;> try dsimp only at h)
      | refine Br.mk (fun h => ?_) (fun h => ?_)
      | refine Need.mk (by first | kernel_rfl | exact ⟨of_decide_eq_true rfl, of_decide_eq_true rfl⟩ | omega) ?_
      | refine Len.mk ⟨_, by simp only [List.length_cons, List.length_nil, Nat.reduceAdd, Int.cast_ofNat_Int]; rfl, ?_⟩
      | refine Wr.lit _ (by simp only [Int.reduceAdd, Int.reduceSub, Int.reduceMul]; rfl) (by decide) ?_
      | refine Wr.fit (by omega) ?_
      | refine Wr.fit (by dsimp only; omega) ?_
      | refine Elem.mk ⟨_, ⟨of_decide_eq_true rfl, rfl⟩, ?_⟩
      | refine Len.map ?_
      | refine Len.dropM ?_
      | refine Elem.dropM ?_
      | refine Len.takeM ?_
      | refine Elem.takeM ?_
      | refine Elem.mapK (by assumption) ?_
      | refine Elem.mapI (by omega) (by assumption) ?_
      | refine Elem.mapN (by omega) (fun x hx => ?_)
      | refine Elem.map (by omega) (by omega) (fun x hx => ?_)
      | refine ((bookCheck_ok b).to (congrArg gi hc)).use ⟨rfl, ?_⟩
      | refine CallX.mk ⟨_, _, ((bookCheck_ok b).to (congrArg gi hc)).x, rfl, ?_⟩
      | refine Done.mk ⟨rfl, rfl⟩
      | refine Done.mk ⟨congrArg gb ?_, rfl⟩
      | refine Done.mk ⟨?_, rfl⟩
      | refine Done.mk ⟨?_, ?_⟩)
  case pos =>
  have hc : b.code = 0 := if_pos hb
  obtain ⟨e, he⟩ : ∃ e, (recsErr 0 none l).2 = e := ⟨_, rfl⟩
  obtain ⟨at', hp⟩ := recsErr_pair he
  by_cases h0 : e = 0
  case neg =>
    rw [show ofAll b l = (Meter.zero, 0, e) from by unfold ofAll; rw [if_pos hb, he, if_pos h0]]
    refine ICalls.of_body Try.func127 rfl Try.call127 rfl (Nat.le_of_ble_eq_true rfl) pl_E3_2 rfl ?_
    repeat' ((conv => whnf); first
      | refine Br.yes rfl ?_
      | refine Br.no rfl ?_
      | refine Br.yes (beq_self_eq_true _) ?_
      | refine Br.not ?_
      | refine Br.yes (decide_eq_true (by assumption)) ?_
      | refine Br.no (decide_eq_false (by assumption)) ?_
      | refine Br.yes (beq_iff_eq.2 (by assumption)) ?_
      | refine Br.no (beq_eq_false_iff_ne.2 (by assumption)) ?_
      | refine Br.yes (bne_iff_ne.2 (by assumption)) ?_
      | (refine Br.dec (fun h => ?_) (fun h => ?_) <;> try dsimp only at h)
      | (refine Br.beqI (fun h => ?_) (fun h => ?_) <;> try dsimp only at h)
      | (refine Br.bneI (fun h => ?_) (fun h => ?_) <;> try dsimp only at h)
      | refine Br.mk (fun h => ?_) (fun h => ?_)
      | refine Need.mk (by first | kernel_rfl | exact ⟨of_decide_eq_true rfl, of_decide_eq_true rfl⟩ | omega) ?_
      | refine Len.mk ⟨_, by simp only [List.length_cons, List.length_nil, Nat.reduceAdd, Int.cast_ofNat_Int]; rfl, ?_⟩
      | refine Wr.lit _ (by simp only [Int.reduceAdd, Int.reduceSub, Int.reduceMul]; rfl) (by decide) ?_
      | refine Wr.fit (by omega) ?_
      | refine Wr.fit (by dsimp only; omega) ?_
      | refine Elem.mk ⟨_, ⟨of_decide_eq_true rfl, rfl⟩, ?_⟩
      | refine Len.map ?_
      | refine Len.dropM ?_
      | refine Elem.dropM ?_
      | refine Len.takeM ?_
      | refine Elem.takeM ?_
      | refine Elem.mapK (by assumption) ?_
      | refine Elem.mapI (by omega) (by assumption) ?_
      | refine Elem.mapN (by omega) (fun x hx => ?_)
      | refine Elem.map (by omega) (by omega) (fun x hx => ?_)
      | refine ((bookCheck_ok b).to (congrArg gi hc)).use ⟨rfl, ?_⟩
      | refine ((recCheck_ok l hl).to (congrArg pairG hp)).use ⟨rfl, ?_⟩
      | refine CallX.mk ⟨_, _, ((bookCheck_ok b).to (congrArg gi hc)).x, rfl, ?_⟩
      | refine CallX.mk ⟨_, _, ((recCheck_ok l hl).to (congrArg pairG hp)).x, rfl, ?_⟩
      | refine Done.mk ⟨rfl, rfl⟩
      | refine Done.mk ⟨congrArg gb ?_, rfl⟩
      | refine Done.mk ⟨?_, rfl⟩
      | refine Done.mk ⟨?_, ?_⟩)
  case pos =>
  subst h0
  have hch := chain_first he
  by_cases h1 : beginOf l = 0
  case neg =>
    rw [show ofAll b l = (Meter.zero, 0, 5) from by unfold ofAll; rw [if_pos hb, he, if_neg (by simp), if_pos h1]]
    cases l with
    | nil => exact absurd rfl h1
    | cons r t =>
      have h1 : r.From ≠ 0 := h1
      have hcall := (recCheck_ok (r :: t) hl).to (congrArg pairG hp)
      clear hp he hch hl
      refine ICalls.of_body Try.func127 rfl Try.call127 rfl (Nat.le_of_ble_eq_true rfl) pl_E3_3 rfl ?_
      repeat' ((conv => whnf); first
        | refine Br.yes rfl ?_
        | refine Br.no rfl ?_
        | refine Br.yes (decide_eq_true (show (0 : Int) < ((r :: t).length : Nat) from by simp)) ?_
        | refine Br.yes (beq_self_eq_true _) ?_
        | refine Br.not ?_
        | refine Br.yes (decide_eq_true (by assumption)) ?_
        | refine Br.no (decide_eq_false (by assumption)) ?_
        | refine Br.yes (beq_iff_eq.2 (by assumption)) ?_
        | refine Br.no (beq_eq_false_iff_ne.2 (by assumption)) ?_
        | refine Br.yes (bne_iff_ne.2 (by assumption)) ?_
        | (refine Br.dec (fun h => ?_) (fun h => ?_) <;> try dsimp only at h)
        | (refine Br.beqI (fun h => ?_) (fun h => ?_) <;> try dsimp only at h)
        | (refine Br.bneI (fun h => ?_) (fun h => ?_) <;> try dsimp only at h)
        | refine Br.mk (fun h => ?_) (fun h => ?_)
        | refine Need.mk (by first | kernel_rfl | exact ⟨of_decide_eq_true rfl, of_decide_eq_true rfl⟩ | omega) ?_
        | refine Len.mk ⟨_, by simp only [List.length_cons, List.length_nil, Nat.reduceAdd, Int.cast_ofNat_Int]; rfl, ?_⟩
        | refine Wr.lit _ (by simp only [Int.reduceAdd, Int.reduceSub, Int.reduceMul]; rfl) (by decide) ?_
        | refine Wr.fit (by omega) ?_
        | refine Wr.fit (by dsimp only; omega) ?_
        | refine Elem.mk ⟨_, ⟨of_decide_eq_true rfl, rfl⟩, ?_⟩
        | refine Len.map ?_
        | refine Len.dropM ?_
        | refine Elem.dropM ?_
        | refine Len.takeM ?_
        | refine Elem.takeM ?_
        | refine Elem.mapK (by assumption) ?_
        | refine Elem.mapI (by omega) (by assumption) ?_
        | refine Elem.mapN (by omega) (fun x hx => ?_)
        | refine Elem.map (by omega) (by omega) (fun x hx => ?_)
        | refine ((bookCheck_ok b).to (congrArg gi hc)).use ⟨rfl, ?_⟩
        | refine (hcall).use ⟨rfl, ?_⟩
        | refine CallX.mk ⟨_, _, ((bookCheck_ok b).to (congrArg gi hc)).x, rfl, ?_⟩
        | refine CallX.mk ⟨_, _, (hcall).x, rfl, ?_⟩
        | refine Done.mk ⟨rfl, rfl⟩
        | refine Done.mk ⟨congrArg gb ?_, rfl⟩
        | refine Done.mk ⟨?_, rfl⟩
        | refine Done.mk ⟨?_, ?_⟩)
  case pos =>
    rw [h1] at hch
    have hfirst : ∀ r, l[(0 : Int).toNat]? = some r → r.From = 0 := by
      intro r hr
      cases l with
      | nil => cases hr
      | cons q t => cases hr; exact h1
    rw [show ofAll b l = runM b (kindsOf l) Meter.zero 0 from by unfold ofAll; rw [if_pos hb, he, if_neg (by simp), if_neg (by simp [h1])]]
    have hcall := (recCheck_ok l hl).to (congrArg pairG hp)
    clear hp he
    refine ICalls.of_body Try.func127 rfl Try.call127 rfl (Nat.le_of_ble_eq_true rfl) pl_E3_4 rfl ?_
    repeat' ((conv => whnf); first
      | refine Br.yes rfl ?_
      | refine Br.no rfl ?_
      | (refine Elem.mapN (by omega) (fun x hx => ?_); have hroom := of_room hcn hx)
      | (refine ILoop.ov 1000014 (fun ((j, nn, bb) : Int × Meter × Int) => [(53, gi j)]) (fun ((j, nn, bb) : Int × Meter × Int) => [(141, .cells (runC b nn bb))]) (fun ((j, nn, bb) : Int × Meter × Int) => (0 ≤ j ∧ j ≤ x.To - x.From ∧ nn.Now = x.From + j ∧ 0 ≤ x.From ∧ x.To ≤ 40320) ∧ nn.May ∧ runM b (List.replicate (x.To - x.From - j).toNat x.Kind ++ kindsOf (l.drop (i + 1))) nn bb = runM b (kindsOf l) Meter.zero 0) (fun ((j, nn, bb) : Int × Meter × Int) => (x.To - x.From - j).toNat) ((0, mm, bits)) (by exact rfl) ?_; (conv => whnf); refine Start.mk rfl ?_ ?_; (try dsimp only); rotate_left; rintro ⟨j, nn, bb⟩ ⟨hj, hnn, hq⟩)
      | (refine Again.mk ⟨((j + 1, nn.step b x.Kind, stepBits b nn x.Kind bb)), rfl, ?_, ?_⟩ <;> try dsimp only)
      | (refine ILoop.ov 1000011 (fun ((i, mm, bits) : Nat × Meter × Int) => [(44, gi i)]) (fun ((i, mm, bits) : Nat × Meter × Int) => [(141, .cells (runC b mm bits))]) (fun ((i, mm, bits) : Nat × Meter × Int) => i ≤ l.length ∧ mm.May ∧ Chain mm.Now (l.drop i) ∧ runM b (kindsOf (l.drop i)) mm bits = runM b (kindsOf l) Meter.zero 0) (fun ((i, mm, bits) : Nat × Meter × Int) => l.length - i) ((0, Meter.zero, 0)) (by exact rfl) ?_; (conv => whnf); refine Start.mk rfl ?_ ?_; (try dsimp only); rotate_left; rintro ⟨i, mm, bits⟩ ⟨hi, hmm, hcn, hr⟩)
      | (refine Again.mk ⟨((i + 1, nn, bb)), rfl, ?_, ?_⟩ <;> try dsimp only)
      | refine Br.yes (beq_self_eq_true _) ?_
      | refine Br.not ?_
      | refine Br.yes (decide_eq_true (by assumption)) ?_
      | refine Br.no (decide_eq_false (by assumption)) ?_
      | refine Br.yes (beq_iff_eq.2 (by assumption)) ?_
      | refine Br.no (beq_eq_false_iff_ne.2 (by assumption)) ?_
      | refine Br.yes (bne_iff_ne.2 (by assumption)) ?_
      | (refine Br.dec (fun h => ?_) (fun h => ?_) <;> try dsimp only at h)
      | (refine Br.beqI (fun h => ?_) (fun h => ?_) <;> try dsimp only at h)
      | (refine Br.bneI (fun h => ?_) (fun h => ?_) <;> try dsimp only at h)
      | refine Br.mk (fun h => ?_) (fun h => ?_)
      | refine Need.mk (by first | kernel_rfl | exact ⟨of_decide_eq_true rfl, of_decide_eq_true rfl⟩ | omega) ?_
      | refine Len.mk ⟨_, by simp only [List.length_cons, List.length_nil, Nat.reduceAdd, Int.cast_ofNat_Int]; rfl, ?_⟩
      | refine Wr.lit _ (by simp only [Int.reduceAdd, Int.reduceSub, Int.reduceMul]; rfl) (by decide) ?_
      | refine Wr.fit (by omega) ?_
      | refine Wr.fit (by dsimp only; omega) ?_
      | refine Elem.mk ⟨_, ⟨of_decide_eq_true rfl, rfl⟩, ?_⟩
      | refine Len.map ?_
      | refine Len.dropM ?_
      | refine Elem.dropM ?_
      | refine Len.takeM ?_
      | refine Elem.takeM ?_
      | refine Elem.mapK (by assumption) ?_
      | refine Elem.mapI (by omega) (by assumption) ?_
      | refine Elem.mapN (by omega) (fun x hx => ?_)
      | refine Elem.map (by omega) (by omega) (fun x hx => ?_)
      | refine ((bookCheck_ok b).to (congrArg gi hc)).use ⟨rfl, ?_⟩
      | refine (hcall).use ⟨rfl, ?_⟩
      | refine (minute_ok b nn x.Kind bb hb hnn).use ⟨rfl, ?_⟩
      | refine CallX.mk ⟨_, _, ((bookCheck_ok b).to (congrArg gi hc)).x, rfl, ?_⟩
      | refine CallX.mk ⟨_, _, (hcall).x, rfl, ?_⟩
      | refine CallX.mk ⟨_, _, (minute_ok b nn x.Kind bb hb hnn).x, rfl, ?_⟩
      | refine Done.mk ⟨rfl, rfl⟩
      | refine Done.mk ⟨congrArg gb ?_, rfl⟩
      | refine Done.mk ⟨?_, rfl⟩
      | refine Done.mk ⟨?_, ?_⟩)
    all_goals first
      | omega
      | exact ⟨by omega, zero_May, hch, rfl⟩
      | exact absurd (hfirst _ hx) h
      | exact of_next hb hj hnn hq h (recErr_inv (chain_get hcn hx).2.1).1
      | exact ⟨by omega, hnn, of_chain hcn hx hj h, of_over hq h⟩
      | exact ⟨of_first hcn hx, hmm, of_kinds hr hx⟩
      | (have e := of_end hr h; rw [← e]; rfl)

end Go.Hl
