/- Contracts of functions, bundle K1; proved for whatever the arguments' types allow, as each theorem says. -/
import Derived.Test.YtoofplbjpkgdgaaH1
import Derived.Test.YtoofplbjpkgdgaaGh18
import Derived.Test.YtoofplbjpkgdgaaH9
import Derived.Test.YtoofplbjpkgdgaaH6

/- Chapter 27: whether ways may be.  -/
set_option linter.unusedVariables false
set_option linter.unusedSimpArgs false
namespace Go.Hl
open Go.Gh Go.Proofs

theorem take_nextK {α : Type} {l : List α} {j : Nat} {x : α} (h : l[j]? = some x) : l.take (j + 1) = l.take j ++ [x] := by
  obtain ⟨h1, h2⟩ := List.getElem?_eq_some_iff.1 h
  rw [List.take_succ_eq_append_getElem h1, h2]
def rowG (l : List Int) : GV := .list 1 (ints l) none
abbrev waysG (w : List (List Int)) : List GV := w.map rowG
/-- What is wrong in a row, from a column on. -/
def rowF (r : Int) : Int → List Int → Int × Int
  | _, [] => (0, 0)
  | c, m :: t => if m < 0 ∨ 10080 < m then (c, 4) else if c = r ∧ m ≠ 0 then (c, 1) else rowF r (c + 1) t
def rowE (l : List Int) (r n : Int) : Int × Int := if (l.length : Int) ≠ n then (0, 18) else rowF r 0 l
def chkF (n : Int) : Int → List (List Int) → Int × Int × Int
  | _, [] => (0, 0, 0)
  | r, l :: t => if (rowE l r n).2 ≠ 0 then (r, rowE l r n) else chkF n (r + 1) t
def chartE (w : List (List Int)) : Int × Int × Int := if (w.length : Int) = 0 then (0, 0, 13) else if 200 < (w.length : Int) then (0, 0, 12) else chkF w.length 0 w
def tripI (p : Int × Int × Int) : GV := .tup [gi p.1, gi p.2.1, gi p.2.2]
def pairK (p : Int × Int) : GV := .tup [gi p.1, gi p.2]

theorem row_bad {r : Int} {l : List Int} {i : Nat} {x : Int} {R : Int × Int} (hx : l[i]? = some x) (hr : rowF r i (l.drop i) = R) (h : x < 0 ∨ 10080 < x) : R = ((i : Int), 4) := by
  rw [drop_of_get hx, rowF, if_pos h] at hr; exact hr.symm
theorem row_arg {r : Int} {l : List Int} {i : Nat} {x : Int} {R : Int × Int} (hx : l[i]? = some x) (hr : rowF r i (l.drop i) = R) (h : ¬ (x < 0 ∨ 10080 < x)) (h1 : (i : Int) = r) (h2 : ¬ x = 0) : R = ((i : Int), 1) := by
  rw [drop_of_get hx, rowF, if_neg h, if_pos ⟨h1, h2⟩] at hr; exact hr.symm
theorem row_go {r : Int} {l : List Int} {i : Nat} {x : Int} {R : Int × Int} (hx : l[i]? = some x) (hr : rowF r i (l.drop i) = R) (h : ¬ (x < 0 ∨ 10080 < x)) (h1 : ¬ ((i : Int) = r ∧ ¬ x = 0)) : rowF r (i + 1 : Nat) (l.drop (i + 1)) = R := by
  rw [drop_of_get hx, rowF, if_neg h, if_neg h1] at hr; exact hr
theorem row_end {r : Int} {l : List Int} {i : Nat} {R : Int × Int} (hi : ¬ (i : Int) < l.length) (hr : rowF r i (l.drop i) = R) : R = (0, 0) := by
  rw [List.drop_eq_nil_of_le (by omega), rowF] at hr; exact hr.symm

def pl_K1_1 : Nat → Option (List Nat × List Nat) := (fun k => bif Nat.beq k 4 then some ([1000004, 1, 14, 15, 16], []) else none)
def pl_K1_2 : Nat → Option (List Nat × List Nat) := (fun k => bif Nat.beq k 4 then some ([1000004, 1, 14, 15, 16], []) else none)
set_option maxRecDepth 100000 in
set_option maxHeartbeats 1000000 in
theorem chartRow_ok (l : List Int) (r n : Int) (hl : (l.length : Int) ≤ 1000000000) : ICalls Try.prog 98 [.list 1 (ints l) none, gi r, gi n] [] (Done (pairK (rowE l r n)) []) := by
  unfold rowE
  by_cases hn : (l.length : Int) ≠ n
  case pos =>
    rw [if_pos hn]
    refine ICalls.of_body Try.func98 rfl Try.call98 rfl (Nat.le_of_ble_eq_true rfl) pl_K1_1 rfl ?_
    repeat' ((conv => whnf); first
      | refine Br.yes rfl ?_
      | refine Br.no rfl ?_
      | refine Br.yes (beq_self_eq_true _) ?_
      | refine Br.not ?_
      | refine Br.yes (decide_eq_true (by assumption)) ?_
      | refine Br.no (decide_eq_false (by assumption)) ?_
      | refine Br.yes (beq_iff_eq.2 (by assumption)) ?_
      | refine Br.no (beq_eq_false_iff_ne.2 (by assumption)) ?_
      | refine Br.yes (bne_iff_ne.2 (by assumption)) ?_
      | (refine Br.dec (fun h => ?_) (fun h => ?_) <;> try dsimp only at h)
      | (refine Br.beqI (fun h => ?_) (fun h => ?_) <;> try dsimp only at h)
      | (refine Br.bneI (fun h => ?_) (fun h => ?_) <;> try dsimp only at h)
      | refine Br.mk (fun h => ?_) (fun h => ?_)
      | refine Need.mk (by first | kernel_rfl | exact ⟨of_decide_eq_true rfl, of_decide_eq_true rfl⟩ | omega) ?_
      | refine Len.mk ⟨_, by simp only [List.length_cons, List.length_nil, Nat.reduceAdd, Int.cast_ofNat_Int]; rfl, ?_⟩
      | refine Wr.lit _ (by simp only [Int.reduceAdd, Int.reduceSub, Int.reduceMul]; rfl) (by decide) ?_
      | refine Wr.fit (by omega) ?_
      | refine Wr.fit (by dsimp only; omega) ?_
      | refine Elem.mk ⟨_, ⟨of_decide_eq_true rfl, rfl⟩, ?_⟩
      | refine Len.map ?_
      | refine Len.dropM ?_
      | refine Elem.dropM ?_
      | refine Len.takeM ?_
      | refine Elem.takeM ?_
      | refine Elem.mapK (by assumption) ?_
      | refine Elem.mapI (by omega) (by assumption) ?_
      | refine Elem.mapN (by omega) (fun x hx => ?_)
      | refine Elem.map (by omega) (by omega) (fun x hx => ?_)
      | refine Done.mk ⟨rfl, rfl⟩
      | refine Done.mk ⟨congrArg gb ?_, rfl⟩
      | refine Done.mk ⟨?_, rfl⟩
      | refine Done.mk ⟨?_, ?_⟩)
    all_goals first
      | omega
      | (exfalso; omega)
  case neg =>
    rw [if_neg hn]
    have hn : (l.length : Int) = n := by omega
    generalize hR : rowF r 0 l = R
    refine ICalls.of_body Try.func98 rfl Try.call98 rfl (Nat.le_of_ble_eq_true rfl) pl_K1_2 rfl ?_
    repeat' ((conv => whnf); first
      | refine Br.yes rfl ?_
      | refine Br.no rfl ?_
      | (refine Elem.mapN (by omega) (fun x hx => ?_))
      | (refine ILoop.ov 1000004 (fun (i : Nat) => [(16, gi i)]) (fun (i : Nat) => []) (fun (i : Nat) => i ≤ l.length ∧ rowF r i (l.drop i) = R) (fun (i : Nat) => l.length - i) (0) (by exact rfl) ?_; (conv => whnf); refine Start.mk rfl ?_ ?_; (try dsimp only); rotate_left; rintro i ⟨hi, hr⟩)
      | (refine Again.mk ⟨(i + 1), rfl, ?_, ?_⟩ <;> try dsimp only)
      | refine Br.yes (beq_self_eq_true _) ?_
      | refine Br.not ?_
      | refine Br.yes (decide_eq_true (by assumption)) ?_
      | refine Br.no (decide_eq_false (by assumption)) ?_
      | refine Br.yes (beq_iff_eq.2 (by assumption)) ?_
      | refine Br.no (beq_eq_false_iff_ne.2 (by assumption)) ?_
      | refine Br.yes (bne_iff_ne.2 (by assumption)) ?_
      | (refine Br.dec (fun h => ?_) (fun h => ?_) <;> try dsimp only at h)
      | (refine Br.beqI (fun h => ?_) (fun h => ?_) <;> try dsimp only at h)
      | (refine Br.bneI (fun h => ?_) (fun h => ?_) <;> try dsimp only at h)
      | refine Br.mk (fun h => ?_) (fun h => ?_)
      | refine Need.mk (by first | kernel_rfl | exact ⟨of_decide_eq_true rfl, of_decide_eq_true rfl⟩ | omega) ?_
      | refine Len.mk ⟨_, by simp only [List.length_cons, List.length_nil, Nat.reduceAdd, Int.cast_ofNat_Int]; rfl, ?_⟩
      | refine Wr.lit _ (by simp only [Int.reduceAdd, Int.reduceSub, Int.reduceMul]; rfl) (by decide) ?_
      | refine Wr.fit (by omega) ?_
      | refine Wr.fit (by dsimp only; omega) ?_
      | refine Elem.mk ⟨_, ⟨of_decide_eq_true rfl, rfl⟩, ?_⟩
      | refine Len.map ?_
      | refine Len.dropM ?_
      | refine Elem.dropM ?_
      | refine Len.takeM ?_
      | refine Elem.takeM ?_
      | refine Elem.mapK (by assumption) ?_
      | refine Elem.mapI (by omega) (by assumption) ?_
      | refine Elem.mapN (by omega) (fun x hx => ?_)
      | refine Elem.map (by omega) (by omega) (fun x hx => ?_)
      | refine Done.mk ⟨rfl, rfl⟩
      | refine Done.mk ⟨congrArg gb ?_, rfl⟩
      | refine Done.mk ⟨?_, rfl⟩
      | refine Done.mk ⟨?_, ?_⟩)
    all_goals first
      | omega
      | exact congrArg pairK (row_bad hx hr (by omega)).symm
      | exact congrArg pairK (row_arg hx hr (by omega) (by assumption) (by assumption)).symm
      | exact congrArg pairK (row_end (by assumption) hr).symm
      | exact ⟨by omega, row_go hx hr (by omega) (by omega)⟩
      | exact ⟨by omega, hR⟩

theorem chk_bad {n : Int} {w : List (List Int)} {i : Nat} {x : List Int} {R : Int × Int × Int} (hx : w[i]? = some x) (hr : chkF n i (w.drop i) = R) (h : ¬ (rowE x i n).2 = 0) : R = ((i : Int), rowE x i n) := by
  rw [drop_of_get hx, chkF, if_pos h] at hr; exact hr.symm
theorem chk_go {n : Int} {w : List (List Int)} {i : Nat} {x : List Int} {R : Int × Int × Int} (hx : w[i]? = some x) (hr : chkF n i (w.drop i) = R) (h : (rowE x i n).2 = 0) : chkF n (i + 1 : Nat) (w.drop (i + 1)) = R := by
  rw [drop_of_get hx, chkF, if_neg (by omega)] at hr; exact hr
theorem chk_end {n : Int} {w : List (List Int)} {i : Nat} {R : Int × Int × Int} (hi : ¬ (i : Int) < w.length) (hr : chkF n i (w.drop i) = R) : R = (0, 0, 0) := by
  rw [List.drop_eq_nil_of_le (by omega), chkF] at hr; exact hr.symm
/-- All rows are short. -/
def Rows (w : List (List Int)) : Prop := ∀ l, l ∈ w → (l.length : Int) ≤ 1000000

def pl_K1_3 : Nat → Option (List Nat × List Nat) := (fun k => bif Nat.beq k 6 then some ([1000006, 0, 17, 18, 19], []) else none)
def pl_K1_4 : Nat → Option (List Nat × List Nat) := (fun k => bif Nat.beq k 6 then some ([1000006, 0, 17, 18, 19], []) else none)
def pl_K1_5 : Nat → Option (List Nat × List Nat) := (fun k => bif Nat.beq k 6 then some ([1000006, 0, 17, 18, 19], []) else none)
set_option maxRecDepth 100000 in
set_option maxHeartbeats 1000000 in
theorem chartCheck_ok (w : List (List Int)) (hw : Rows w) : ICalls Try.prog 65 [.list 1 (waysG w) none] [] (Done (tripI (chartE w)) []) := by
  unfold chartE
  have hrow : ∀ (i : Nat) (x : List Int), w[i]? = some x → _ := fun i x hx => chartRow_ok x i w.length (by have := hw x (List.mem_of_getElem? hx); omega)
  by_cases h0 : (w.length : Int) = 0
  case pos =>
    rw [if_pos h0]
    refine ICalls.of_body Try.func65 rfl Try.call65 rfl (Nat.le_of_ble_eq_true rfl) pl_K1_3 rfl ?_
    repeat' ((conv => whnf); first
      | refine Br.yes rfl ?_
      | refine Br.no rfl ?_
      | refine Br.yes (beq_self_eq_true _) ?_
      | refine Br.not ?_
      | refine Br.yes (decide_eq_true (by assumption)) ?_
      | refine Br.no (decide_eq_false (by assumption)) ?_
      | refine Br.yes (beq_iff_eq.2 (by assumption)) ?_
      | refine Br.no (beq_eq_false_iff_ne.2 (by assumption)) ?_
      | refine Br.yes (bne_iff_ne.2 (by assumption)) ?_
      | (refine Br.dec (fun h => ?_) (fun h => ?_) <;> try dsimp only at h)
      | (refine Br.beqI (fun h => ?_) (fun h => ?_) <;> try dsimp only at h)
      | (refine Br.bneI (fun h => ?_) (fun h => ?_) <;> try dsimp only at h)
      | refine Br.mk (fun h => ?_) (fun h => ?_)
      | refine Need.mk (by first | kernel_rfl | exact ⟨of_decide_eq_true rfl, of_decide_eq_true rfl⟩ | omega) ?_
      | refine Len.mk ⟨_, by simp only [List.length_cons, List.length_nil, Nat.reduceAdd, Int.cast_ofNat_Int]; rfl, ?_⟩
      | refine Wr.lit _ (by simp only [Int.reduceAdd, Int.reduceSub, Int.reduceMul]; rfl) (by decide) ?_
      | refine Wr.fit (by omega) ?_
      | refine Wr.fit (by dsimp only; omega) ?_
      | refine Elem.mk ⟨_, ⟨of_decide_eq_true rfl, rfl⟩, ?_⟩
      | refine Len.map ?_
      | refine Len.dropM ?_
      | refine Elem.dropM ?_
      | refine Len.takeM ?_
      | refine Elem.takeM ?_
      | refine Elem.mapK (by assumption) ?_
      | refine Elem.mapI (by omega) (by assumption) ?_
      | refine Elem.mapN (by omega) (fun x hx => ?_)
      | refine Elem.map (by omega) (by omega) (fun x hx => ?_)
      | refine Done.mk ⟨rfl, rfl⟩
      | refine Done.mk ⟨congrArg gb ?_, rfl⟩
      | refine Done.mk ⟨?_, rfl⟩
      | refine Done.mk ⟨?_, ?_⟩)
    all_goals omega
  case neg =>
  rw [if_neg h0]
  by_cases h2 : 200 < (w.length : Int)
  case pos =>
    rw [if_pos h2]
    refine ICalls.of_body Try.func65 rfl Try.call65 rfl (Nat.le_of_ble_eq_true rfl) pl_K1_4 rfl ?_
    repeat' ((conv => whnf); first
      | refine Br.yes rfl ?_
      | refine Br.no rfl ?_
      | refine Br.yes (beq_self_eq_true _) ?_
      | refine Br.not ?_
      | refine Br.yes (decide_eq_true (by assumption)) ?_
      | refine Br.no (decide_eq_false (by assumption)) ?_
      | refine Br.yes (beq_iff_eq.2 (by assumption)) ?_
      | refine Br.no (beq_eq_false_iff_ne.2 (by assumption)) ?_
      | refine Br.yes (bne_iff_ne.2 (by assumption)) ?_
      | (refine Br.dec (fun h => ?_) (fun h => ?_) <;> try dsimp only at h)
      | (refine Br.beqI (fun h => ?_) (fun h => ?_) <;> try dsimp only at h)
      | (refine Br.bneI (fun h => ?_) (fun h => ?_) <;> try dsimp only at h)
      | refine Br.mk (fun h => ?_) (fun h => ?_)
      | refine Need.mk (by first | kernel_rfl | exact ⟨of_decide_eq_true rfl, of_decide_eq_true rfl⟩ | omega) ?_
      | refine Len.mk ⟨_, by simp only [List.length_cons, List.length_nil, Nat.reduceAdd, Int.cast_ofNat_Int]; rfl, ?_⟩
      | refine Wr.lit _ (by simp only [Int.reduceAdd, Int.reduceSub, Int.reduceMul]; rfl) (by decide) ?_
      | refine Wr.fit (by omega) ?_
      | refine Wr.fit (by dsimp only; omega) ?_
      | refine Elem.mk ⟨_, ⟨of_decide_eq_true rfl, rfl⟩, ?_⟩
      | refine Len.map ?_
      | refine Len.dropM ?_
      | refine Elem.dropM ?_
      | refine Len.takeM ?_
      | refine Elem.takeM ?_
      | refine Elem.mapK (by assumption) ?_
      | refine Elem.mapI (by omega) (by assumption) ?_
      | refine Elem.mapN (by omega) (fun x hx => ?_)
      | refine Elem.map (by omega) (by omega) (fun x hx => ?_)
      | refine Done.mk ⟨rfl, rfl⟩
      | refine Done.mk ⟨congrArg gb ?_, rfl⟩
      | refine Done.mk ⟨?_, rfl⟩
      | refine Done.mk ⟨?_, ?_⟩)
    all_goals omega
  case neg =>
    rw [if_neg h2]
    generalize hR : chkF w.length 0 w = R
    refine ICalls.of_body Try.func65 rfl Try.call65 rfl (Nat.le_of_ble_eq_true rfl) pl_K1_5 rfl ?_
    repeat' ((conv => whnf); first
      | refine Br.yes rfl ?_
      | refine Br.no rfl ?_
      | (refine Elem.mapN (by omega) (fun x hx => ?_))
      | (refine ILoop.ov 1000006 (fun (i : Nat) => [(19, gi i)]) (fun (i : Nat) => []) (fun (i : Nat) => i ≤ w.length ∧ chkF w.length i (w.drop i) = R) (fun (i : Nat) => w.length - i) (0) (by exact rfl) ?_; (conv => whnf); refine Start.mk rfl ?_ ?_; (try dsimp only); rotate_left; rintro i ⟨hi, hr⟩)
      | (refine Again.mk ⟨(i + 1), rfl, ?_, ?_⟩ <;> try dsimp only)
      | refine Br.yes (beq_self_eq_true _) ?_
      | refine Br.not ?_
      | refine Br.yes (decide_eq_true (by assumption)) ?_
      | refine Br.no (decide_eq_false (by assumption)) ?_
      | refine Br.yes (beq_iff_eq.2 (by assumption)) ?_
      | refine Br.no (beq_eq_false_iff_ne.2 (by assumption)) ?_
      | refine Br.yes (bne_iff_ne.2 (by assumption)) ?_
      | (refine Br.dec (fun h => ?_) (fun h => ?_) <;> try dsimp only at h)
      | (refine Br.beqI (fun h => ?_) (fun h => ?_) <;> try dsimp only at h)
      | (refine Br.bneI (fun h => ?_) (fun h => ?_) <;> try dsimp only at h)
      | refine Br.mk (fun h => ?_) (fun h => ?_)
      | refine Need.mk (by first | kernel_rfl | exact ⟨of_decide_eq_true rfl, of_decide_eq_true rfl⟩ | omega) ?_
      | refine Len.mk ⟨_, by simp only [List.length_cons, List.length_nil, Nat.reduceAdd, Int.cast_ofNat_Int]; rfl, ?_⟩
      | refine Wr.lit _ (by simp only [Int.reduceAdd, Int.reduceSub, Int.reduceMul]; rfl) (by decide) ?_
      | refine Wr.fit (by omega) ?_
      | refine Wr.fit (by dsimp only; omega) ?_
      | refine Elem.mk ⟨_, ⟨of_decide_eq_true rfl, rfl⟩, ?_⟩
      | refine Len.map ?_
      | refine Len.dropM ?_
      | refine Elem.dropM ?_
      | refine Len.takeM ?_
      | refine Elem.takeM ?_
      | refine Elem.mapK (by assumption) ?_
      | refine Elem.mapI (by omega) (by assumption) ?_
      | refine Elem.mapN (by omega) (fun x hx => ?_)
      | refine Elem.map (by omega) (by omega) (fun x hx => ?_)
      | refine (hrow i x hx).use ⟨rfl, ?_⟩
      | refine CallX.mk ⟨_, _, (hrow i x hx).x, rfl, ?_⟩
      | refine Done.mk ⟨rfl, rfl⟩
      | refine Done.mk ⟨congrArg gb ?_, rfl⟩
      | refine Done.mk ⟨?_, rfl⟩
      | refine Done.mk ⟨?_, ?_⟩)
    all_goals first
      | omega
      | exact congrArg tripI (chk_bad hx hr (by assumption)).symm
      | exact congrArg tripI (chk_end (by assumption) hr).symm
      | exact ⟨by omega, chk_go hx hr (by omega)⟩
      | exact ⟨by omega, hR⟩

end Go.Hl

/- Chapter 28: orders: whether they may be; which one has an ID.  -/
set_option linter.unusedVariables false
set_option linter.unusedSimpArgs false
namespace Go.Hl
open Go.Gh Go.Proofs

structure Order where
  ID : Int
  Place : Int
  Load : Int
  Serve : Int
  Open : List Span
  deriving DecidableEq
def Order.c (o : Order) : List GV := [gi o.ID, gi o.Place, gi o.Load, gi o.Serve, .list 2 (spans o.Open) none]
def Order.g (o : Order) : GV := .agg o.c
abbrev orders (l : List Order) : List GV := l.map Order.g
def orderTy : Ty := .agg [.int, .int, .int, .int, .list spanTy]
def Order.Fits (o : Order) : Prop := (I64 o.ID ∧ I64 o.Place ∧ I64 o.Load ∧ I64 o.Serve) ∧ ∀ s, s ∈ o.Open → s.Fits
theorem order_wt (gs : List GV) (h : WTs [.int, .int, .int, .int, .list spanTy] gs) : ∃ s : Order, gs = s.c ∧ s.Fits := by
  obtain ⟨a, r, rfl, ha, h⟩ := WTs.int h
  obtain ⟨b, r, rfl, hb, h⟩ := WTs.int h
  obtain ⟨c, r, rfl, hc, h⟩ := WTs.int h
  obtain ⟨d, r, rfl, hd, h⟩ := WTs.int h
  obtain ⟨l, r, rfl, hl, h⟩ := WTs.list el_span h
  cases WTs.nil h
  exact ⟨⟨a, b, c, d, l⟩, rfl, ⟨ha, hb, hc, hd⟩, hl⟩
theorem el_order (x : GV) (h : ElOk orderTy x) : ∃ s : Order, x = s.g ∧ s.Fits := el_agg order_wt x h
def Order.zero : Order := ⟨0, 0, 0, 0, []⟩
/-- The order that no text names. -/
def zeroO : GV := .agg [gi 0, gi 0, gi 0, gi 0, .v (.slice none 0 0)]
def withinO (n lo hi : Int) : Bool := decide (lo ≤ n) && decide (n ≤ hi)
set_option maxRecDepth 100000 in
theorem within28_ok (n lo hi : Int) : ICalls Try.prog 84 [gi n, gi lo, gi hi] [] (Done (gb (withinO n lo hi)) []) := by
  unfold withinO
  refine ICalls.of_body Try.func84 rfl Try.call84 rfl (Nat.le_of_ble_eq_true rfl) (fun _ => none) rfl ?_
  repeat' ((conv => whnf); first
    | refine Br.yes rfl ?_
    | refine Br.no rfl ?_
    | refine Br.yes (beq_self_eq_true _) ?_
    | refine Br.not ?_
    | refine Br.yes (decide_eq_true (by assumption)) ?_
    | refine Br.no (decide_eq_false (by assumption)) ?_
    | refine Br.yes (beq_iff_eq.2 (by assumption)) ?_
    | refine Br.no (beq_eq_false_iff_ne.2 (by assumption)) ?_
    | refine Br.yes (bne_iff_ne.2 (by assumption)) ?_
    | (refine Br.dec (fun h => ?_) (fun h => ?_) <;> try dsimp only at h)
    | (refine Br.beqI (fun h => ?_) (fun h => ?_) <;> try dsimp only at h)
    | (refine Br.bneI (fun h => ?_) (fun h => ?_) <;> try dsimp only at h)
    | refine Br.mk (fun h => ?_) (fun h => ?_)
    | refine Need.mk (by first | kernel_rfl | exact ⟨of_decide_eq_true rfl, of_decide_eq_true rfl⟩ | omega) ?_
    | refine Len.mk ⟨_, by simp only [List.length_cons, List.length_nil, Nat.reduceAdd, Int.cast_ofNat_Int]; rfl, ?_⟩
    | refine Wr.lit _ (by simp only [Int.reduceAdd, Int.reduceSub, Int.reduceMul]; rfl) (by decide) ?_
    | refine Wr.fit (by omega) ?_
    | refine Wr.fit (by dsimp only; omega) ?_
    | refine Elem.mk ⟨_, ⟨of_decide_eq_true rfl, rfl⟩, ?_⟩
    | refine Len.map ?_
    | refine Len.dropM ?_
    | refine Elem.dropM ?_
    | refine Len.takeM ?_
    | refine Elem.takeM ?_
    | refine Elem.mapK (by assumption) ?_
    | refine Elem.mapI (by omega) (by assumption) ?_
    | refine Elem.mapN (by omega) (fun x hx => ?_)
    | refine Elem.map (by omega) (by omega) (fun x hx => ?_)
    | refine Done.mk ⟨rfl, rfl⟩
    | refine Done.mk ⟨congrArg gb ?_, rfl⟩
    | refine Done.mk ⟨?_, rfl⟩
    | refine Done.mk ⟨?_, ?_⟩)
  all_goals first
    | (simp_all; done)
    | (simp_all; omega)

/-- What is wrong with an order. -/
def orderErr (o : Order) (p : Int) : Int :=
  if ¬ (1 ≤ o.ID ∧ o.ID ≤ 999999) then 1 else if ¬ (0 ≤ o.Place ∧ o.Place < p) then 10 else
  if ¬ ((-1000000 ≤ o.Load ∧ o.Load ≤ 1000000) ∧ 1 ≤ o.Serve ∧ o.Serve ≤ 1440) then 4 else winCheck o.Open

set_option maxRecDepth 100000 in
set_option maxHeartbeats 1000000 in
theorem orderCheck_ok (o : Order) (p : Int) : ICalls Try.prog 50 [o.g, gi p] [] (Done (gi (orderErr o p)) []) := by
  have hp := winCheck_ok o.Open
  have h1 := within28_ok o.ID 1 999999
  have h2 := within28_ok o.Load (-1000000) 1000000
  have h3 := within28_ok o.Serve 1 1440
  unfold orderErr
  obtain ⟨a, b, c, d, l⟩ := o
  simp only at *
  generalize winCheck l = w at *
  refine ICalls.of_body Try.func50 rfl Try.call50 rfl (Nat.le_of_ble_eq_true rfl) (fun _ => none) rfl ?_
  repeat' ((conv => whnf); first
    | refine Br.yes rfl ?_
    | refine Br.no rfl ?_
    | refine Br.yes (beq_self_eq_true _) ?_
    | refine Br.not ?_
    | refine Br.yes (decide_eq_true (by assumption)) ?_
    | refine Br.no (decide_eq_false (by assumption)) ?_
    | refine Br.yes (beq_iff_eq.2 (by assumption)) ?_
    | refine Br.no (beq_eq_false_iff_ne.2 (by assumption)) ?_
    | refine Br.yes (bne_iff_ne.2 (by assumption)) ?_
    | (refine Br.dec (fun h => ?_) (fun h => ?_) <;> try dsimp only at h)
    | (refine Br.beqI (fun h => ?_) (fun h => ?_) <;> try dsimp only at h)
    | (refine Br.bneI (fun h => ?_) (fun h => ?_) <;> try dsimp only at h)
    | refine Br.mk (fun h => ?_) (fun h => ?_)
    | refine Need.mk (by first | kernel_rfl | exact ⟨of_decide_eq_true rfl, of_decide_eq_true rfl⟩ | omega) ?_
    | refine Len.mk ⟨_, by simp only [List.length_cons, List.length_nil, Nat.reduceAdd, Int.cast_ofNat_Int]; rfl, ?_⟩
    | refine Wr.lit _ (by simp only [Int.reduceAdd, Int.reduceSub, Int.reduceMul]; rfl) (by decide) ?_
    | refine Wr.fit (by omega) ?_
    | refine Wr.fit (by dsimp only; omega) ?_
    | refine Elem.mk ⟨_, ⟨of_decide_eq_true rfl, rfl⟩, ?_⟩
    | refine Len.map ?_
    | refine Len.dropM ?_
    | refine Elem.dropM ?_
    | refine Len.takeM ?_
    | refine Elem.takeM ?_
    | refine Elem.mapK (by assumption) ?_
    | refine Elem.mapI (by omega) (by assumption) ?_
    | refine Elem.mapN (by omega) (fun x hx => ?_)
    | refine Elem.map (by omega) (by omega) (fun x hx => ?_)
    | refine (hp).use ⟨rfl, ?_⟩
    | refine (h1).use ⟨rfl, ?_⟩
    | refine (h2).use ⟨rfl, ?_⟩
    | refine (h3).use ⟨rfl, ?_⟩
    | refine CallX.mk ⟨_, _, (hp).x, rfl, ?_⟩
    | refine CallX.mk ⟨_, _, (h1).x, rfl, ?_⟩
    | refine CallX.mk ⟨_, _, (h2).x, rfl, ?_⟩
    | refine CallX.mk ⟨_, _, (h3).x, rfl, ?_⟩
    | refine Done.mk ⟨rfl, rfl⟩
    | refine Done.mk ⟨congrArg gb ?_, rfl⟩
    | refine Done.mk ⟨?_, rfl⟩
    | refine Done.mk ⟨?_, ?_⟩)
  all_goals (refine congrArg gi ?_; simp only [withinO, Bool.and_eq_true, Bool.and_eq_false_iff, decide_eq_true_eq, decide_eq_false_iff_not] at *; grind)

def rightO (p : Int) : Int → Int → List Order → Int × Int
  | _, _, [] => (0, 0)
  | i, last, o :: r => if orderErr o p ≠ 0 then (i, orderErr o p) else if o.ID = last then (i, 11) else if o.ID < last then (i, 18) else rightO p (i + 1) o.ID r
def rightOV (p : Int) (l : List Order) : Int × Int := if 2000 < (l.length : Int) then (0, 12) else rightO p 0 0 l
def prevO (l : List Order) : Nat → Int
  | 0 => 0
  | n + 1 => ((l[n]?).map Order.ID).getD 0
theorem prevO_succ {l : List Order} {i : Nat} {t : Order} (h : l[i]? = some t) : prevO l (i + 1) = t.ID := by simp [prevO, h]
theorem rightO_e {p : Int} {l : List Order} {i : Nat} {t : Order} {R : Int × Int} (hr : rightO p i (prevO l i) (l.drop i) = R) (h : l[i]? = some t) (e : ¬ orderErr t p = 0) : ((i : Int), orderErr t p) = R := by
  rw [drop_of_get h, rightO, if_pos e] at hr; exact hr
theorem rightO_11 {p : Int} {l : List Order} {i : Nat} {t : Order} {R : Int × Int} (hr : rightO p i (prevO l i) (l.drop i) = R) (h : l[i]? = some t) (e : orderErr t p = 0) (h1 : t.ID = prevO l i) : ((i : Int), 11) = R := by
  rw [drop_of_get h, rightO, if_neg (by simp [e]), if_pos h1] at hr; exact hr
theorem rightO_18 {p : Int} {l : List Order} {i : Nat} {t : Order} {R : Int × Int} (hr : rightO p i (prevO l i) (l.drop i) = R) (h : l[i]? = some t) (e : orderErr t p = 0) (h1 : ¬ t.ID = prevO l i) (h2 : t.ID < prevO l i) : ((i : Int), 18) = R := by
  rw [drop_of_get h, rightO, if_neg (by simp [e]), if_neg h1, if_pos h2] at hr; exact hr
theorem rightO_n {p : Int} {l : List Order} {i : Nat} {t : Order} {R : Int × Int} (hr : rightO p i (prevO l i) (l.drop i) = R) (h : l[i]? = some t) (e : orderErr t p = 0) (h1 : ¬ t.ID = prevO l i) (h2 : ¬ t.ID < prevO l i) :
    rightO p (i + 1 : Nat) (prevO l (i + 1)) (l.drop (i + 1)) = R := by
  rw [drop_of_get h, rightO, if_neg (by simp [e]), if_neg h1, if_neg h2] at hr
  rw [prevO_succ h]; exact hr
theorem rightO_end {p : Int} {l : List Order} {i : Nat} {R : Int × Int} (hr : rightO p i (prevO l i) (l.drop i) = R) (h : ¬ (i : Int) < l.length) : ((0 : Int), (0 : Int)) = R := by
  rw [List.drop_eq_nil_of_le (by omega)] at hr; exact hr
def pl_K2_1 : Nat → Option (List Nat × List Nat) := (fun k => bif Nat.beq k 5 then some ([1000005, 1, 6, 13, 14, 15], []) else none)
def pl_K2_2 : Nat → Option (List Nat × List Nat) := (fun k => bif Nat.beq k 5 then some ([1000005, 1, 6, 13, 14, 15], []) else none)
set_option maxRecDepth 100000 in
set_option maxHeartbeats 1000000 in
theorem orderRight_ok (l : List Order) (p : Int) : ICalls Try.prog 66 [.list 5 (orders l) none, gi p] [] (Done (pairK (rightOV p l)) []) := by
  unfold rightOV
  by_cases h100 : 2000 < (l.length : Int)
  {
  rw [if_pos h100]
  refine ICalls.of_body Try.func66 rfl Try.call66 rfl (Nat.le_of_ble_eq_true rfl) pl_K2_1 rfl ?_
  repeat' ((conv => whnf); first
    | refine Br.yes rfl ?_
    | refine Br.no rfl ?_
    | refine Br.yes (beq_self_eq_true _) ?_
    | refine Br.not ?_
    | refine Br.yes (decide_eq_true (by assumption)) ?_
    | refine Br.no (decide_eq_false (by assumption)) ?_
    | refine Br.yes (beq_iff_eq.2 (by assumption)) ?_
    | refine Br.no (beq_eq_false_iff_ne.2 (by assumption)) ?_
    | refine Br.yes (bne_iff_ne.2 (by assumption)) ?_
    | (refine Br.dec (fun h => ?_) (fun h => ?_) <;> try dsimp only at h)
    | (refine Br.beqI (fun h => ?_) (fun h => ?_) <;> try dsimp only at h)
    | (refine Br.bneI (fun h => ?_) (fun h => ?_) <;> try dsimp only at h)
    | refine Br.mk (fun h => ?_) (fun h => ?_)
    | refine Need.mk (by first | kernel_rfl | exact ⟨of_decide_eq_true rfl, of_decide_eq_true rfl⟩ | omega) ?_
    | refine Len.mk ⟨_, by simp only [List.length_cons, List.length_nil, Nat.reduceAdd, Int.cast_ofNat_Int]; rfl, ?_⟩
    | refine Wr.lit _ (by simp only [Int.reduceAdd, Int.reduceSub, Int.reduceMul]; rfl) (by decide) ?_
    | refine Wr.fit (by omega) ?_
    | refine Wr.fit (by dsimp only; omega) ?_
    | refine Elem.mk ⟨_, ⟨of_decide_eq_true rfl, rfl⟩, ?_⟩
    | refine Len.map ?_
    | refine Len.dropM ?_
    | refine Elem.dropM ?_
    | refine Len.takeM ?_
    | refine Elem.takeM ?_
    | refine Elem.mapK (by assumption) ?_
    | refine Elem.mapI (by omega) (by assumption) ?_
    | refine Elem.mapN (by omega) (fun x hx => ?_)
    | refine Elem.map (by omega) (by omega) (fun x hx => ?_)
    | refine Done.mk ⟨rfl, rfl⟩
    | refine Done.mk ⟨congrArg gb ?_, rfl⟩
    | refine Done.mk ⟨?_, rfl⟩
    | refine Done.mk ⟨?_, ?_⟩)
  all_goals omega
  }
  {
  rw [if_neg h100]
  generalize hR : rightO p 0 0 l = R
  refine ICalls.of_body Try.func66 rfl Try.call66 rfl (Nat.le_of_ble_eq_true rfl) pl_K2_2 rfl ?_
  repeat' ((conv => whnf); first
    | refine Br.yes rfl ?_
    | refine Br.no rfl ?_
    | (refine ILoop.ov 1000005 (fun ((i, last) : Nat × Int) => [(15, gi i), (6, gi last)]) (fun ((i, last) : Nat × Int) => []) (fun ((i, last) : Nat × Int) => (i ≤ l.length ∧ last = prevO l i) ∧ rightO p i last (l.drop i) = R) (fun ((i, last) : Nat × Int) => l.length - i) ((0, 0)) (by exact rfl) ?_; (conv => whnf); refine Start.mk rfl ?_ ?_; (try dsimp only); rotate_left; rintro ⟨i, last⟩ ⟨⟨hi, rfl⟩, hr⟩)
    | (refine Again.mk ⟨((i + 1, x.ID)), rfl, ?_, ?_⟩ <;> try dsimp only)
    | refine Br.yes (beq_self_eq_true _) ?_
    | refine Br.not ?_
    | refine Br.yes (decide_eq_true (by assumption)) ?_
    | refine Br.no (decide_eq_false (by assumption)) ?_
    | refine Br.yes (beq_iff_eq.2 (by assumption)) ?_
    | refine Br.no (beq_eq_false_iff_ne.2 (by assumption)) ?_
    | refine Br.yes (bne_iff_ne.2 (by assumption)) ?_
    | (refine Br.dec (fun h => ?_) (fun h => ?_) <;> try dsimp only at h)
    | (refine Br.beqI (fun h => ?_) (fun h => ?_) <;> try dsimp only at h)
    | (refine Br.bneI (fun h => ?_) (fun h => ?_) <;> try dsimp only at h)
    | refine Br.mk (fun h => ?_) (fun h => ?_)
    | refine Need.mk (by first | kernel_rfl | exact ⟨of_decide_eq_true rfl, of_decide_eq_true rfl⟩ | omega) ?_
    | refine Len.mk ⟨_, by simp only [List.length_cons, List.length_nil, Nat.reduceAdd, Int.cast_ofNat_Int]; rfl, ?_⟩
    | refine Wr.lit _ (by simp only [Int.reduceAdd, Int.reduceSub, Int.reduceMul]; rfl) (by decide) ?_
    | refine Wr.fit (by omega) ?_
    | refine Wr.fit (by dsimp only; omega) ?_
    | refine Elem.mk ⟨_, ⟨of_decide_eq_true rfl, rfl⟩, ?_⟩
    | refine Len.map ?_
    | refine Len.dropM ?_
    | refine Elem.dropM ?_
    | refine Len.takeM ?_
    | refine Elem.takeM ?_
    | refine Elem.mapK (by assumption) ?_
    | refine Elem.mapI (by omega) (by assumption) ?_
    | refine Elem.mapN (by omega) (fun x hx => ?_)
    | refine Elem.map (by omega) (by omega) (fun x hx => ?_)
    | refine (orderCheck_ok x p).use ⟨rfl, ?_⟩
    | refine CallX.mk ⟨_, _, (orderCheck_ok x p).x, rfl, ?_⟩
    | refine Done.mk ⟨rfl, rfl⟩
    | refine Done.mk ⟨congrArg gb ?_, rfl⟩
    | refine Done.mk ⟨?_, rfl⟩
    | refine Done.mk ⟨?_, ?_⟩)
  all_goals first
    | omega
    | exact congrArg pairK (rightO_e hr hx (by assumption))
    | exact congrArg pairK (rightO_11 hr hx (by omega) (by assumption))
    | exact congrArg pairK (rightO_18 hr hx (by omega) (by assumption) (by assumption))
    | exact congrArg pairK (rightO_end hr (by assumption))
    | exact ⟨⟨by omega, (prevO_succ hx).symm⟩, by have := rightO_n hr hx (by omega) (by assumption) (by assumption); rwa [prevO_succ hx] at this⟩
    | exact ⟨⟨by omega, rfl⟩, hR⟩
  }

def isOID (id : Int) (t : Order) : Bool := decide (t.ID = id)
set_option maxRecDepth 100000 in
theorem atC_ok (t : Order) (id : Int) : ICalls Try.prog 118 [t.g, .ptr 0 0] [[gi id]] (Done (gb (isOID id t)) [[gi id]]) := by
  unfold isOID
  refine ICalls.of_body Try.func118 rfl Try.call118 rfl (Nat.le_of_ble_eq_true rfl) (fun _ => none) rfl ?_
  repeat' ((conv => whnf); first
    | refine Br.yes rfl ?_
    | refine Br.no rfl ?_
    | refine Br.yes (beq_self_eq_true _) ?_
    | refine Br.not ?_
    | refine Br.yes (decide_eq_true (by assumption)) ?_
    | refine Br.no (decide_eq_false (by assumption)) ?_
    | refine Br.yes (beq_iff_eq.2 (by assumption)) ?_
    | refine Br.no (beq_eq_false_iff_ne.2 (by assumption)) ?_
    | refine Br.yes (bne_iff_ne.2 (by assumption)) ?_
    | (refine Br.dec (fun h => ?_) (fun h => ?_) <;> try dsimp only at h)
    | (refine Br.beqI (fun h => ?_) (fun h => ?_) <;> try dsimp only at h)
    | (refine Br.bneI (fun h => ?_) (fun h => ?_) <;> try dsimp only at h)
    | refine Br.mk (fun h => ?_) (fun h => ?_)
    | refine Need.mk (by first | kernel_rfl | exact ⟨of_decide_eq_true rfl, of_decide_eq_true rfl⟩ | omega) ?_
    | refine Len.mk ⟨_, by simp only [List.length_cons, List.length_nil, Nat.reduceAdd, Int.cast_ofNat_Int]; rfl, ?_⟩
    | refine Wr.lit _ (by simp only [Int.reduceAdd, Int.reduceSub, Int.reduceMul]; rfl) (by decide) ?_
    | refine Wr.fit (by omega) ?_
    | refine Wr.fit (by dsimp only; omega) ?_
    | refine Elem.mk ⟨_, ⟨of_decide_eq_true rfl, rfl⟩, ?_⟩
    | refine Len.map ?_
    | refine Len.dropM ?_
    | refine Elem.dropM ?_
    | refine Len.takeM ?_
    | refine Elem.takeM ?_
    | refine Elem.mapK (by assumption) ?_
    | refine Elem.mapI (by omega) (by assumption) ?_
    | refine Elem.mapN (by omega) (fun x hx => ?_)
    | refine Elem.map (by omega) (by omega) (fun x hx => ?_)
    | refine Done.mk ⟨rfl, rfl⟩
    | refine Done.mk ⟨congrArg gb ?_, rfl⟩
    | refine Done.mk ⟨?_, rfl⟩
    | refine Done.mk ⟨?_, ?_⟩)

def pl_K2_3 : Nat → Option (List Nat × List Nat) := (fun k => bif Nat.beq k 2 then some ([1000002, 0, 1, 7, 8], [0]) else none)
set_option maxRecDepth 100000 in
theorem idxOrder_ok (g : Nat) (m : Int) (p : Order → Bool) (hp : ∀ s : Order, ICalls Try.prog g [s.g, .ptr 0 0] [[gi m]] (Done (gb (p s)) [[gi m]])) (l : List Order) (hl : (l.length : Int) ≤ 1000000000) :
    ICalls Try.prog 87 [.list 5 (orders l) none, .fn (.func g) [] [.ptr 0 0]] [[gi m]] (Done (gi (idxFrom p 0 l)) [[gi m]]) := by
  refine ICalls.of_body Try.func87 rfl Try.call87 rfl (Nat.le_of_ble_eq_true rfl) pl_K2_3 rfl ?_
  repeat' ((conv => whnf); first
    | refine Br.yes rfl ?_
    | refine Br.no rfl ?_
    | (refine ILoop.ov 1000002 (fun (i : Nat) => [(8, gi i)]) (fun (i : Nat) => []) (fun (i : Nat) => i ≤ l.length ∧ idxFrom p i (l.drop i) = idxFrom p 0 l) (fun (i : Nat) => l.length - i) (0) (by exact rfl) ?_; (conv => whnf); refine Start.mk rfl ?_ ?_; (try dsimp only); rotate_left; rintro i ⟨hi, hr⟩)
    | (refine Again.mk ⟨(i + 1), rfl, ?_, ?_⟩ <;> try dsimp only)
    | refine Br.yes (beq_self_eq_true _) ?_
    | refine Br.not ?_
    | refine Br.yes (decide_eq_true (by assumption)) ?_
    | refine Br.no (decide_eq_false (by assumption)) ?_
    | refine Br.yes (beq_iff_eq.2 (by assumption)) ?_
    | refine Br.no (beq_eq_false_iff_ne.2 (by assumption)) ?_
    | refine Br.yes (bne_iff_ne.2 (by assumption)) ?_
    | (refine Br.dec (fun h => ?_) (fun h => ?_) <;> try dsimp only at h)
    | (refine Br.beqI (fun h => ?_) (fun h => ?_) <;> try dsimp only at h)
    | (refine Br.bneI (fun h => ?_) (fun h => ?_) <;> try dsimp only at h)
    | refine Br.mk (fun h => ?_) (fun h => ?_)
    | refine Need.mk (by first | kernel_rfl | exact ⟨of_decide_eq_true rfl, of_decide_eq_true rfl⟩ | omega) ?_
    | refine Len.mk ⟨_, by simp only [List.length_cons, List.length_nil, Nat.reduceAdd, Int.cast_ofNat_Int]; rfl, ?_⟩
    | refine Wr.lit _ (by simp only [Int.reduceAdd, Int.reduceSub, Int.reduceMul]; rfl) (by decide) ?_
    | refine Wr.fit (by omega) ?_
    | refine Wr.fit (by dsimp only; omega) ?_
    | refine Elem.mk ⟨_, ⟨of_decide_eq_true rfl, rfl⟩, ?_⟩
    | refine Len.map ?_
    | refine Len.dropM ?_
    | refine Elem.dropM ?_
    | refine Len.takeM ?_
    | refine Elem.takeM ?_
    | refine Elem.mapK (by assumption) ?_
    | refine Elem.mapI (by omega) (by assumption) ?_
    | refine Elem.mapN (by omega) (fun x hx => ?_)
    | refine Elem.map (by omega) (by omega) (fun x hx => ?_)
    | refine (hp x).use ⟨rfl, ?_⟩
    | refine CallX.mk ⟨_, _, (hp x).x, rfl, ?_⟩
    | refine Done.mk ⟨rfl, rfl⟩
    | refine Done.mk ⟨congrArg gb ?_, rfl⟩
    | refine Done.mk ⟨?_, rfl⟩
    | refine Done.mk ⟨?_, ?_⟩)
  · rw [drop_of_get hx, idxFrom, if_pos h] at hr
    rw [hr]
  · rw [drop_of_get hx, idxFrom, if_neg (by simp [h])] at hr
    exact ⟨by omega, hr⟩
  · omega
  · rw [List.drop_eq_nil_of_le (by omega), idxFrom] at hr
    rw [← hr]
  · exact ⟨by omega, rfl⟩

set_option maxRecDepth 100000 in
set_option maxHeartbeats 1000000 in
theorem orderAt_ok (l : List Order) (id : Int) (hl : (l.length : Int) ≤ 1000000000) : ICalls Try.prog 86 [.list 5 (orders l) none, gi id] [] (Done (gi (idxFrom (isOID id) 0 l)) []) := by
  refine ICalls.of_body Try.func86 rfl Try.call86 rfl (Nat.le_of_ble_eq_true rfl) (fun _ => none) rfl ?_
  repeat' ((conv => whnf); first
    | refine Br.yes rfl ?_
    | refine Br.no rfl ?_
    | refine Br.yes (beq_self_eq_true _) ?_
    | refine Br.not ?_
    | refine Br.yes (decide_eq_true (by assumption)) ?_
    | refine Br.no (decide_eq_false (by assumption)) ?_
    | refine Br.yes (beq_iff_eq.2 (by assumption)) ?_
    | refine Br.no (beq_eq_false_iff_ne.2 (by assumption)) ?_
    | refine Br.yes (bne_iff_ne.2 (by assumption)) ?_
    | (refine Br.dec (fun h => ?_) (fun h => ?_) <;> try dsimp only at h)
    | (refine Br.beqI (fun h => ?_) (fun h => ?_) <;> try dsimp only at h)
    | (refine Br.bneI (fun h => ?_) (fun h => ?_) <;> try dsimp only at h)
    | refine Br.mk (fun h => ?_) (fun h => ?_)
    | refine Need.mk (by first | kernel_rfl | exact ⟨of_decide_eq_true rfl, of_decide_eq_true rfl⟩ | omega) ?_
    | refine Len.mk ⟨_, by simp only [List.length_cons, List.length_nil, Nat.reduceAdd, Int.cast_ofNat_Int]; rfl, ?_⟩
    | refine Wr.lit _ (by simp only [Int.reduceAdd, Int.reduceSub, Int.reduceMul]; rfl) (by decide) ?_
    | refine Wr.fit (by omega) ?_
    | refine Wr.fit (by dsimp only; omega) ?_
    | refine Elem.mk ⟨_, ⟨of_decide_eq_true rfl, rfl⟩, ?_⟩
    | refine Len.map ?_
    | refine Len.dropM ?_
    | refine Elem.dropM ?_
    | refine Len.takeM ?_
    | refine Elem.takeM ?_
    | refine Elem.mapK (by assumption) ?_
    | refine Elem.mapI (by omega) (by assumption) ?_
    | refine Elem.mapN (by omega) (fun x hx => ?_)
    | refine Elem.map (by omega) (by omega) (fun x hx => ?_)
    | refine (idxOrder_ok 118 id (isOID id) (fun s => atC_ok s id) l hl).use ⟨rfl, ?_⟩
    | refine CallX.mk ⟨_, _, (idxOrder_ok 118 id (isOID id) (fun s => atC_ok s id) l hl).x, rfl, ?_⟩
    | refine Done.mk ⟨rfl, rfl⟩
    | refine Done.mk ⟨congrArg gb ?_, rfl⟩
    | refine Done.mk ⟨?_, rfl⟩
    | refine Done.mk ⟨?_, ?_⟩)

theorem idxO_get {α : Type} (p : α → Bool) : ∀ (l : List α) (i : Int), 0 ≤ i → 0 ≤ idxFrom p i l → i ≤ idxFrom p i l ∧ ((idxFrom p i l - i).toNat < l.length)
  | [], i, hi, h => by simp [idxFrom] at h
  | x :: r, i, hi, h => by
    unfold idxFrom at h ⊢
    split
    · exact ⟨Int.le_refl _, by simp⟩
    · rename_i hn
      rw [if_neg hn] at h
      have := idxO_get p r (i + 1) (by omega) h
      refine ⟨by omega, ?_⟩
      simp only [List.length_cons]; omega

/-! ### Copies -/
def pl_K2_4 : Nat → Option (List Nat × List Nat) := (fun k => bif Nat.beq k 5000005 then some ([], []) else bif Nat.beq k 6000002 then some ([], []) else none)
set_option maxRecDepth 100000 in
set_option maxHeartbeats 1000000 in
theorem cloneSpL_cons (r : Span) (t : List Span) (hl : ((r :: t).length : Int) ≤ 1000000000) : ICalls Try.prog 80 [.list 2 (spans (r :: t)) none] [] (Done (.list 2 (spans (r :: t)) none) []) := by
  simp only [List.length_cons] at hl
  refine ICalls.of_body Try.func80 rfl Try.call80 rfl (Nat.le_of_ble_eq_true rfl) pl_K2_4 rfl ?_
  repeat' ((conv => whnf); first
    | refine Br.yes rfl ?_
    | refine Br.no rfl ?_
    | (refine Need.mk (app_needM rfl (Nat.le_of_ble_eq_true rfl) (by simp; omega)) ?_)
    | refine Br.yes (beq_self_eq_true _) ?_
    | refine Br.not ?_
    | refine Br.yes (decide_eq_true (by assumption)) ?_
    | refine Br.no (decide_eq_false (by assumption)) ?_
    | refine Br.yes (beq_iff_eq.2 (by assumption)) ?_
    | refine Br.no (beq_eq_false_iff_ne.2 (by assumption)) ?_
    | refine Br.yes (bne_iff_ne.2 (by assumption)) ?_
    | (refine Br.dec (fun h => ?_) (fun h => ?_) <;> try dsimp only at h)
    | (refine Br.beqI (fun h => ?_) (fun h => ?_) <;> try dsimp only at h)
    | (refine Br.bneI (fun h => ?_) (fun h => ?_) <;> try dsimp only at h)
    | refine Br.mk (fun h => ?_) (fun h => ?_)
    | refine Need.mk (app_need (by first | (simp only [List.length_append, List.length_map, List.length_nil, List.length_cons, List.nil_append, Nat.zero_add, Nat.add_zero]; done) | (simp only [List.length_append, List.length_map, List.length_nil, List.length_cons, List.nil_append, Nat.zero_add, Nat.add_zero]; omega) | omega) (Nat.le_of_ble_eq_true rfl) (by first | (simp only [List.length_append, List.length_map, List.length_nil, List.length_cons, List.nil_append, Nat.zero_add, Nat.add_zero]; done) | (simp only [List.length_append, List.length_map, List.length_nil, List.length_cons, List.nil_append, Nat.zero_add, Nat.add_zero]; omega) | omega)) ?_
    | refine Need.mk (app_need0 (Nat.le_of_ble_eq_true rfl) (by first | (simp only [List.length_append, List.length_map, List.length_nil, List.length_cons, List.nil_append, Nat.zero_add, Nat.add_zero]; done) | (simp only [List.length_append, List.length_map, List.length_nil, List.length_cons, List.nil_append, Nat.zero_add, Nat.add_zero]; omega) | omega)) ?_
    | refine Need.mk (app_needM rfl (Nat.le_of_ble_eq_true rfl) (by first | (simp only [List.length_append, List.length_map, List.length_nil, List.length_cons, List.nil_append, Nat.zero_add, Nat.add_zero]; done) | (simp only [List.length_append, List.length_map, List.length_nil, List.length_cons, List.nil_append, Nat.zero_add, Nat.add_zero]; omega) | omega)) ?_
    | refine Need.mk (zeros_need (by omega) (Nat.le_of_ble_eq_true rfl) (by omega)) ?_
    | refine Need.mk (by first | kernel_rfl | exact ⟨of_decide_eq_true rfl, of_decide_eq_true rfl⟩ | omega) ?_
    | refine Len.mk ⟨_, by simp only [List.length_cons, List.length_nil, Nat.reduceAdd, Int.cast_ofNat_Int]; rfl, ?_⟩
    | refine Wr.lit _ (by simp only [Int.reduceAdd, Int.reduceSub, Int.reduceMul]; rfl) (by decide) ?_
    | refine Wr.fit (by omega) ?_
    | refine Wr.fit (by dsimp only; omega) ?_
    | refine Elem.mk ⟨_, ⟨of_decide_eq_true rfl, rfl⟩, ?_⟩
    | refine Len.map ?_
    | refine Len.dropM ?_
    | refine Elem.dropM ?_
    | refine Len.takeM ?_
    | refine Elem.takeM ?_
    | refine Elem.mapK (by assumption) ?_
    | refine Elem.mapI (by omega) (by assumption) ?_
    | refine Elem.mapN (by omega) (fun x hx => ?_)
    | refine Elem.map (by omega) (by omega) (fun x hx => ?_)
    | refine Done.mk ⟨rfl, rfl⟩
    | refine Done.mk ⟨congrArg gb ?_, rfl⟩
    | refine Done.mk ⟨?_, rfl⟩
    | refine Done.mk ⟨?_, ?_⟩)
set_option maxRecDepth 100000 in
set_option maxHeartbeats 1000000 in
theorem cloneSpL_nil : ICalls Try.prog 80 ([] ++ .v (.slice none 0 0) :: []) [] (Done (.list 2 (spans []) none) []) := by
  refine ICalls.of_body Try.func80 rfl Try.call80 rfl (Nat.le_of_ble_eq_true rfl) (fun _ => none) rfl ?_
  repeat' ((conv => whnf); first
    | refine Br.yes rfl ?_
    | refine Br.no rfl ?_
    | refine Br.yes (beq_self_eq_true _) ?_
    | refine Br.not ?_
    | refine Br.yes (decide_eq_true (by assumption)) ?_
    | refine Br.no (decide_eq_false (by assumption)) ?_
    | refine Br.yes (beq_iff_eq.2 (by assumption)) ?_
    | refine Br.no (beq_eq_false_iff_ne.2 (by assumption)) ?_
    | refine Br.yes (bne_iff_ne.2 (by assumption)) ?_
    | (refine Br.dec (fun h => ?_) (fun h => ?_) <;> try dsimp only at h)
    | (refine Br.beqI (fun h => ?_) (fun h => ?_) <;> try dsimp only at h)
    | (refine Br.bneI (fun h => ?_) (fun h => ?_) <;> try dsimp only at h)
    | refine Br.mk (fun h => ?_) (fun h => ?_)
    | refine Need.mk (app_need (by first | (simp only [List.length_append, List.length_map, List.length_nil, List.length_cons, List.nil_append, Nat.zero_add, Nat.add_zero]; done) | (simp only [List.length_append, List.length_map, List.length_nil, List.length_cons, List.nil_append, Nat.zero_add, Nat.add_zero]; omega) | omega) (Nat.le_of_ble_eq_true rfl) (by first | (simp only [List.length_append, List.length_map, List.length_nil, List.length_cons, List.nil_append, Nat.zero_add, Nat.add_zero]; done) | (simp only [List.length_append, List.length_map, List.length_nil, List.length_cons, List.nil_append, Nat.zero_add, Nat.add_zero]; omega) | omega)) ?_
    | refine Need.mk (app_need0 (Nat.le_of_ble_eq_true rfl) (by first | (simp only [List.length_append, List.length_map, List.length_nil, List.length_cons, List.nil_append, Nat.zero_add, Nat.add_zero]; done) | (simp only [List.length_append, List.length_map, List.length_nil, List.length_cons, List.nil_append, Nat.zero_add, Nat.add_zero]; omega) | omega)) ?_
    | refine Need.mk (app_needM rfl (Nat.le_of_ble_eq_true rfl) (by first | (simp only [List.length_append, List.length_map, List.length_nil, List.length_cons, List.nil_append, Nat.zero_add, Nat.add_zero]; done) | (simp only [List.length_append, List.length_map, List.length_nil, List.length_cons, List.nil_append, Nat.zero_add, Nat.add_zero]; omega) | omega)) ?_
    | refine Need.mk (zeros_need (by omega) (Nat.le_of_ble_eq_true rfl) (by omega)) ?_
    | refine Need.mk (by first | kernel_rfl | exact ⟨of_decide_eq_true rfl, of_decide_eq_true rfl⟩ | omega) ?_
    | refine Len.mk ⟨_, by simp only [List.length_cons, List.length_nil, Nat.reduceAdd, Int.cast_ofNat_Int]; rfl, ?_⟩
    | refine Wr.lit _ (by simp only [Int.reduceAdd, Int.reduceSub, Int.reduceMul]; rfl) (by decide) ?_
    | refine Wr.fit (by omega) ?_
    | refine Wr.fit (by dsimp only; omega) ?_
    | refine Elem.mk ⟨_, ⟨of_decide_eq_true rfl, rfl⟩, ?_⟩
    | refine Len.map ?_
    | refine Len.dropM ?_
    | refine Elem.dropM ?_
    | refine Len.takeM ?_
    | refine Elem.takeM ?_
    | refine Elem.mapK (by assumption) ?_
    | refine Elem.mapI (by omega) (by assumption) ?_
    | refine Elem.mapN (by omega) (fun x hx => ?_)
    | refine Elem.map (by omega) (by omega) (fun x hx => ?_)
    | refine Done.mk ⟨rfl, rfl⟩
    | refine Done.mk ⟨congrArg gb ?_, rfl⟩
    | refine Done.mk ⟨?_, rfl⟩
    | refine Done.mk ⟨?_, ?_⟩)
def pl_K2_5 : Nat → Option (List Nat × List Nat) := (fun k => bif Nat.beq k 5000005 then some ([], []) else bif Nat.beq k 6000002 then some ([], []) else none)
set_option maxRecDepth 100000 in
set_option maxHeartbeats 1000000 in
theorem cloneSpL_emp : ICalls Try.prog 80 ([] ++ .emp :: []) [] (Done (.list 2 (spans []) none) []) := by
  refine ICalls.of_body Try.func80 rfl Try.call80 rfl (Nat.le_of_ble_eq_true rfl) pl_K2_5 rfl ?_
  repeat' ((conv => whnf); first
    | refine Br.yes rfl ?_
    | refine Br.no rfl ?_
    | refine Br.yes (beq_self_eq_true _) ?_
    | refine Br.not ?_
    | refine Br.yes (decide_eq_true (by assumption)) ?_
    | refine Br.no (decide_eq_false (by assumption)) ?_
    | refine Br.yes (beq_iff_eq.2 (by assumption)) ?_
    | refine Br.no (beq_eq_false_iff_ne.2 (by assumption)) ?_
    | refine Br.yes (bne_iff_ne.2 (by assumption)) ?_
    | (refine Br.dec (fun h => ?_) (fun h => ?_) <;> try dsimp only at h)
    | (refine Br.beqI (fun h => ?_) (fun h => ?_) <;> try dsimp only at h)
    | (refine Br.bneI (fun h => ?_) (fun h => ?_) <;> try dsimp only at h)
    | refine Br.mk (fun h => ?_) (fun h => ?_)
    | refine Need.mk (app_need (by first | (simp only [List.length_append, List.length_map, List.length_nil, List.length_cons, List.nil_append, Nat.zero_add, Nat.add_zero]; done) | (simp only [List.length_append, List.length_map, List.length_nil, List.length_cons, List.nil_append, Nat.zero_add, Nat.add_zero]; omega) | omega) (Nat.le_of_ble_eq_true rfl) (by first | (simp only [List.length_append, List.length_map, List.length_nil, List.length_cons, List.nil_append, Nat.zero_add, Nat.add_zero]; done) | (simp only [List.length_append, List.length_map, List.length_nil, List.length_cons, List.nil_append, Nat.zero_add, Nat.add_zero]; omega) | omega)) ?_
    | refine Need.mk (app_need0 (Nat.le_of_ble_eq_true rfl) (by first | (simp only [List.length_append, List.length_map, List.length_nil, List.length_cons, List.nil_append, Nat.zero_add, Nat.add_zero]; done) | (simp only [List.length_append, List.length_map, List.length_nil, List.length_cons, List.nil_append, Nat.zero_add, Nat.add_zero]; omega) | omega)) ?_
    | refine Need.mk (app_needM rfl (Nat.le_of_ble_eq_true rfl) (by first | (simp only [List.length_append, List.length_map, List.length_nil, List.length_cons, List.nil_append, Nat.zero_add, Nat.add_zero]; done) | (simp only [List.length_append, List.length_map, List.length_nil, List.length_cons, List.nil_append, Nat.zero_add, Nat.add_zero]; omega) | omega)) ?_
    | refine Need.mk (zeros_need (by omega) (Nat.le_of_ble_eq_true rfl) (by omega)) ?_
    | refine Need.mk (by first | kernel_rfl | exact ⟨of_decide_eq_true rfl, of_decide_eq_true rfl⟩ | omega) ?_
    | refine Len.mk ⟨_, by simp only [List.length_cons, List.length_nil, Nat.reduceAdd, Int.cast_ofNat_Int]; rfl, ?_⟩
    | refine Wr.lit _ (by simp only [Int.reduceAdd, Int.reduceSub, Int.reduceMul]; rfl) (by decide) ?_
    | refine Wr.fit (by omega) ?_
    | refine Wr.fit (by dsimp only; omega) ?_
    | refine Elem.mk ⟨_, ⟨of_decide_eq_true rfl, rfl⟩, ?_⟩
    | refine Len.map ?_
    | refine Len.dropM ?_
    | refine Elem.dropM ?_
    | refine Len.takeM ?_
    | refine Elem.takeM ?_
    | refine Elem.mapK (by assumption) ?_
    | refine Elem.mapI (by omega) (by assumption) ?_
    | refine Elem.mapN (by omega) (fun x hx => ?_)
    | refine Elem.map (by omega) (by omega) (fun x hx => ?_)
    | refine Done.mk ⟨rfl, rfl⟩
    | refine Done.mk ⟨congrArg gb ?_, rfl⟩
    | refine Done.mk ⟨?_, rfl⟩
    | refine Done.mk ⟨?_, ?_⟩)
theorem cloneSpL_ok (l : List Span) (hl : (l.length : Int) ≤ 1000000000) : ICalls Try.prog 80 [.list 2 (spans l) none] [] (Done (.list 2 (spans l) none) []) := by
  cases l with
  | nil => exact ICalls.nils cloneSpL_nil cloneSpL_emp
  | cons r t => exact cloneSpL_cons r t hl

def findO (l : List Order) (id : Int) : Order × Bool := if 0 ≤ idxFrom (isOID id) 0 l then ((l[(idxFrom (isOID id) 0 l).toNat]?).getD Order.zero, true) else (Order.zero, false)
def foundO (x : Order × Bool) : GV := .tup [x.1.g, gb x.2]
def Opens (l : List Order) : Prop := ∀ o, o ∈ l → (o.Open.length : Int) ≤ 1000000

set_option maxRecDepth 100000 in
set_option maxHeartbeats 1000000 in
theorem orderOwn_ok (o : Order) (ho : (o.Open.length : Int) ≤ 1000000) : ICalls Try.prog 90 [o.g] [] (Done o.g []) := by
  have h1 := cloneSpL_ok o.Open (by omega)
  refine ICalls.of_body Try.func90 rfl Try.call90 rfl (Nat.le_of_ble_eq_true rfl) (fun _ => none) rfl ?_
  repeat' ((conv => whnf); first
    | refine Br.yes rfl ?_
    | refine Br.no rfl ?_
    | refine Br.yes (beq_self_eq_true _) ?_
    | refine Br.not ?_
    | refine Br.yes (decide_eq_true (by assumption)) ?_
    | refine Br.no (decide_eq_false (by assumption)) ?_
    | refine Br.yes (beq_iff_eq.2 (by assumption)) ?_
    | refine Br.no (beq_eq_false_iff_ne.2 (by assumption)) ?_
    | refine Br.yes (bne_iff_ne.2 (by assumption)) ?_
    | (refine Br.dec (fun h => ?_) (fun h => ?_) <;> try dsimp only at h)
    | (refine Br.beqI (fun h => ?_) (fun h => ?_) <;> try dsimp only at h)
    | (refine Br.bneI (fun h => ?_) (fun h => ?_) <;> try dsimp only at h)
    | refine Br.mk (fun h => ?_) (fun h => ?_)
    | refine Need.mk (by first | kernel_rfl | exact ⟨of_decide_eq_true rfl, of_decide_eq_true rfl⟩ | omega) ?_
    | refine Len.mk ⟨_, by simp only [List.length_cons, List.length_nil, Nat.reduceAdd, Int.cast_ofNat_Int]; rfl, ?_⟩
    | refine Wr.lit _ (by simp only [Int.reduceAdd, Int.reduceSub, Int.reduceMul]; rfl) (by decide) ?_
    | refine Wr.fit (by omega) ?_
    | refine Wr.fit (by dsimp only; omega) ?_
    | refine Elem.mk ⟨_, ⟨of_decide_eq_true rfl, rfl⟩, ?_⟩
    | refine Len.map ?_
    | refine Len.dropM ?_
    | refine Elem.dropM ?_
    | refine Len.takeM ?_
    | refine Elem.takeM ?_
    | refine Elem.mapK (by assumption) ?_
    | refine Elem.mapI (by omega) (by assumption) ?_
    | refine Elem.mapN (by omega) (fun x hx => ?_)
    | refine Elem.map (by omega) (by omega) (fun x hx => ?_)
    | refine (h1).use ⟨rfl, ?_⟩
    | refine CallX.mk ⟨_, _, (h1).x, rfl, ?_⟩
    | refine Done.mk ⟨rfl, rfl⟩
    | refine Done.mk ⟨congrArg gb ?_, rfl⟩
    | refine Done.mk ⟨?_, rfl⟩
    | refine Done.mk ⟨?_, ?_⟩)

end Go.Hl
