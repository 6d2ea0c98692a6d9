/- Contracts of functions, bundle PV; proved for whatever the arguments' types allow, as each theorem says. -/
import Derived.Test.YtfghmggonjnbcaaH6
import Derived.Test.YtfghmggonjnbcaaGh19
import Derived.Test.YtfghmggonjnbcaaI0

/- Numbers compared; the first of some that is not 0.  -/
set_option linter.unusedVariables false
set_option linter.unusedSimpArgs false
namespace Go.Hl
open Go.Gh Go.Proofs

def cmpI (a b : Int) : Int := if a < b then -1 else if b < a then 1 else 0
def orSel : List Int → Int
  | [] => 0
  | x :: r => if x = 0 then orSel r else x

set_option maxRecDepth 100000 in
theorem nanI_ok (a : Int) : ICalls Try.prog 77 [gi a] [] (Done (gb false) []) := by
  refine ICalls.of_body Try.func77 rfl Try.call77 rfl (Nat.le_of_ble_eq_true rfl) (fun _ => none) rfl ?_
  repeat' ((conv => whnf); first
    | refine Br.yes rfl ?_
    | refine Br.no rfl ?_
    | refine Br.yes (beq_self_eq_true _) ?_
    | refine Br.not ?_
    | refine Br.yes (decide_eq_true (by assumption)) ?_
    | refine Br.no (decide_eq_false (by assumption)) ?_
    | refine Br.yes (beq_iff_eq.2 (by assumption)) ?_
    | refine Br.no (beq_eq_false_iff_ne.2 (by assumption)) ?_
    | refine Br.yes (bne_iff_ne.2 (by assumption)) ?_
    | (refine Br.dec (fun h => ?_) (fun h => ?_) <;> try dsimp only at h)
    | (refine Br.beqI (fun h => ?_) (fun h => ?_) <;> try dsimp only at h)
    | (refine Br.bneI (fun h => ?_) (fun h => ?_) <;> try dsimp only at h)
    | refine Br.mk (fun h => ?_) (fun h => ?_)
    | refine Need.mk (by first | kernel_rfl | exact ⟨of_decide_eq_true rfl, of_decide_eq_true rfl⟩ | omega) ?_
    | refine Len.mk ⟨_, by simp only [List.length_cons, List.length_nil, Nat.reduceAdd, Int.cast_ofNat_Int]; rfl, ?_⟩
    | refine Wr.lit _ (by simp only [Int.reduceAdd, Int.reduceSub, Int.reduceMul]; rfl) (by decide) ?_
    | refine Wr.fit (by omega) ?_
    | refine Wr.fit (by dsimp only; omega) ?_
    | refine Elem.mk ⟨_, ⟨of_decide_eq_true rfl, rfl⟩, ?_⟩
    | refine Len.map ?_
    | refine Len.dropM ?_
    | refine Elem.dropM ?_
    | refine Len.takeM ?_
    | refine Elem.takeM ?_
    | refine Elem.mapK (by assumption) ?_
    | refine Elem.mapI (by omega) (by assumption) ?_
    | refine Elem.mapN (by omega) (fun x hx => ?_)
    | refine Elem.map (by omega) (by omega) (fun x hx => ?_)
    | refine Done.mk ⟨rfl, rfl⟩
    | refine Done.mk ⟨congrArg gb ?_, rfl⟩
    | refine Done.mk ⟨?_, rfl⟩
    | refine Done.mk ⟨?_, ?_⟩)
  all_goals simp

set_option maxRecDepth 100000 in
theorem compareI_ok (a b : Int) : ICalls Try.prog 52 [gi a, gi b] [] (Done (gi (cmpI a b)) []) := by
  refine ICalls.of_body Try.func52 rfl Try.call52 rfl (Nat.le_of_ble_eq_true rfl) (fun _ => none) rfl ?_
  repeat' ((conv => whnf); first
    | refine Br.yes rfl ?_
    | refine Br.no rfl ?_
    | refine Br.yes (beq_self_eq_true _) ?_
    | refine Br.not ?_
    | refine Br.yes (decide_eq_true (by assumption)) ?_
    | refine Br.no (decide_eq_false (by assumption)) ?_
    | refine Br.yes (beq_iff_eq.2 (by assumption)) ?_
    | refine Br.no (beq_eq_false_iff_ne.2 (by assumption)) ?_
    | refine Br.yes (bne_iff_ne.2 (by assumption)) ?_
    | (refine Br.dec (fun h => ?_) (fun h => ?_) <;> try dsimp only at h)
    | (refine Br.beqI (fun h => ?_) (fun h => ?_) <;> try dsimp only at h)
    | (refine Br.bneI (fun h => ?_) (fun h => ?_) <;> try dsimp only at h)
    | refine Br.mk (fun h => ?_) (fun h => ?_)
    | refine Need.mk (by first | kernel_rfl | exact ⟨of_decide_eq_true rfl, of_decide_eq_true rfl⟩ | omega) ?_
    | refine Len.mk ⟨_, by simp only [List.length_cons, List.length_nil, Nat.reduceAdd, Int.cast_ofNat_Int]; rfl, ?_⟩
    | refine Wr.lit _ (by simp only [Int.reduceAdd, Int.reduceSub, Int.reduceMul]; rfl) (by decide) ?_
    | refine Wr.fit (by omega) ?_
    | refine Wr.fit (by dsimp only; omega) ?_
    | refine Elem.mk ⟨_, ⟨of_decide_eq_true rfl, rfl⟩, ?_⟩
    | refine Len.map ?_
    | refine Len.dropM ?_
    | refine Elem.dropM ?_
    | refine Len.takeM ?_
    | refine Elem.takeM ?_
    | refine Elem.mapK (by assumption) ?_
    | refine Elem.mapI (by omega) (by assumption) ?_
    | refine Elem.mapN (by omega) (fun x hx => ?_)
    | refine Elem.map (by omega) (by omega) (fun x hx => ?_)
    | refine (nanI_ok a).use ⟨rfl, ?_⟩
    | refine (nanI_ok b).use ⟨rfl, ?_⟩
    | refine CallX.mk ⟨_, _, (nanI_ok a).x, rfl, ?_⟩
    | refine CallX.mk ⟨_, _, (nanI_ok b).x, rfl, ?_⟩
    | refine Done.mk ⟨rfl, rfl⟩
    | refine Done.mk ⟨congrArg gb ?_, rfl⟩
    | refine Done.mk ⟨?_, rfl⟩
    | refine Done.mk ⟨?_, ?_⟩)
  all_goals (unfold cmpI; first | (rw [if_pos (by assumption)]; done) | (rw [if_neg (by assumption), if_pos (by assumption)]; done) | (rw [if_neg (by assumption), if_neg (by assumption)]; done) | skip)

theorem orSel_next {l : List Int} {i : Nat} {x R : Int} (h : l[i]? = some x) (hr : orSel (l.drop i) = R) (hx : x = 0) : orSel (l.drop (i + 1)) = R := by
  rw [drop_of_get h, orSel, if_pos hx] at hr; exact hr
theorem orSel_stop {l : List Int} {i : Nat} {x R : Int} (h : l[i]? = some x) (hr : orSel (l.drop i) = R) (hx : ¬ x = 0) : x = R := by
  rw [drop_of_get h, orSel, if_neg hx] at hr; exact hr
theorem orSel_end {l : List Int} {i : Nat} {R : Int} (hr : orSel (l.drop i) = R) (h : ¬ (i : Int) < l.length) : 0 = R := by
  rw [List.drop_eq_nil_of_le (by omega), orSel] at hr; exact hr

def pl_P0_1 : Nat → Option (List Nat × List Nat) := (fun k => bif Nat.beq k 3 then some ([1000003, 3, 6, 7, 8], []) else none)
set_option maxRecDepth 100000 in
theorem orInt_ok (l : List Int) (hl : (l.length : Int) ≤ 1000000000) : ICalls Try.prog 51 [.list 1 (l.map gi) none] [] (Done (gi (orSel l)) []) := by
  generalize hR : orSel l = R
  refine ICalls.of_body Try.func51 rfl Try.call51 rfl (Nat.le_of_ble_eq_true rfl) pl_P0_1 rfl ?_
  repeat' ((conv => whnf); first
    | refine Br.yes rfl ?_
    | refine Br.no rfl ?_
    | (refine Elem.mapN (by omega) (fun x hx => ?_))
    | (refine ILoop.ov 1000003 (fun (i : Nat) => [(8, gi i)]) (fun (i : Nat) => []) (fun (i : Nat) => i ≤ l.length ∧ orSel (l.drop i) = R) (fun (i : Nat) => l.length - i) (0) (by exact rfl) ?_; (conv => whnf); refine Start.mk rfl ?_ ?_; (try dsimp only); rotate_left; rintro i ⟨hi, hr⟩)
    | (refine Again.mk ⟨(i + 1), rfl, ?_, ?_⟩ <;> try dsimp only)
    | refine Br.yes (beq_self_eq_true _) ?_
    | refine Br.not ?_
    | refine Br.yes (decide_eq_true (by assumption)) ?_
    | refine Br.no (decide_eq_false (by assumption)) ?_
    | refine Br.yes (beq_iff_eq.2 (by assumption)) ?_
    | refine Br.no (beq_eq_false_iff_ne.2 (by assumption)) ?_
    | refine Br.yes (bne_iff_ne.2 (by assumption)) ?_
    | (refine Br.dec (fun h => ?_) (fun h => ?_) <;> try dsimp only at h)
    | (refine Br.beqI (fun h => ?_) (fun h => ?_) <;> try dsimp only at h)
    | (refine Br.bneI (fun h => ?_) (fun h => ?_) <;> try dsimp only at h)
    | refine Br.mk (fun h => ?_) (fun h => ?_)
    | refine Need.mk (by first | kernel_rfl | exact ⟨of_decide_eq_true rfl, of_decide_eq_true rfl⟩ | omega) ?_
    | refine Len.mk ⟨_, by simp only [List.length_cons, List.length_nil, Nat.reduceAdd, Int.cast_ofNat_Int]; rfl, ?_⟩
    | refine Wr.lit _ (by simp only [Int.reduceAdd, Int.reduceSub, Int.reduceMul]; rfl) (by decide) ?_
    | refine Wr.fit (by omega) ?_
    | refine Wr.fit (by dsimp only; omega) ?_
    | refine Elem.mk ⟨_, ⟨of_decide_eq_true rfl, rfl⟩, ?_⟩
    | refine Len.map ?_
    | refine Len.dropM ?_
    | refine Elem.dropM ?_
    | refine Len.takeM ?_
    | refine Elem.takeM ?_
    | refine Elem.mapK (by assumption) ?_
    | refine Elem.mapI (by omega) (by assumption) ?_
    | refine Elem.mapN (by omega) (fun x hx => ?_)
    | refine Elem.map (by omega) (by omega) (fun x hx => ?_)
    | refine Done.mk ⟨rfl, rfl⟩
    | refine Done.mk ⟨congrArg gb ?_, rfl⟩
    | refine Done.mk ⟨?_, rfl⟩
    | refine Done.mk ⟨?_, ?_⟩)
  all_goals first
    | omega
    | exact ⟨by omega, orSel_next hx hr h⟩
    | exact congrArg gi (orSel_stop hx hr h)
    | exact congrArg gi (orSel_end hr h)
    | exact ⟨by omega, hR⟩

end Go.Hl

/- Findings: in order, cloned, sorted.  -/
set_option linter.unusedVariables false
set_option linter.unusedSimpArgs false
namespace Go.Hl
open Go.Gh Go.Proofs

structure Fnd where
  Clause : Int
  From : Int
  To : Int
  deriving DecidableEq
def Fnd.c (f : Fnd) : List GV := [gi f.Clause, gi f.From, gi f.To]
def Fnd.g (f : Fnd) : GV := .agg f.c
abbrev fnds (l : List Fnd) : List GV := l.map Fnd.g
theorem fnds_len (l : List Fnd) : (fnds l).length = l.length := List.length_map ..
theorem fnds_app (a b : List Fnd) : fnds (a ++ b) = fnds a ++ fnds b := List.map_append

def ordF (a b : Fnd) : Int := orSel [cmpI a.Clause b.Clause, cmpI a.From b.From, cmpI a.To b.To]

set_option maxRecDepth 100000 in
theorem clauseOrder_ok (a b : Fnd) : ICalls Try.prog 30 [a.g, b.g] [] (Done (gi (ordF a b)) []) := by
  refine ICalls.of_body Try.func30 rfl Try.call30 rfl (Nat.le_of_ble_eq_true rfl) (fun _ => none) rfl ?_
  repeat' ((conv => whnf); first
    | refine Br.yes rfl ?_
    | refine Br.no rfl ?_
    | refine Br.yes (beq_self_eq_true _) ?_
    | refine Br.not ?_
    | refine Br.yes (decide_eq_true (by assumption)) ?_
    | refine Br.no (decide_eq_false (by assumption)) ?_
    | refine Br.yes (beq_iff_eq.2 (by assumption)) ?_
    | refine Br.no (beq_eq_false_iff_ne.2 (by assumption)) ?_
    | refine Br.yes (bne_iff_ne.2 (by assumption)) ?_
    | (refine Br.dec (fun h => ?_) (fun h => ?_) <;> try dsimp only at h)
    | (refine Br.beqI (fun h => ?_) (fun h => ?_) <;> try dsimp only at h)
    | (refine Br.bneI (fun h => ?_) (fun h => ?_) <;> try dsimp only at h)
    | refine Br.mk (fun h => ?_) (fun h => ?_)
    | refine Need.mk (by first | kernel_rfl | exact ⟨of_decide_eq_true rfl, of_decide_eq_true rfl⟩ | omega) ?_
    | refine Len.mk ⟨_, by simp only [List.length_cons, List.length_nil, Nat.reduceAdd, Int.cast_ofNat_Int]; rfl, ?_⟩
    | refine Wr.lit _ (by simp only [Int.reduceAdd, Int.reduceSub, Int.reduceMul]; rfl) (by decide) ?_
    | refine Wr.fit (by omega) ?_
    | refine Wr.fit (by dsimp only; omega) ?_
    | refine Elem.mk ⟨_, ⟨of_decide_eq_true rfl, rfl⟩, ?_⟩
    | refine Len.map ?_
    | refine Len.dropM ?_
    | refine Elem.dropM ?_
    | refine Len.takeM ?_
    | refine Elem.takeM ?_
    | refine Elem.mapK (by assumption) ?_
    | refine Elem.mapI (by omega) (by assumption) ?_
    | refine Elem.mapN (by omega) (fun x hx => ?_)
    | refine Elem.map (by omega) (by omega) (fun x hx => ?_)
    | refine (compareI_ok a.Clause b.Clause).use ⟨rfl, ?_⟩
    | refine (compareI_ok a.From b.From).use ⟨rfl, ?_⟩
    | refine (compareI_ok a.To b.To).use ⟨rfl, ?_⟩
    | refine (orInt_ok [cmpI a.Clause b.Clause, cmpI a.From b.From, cmpI a.To b.To] (by simp)).use ⟨rfl, ?_⟩
    | refine CallX.mk ⟨_, _, (compareI_ok a.Clause b.Clause).x, rfl, ?_⟩
    | refine CallX.mk ⟨_, _, (compareI_ok a.From b.From).x, rfl, ?_⟩
    | refine CallX.mk ⟨_, _, (compareI_ok a.To b.To).x, rfl, ?_⟩
    | refine CallX.mk ⟨_, _, (orInt_ok [cmpI a.Clause b.Clause, cmpI a.From b.From, cmpI a.To b.To] (by simp)).x, rfl, ?_⟩
    | refine Done.mk ⟨rfl, rfl⟩
    | refine Done.mk ⟨congrArg gb ?_, rfl⟩
    | refine Done.mk ⟨?_, rfl⟩
    | refine Done.mk ⟨?_, ?_⟩)

theorem cmpI_0 {a b : Int} : cmpI a b = 0 ↔ a = b := by unfold cmpI; split <;> (try split) <;> omega
theorem cmpI_neg {a b : Int} : cmpI a b < 0 ↔ a < b := by unfold cmpI; split <;> (try split) <;> omega
theorem ordF_lt (a b : Fnd) : Go.Proofs.ltOf ordF a b = decide (a.Clause < b.Clause ∨ (a.Clause = b.Clause ∧ (a.From < b.From ∨ (a.From = b.From ∧ a.To < b.To)))) := by
  unfold Go.Proofs.ltOf ordF
  simp only [orSel]
  congr 1
  apply propext
  have e1 := @cmpI_0 a.Clause b.Clause
  have e2 := @cmpI_0 a.From b.From
  have e3 := @cmpI_0 a.To b.To
  have n1 := @cmpI_neg a.Clause b.Clause
  have n2 := @cmpI_neg a.From b.From
  have n3 := @cmpI_neg a.To b.To
  by_cases h1 : cmpI a.Clause b.Clause = 0
  · rw [if_pos h1]
    have := e1.1 h1
    by_cases h2 : cmpI a.From b.From = 0
    · rw [if_pos h2]
      have := e2.1 h2
      by_cases h3 : cmpI a.To b.To = 0
      · rw [if_pos h3]
        have := e3.1 h3
        omega
      · rw [if_neg h3, n3]; omega
    · rw [if_neg h2, n2]
      have : ¬ a.From = b.From := fun e => h2 (e2.2 e)
      omega
  · rw [if_neg h1, n1]
    have : ¬ a.Clause = b.Clause := fun e => h1 (e1.2 e)
    omega
theorem ordF_swo : Go.Sort.SWO (Go.Proofs.ltOf ordF) where
  irrefl x := by rw [ordF_lt]; simp
  trans x y z h1 h2 := by rw [ordF_lt] at *; simp only [decide_eq_true_eq] at *; omega
  ntrans x y z h1 h2 := by rw [ordF_lt] at *; simp only [decide_eq_false_iff_not] at *; omega
theorem ordF_total (x y : Fnd) (h1 : Go.Proofs.ltOf ordF x y = false) (h2 : Go.Proofs.ltOf ordF y x = false) : x = y := by
  rw [ordF_lt] at h1 h2
  simp only [decide_eq_false_iff_not] at h1 h2
  obtain ⟨a, b, c⟩ := x; obtain ⟨d, e, f⟩ := y
  simp only at *
  have e1 : a = d := by omega
  have e2 : b = e := by omega
  have e3 : c = f := by omega
  rw [e1, e2, e3]

/-- Findings in order. -/
def sortF (l : List Fnd) : List Fnd := l.mergeSort fun x y => !(Go.Proofs.ltOf ordF) y x

theorem sortFnd_ok (l : List Fnd) (v : Nat) (hl : (l.length : Int) ≤ 1000000000) :
    ICalls Try.prog 29 [.ms 3 0 v l.length, .fn (.func 30) [] []] [.mvec 38 3 (fnds l) v] (Done (.tup []) [.mvec 38 3 (fnds (sortF l)) v]) :=
  letI : Inhabited Fnd := ⟨⟨0, 0, 0⟩⟩
  ICalls.sortFunc (α := Fnd) Try.sortFinding 3 38 Try.t38 (by kernel_rfl) (by kernel_rfl) (by omega) Try.isAgg38 Try.sizeOf38 (fun s : Fnd => [.int .i64 s.Clause, .int .i64 s.From, .int .i64 s.To]) (fun _ => rfl)
    (fun x w hw => by simp at hw; rcases hw with rfl | rfl | rfl <;> rfl) ordF ordF_swo ordF_total 30 (fun x y => clauseOrder_ok x y) l v (by omega)

theorem sortFNone_ok : ICalls Try.prog 29 [.list 3 [] none, .fn (.func 30) [] []] [] (Done (.tup []) []) := by
  unfold ICalls
  refine ⟨fun vals w => Try.sortFinding.f6.enters rfl vals w, fun w I T vals hr hsz hrel => ?_⟩
  obtain ⟨r0, r1, rfl⟩ : ∃ r0 r1, vals = #[r0, r1] := by
    obtain ⟨lst⟩ := vals
    match lst, hsz with
    | [a, b], _ => exact ⟨a, b, rfl⟩
  have v0 := hrel 0 _ r0 rfl rfl
  have hz : ∃ b c, r0 = .slice b 0 c := by
    generalize hg : GV.list 3 [] none = g at v0
    cases v0 <;> cases hg
    · exact ⟨_, _, rfl⟩
    · exact ⟨_, _, rfl⟩
  obtain ⟨b, c, rfl⟩ := hz
  refine (AnyF.slices_SortFunc_none Try.sortFinding b c r1 w).mono ?_
  rintro ee w' ⟨rfl, rfl⟩
  exact ⟨_, _, _, I, T, ⟨rfl, rfl⟩, rfl, .refl _ _ _, .tup rfl fun i c r hc => by simp at hc, hr⟩

def pl_V1_1 : Nat → Option (List Nat × List Nat) := (fun k => bif Nat.beq k 5000005 then some ([], []) else bif Nat.beq k 4000000 then some ([105], []) else none)
set_option maxRecDepth 100000 in
theorem cloneFnd_ok (s : Fnd) (r : List Fnd) (hl : (r.length : Int) ≤ 1000000000) :
    ICalls Try.prog 28 [.list 3 (fnds (s :: r)) none] [] (Done (.ms 3 0 1 (s :: r).length) [.mvec 38 3 (fnds (s :: r)) 1]) := by
  refine ICalls.of_body Try.func28 rfl Try.call28 rfl (Nat.le_of_ble_eq_true rfl) pl_V1_1 rfl ?_
  repeat' ((conv => whnf); first
    | refine Br.yes rfl ?_
    | refine Br.no rfl ?_
    | refine Br.yes (beq_self_eq_true _) ?_
    | refine Br.not ?_
    | refine Br.yes (decide_eq_true (by assumption)) ?_
    | refine Br.no (decide_eq_false (by assumption)) ?_
    | refine Br.yes (beq_iff_eq.2 (by assumption)) ?_
    | refine Br.no (beq_eq_false_iff_ne.2 (by assumption)) ?_
    | refine Br.yes (bne_iff_ne.2 (by assumption)) ?_
    | (refine Br.dec (fun h => ?_) (fun h => ?_) <;> try dsimp only at h)
    | (refine Br.beqI (fun h => ?_) (fun h => ?_) <;> try dsimp only at h)
    | (refine Br.bneI (fun h => ?_) (fun h => ?_) <;> try dsimp only at h)
    | refine Br.mk (fun h => ?_) (fun h => ?_)
    | refine Need.mk (app_need (by first | (simp only [List.length_append, List.length_map, List.length_nil, List.length_cons, List.nil_append, Nat.zero_add, Nat.add_zero]; done) | (simp only [List.length_append, List.length_map, List.length_nil, List.length_cons, List.nil_append, Nat.zero_add, Nat.add_zero]; omega) | omega) (Nat.le_of_ble_eq_true rfl) (by first | (simp only [List.length_append, List.length_map, List.length_nil, List.length_cons, List.nil_append, Nat.zero_add, Nat.add_zero]; done) | (simp only [List.length_append, List.length_map, List.length_nil, List.length_cons, List.nil_append, Nat.zero_add, Nat.add_zero]; omega) | omega)) ?_
    | refine Need.mk (app_need0 (Nat.le_of_ble_eq_true rfl) (by first | (simp only [List.length_append, List.length_map, List.length_nil, List.length_cons, List.nil_append, Nat.zero_add, Nat.add_zero]; done) | (simp only [List.length_append, List.length_map, List.length_nil, List.length_cons, List.nil_append, Nat.zero_add, Nat.add_zero]; omega) | omega)) ?_
    | refine Need.mk (app_needM rfl (Nat.le_of_ble_eq_true rfl) (by first | (simp only [List.length_append, List.length_map, List.length_nil, List.length_cons, List.nil_append, Nat.zero_add, Nat.add_zero]; done) | (simp only [List.length_append, List.length_map, List.length_nil, List.length_cons, List.nil_append, Nat.zero_add, Nat.add_zero]; omega) | omega)) ?_
    | refine Need.mk (zeros_need (by omega) (Nat.le_of_ble_eq_true rfl) (by omega)) ?_
    | refine Need.mk (by first | kernel_rfl | exact ⟨of_decide_eq_true rfl, of_decide_eq_true rfl⟩ | omega) ?_
    | refine Len.mk ⟨_, by simp only [List.length_cons, List.length_nil, Nat.reduceAdd, Int.cast_ofNat_Int]; rfl, ?_⟩
    | refine Wr.lit _ (by simp only [Int.reduceAdd, Int.reduceSub, Int.reduceMul]; rfl) (by decide) ?_
    | refine Wr.fit (by omega) ?_
    | refine Wr.fit (by dsimp only; omega) ?_
    | refine Elem.mk ⟨_, ⟨of_decide_eq_true rfl, rfl⟩, ?_⟩
    | refine Len.map ?_
    | refine Len.dropM ?_
    | refine Elem.dropM ?_
    | refine Len.takeM ?_
    | refine Elem.takeM ?_
    | refine Elem.mapK (by assumption) ?_
    | refine Elem.mapI (by omega) (by assumption) ?_
    | refine Elem.mapN (by omega) (fun x hx => ?_)
    | refine Elem.map (by omega) (by omega) (fun x hx => ?_)
    | refine Done.mk ⟨rfl, rfl⟩
    | refine Done.mk ⟨congrArg gb ?_, rfl⟩
    | refine Done.mk ⟨?_, rfl⟩
    | refine Done.mk ⟨?_, ?_⟩)
  all_goals exact congrArg (GV.ms 3 0 1) (show 0 + (fnds (s :: r)).length = (s :: r).length by simp)

def pl_V1_2 : Nat → Option (List Nat × List Nat) := (fun k => bif Nat.beq k 5000005 then some ([], []) else bif Nat.beq k 4000000 then some ([105], []) else none)
set_option maxRecDepth 100000 in
theorem cloneFEmp_ok :
    ICalls Try.prog 28 [.emp] [] (Done (.ms 3 0 1 0) [.mvec 38 3 [] 1]) := by
  refine ICalls.of_body Try.func28 rfl Try.call28 rfl (Nat.le_of_ble_eq_true rfl) pl_V1_2 rfl ?_
  repeat' ((conv => whnf); first
    | refine Br.yes rfl ?_
    | refine Br.no rfl ?_
    | refine Br.yes (beq_self_eq_true _) ?_
    | refine Br.not ?_
    | refine Br.yes (decide_eq_true (by assumption)) ?_
    | refine Br.no (decide_eq_false (by assumption)) ?_
    | refine Br.yes (beq_iff_eq.2 (by assumption)) ?_
    | refine Br.no (beq_eq_false_iff_ne.2 (by assumption)) ?_
    | refine Br.yes (bne_iff_ne.2 (by assumption)) ?_
    | (refine Br.dec (fun h => ?_) (fun h => ?_) <;> try dsimp only at h)
    | (refine Br.beqI (fun h => ?_) (fun h => ?_) <;> try dsimp only at h)
    | (refine Br.bneI (fun h => ?_) (fun h => ?_) <;> try dsimp only at h)
    | refine Br.mk (fun h => ?_) (fun h => ?_)
    | refine Need.mk (app_need (by first | (simp only [List.length_append, List.length_map, List.length_nil, List.length_cons, List.nil_append, Nat.zero_add, Nat.add_zero]; done) | (simp only [List.length_append, List.length_map, List.length_nil, List.length_cons, List.nil_append, Nat.zero_add, Nat.add_zero]; omega) | omega) (Nat.le_of_ble_eq_true rfl) (by first | (simp only [List.length_append, List.length_map, List.length_nil, List.length_cons, List.nil_append, Nat.zero_add, Nat.add_zero]; done) | (simp only [List.length_append, List.length_map, List.length_nil, List.length_cons, List.nil_append, Nat.zero_add, Nat.add_zero]; omega) | omega)) ?_
    | refine Need.mk (app_need0 (Nat.le_of_ble_eq_true rfl) (by first | (simp only [List.length_append, List.length_map, List.length_nil, List.length_cons, List.nil_append, Nat.zero_add, Nat.add_zero]; done) | (simp only [List.length_append, List.length_map, List.length_nil, List.length_cons, List.nil_append, Nat.zero_add, Nat.add_zero]; omega) | omega)) ?_
    | refine Need.mk (app_needM rfl (Nat.le_of_ble_eq_true rfl) (by first | (simp only [List.length_append, List.length_map, List.length_nil, List.length_cons, List.nil_append, Nat.zero_add, Nat.add_zero]; done) | (simp only [List.length_append, List.length_map, List.length_nil, List.length_cons, List.nil_append, Nat.zero_add, Nat.add_zero]; omega) | omega)) ?_
    | refine Need.mk (zeros_need (by omega) (Nat.le_of_ble_eq_true rfl) (by omega)) ?_
    | refine Need.mk (by first | kernel_rfl | exact ⟨of_decide_eq_true rfl, of_decide_eq_true rfl⟩ | omega) ?_
    | refine Len.mk ⟨_, by simp only [List.length_cons, List.length_nil, Nat.reduceAdd, Int.cast_ofNat_Int]; rfl, ?_⟩
    | refine Wr.lit _ (by simp only [Int.reduceAdd, Int.reduceSub, Int.reduceMul]; rfl) (by decide) ?_
    | refine Wr.fit (by omega) ?_
    | refine Wr.fit (by dsimp only; omega) ?_
    | refine Elem.mk ⟨_, ⟨of_decide_eq_true rfl, rfl⟩, ?_⟩
    | refine Len.map ?_
    | refine Len.dropM ?_
    | refine Elem.dropM ?_
    | refine Len.takeM ?_
    | refine Elem.takeM ?_
    | refine Elem.mapK (by assumption) ?_
    | refine Elem.mapI (by omega) (by assumption) ?_
    | refine Elem.mapN (by omega) (fun x hx => ?_)
    | refine Elem.map (by omega) (by omega) (fun x hx => ?_)
    | refine Done.mk ⟨rfl, rfl⟩
    | refine Done.mk ⟨congrArg gb ?_, rfl⟩
    | refine Done.mk ⟨?_, rfl⟩
    | refine Done.mk ⟨?_, ?_⟩)

set_option maxRecDepth 100000 in
theorem cloneFNil_ok :
    ICalls Try.prog 28 [.v (.slice none 0 0)] [] (Done (.list 3 [] none) []) := by
  refine ICalls.of_body Try.func28 rfl Try.call28 rfl (Nat.le_of_ble_eq_true rfl) (fun _ => none) rfl ?_
  repeat' ((conv => whnf); first
    | refine Br.yes rfl ?_
    | refine Br.no rfl ?_
    | refine Br.yes (beq_self_eq_true _) ?_
    | refine Br.not ?_
    | refine Br.yes (decide_eq_true (by assumption)) ?_
    | refine Br.no (decide_eq_false (by assumption)) ?_
    | refine Br.yes (beq_iff_eq.2 (by assumption)) ?_
    | refine Br.no (beq_eq_false_iff_ne.2 (by assumption)) ?_
    | refine Br.yes (bne_iff_ne.2 (by assumption)) ?_
    | (refine Br.dec (fun h => ?_) (fun h => ?_) <;> try dsimp only at h)
    | (refine Br.beqI (fun h => ?_) (fun h => ?_) <;> try dsimp only at h)
    | (refine Br.bneI (fun h => ?_) (fun h => ?_) <;> try dsimp only at h)
    | refine Br.mk (fun h => ?_) (fun h => ?_)
    | refine Need.mk (app_need (by first | (simp only [List.length_append, List.length_map, List.length_nil, List.length_cons, List.nil_append, Nat.zero_add, Nat.add_zero]; done) | (simp only [List.length_append, List.length_map, List.length_nil, List.length_cons, List.nil_append, Nat.zero_add, Nat.add_zero]; omega) | omega) (Nat.le_of_ble_eq_true rfl) (by first | (simp only [List.length_append, List.length_map, List.length_nil, List.length_cons, List.nil_append, Nat.zero_add, Nat.add_zero]; done) | (simp only [List.length_append, List.length_map, List.length_nil, List.length_cons, List.nil_append, Nat.zero_add, Nat.add_zero]; omega) | omega)) ?_
    | refine Need.mk (app_need0 (Nat.le_of_ble_eq_true rfl) (by first | (simp only [List.length_append, List.length_map, List.length_nil, List.length_cons, List.nil_append, Nat.zero_add, Nat.add_zero]; done) | (simp only [List.length_append, List.length_map, List.length_nil, List.length_cons, List.nil_append, Nat.zero_add, Nat.add_zero]; omega) | omega)) ?_
    | refine Need.mk (app_needM rfl (Nat.le_of_ble_eq_true rfl) (by first | (simp only [List.length_append, List.length_map, List.length_nil, List.length_cons, List.nil_append, Nat.zero_add, Nat.add_zero]; done) | (simp only [List.length_append, List.length_map, List.length_nil, List.length_cons, List.nil_append, Nat.zero_add, Nat.add_zero]; omega) | omega)) ?_
    | refine Need.mk (zeros_need (by omega) (Nat.le_of_ble_eq_true rfl) (by omega)) ?_
    | refine Need.mk (by first | kernel_rfl | exact ⟨of_decide_eq_true rfl, of_decide_eq_true rfl⟩ | omega) ?_
    | refine Len.mk ⟨_, by simp only [List.length_cons, List.length_nil, Nat.reduceAdd, Int.cast_ofNat_Int]; rfl, ?_⟩
    | refine Wr.lit _ (by simp only [Int.reduceAdd, Int.reduceSub, Int.reduceMul]; rfl) (by decide) ?_
    | refine Wr.fit (by omega) ?_
    | refine Wr.fit (by dsimp only; omega) ?_
    | refine Elem.mk ⟨_, ⟨of_decide_eq_true rfl, rfl⟩, ?_⟩
    | refine Len.map ?_
    | refine Len.dropM ?_
    | refine Elem.dropM ?_
    | refine Len.takeM ?_
    | refine Elem.takeM ?_
    | refine Elem.mapK (by assumption) ?_
    | refine Elem.mapI (by omega) (by assumption) ?_
    | refine Elem.mapN (by omega) (fun x hx => ?_)
    | refine Elem.map (by omega) (by omega) (fun x hx => ?_)
    | refine Done.mk ⟨rfl, rfl⟩
    | refine Done.mk ⟨congrArg gb ?_, rfl⟩
    | refine Done.mk ⟨?_, rfl⟩
    | refine Done.mk ⟨?_, ?_⟩)

theorem fndB_true {x y : Fnd} (h : ((x.Clause == y.Clause) && ((x.From == y.From) && ((x.To == y.To) && true))) = true) : x = y := by
  simp at h; cases x; cases y; simp_all

theorem compact_no {l : List Fnd} {i : Nat} {x y : Fnd} (hn : ∀ (i : Nat) (x y : Fnd), l[i]? = some x → l[i + 1]? = some y → y ≠ x) (h1 : 1 ≤ i) (hx : l[((i : Int) - 1).toNat]? = some x) (hy : l[i]? = some y) (e : y = x) : False := by
  have e1 : ((i : Int) - 1).toNat = i - 1 := by omega
  rw [e1] at hx
  exact hn (i - 1) x y hx (by rw [show i - 1 + 1 = i by omega]; exact hy) e

def pl_V1_3 : Nat → Option (List Nat × List Nat) := (fun k => bif Nat.beq k 4 then some ([1000004, 0, 3], [0]) else bif Nat.beq k 9 then some ([1000009, 0, 3, 4, 5], [0]) else none)
set_option maxRecDepth 100000 in
set_option maxHeartbeats 1000000 in
theorem compactFnd_ok (l : List Fnd) (v : Nat) (hl : (l.length : Int) ≤ 1000000000) (hn : ∀ (i : Nat) (x y : Fnd), l[i]? = some x → l[i + 1]? = some y → y ≠ x) :
    ICalls Try.prog 31 [.ms 3 0 v l.length] [.mvec 38 3 (fnds l) v] (Done (.ms 3 0 v l.length) [.mvec 38 3 (fnds l) v]) := by
  refine ICalls.of_body Try.func31 rfl Try.call31 rfl (Nat.le_of_ble_eq_true rfl) pl_V1_3 rfl ?_
  repeat' ((conv => whnf); first
    | refine Br.yes rfl ?_
    | refine Br.no rfl ?_
    | refine Need.mk (EqRun.flat (by kernel_rfl) rfl) ?_
    | (refine Elem.mapN (i := i) (by omega) (fun y hy => ?_))
    | (refine Elem.map (by omega) (by omega) (fun x hx => ?_))
    | (refine ILoop.ov 1000004 (fun (i : Nat) => [(3, gi i)]) (fun (i : Nat) => []) (fun (i : Nat) => 1 ≤ i ∧ i ≤ l.length) (fun (i : Nat) => l.length - i) (1) (by exact rfl) ?_; (conv => whnf); refine Start.mk rfl ?_ ?_; (try dsimp only); rotate_left; rintro i ⟨h1, hi⟩)
    | (refine Again.mk ⟨(i + 1), rfl, ?_, ?_⟩ <;> try dsimp only)
    | refine Br.yes (beq_self_eq_true _) ?_
    | refine Br.not ?_
    | refine Br.yes (decide_eq_true (by assumption)) ?_
    | refine Br.no (decide_eq_false (by assumption)) ?_
    | refine Br.yes (beq_iff_eq.2 (by assumption)) ?_
    | refine Br.no (beq_eq_false_iff_ne.2 (by assumption)) ?_
    | refine Br.yes (bne_iff_ne.2 (by assumption)) ?_
    | (refine Br.dec (fun h => ?_) (fun h => ?_) <;> try dsimp only at h)
    | (refine Br.beqI (fun h => ?_) (fun h => ?_) <;> try dsimp only at h)
    | (refine Br.bneI (fun h => ?_) (fun h => ?_) <;> try dsimp only at h)
    | refine Br.mk (fun h => ?_) (fun h => ?_)
    | refine Need.mk (by first | kernel_rfl | exact ⟨of_decide_eq_true rfl, of_decide_eq_true rfl⟩ | omega) ?_
    | refine Len.mk ⟨_, by simp only [List.length_cons, List.length_nil, Nat.reduceAdd, Int.cast_ofNat_Int]; rfl, ?_⟩
    | refine Wr.lit _ (by simp only [Int.reduceAdd, Int.reduceSub, Int.reduceMul]; rfl) (by decide) ?_
    | refine Wr.fit (by omega) ?_
    | refine Wr.fit (by dsimp only; omega) ?_
    | refine Elem.mk ⟨_, ⟨of_decide_eq_true rfl, rfl⟩, ?_⟩
    | refine Len.map ?_
    | refine Len.dropM ?_
    | refine Elem.dropM ?_
    | refine Len.takeM ?_
    | refine Elem.takeM ?_
    | refine Elem.mapK (by assumption) ?_
    | refine Elem.mapI (by omega) (by assumption) ?_
    | refine Elem.mapN (by omega) (fun x hx => ?_)
    | refine Elem.map (by omega) (by omega) (fun x hx => ?_)
    | refine Done.mk ⟨rfl, rfl⟩
    | refine Done.mk ⟨congrArg gb ?_, rfl⟩
    | refine Done.mk ⟨?_, rfl⟩
    | refine Done.mk ⟨?_, ?_⟩)
  all_goals first
    | omega
    | exact ⟨by omega, by omega⟩
    | exact (compact_no hn h1 hx hy (fndB_true h)).elim

def pl_V1_4 : Nat → Option (List Nat × List Nat) := (fun k => bif Nat.beq k 4 then some ([1000004, 0, 3], []) else bif Nat.beq k 9 then some ([1000009, 0, 3, 4, 5], []) else none)
set_option maxRecDepth 100000 in
theorem compactFNone_ok : ICalls Try.prog 31 [.list 3 [] none] [] (Done (.list 3 [] none) []) := by
  refine ICalls.of_body Try.func31 rfl Try.call31 rfl (Nat.le_of_ble_eq_true rfl) pl_V1_4 rfl ?_
  repeat' ((conv => whnf); first
    | refine Br.yes rfl ?_
    | refine Br.no rfl ?_
    | refine Br.yes (beq_self_eq_true _) ?_
    | refine Br.not ?_
    | refine Br.yes (decide_eq_true (by assumption)) ?_
    | refine Br.no (decide_eq_false (by assumption)) ?_
    | refine Br.yes (beq_iff_eq.2 (by assumption)) ?_
    | refine Br.no (beq_eq_false_iff_ne.2 (by assumption)) ?_
    | refine Br.yes (bne_iff_ne.2 (by assumption)) ?_
    | (refine Br.dec (fun h => ?_) (fun h => ?_) <;> try dsimp only at h)
    | (refine Br.beqI (fun h => ?_) (fun h => ?_) <;> try dsimp only at h)
    | (refine Br.bneI (fun h => ?_) (fun h => ?_) <;> try dsimp only at h)
    | refine Br.mk (fun h => ?_) (fun h => ?_)
    | refine Need.mk (by first | kernel_rfl | exact ⟨of_decide_eq_true rfl, of_decide_eq_true rfl⟩ | omega) ?_
    | refine Len.mk ⟨_, by simp only [List.length_cons, List.length_nil, Nat.reduceAdd, Int.cast_ofNat_Int]; rfl, ?_⟩
    | refine Wr.lit _ (by simp only [Int.reduceAdd, Int.reduceSub, Int.reduceMul]; rfl) (by decide) ?_
    | refine Wr.fit (by omega) ?_
    | refine Wr.fit (by dsimp only; omega) ?_
    | refine Elem.mk ⟨_, ⟨of_decide_eq_true rfl, rfl⟩, ?_⟩
    | refine Len.map ?_
    | refine Len.dropM ?_
    | refine Elem.dropM ?_
    | refine Len.takeM ?_
    | refine Elem.takeM ?_
    | refine Elem.mapK (by assumption) ?_
    | refine Elem.mapI (by omega) (by assumption) ?_
    | refine Elem.mapN (by omega) (fun x hx => ?_)
    | refine Elem.map (by omega) (by omega) (fun x hx => ?_)
    | refine Done.mk ⟨rfl, rfl⟩
    | refine Done.mk ⟨congrArg gb ?_, rfl⟩
    | refine Done.mk ⟨?_, rfl⟩
    | refine Done.mk ⟨?_, ?_⟩)

theorem sortF_len (l : List Fnd) : (sortF l).length = l.length := List.length_mergeSort ..
theorem sortF_mem {l : List Fnd} {s : Fnd} : s ∈ sortF l ↔ s ∈ l := List.mem_mergeSort
theorem sortF_nodup {l : List Fnd} (h : l.Nodup) : ∀ (i : Nat) (x y : Fnd), (sortF l)[i]? = some x → (sortF l)[i + 1]? = some y → y ≠ x := by
  intro i x y hx hy e
  subst e
  have hn : (sortF l).Nodup := (List.mergeSort_perm l _).nodup_iff.2 h
  obtain ⟨h1, e1⟩ := List.getElem?_eq_some_iff.1 hx
  obtain ⟨h2, e2⟩ := List.getElem?_eq_some_iff.1 hy
  exact List.pairwise_iff_getElem.1 hn i (i + 1) h1 h2 (by omega) (by rw [e1, e2])

set_option maxRecDepth 100000 in
theorem clauseSortNil_ok : ICalls Try.prog 17 [.v (.slice none 0 0)] [] (Done (.list 3 [] none) []) := by
  refine ICalls.of_body Try.func17 rfl Try.call17 rfl (Nat.le_of_ble_eq_true rfl) (fun _ => none) rfl ?_
  repeat' ((conv => whnf); first
    | refine Br.yes rfl ?_
    | refine Br.no rfl ?_
    | refine Br.yes (beq_self_eq_true _) ?_
    | refine Br.not ?_
    | refine Br.yes (decide_eq_true (by assumption)) ?_
    | refine Br.no (decide_eq_false (by assumption)) ?_
    | refine Br.yes (beq_iff_eq.2 (by assumption)) ?_
    | refine Br.no (beq_eq_false_iff_ne.2 (by assumption)) ?_
    | refine Br.yes (bne_iff_ne.2 (by assumption)) ?_
    | (refine Br.dec (fun h => ?_) (fun h => ?_) <;> try dsimp only at h)
    | (refine Br.beqI (fun h => ?_) (fun h => ?_) <;> try dsimp only at h)
    | (refine Br.bneI (fun h => ?_) (fun h => ?_) <;> try dsimp only at h)
    | refine Br.mk (fun h => ?_) (fun h => ?_)
    | refine Need.mk (by first | kernel_rfl | exact ⟨of_decide_eq_true rfl, of_decide_eq_true rfl⟩ | omega) ?_
    | refine Len.mk ⟨_, by simp only [List.length_cons, List.length_nil, Nat.reduceAdd, Int.cast_ofNat_Int]; rfl, ?_⟩
    | refine Wr.lit _ (by simp only [Int.reduceAdd, Int.reduceSub, Int.reduceMul]; rfl) (by decide) ?_
    | refine Wr.fit (by omega) ?_
    | refine Wr.fit (by dsimp only; omega) ?_
    | refine Elem.mk ⟨_, ⟨of_decide_eq_true rfl, rfl⟩, ?_⟩
    | refine Len.map ?_
    | refine Len.dropM ?_
    | refine Elem.dropM ?_
    | refine Len.takeM ?_
    | refine Elem.takeM ?_
    | refine Elem.mapK (by assumption) ?_
    | refine Elem.mapI (by omega) (by assumption) ?_
    | refine Elem.mapN (by omega) (fun x hx => ?_)
    | refine Elem.map (by omega) (by omega) (fun x hx => ?_)
    | refine (cloneFNil_ok).use ⟨rfl, ?_⟩
    | refine (sortFNone_ok).use ⟨rfl, ?_⟩
    | refine (compactFNone_ok).use ⟨rfl, ?_⟩
    | refine CallX.mk ⟨_, _, (cloneFNil_ok).x, rfl, ?_⟩
    | refine CallX.mk ⟨_, _, (sortFNone_ok).x, rfl, ?_⟩
    | refine CallX.mk ⟨_, _, (compactFNone_ok).x, rfl, ?_⟩
    | refine Done.mk ⟨rfl, rfl⟩
    | refine Done.mk ⟨congrArg gb ?_, rfl⟩
    | refine Done.mk ⟨?_, rfl⟩
    | refine Done.mk ⟨?_, ?_⟩)

def pl_V1_5 : Nat → Option (List Nat × List Nat) := (fun k => bif Nat.beq k 6000002 then some ([], []) else none)
set_option maxRecDepth 100000 in
theorem clauseSortEmp_ok : ICalls Try.prog 17 [.emp] [] (Done (.list 3 [] none) []) := by
  have hS := sortFnd_ok [] 1 (by simp)
  have hC := compactFnd_ok [] 1 (by simp) (fun i x y h => by simp at h)
  rw [show sortF [] = [] by simp [sortF]] at hS
  refine ICalls.of_body Try.func17 rfl Try.call17 rfl (Nat.le_of_ble_eq_true rfl) pl_V1_5 rfl ?_
  repeat' ((conv => whnf); first
    | refine Br.yes rfl ?_
    | refine Br.no rfl ?_
    | refine Br.yes (beq_self_eq_true _) ?_
    | refine Br.not ?_
    | refine Br.yes (decide_eq_true (by assumption)) ?_
    | refine Br.no (decide_eq_false (by assumption)) ?_
    | refine Br.yes (beq_iff_eq.2 (by assumption)) ?_
    | refine Br.no (beq_eq_false_iff_ne.2 (by assumption)) ?_
    | refine Br.yes (bne_iff_ne.2 (by assumption)) ?_
    | (refine Br.dec (fun h => ?_) (fun h => ?_) <;> try dsimp only at h)
    | (refine Br.beqI (fun h => ?_) (fun h => ?_) <;> try dsimp only at h)
    | (refine Br.bneI (fun h => ?_) (fun h => ?_) <;> try dsimp only at h)
    | refine Br.mk (fun h => ?_) (fun h => ?_)
    | refine Need.mk (by first | kernel_rfl | exact ⟨of_decide_eq_true rfl, of_decide_eq_true rfl⟩ | omega) ?_
    | refine Len.mk ⟨_, by simp only [List.length_cons, List.length_nil, Nat.reduceAdd, Int.cast_ofNat_Int]; rfl, ?_⟩
    | refine Wr.lit _ (by simp only [Int.reduceAdd, Int.reduceSub, Int.reduceMul]; rfl) (by decide) ?_
    | refine Wr.fit (by omega) ?_
    | refine Wr.fit (by dsimp only; omega) ?_
    | refine Elem.mk ⟨_, ⟨of_decide_eq_true rfl, rfl⟩, ?_⟩
    | refine Len.map ?_
    | refine Len.dropM ?_
    | refine Elem.dropM ?_
    | refine Len.takeM ?_
    | refine Elem.takeM ?_
    | refine Elem.mapK (by assumption) ?_
    | refine Elem.mapI (by omega) (by assumption) ?_
    | refine Elem.mapN (by omega) (fun x hx => ?_)
    | refine Elem.map (by omega) (by omega) (fun x hx => ?_)
    | refine (cloneFEmp_ok).use ⟨rfl, ?_⟩
    | refine (hS).use ⟨rfl, ?_⟩
    | refine (hC).use ⟨rfl, ?_⟩
    | refine CallX.mk ⟨_, _, (cloneFEmp_ok).x, rfl, ?_⟩
    | refine CallX.mk ⟨_, _, (hS).x, rfl, ?_⟩
    | refine CallX.mk ⟨_, _, (hC).x, rfl, ?_⟩
    | refine Done.mk ⟨rfl, rfl⟩
    | refine Done.mk ⟨congrArg gb ?_, rfl⟩
    | refine Done.mk ⟨?_, rfl⟩
    | refine Done.mk ⟨?_, ?_⟩)

def pl_V1_6 : Nat → Option (List Nat × List Nat) := (fun k => bif Nat.beq k 6000002 then some ([], []) else none)
set_option maxRecDepth 100000 in
theorem clauseSortCons_ok (f : Fnd) (r : List Fnd) (hl : (r.length : Int) ≤ 100000000) (hn : (f :: r).Nodup) : ICalls Try.prog 17 [.list 3 (fnds (f :: r)) none] [] (Done (.list 3 (fnds (sortF (f :: r))) none) []) := by
  have hC := cloneFnd_ok f r (by omega)
  have hS := sortFnd_ok (f :: r) 1 (by simp only [List.length_cons]; omega)
  have hs := sortF_nodup hn
  have hlen := sortF_len (f :: r)
  have hK := compactFnd_ok (sortF (f :: r)) 1 (by rw [hlen]; simp only [List.length_cons]; omega) hs
  rw [hlen] at hK
  generalize sortF (f :: r) = S at *
  refine ICalls.of_body Try.func17 rfl Try.call17 rfl (Nat.le_of_ble_eq_true rfl) pl_V1_6 rfl ?_
  repeat' ((conv => whnf); first
    | refine Br.yes rfl ?_
    | refine Br.no rfl ?_
    | refine Br.yes (beq_self_eq_true _) ?_
    | refine Br.not ?_
    | refine Br.yes (decide_eq_true (by assumption)) ?_
    | refine Br.no (decide_eq_false (by assumption)) ?_
    | refine Br.yes (beq_iff_eq.2 (by assumption)) ?_
    | refine Br.no (beq_eq_false_iff_ne.2 (by assumption)) ?_
    | refine Br.yes (bne_iff_ne.2 (by assumption)) ?_
    | (refine Br.dec (fun h => ?_) (fun h => ?_) <;> try dsimp only at h)
    | (refine Br.beqI (fun h => ?_) (fun h => ?_) <;> try dsimp only at h)
    | (refine Br.bneI (fun h => ?_) (fun h => ?_) <;> try dsimp only at h)
    | refine Br.mk (fun h => ?_) (fun h => ?_)
    | refine Need.mk (by first | kernel_rfl | exact ⟨of_decide_eq_true rfl, of_decide_eq_true rfl⟩ | omega) ?_
    | refine Len.mk ⟨_, by simp only [List.length_cons, List.length_nil, Nat.reduceAdd, Int.cast_ofNat_Int]; rfl, ?_⟩
    | refine Wr.lit _ (by simp only [Int.reduceAdd, Int.reduceSub, Int.reduceMul]; rfl) (by decide) ?_
    | refine Wr.fit (by omega) ?_
    | refine Wr.fit (by dsimp only; omega) ?_
    | refine Elem.mk ⟨_, ⟨of_decide_eq_true rfl, rfl⟩, ?_⟩
    | refine Len.map ?_
    | refine Len.dropM ?_
    | refine Elem.dropM ?_
    | refine Len.takeM ?_
    | refine Elem.takeM ?_
    | refine Elem.mapK (by assumption) ?_
    | refine Elem.mapI (by omega) (by assumption) ?_
    | refine Elem.mapN (by omega) (fun x hx => ?_)
    | refine Elem.map (by omega) (by omega) (fun x hx => ?_)
    | refine (hC).use ⟨rfl, ?_⟩
    | refine (hS).use ⟨rfl, ?_⟩
    | refine (hK).use ⟨rfl, ?_⟩
    | refine CallX.mk ⟨_, _, (hC).x, rfl, ?_⟩
    | refine CallX.mk ⟨_, _, (hS).x, rfl, ?_⟩
    | refine CallX.mk ⟨_, _, (hK).x, rfl, ?_⟩
    | refine Done.mk ⟨rfl, rfl⟩
    | refine Done.mk ⟨congrArg gb ?_, rfl⟩
    | refine Done.mk ⟨?_, rfl⟩
    | refine Done.mk ⟨?_, ?_⟩)

theorem clauseSort_ok (l : List Fnd) (hl : (l.length : Int) ≤ 100000000) (hn : l.Nodup) : ICalls Try.prog 17 [.list 3 (fnds l) none] [] (Done (.list 3 (fnds (sortF l)) none) []) := by
  cases l with
  | nil => rw [show sortF [] = [] by simp [sortF]]; exact ICalls.nils (a := []) clauseSortNil_ok clauseSortEmp_ok
  | cons s r => exact clauseSortCons_ok s r (by simp only [List.length_cons] at hl; omega) hn

end Go.Hl

/- Clauses, in a set, and noted.  -/
set_option linter.unusedVariables false
set_option linter.unusedSimpArgs false
namespace Go.Hl
open Go.Gh Go.Proofs

set_option maxRecDepth 100000 in
theorem clauseIs_ok (c : Int) : ICalls Try.prog 26 [gi c] [] (Done (gb (decide (0 ≤ c) && decide (c < 16))) []) := by
  refine ICalls.of_body Try.func26 rfl Try.call26 rfl (Nat.le_of_ble_eq_true rfl) (fun _ => none) rfl ?_
  repeat' ((conv => whnf); first
    | refine Br.yes rfl ?_
    | refine Br.no rfl ?_
    | refine Br.yes (beq_self_eq_true _) ?_
    | refine Br.not ?_
    | refine Br.yes (decide_eq_true (by assumption)) ?_
    | refine Br.no (decide_eq_false (by assumption)) ?_
    | refine Br.yes (beq_iff_eq.2 (by assumption)) ?_
    | refine Br.no (beq_eq_false_iff_ne.2 (by assumption)) ?_
    | refine Br.yes (bne_iff_ne.2 (by assumption)) ?_
    | (refine Br.dec (fun h => ?_) (fun h => ?_) <;> try dsimp only at h)
    | (refine Br.beqI (fun h => ?_) (fun h => ?_) <;> try dsimp only at h)
    | (refine Br.bneI (fun h => ?_) (fun h => ?_) <;> try dsimp only at h)
    | refine Br.mk (fun h => ?_) (fun h => ?_)
    | refine Need.mk (by first | kernel_rfl | exact ⟨of_decide_eq_true rfl, of_decide_eq_true rfl⟩ | omega) ?_
    | refine Len.mk ⟨_, by simp only [List.length_cons, List.length_nil, Nat.reduceAdd, Int.cast_ofNat_Int]; rfl, ?_⟩
    | refine Wr.lit _ (by simp only [Int.reduceAdd, Int.reduceSub, Int.reduceMul]; rfl) (by decide) ?_
    | refine Wr.fit (by omega) ?_
    | refine Wr.fit (by dsimp only; omega) ?_
    | refine Elem.mk ⟨_, ⟨of_decide_eq_true rfl, rfl⟩, ?_⟩
    | refine Len.map ?_
    | refine Len.dropM ?_
    | refine Elem.dropM ?_
    | refine Len.takeM ?_
    | refine Elem.takeM ?_
    | refine Elem.mapK (by assumption) ?_
    | refine Elem.mapI (by omega) (by assumption) ?_
    | refine Elem.mapN (by omega) (fun x hx => ?_)
    | refine Elem.map (by omega) (by omega) (fun x hx => ?_)
    | refine Done.mk ⟨rfl, rfl⟩
    | refine Done.mk ⟨congrArg gb ?_, rfl⟩
    | refine Done.mk ⟨?_, rfl⟩
    | refine Done.mk ⟨?_, ?_⟩)
  all_goals simp [*]
theorem or_cast {a b : Nat} (ha : a < 2 ^ 62) (hb : b < 2 ^ 62) : IntKind.i64.wrap ((BitVec.ofInt 64 (a : Int) ||| BitVec.ofInt 64 (b : Int)).toNat : Int) = ((a ||| b : Nat) : Int) := by
  have h : a ||| b < 2 ^ 62 := Nat.or_lt_two_pow ha hb
  have e1 : (BitVec.ofInt 64 (a : Int) ||| BitVec.ofInt 64 (b : Int)).toNat = a ||| b := by
    rw [BitVec.toNat_or, BitVec.toNat_ofInt, BitVec.toNat_ofInt]
    have h1 : ((a : Int) % ((2 ^ 64 : Nat) : Int)).toNat = a := by omega
    have h2 : ((b : Int) % ((2 ^ 64 : Nat) : Int)).toNat = b := by omega
    rw [h1, h2]
  rw [e1, IntKind.wrap_i64]
  omega
def markN (s : Nat) (c : Int) : Nat := if 0 ≤ c ∧ c < 16 then s ||| 2 ^ c.toNat else s
theorem markN_lt {s : Nat} {c : Int} (hs : s < 65536) : markN s c < 65536 := by
  unfold markN
  split
  · rename_i h
    have : 2 ^ c.toNat < 2 ^ 16 := Nat.pow_lt_pow_right (by omega) (by omega)
    exact Nat.or_lt_two_pow (n := 16) hs this
  · exact hs
theorem set_or {z c : Int} {s : Nat} (hz : z = (s : Int)) (hs : s < 65536) (hc : 0 ≤ c ∧ c < 16) :
    IntKind.i64.wrap ((BitVec.ofInt 64 z ||| BitVec.ofInt 64 (IntKind.i64.wrap (1 * 2 ^ (min c.toNat 64)))).toNat : Int) = ((markN s c : Nat) : Int) := by
  have h2 : 2 ^ c.toNat < 2 ^ 16 := Nat.pow_lt_pow_right (by omega) (by omega)
  have e1 : IntKind.i64.wrap (1 * 2 ^ (min c.toNat 64)) = ((2 ^ c.toNat : Nat) : Int) := by
    rw [show min c.toNat 64 = c.toNat by omega, IntKind.wrap_i64]
    have : (1 * 2 ^ c.toNat : Int) = ((2 ^ c.toNat : Nat) : Int) := by push_cast; omega
    rw [this]
    generalize 2 ^ c.toNat = p at *
    omega
  rw [e1, hz]
  rw [or_cast (by omega) (by omega), markN, if_pos hc]

theorem fdiv_nat (s c : Nat) (hc : c < 16) : (s : Int).fdiv (2 ^ (min (c : Int).toNat 64)) = ((s / 2 ^ c : Nat) : Int) := by
  rw [Int.toNat_natCast, show min c 64 = c by omega]
  rw [Int.fdiv_eq_ediv_of_nonneg _ (Int.le_of_lt (Int.pow_pos (by omega)))]
  push_cast
  rfl
theorem and_bitF (s c : Nat) (hs : s < 65536) (hc : c < 16) :
    (IntKind.i64.wrap ((BitVec.ofInt 64 ((s : Int).fdiv (2 ^ (min (c : Int).toNat 64))) &&& BitVec.ofInt 64 1).toNat : Int) = 1) ↔ s.testBit c = true := by
  rw [fdiv_nat s c hc]
  have hq : s / 2 ^ c < 65536 := Nat.lt_of_le_of_lt (Nat.div_le_self _ _) hs
  rw [Nat.testBit_eq_decide_div_mod_eq]
  generalize s / 2 ^ c = q at *
  rw [BitVec.toNat_and, BitVec.toNat_ofInt, BitVec.toNat_ofInt]
  have h1 : ((q : Int) % ((2 ^ 64 : Nat) : Int)).toNat = q := by omega
  have h2 : ((1 : Int) % ((2 ^ 64 : Nat) : Int)).toNat = 1 := by omega
  rw [h1, h2, Nat.and_one_is_mod, IntKind.wrap_i64]
  simp only [decide_eq_true_eq]
  omega

set_option maxRecDepth 100000 in
theorem clauseIn_ok (s c : Nat) (hs : s < 65536) (hc : c < 16) : ICalls Try.prog 15 [gi s, gi c] [] (Done (gb (s.testBit c)) []) := by
  have h := (clauseIs_ok c).to (congrArg gb (show (decide ((0 : Int) ≤ (c : Int)) && decide ((c : Int) < 16)) = true by simp; omega))
  have hb := and_bitF s c hs hc
  refine ICalls.of_body Try.func15 rfl Try.call15 rfl (Nat.le_of_ble_eq_true rfl) (fun _ => none) rfl ?_
  repeat' ((conv => whnf); first
    | refine Br.yes rfl ?_
    | refine Br.no rfl ?_
    | refine Br.yes (beq_self_eq_true _) ?_
    | refine Br.not ?_
    | refine Br.yes (decide_eq_true (by assumption)) ?_
    | refine Br.no (decide_eq_false (by assumption)) ?_
    | refine Br.yes (beq_iff_eq.2 (by assumption)) ?_
    | refine Br.no (beq_eq_false_iff_ne.2 (by assumption)) ?_
    | refine Br.yes (bne_iff_ne.2 (by assumption)) ?_
    | (refine Br.dec (fun h => ?_) (fun h => ?_) <;> try dsimp only at h)
    | (refine Br.beqI (fun h => ?_) (fun h => ?_) <;> try dsimp only at h)
    | (refine Br.bneI (fun h => ?_) (fun h => ?_) <;> try dsimp only at h)
    | refine Br.mk (fun h => ?_) (fun h => ?_)
    | refine Need.mk (by first | kernel_rfl | exact ⟨of_decide_eq_true rfl, of_decide_eq_true rfl⟩ | omega) ?_
    | refine Len.mk ⟨_, by simp only [List.length_cons, List.length_nil, Nat.reduceAdd, Int.cast_ofNat_Int]; rfl, ?_⟩
    | refine Wr.lit _ (by simp only [Int.reduceAdd, Int.reduceSub, Int.reduceMul]; rfl) (by decide) ?_
    | refine Wr.fit (by omega) ?_
    | refine Wr.fit (by dsimp only; omega) ?_
    | refine Elem.mk ⟨_, ⟨of_decide_eq_true rfl, rfl⟩, ?_⟩
    | refine Len.map ?_
    | refine Len.dropM ?_
    | refine Elem.dropM ?_
    | refine Len.takeM ?_
    | refine Elem.takeM ?_
    | refine Elem.mapK (by assumption) ?_
    | refine Elem.mapI (by omega) (by assumption) ?_
    | refine Elem.mapN (by omega) (fun x hx => ?_)
    | refine Elem.map (by omega) (by omega) (fun x hx => ?_)
    | refine (h).use ⟨rfl, ?_⟩
    | refine CallX.mk ⟨_, _, (h).x, rfl, ?_⟩
    | refine Done.mk ⟨rfl, rfl⟩
    | refine Done.mk ⟨congrArg gb ?_, rfl⟩
    | refine Done.mk ⟨?_, rfl⟩
    | refine Done.mk ⟨?_, ?_⟩)
  all_goals exact Bool.eq_iff_iff.2 (beq_iff_eq.trans hb)

def nS (s c : Nat) : Nat := if s.testBit c then s else s ||| 2 ^ c
def nO (s c : Nat) (f : Fnd) (out : List Fnd) : List Fnd := if s.testBit c then out else out ++ [f]
def nV (s c v : Nat) : Nat := if s.testBit c then v else v + 1
theorem nO_len {s c : Nat} {f : Fnd} {out : List Fnd} : (nO s c f out).length ≤ out.length + 1 := by unfold nO; split <;> simp
theorem set_orN {s c : Nat} (hs : s < 65536) (hc : c < 16) :
    IntKind.i64.wrap ((BitVec.ofInt 64 (s : Int) ||| BitVec.ofInt 64 (IntKind.i64.wrap (1 * 2 ^ (min (c : Int).toNat 64)))).toNat : Int) = ((s ||| 2 ^ c : Nat) : Int) := by
  rw [set_or (s := s) (c := (c : Int)) rfl (by omega) (by omega), markN, if_pos (by omega), Int.toNat_natCast]

theorem note_cells {z : Int} {s' : Nat} {e : Nat} (h : z = (s' : Int)) (out : List Fnd) (f : Fnd) (v : Nat) :
    [GB.cells [GV.v (.int .i64 z)], GB.cells [GV.ms 3 2 (v + 1) ((fnds out).length + [f.g].length)], GB.mvec e 3 (fnds out ++ [f.g]) (v + 1)] = [GB.cells [gi s'], GB.cells [GV.ms 3 2 (v + 1) (out ++ [f]).length], GB.mvec e 3 (fnds (out ++ [f])) (v + 1)] := by
  rw [h, fnds_app, fnds_len]
  simp

/-- What is noted: the clauses as a number, the findings, how often they were laid anew. -/
structure NS where
  s : Nat
  out : List Fnd
  v : Nat
/-- The findings are of the clauses that are noted, each once. -/
structure NInv16 (x : NS) : Prop where
  bits : ∀ c : Nat, x.s.testBit c = true ↔ ∃ f, f ∈ x.out ∧ f.Clause = (c : Int)
  pw : x.out.Pairwise fun f g => f.Clause ≠ g.Clause
theorem NInv16.note {x : NS} (h : NInv16 x) (c : Nat) (a t : Int) : NInv16 ⟨nS x.s c, nO x.s c ⟨c, a, t⟩ x.out, nV x.s c x.v⟩ := by
  unfold nS nO nV
  cases hb : x.s.testBit c with
  | true => simp only [if_true]; exact ⟨h.bits, h.pw⟩
  | false =>
    simp only [Bool.false_eq_true, if_false]
    refine ⟨fun d => ?_, ?_⟩
    · simp only
      rw [Nat.testBit_or, Bool.or_eq_true, h.bits d, Nat.testBit_two_pow]
      simp only [decide_eq_true_eq]
      constructor
      · rintro (⟨f, h1, h2⟩ | e)
        · exact ⟨f, List.mem_append_left _ h1, h2⟩
        · exact ⟨⟨c, a, t⟩, List.mem_append_right _ (List.mem_singleton.2 rfl), by simp only; omega⟩
      · rintro ⟨f, h1, h2⟩
        rcases List.mem_append.1 h1 with h1 | h1
        · exact .inl ⟨f, h1, h2⟩
        · right
          cases List.mem_singleton.1 h1
          simp only at h2; omega
    · simp only
      rw [List.pairwise_append]
      refine ⟨h.pw, List.pairwise_singleton .., fun f hf g hg e => ?_⟩
      cases List.mem_singleton.1 hg
      have : x.s.testBit c = true := (h.bits c).2 ⟨f, hf, e⟩
      rw [hb] at this; cases this
theorem NInv16.nodup {x : NS} (h : NInv16 x) : x.out.Nodup := h.pw.imp fun hab e => hab (by rw [e])
theorem NInv16.start : NInv16 ⟨0, [], 0⟩ := ⟨fun c => by simp, List.Pairwise.nil⟩

end Go.Hl
