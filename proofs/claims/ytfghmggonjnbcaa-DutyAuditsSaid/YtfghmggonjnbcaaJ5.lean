/- Contracts of functions, bundle J5; proved for whatever the arguments' types allow, as each theorem says. -/
import Derived.Test.YtfghmggonjnbcaaJ1
import Derived.Test.YtfghmggonjnbcaaH9
import Derived.Test.YtfghmggonjnbcaaV2
import Derived.Test.YtfghmggonjnbcaaJ3

/- Chapter 16: the reference's errors.  -/
set_option linter.unusedVariables false
set_option linter.unusedSimpArgs false
namespace Go.Hl
open Go.Gh Go.Proofs

theorem late0_begin : ∀ l : List Rec, late0 l = decide (beginOf l ≠ 0)
  | [] => by simp [late0, beginOf]
  | r :: t => by by_cases h : r.From = 0 <;> simp [late0, beginOf, h]
theorem dutyErr_ref (b : Book) (l : List Rec) : dutyErr b l = if b.May then (if (recsErr 0 none l).2 ≠ 0 then (recsErr 0 none l).2 else if beginOf l ≠ 0 then 5 else 0) else 14 := by
  unfold dutyErr Book.code
  rw [late0_begin]
  by_cases hb : b.May
  · rw [if_pos hb, if_pos hb, if_pos rfl]
    by_cases hr : (recsErr 0 none l).2 = 0
    · simp [hr]
    · rw [if_neg hr, if_pos hr]
  · rw [if_neg hb, if_neg hb, if_neg (by decide)]
set_option maxRecDepth 100000 in
set_option maxHeartbeats 1000000 in
theorem refDutyCheck_ok (b : Book) (l : List Rec) (hl : (l.length : Int) ≤ 1000000000) : ICalls Try.prog 18 [b.g, .list 3 (recs l) none] [] (Done (gi (dutyErr b l)) []) := by
  have h1 := bookMay_ok b
  have h2 := refRecs_ok l hl
  unfold pairG at h2
  have h3 := refBegin_ok l
  rw [dutyErr_ref]
  generalize recsErr 0 none l = w at *
  generalize beginOf l = a at *
  obtain ⟨w1, w2⟩ := w
  refine ICalls.of_body Try.func18 rfl Try.call18 rfl (Nat.le_of_ble_eq_true rfl) (fun _ => none) rfl ?_
  repeat' ((conv => whnf); first
    | refine Br.yes rfl ?_
    | refine Br.no rfl ?_
    | refine Br.yes (beq_self_eq_true _) ?_
    | refine Br.not ?_
    | refine Br.yes (decide_eq_true (by assumption)) ?_
    | refine Br.no (decide_eq_false (by assumption)) ?_
    | refine Br.yes (beq_iff_eq.2 (by assumption)) ?_
    | refine Br.no (beq_eq_false_iff_ne.2 (by assumption)) ?_
    | refine Br.yes (bne_iff_ne.2 (by assumption)) ?_
    | (refine Br.dec (fun h => ?_) (fun h => ?_) <;> try dsimp only at h)
    | (refine Br.beqI (fun h => ?_) (fun h => ?_) <;> try dsimp only at h)
    | (refine Br.bneI (fun h => ?_) (fun h => ?_) <;> try dsimp only at h)
    | refine Br.mk (fun h => ?_) (fun h => ?_)
    | refine Need.mk (by first | kernel_rfl | exact ⟨of_decide_eq_true rfl, of_decide_eq_true rfl⟩ | omega) ?_
    | refine Len.mk ⟨_, by simp only [List.length_cons, List.length_nil, Nat.reduceAdd, Int.cast_ofNat_Int]; rfl, ?_⟩
    | refine Wr.lit _ (by simp only [Int.reduceAdd, Int.reduceSub, Int.reduceMul]; rfl) (by decide) ?_
    | refine Wr.fit (by omega) ?_
    | refine Wr.fit (by dsimp only; omega) ?_
    | refine Elem.mk ⟨_, ⟨of_decide_eq_true rfl, rfl⟩, ?_⟩
    | refine Len.map ?_
    | refine Len.dropM ?_
    | refine Elem.dropM ?_
    | refine Len.takeM ?_
    | refine Elem.takeM ?_
    | refine Elem.mapK (by assumption) ?_
    | refine Elem.mapI (by omega) (by assumption) ?_
    | refine Elem.mapN (by omega) (fun x hx => ?_)
    | refine Elem.map (by omega) (by omega) (fun x hx => ?_)
    | refine (h1).use ⟨rfl, ?_⟩
    | refine (h2).use ⟨rfl, ?_⟩
    | refine (h3).use ⟨rfl, ?_⟩
    | refine CallX.mk ⟨_, _, (h1).x, rfl, ?_⟩
    | refine CallX.mk ⟨_, _, (h2).x, rfl, ?_⟩
    | refine CallX.mk ⟨_, _, (h3).x, rfl, ?_⟩
    | refine Done.mk ⟨rfl, rfl⟩
    | refine Done.mk ⟨congrArg gb ?_, rfl⟩
    | refine Done.mk ⟨?_, rfl⟩
    | refine Done.mk ⟨?_, ?_⟩)
  all_goals first
    | omega
    | (simp_all; done)

end Go.Hl

/- Chapter 16: the reference, looking back: reduced rests, brief ones.  -/
set_option linter.unusedVariables false
set_option linter.unusedSimpArgs false
namespace Go.Hl
open Go.Gh Go.Proofs

theorem redC_step {b : Book} {l : List Span} {sab n W : Int} {i : Nat} {x : Span} (hx : l[i]? = some x) (hr : n + redC b l sab (l.length - i) i = W) : n + (if sab < x.To ∧ redF b l i = true then 1 else 0) + redC b l sab (l.length - (i + 1)) (i + 1) = W := by
  have h := (List.getElem?_eq_some_iff.1 hx).1
  rw [show l.length - i = (l.length - (i + 1)) + 1 by omega, redC, hx] at hr
  simp only at hr; omega
theorem redC_end {b : Book} {l : List Span} {sab n W : Int} {i : Nat} (hi : ¬ (i : Int) < l.length) (hr : n + redC b l sab (l.length - i) i = W) : n = W := by
  rw [show l.length - i = 0 by omega, redC] at hr; omega
theorem last_get {l : List Span} {s : Span} (h : l[((l.length : Int) - 1).toNat]? = some s) : l.getLast? = some s ∧ l[l.length - 1]? = some s := by
  rw [show ((l.length : Int) - 1).toNat = l.length - 1 by omega] at h
  exact ⟨by rw [List.getLast?_eq_getElem?]; exact h, h⟩

def pl_J6_1 : Nat → Option (List Nat × List Nat) := (fun k => bif Nat.beq k 26 then some ([1000026, 4, 9, 11, 14, 15, 16], [104]) else bif Nat.beq k 38 then some ([1000038, 4, 9, 17, 18, 19, 20], [104, 117]) else none)
def pl_J6_2 : Nat → Option (List Nat × List Nat) := (fun k => bif Nat.beq k 26 then some ([1000026, 4, 9, 11, 14, 15, 16], [104]) else bif Nat.beq k 38 then some ([1000038, 4, 9, 17, 18, 19, 20], [104, 117]) else none)
set_option maxRecDepth 100000 in
set_option maxHeartbeats 4000000 in
theorem breaks6_ok (b : Book) (ks : List Int) (m : Nat) (k : Int) (hkm : ks[m]? = some k) (hks : (ks.length : Int) ≤ 1000000) (hb : b.May) :
    ICalls Try.prog 20 [b.g, .list 1 (ints ks) none, gi m, gi 6] [] (Done (gb (brkF b ks m 6)) []) := by
  have hml : (m : Int) < ks.length := by have := (List.getElem?_eq_some_iff.1 hkm).1; omega
  obtain ⟨hn, hl, hin⟩ := breakEnd_facts (ks := ks) (m := m) (by omega) hks
  have h1 := rests_ok ks m (by omega) hks
  have h2 := last16_ok (restsF ks m) b.Reduced m hl hn
  have h3 := last16_ok (restsF ks m) b.Short m hl hn
  have hw := hb.within
  unfold Book.within at hw
  have hmod := tmod_fitJ (a := (m : Int)) (n := b.Length) (by omega) (by omega)
  have hends := fun s h => endsB_of (l := restsF ks m) (m := m) (s := s) h
  have hz : (restsF ks m).length = 0 → endsB (restsF ks m) m = false := by
    intro h
    rw [List.length_eq_zero_iff.1 h]; rfl
  have hR : 0 ≤ b.Round ∧ b.Round ≤ 1000000 := by omega
  have hred : ∀ s, (restsF ks m)[(((restsF ks m).length : Int) - 1).toNat]? = some s → ICalls Try.prog 40 [b.g, .list 2 (spans (restsF ks m)) none, gi (((restsF ks m).length : Int) - 1)] [] (Done (gb (redF b (restsF ks m) ((restsF ks m).length - 1))) []) := by
    intro s hs
    have h := (List.getElem?_eq_some_iff.1 (last_get hs).2).1
    have := reduced16_ok b (restsF ks m) ((restsF ks m).length - 1) s (last_get hs).2 hl hn hR
    rwa [show (((restsF ks m).length - 1 : Nat) : Int) = ((restsF ks m).length : Int) - 1 by omega] at this
  rw [show brkF b ks m 6 = (endsB (restsF ks m) m && (redF b (restsF ks m) ((restsF ks m).length - 1) && decide (b.Reduces < redC b (restsF ks m) (lastF b.Short m (restsF ks m) 0) (restsF ks m).length 0))) from rfl]
  have r3 := lastF_range (long := b.Short) (m := m) (restsF ks m) 0 hn (by omega)
  generalize hC : redC b (restsF ks m) (lastF b.Short m (restsF ks m) 0) (restsF ks m).length 0 = C at *
  generalize lastF b.Reduced m (restsF ks m) 0 = d2 at *
  generalize lastF b.Short m (restsF ks m) 0 = d3 at *
  generalize restsF ks m = L at *
  generalize redF b L (L.length - 1) = z at *
  generalize hE : endsB L m = E at *
  have hC0 : (0 : Int) + redC b L d3 (L.length - 0) 0 = C := by rw [Nat.sub_zero, hC]; omega
  clear hb hin
  cases E with
  | true =>
    have hpos : 0 < (L.length : Int) := by
      by_cases h : L.length = 0
      · have := hz h; cases this
      · omega
    have hends2 : ∀ s, L[((L.length : Int) - 1).toNat]? = some s → s.To = m := fun s h => of_decide_eq_true (hends s h).symm
    clear hends hz hE
    refine ICalls.of_body Try.func20 rfl Try.call20 rfl (Nat.le_of_ble_eq_true rfl) pl_J6_1 rfl ?_
    repeat' ((conv => whnf); first
      | refine Br.yes rfl ?_
      | refine Br.no rfl ?_
      | (refine Elem.mapK (by assumption) ?_)
      | (refine Elem.mapI (by omega) (by assumption) ?_)
      | (refine Elem.mapN (by omega) (fun x hx => ?_))
      | (refine Elem.map (by omega) (by omega) (fun s hsx => ?_); have hes := hends2 s hsx)
      | (refine ILoop.ov 1000026 (fun ((i, n) : Nat × Int) => [(16, gi i), (15, gi n)]) (fun ((i, n) : Nat × Int) => []) (fun ((i, n) : Nat × Int) => i ≤ L.length ∧ (0 ≤ n ∧ n ≤ i) ∧ n + redC b L d3 (L.length - i) i = C) (fun ((i, n) : Nat × Int) => L.length - i) ((0, 0)) (by exact rfl) ?_; (conv => whnf); refine Start.mk rfl ?_ ?_; (try dsimp only); rotate_left; rintro ⟨i, n⟩ ⟨hi, hnn, hr⟩)
      | (refine Again.mk ⟨((i + 1, n + 1)), rfl, ?_, ?_⟩ <;> try dsimp only)
      | (refine Again.mk ⟨((i + 1, n)), rfl, ?_, ?_⟩ <;> try dsimp only)
      | refine Br.yes (beq_self_eq_true _) ?_
      | refine Br.not ?_
      | refine Br.yes (decide_eq_true (by assumption)) ?_
      | refine Br.no (decide_eq_false (by assumption)) ?_
      | refine Br.yes (beq_iff_eq.2 (by assumption)) ?_
      | refine Br.no (beq_eq_false_iff_ne.2 (by assumption)) ?_
      | refine Br.yes (bne_iff_ne.2 (by assumption)) ?_
      | (refine Br.dec (fun h => ?_) (fun h => ?_) <;> try dsimp only at h)
      | (refine Br.beqI (fun h => ?_) (fun h => ?_) <;> try dsimp only at h)
      | (refine Br.bneI (fun h => ?_) (fun h => ?_) <;> try dsimp only at h)
      | refine Br.mk (fun h => ?_) (fun h => ?_)
      | refine Need.mk (by first | kernel_rfl | exact ⟨of_decide_eq_true rfl, of_decide_eq_true rfl⟩ | omega) ?_
      | refine Len.mk ⟨_, by simp only [List.length_cons, List.length_nil, Nat.reduceAdd, Int.cast_ofNat_Int]; rfl, ?_⟩
      | refine Wr.lit _ (by simp only [Int.reduceAdd, Int.reduceSub, Int.reduceMul]; rfl) (by decide) ?_
      | refine Wr.fit (by omega) ?_
      | refine Wr.fit (by dsimp only; omega) ?_
      | refine Elem.mk ⟨_, ⟨of_decide_eq_true rfl, rfl⟩, ?_⟩
      | refine Len.map ?_
      | refine Len.dropM ?_
      | refine Elem.dropM ?_
      | refine Len.takeM ?_
      | refine Elem.takeM ?_
      | refine Elem.mapK (by assumption) ?_
      | refine Elem.mapI (by omega) (by assumption) ?_
      | refine Elem.mapN (by omega) (fun x hx => ?_)
      | refine Elem.map (by omega) (by omega) (fun x hx => ?_)
      | refine (h1).use ⟨rfl, ?_⟩
      | refine (h2).use ⟨rfl, ?_⟩
      | refine (h3).use ⟨rfl, ?_⟩
      | refine (reduced16_ok b L i x hx hl hn hR).use ⟨rfl, ?_⟩
      | refine (hred s hsx).use ⟨rfl, ?_⟩
      | refine CallX.mk ⟨_, _, (h1).x, rfl, ?_⟩
      | refine CallX.mk ⟨_, _, (h2).x, rfl, ?_⟩
      | refine CallX.mk ⟨_, _, (h3).x, rfl, ?_⟩
      | refine CallX.mk ⟨_, _, (reduced16_ok b L i x hx hl hn hR).x, rfl, ?_⟩
      | refine CallX.mk ⟨_, _, (hred s hsx).x, rfl, ?_⟩
      | refine Done.mk ⟨rfl, rfl⟩
      | refine Done.mk ⟨congrArg gb ?_, rfl⟩
      | refine Done.mk ⟨?_, rfl⟩
      | refine Done.mk ⟨?_, ?_⟩)
    all_goals first
      | omega
      | exact ⟨by omega, by omega, hC0⟩
      | (have h9 := redC_step hx hr; rw [if_pos ⟨by assumption, by assumption⟩] at h9; exact ⟨by omega, by omega, h9⟩)
      | (have h9 := redC_step hx hr; rw [if_neg (fun e => by simp_all), Int.add_zero] at h9; exact ⟨by omega, by omega, h9⟩)
      | (have h9 := redC_end (by assumption) hr; subst h9; simp_all; done)
  | false =>
    have hends2 : ∀ s, L[((L.length : Int) - 1).toNat]? = some s → ¬ s.To = m := fun s h => of_decide_eq_false (hends s h).symm
    clear hends hz hE
    refine ICalls.of_body Try.func20 rfl Try.call20 rfl (Nat.le_of_ble_eq_true rfl) pl_J6_2 rfl ?_
    repeat' ((conv => whnf); first
      | refine Br.yes rfl ?_
      | refine Br.no rfl ?_
      | (refine Elem.mapK (by assumption) ?_)
      | (refine Elem.mapI (by omega) (by assumption) ?_)
      | (refine Elem.mapN (by omega) (fun x hx => ?_))
      | (refine Elem.map (by omega) (by omega) (fun s hsx => ?_); have hes := hends2 s hsx)
      | (refine ILoop.ov 1000026 (fun ((i, n) : Nat × Int) => [(16, gi i), (15, gi n)]) (fun ((i, n) : Nat × Int) => []) (fun ((i, n) : Nat × Int) => i ≤ L.length ∧ (0 ≤ n ∧ n ≤ i)) (fun ((i, n) : Nat × Int) => L.length - i) ((0, 0)) (by exact rfl) ?_; (conv => whnf); refine Start.mk rfl ?_ ?_; (try dsimp only); rotate_left; rintro ⟨i, n⟩ ⟨hi, hnn⟩)
      | (refine Again.mk ⟨((i + 1, n + 1)), rfl, ?_, ?_⟩ <;> try dsimp only)
      | (refine Again.mk ⟨((i + 1, n)), rfl, ?_, ?_⟩ <;> try dsimp only)
      | refine Br.yes (beq_self_eq_true _) ?_
      | refine Br.not ?_
      | refine Br.yes (decide_eq_true (by assumption)) ?_
      | refine Br.no (decide_eq_false (by assumption)) ?_
      | refine Br.yes (beq_iff_eq.2 (by assumption)) ?_
      | refine Br.no (beq_eq_false_iff_ne.2 (by assumption)) ?_
      | refine Br.yes (bne_iff_ne.2 (by assumption)) ?_
      | (refine Br.dec (fun h => ?_) (fun h => ?_) <;> try dsimp only at h)
      | (refine Br.beqI (fun h => ?_) (fun h => ?_) <;> try dsimp only at h)
      | (refine Br.bneI (fun h => ?_) (fun h => ?_) <;> try dsimp only at h)
      | refine Br.mk (fun h => ?_) (fun h => ?_)
      | refine Need.mk (by first | kernel_rfl | exact ⟨of_decide_eq_true rfl, of_decide_eq_true rfl⟩ | omega) ?_
      | refine Len.mk ⟨_, by simp only [List.length_cons, List.length_nil, Nat.reduceAdd, Int.cast_ofNat_Int]; rfl, ?_⟩
      | refine Wr.lit _ (by simp only [Int.reduceAdd, Int.reduceSub, Int.reduceMul]; rfl) (by decide) ?_
      | refine Wr.fit (by omega) ?_
      | refine Wr.fit (by dsimp only; omega) ?_
      | refine Elem.mk ⟨_, ⟨of_decide_eq_true rfl, rfl⟩, ?_⟩
      | refine Len.map ?_
      | refine Len.dropM ?_
      | refine Elem.dropM ?_
      | refine Len.takeM ?_
      | refine Elem.takeM ?_
      | refine Elem.mapK (by assumption) ?_
      | refine Elem.mapI (by omega) (by assumption) ?_
      | refine Elem.mapN (by omega) (fun x hx => ?_)
      | refine Elem.map (by omega) (by omega) (fun x hx => ?_)
      | refine (h1).use ⟨rfl, ?_⟩
      | refine (h2).use ⟨rfl, ?_⟩
      | refine (h3).use ⟨rfl, ?_⟩
      | refine (reduced16_ok b L i x hx hl hn hR).use ⟨rfl, ?_⟩
      | refine CallX.mk ⟨_, _, (h1).x, rfl, ?_⟩
      | refine CallX.mk ⟨_, _, (h2).x, rfl, ?_⟩
      | refine CallX.mk ⟨_, _, (h3).x, rfl, ?_⟩
      | refine CallX.mk ⟨_, _, (reduced16_ok b L i x hx hl hn hR).x, rfl, ?_⟩
      | refine Done.mk ⟨rfl, rfl⟩
      | refine Done.mk ⟨congrArg gb ?_, rfl⟩
      | refine Done.mk ⟨?_, rfl⟩
      | refine Done.mk ⟨?_, ?_⟩)
    all_goals first
      | omega
      | exact ⟨by omega, by omega⟩
      | (simp_all; done)

end Go.Hl

/- Chapter 16: the reference, looking back: brief weekly rests.  -/
set_option linter.unusedVariables false
set_option linter.unusedSimpArgs false
namespace Go.Hl
open Go.Gh Go.Proofs

theorem brK_step {b : Book} {ah : Int} {l : List Span} {k i : Nat} {x : Span} {f W : Bool} (hx : l[i]? = some x) (hi : i < k) (hr : (f || brK b ah l (k - i) i) = W) :
    ((f || (decide (0 < ah) && (decide (x.To = ah) && decide (x.To - x.From < b.Weekly)))) || brK b ah l (k - (i + 1)) (i + 1)) = W := by
  rw [show k - i = (k - (i + 1)) + 1 by omega, brK, hx] at hr
  rw [Bool.or_assoc]; exact hr
theorem brK_none {b : Book} {ah : Int} {l : List Span} (h : ¬ 0 < ah) : ∀ (n i : Nat), brK b ah l n i = false
  | 0, _ => rfl
  | n + 1, i => by
    rw [brK, brK_none h n (i + 1), Bool.or_false]
    split
    · rw [decide_eq_false h, Bool.false_and]
    · rfl
theorem brK_end {b : Book} {ah : Int} {l : List Span} {k i : Nat} {f W : Bool} (hi : ¬ i < k) (hr : (f || brK b ah l (k - i) i) = W) : f = W := by
  rw [show k - i = 0 by omega, brK, Bool.or_false] at hr; exact hr

def pl_J7_1 : Nat → Option (List Nat × List Nat) := (fun k => bif Nat.beq k 26 then some ([1000026, 4, 9, 11, 14, 15, 16], [104]) else bif Nat.beq k 38 then some ([1000038, 4, 9, 17, 18, 19, 20], [104, 117]) else none)
def pl_J7_2 : Nat → Option (List Nat × List Nat) := (fun k => bif Nat.beq k 26 then some ([1000026, 4, 9, 11, 14, 15, 16], [104]) else bif Nat.beq k 38 then some ([1000038, 4, 9, 17, 18, 19, 20], [104, 117]) else none)
set_option maxRecDepth 100000 in
set_option maxHeartbeats 4000000 in
theorem breaks8c_ok (b : Book) (ks : List Int) (m : Nat) (k : Int) (hkm : ks[m]? = some k) (hks : (ks.length : Int) ≤ 1000000) (hb : b.May) :
    ICalls Try.prog 20 [b.g, .list 1 (ints ks) none, gi m, gi 8] [] (Done (gb (brkF b ks m 8)) []) := by
  have hml : (m : Int) < ks.length := by have := (List.getElem?_eq_some_iff.1 hkm).1; omega
  obtain ⟨hn, hl, hin⟩ := breakEnd_facts (ks := ks) (m := m) (by omega) hks
  have h1 := rests_ok ks m (by omega) hks
  have h2 := last16_ok (restsF ks m) b.Reduced m hl hn
  have h3 := last16_ok (restsF ks m) b.Short m hl hn
  have ht : Near ((restsF ks m).take (((restsF ks m).length : Int) - 1).toNat) := fun s hs => hn s (List.mem_of_mem_take hs)
  have htl : ((((restsF ks m).take (((restsF ks m).length : Int) - 1).toNat)).length : Int) ≤ 1000000 := by rw [List.length_take]; omega
  have e3 := last16_ok _ b.Short m htl ht
  rw [show spans ((restsF ks m).take (((restsF ks m).length : Int) - 1).toNat) = (spans (restsF ks m)).take (((restsF ks m).length : Int) - 1).toNat from List.map_take] at e3
  have hw := hb.within
  unfold Book.within at hw
  have hmod := tmod_fitJ (a := (m : Int)) (n := b.Length) (by omega) (by omega)
  have hends := fun s h => endsB_of (l := restsF ks m) (m := m) (s := s) h
  have hz : (restsF ks m).length = 0 → endsB (restsF ks m) m = false := by
    intro h
    rw [List.length_eq_zero_iff.1 h]; rfl
  rw [show brkF b ks m 8 = (endsB (restsF ks m) m && (match (restsF ks m).getLast? with | none => false | some s => (decide (b.Short ≤ s.To - s.From) && decide (s.To - s.From < b.Weekly)) && brK b (lastF b.Short m ((restsF ks m).take (((restsF ks m).length : Int) - 1).toNat) 0) (restsF ks m) (((restsF ks m).length : Int) - 1).toNat 0)) from rfl]
  generalize lastF b.Short m ((restsF ks m).take (((restsF ks m).length : Int) - 1).toNat) 0 = ah at *
  generalize lastF b.Reduced m (restsF ks m) 0 = d2 at *
  generalize lastF b.Short m (restsF ks m) 0 = d3 at *
  generalize restsF ks m = L at *
  generalize hE : endsB L m = E at *
  clear hb hin ht htl
  cases E with
  | true =>
    have hpos : 0 < (L.length : Int) := by
      by_cases h : L.length = 0
      · have := hz h; cases this
      · omega
    have hends2 : ∀ s, L[((L.length : Int) - 1).toNat]? = some s → s.To = m := fun s h => of_decide_eq_true (hends s h).symm
    obtain ⟨s, hsx⟩ : ∃ s, L[((L.length : Int) - 1).toNat]? = some s := ⟨_, List.getElem?_eq_getElem (by omega)⟩
    have hes := hends2 s hsx
    have hsn := hn s (List.mem_of_getElem? hsx)
    rw [(last_get hsx).1]
    simp only [Bool.true_and]
    generalize hK : brK b ah L ((L.length : Int) - 1).toNat 0 = K
    have hK0 : (false || brK b ah L (((L.length : Int) - 1).toNat - 0) 0) = K := by rw [Nat.sub_zero, hK]; rfl
    clear hends hz hE hends2
    refine ICalls.of_body Try.func20 rfl Try.call20 rfl (Nat.le_of_ble_eq_true rfl) pl_J7_1 rfl ?_
    repeat' ((conv => whnf); first
      | refine Br.yes rfl ?_
      | refine Br.no rfl ?_
      | (refine Need.mk ⟨by omega, by rw [List.length_map]; omega⟩ ?_)
      | (refine Elem.mapI (by omega) (by assumption) ?_)
      | (refine Elem.mapK (by assumption) ?_)
      | (refine Elem.mapN (by omega) (fun x hx => ?_); have hxs := hn x (List.mem_of_getElem? hx))
      | (refine ILoop.ov 1000038 (fun ((i, f) : Nat × Bool) => [(20, gi i), (19, gb f)]) (fun ((i, f) : Nat × Bool) => []) (fun ((i, f) : Nat × Bool) => (i : Int) ≤ L.length - 1 ∧ (f || brK b ah L (((L.length : Int) - 1).toNat - i) i) = K) (fun ((i, f) : Nat × Bool) => L.length - 1 - i) ((0, false)) (by exact rfl) ?_; (conv => whnf); refine Start.mk rfl ?_ ?_; (try dsimp only); rotate_left; rintro ⟨i, f⟩ ⟨hi, hr⟩)
      | (refine Again.mk ⟨((i + 1, true)), rfl, ?_, ?_⟩ <;> try dsimp only)
      | (refine Again.mk ⟨((i + 1, decide (x.To - x.From < b.Weekly))), rfl, ?_, ?_⟩ <;> try dsimp only)
      | (refine Again.mk ⟨((i + 1, false)), rfl, ?_, ?_⟩ <;> try dsimp only)
      | refine Br.yes (beq_self_eq_true _) ?_
      | refine Br.not ?_
      | refine Br.yes (decide_eq_true (by assumption)) ?_
      | refine Br.no (decide_eq_false (by assumption)) ?_
      | refine Br.yes (beq_iff_eq.2 (by assumption)) ?_
      | refine Br.no (beq_eq_false_iff_ne.2 (by assumption)) ?_
      | refine Br.yes (bne_iff_ne.2 (by assumption)) ?_
      | (refine Br.dec (fun h => ?_) (fun h => ?_) <;> try dsimp only at h)
      | (refine Br.beqI (fun h => ?_) (fun h => ?_) <;> try dsimp only at h)
      | (refine Br.bneI (fun h => ?_) (fun h => ?_) <;> try dsimp only at h)
      | refine Br.mk (fun h => ?_) (fun h => ?_)
      | refine Need.mk (by first | kernel_rfl | exact ⟨of_decide_eq_true rfl, of_decide_eq_true rfl⟩ | omega) ?_
      | refine Len.mk ⟨_, by simp only [List.length_cons, List.length_nil, Nat.reduceAdd, Int.cast_ofNat_Int]; rfl, ?_⟩
      | refine Wr.lit _ (by simp only [Int.reduceAdd, Int.reduceSub, Int.reduceMul]; rfl) (by decide) ?_
      | refine Wr.fit (by omega) ?_
      | refine Wr.fit (by dsimp only; omega) ?_
      | refine Elem.mk ⟨_, ⟨of_decide_eq_true rfl, rfl⟩, ?_⟩
      | refine Len.map ?_
      | refine Len.dropM ?_
      | refine Elem.dropM ?_
      | refine Len.takeM ?_
      | refine Elem.takeM ?_
      | refine Elem.mapK (by assumption) ?_
      | refine Elem.mapI (by omega) (by assumption) ?_
      | refine Elem.mapN (by omega) (fun x hx => ?_)
      | refine Elem.map (by omega) (by omega) (fun x hx => ?_)
      | refine (h1).use ⟨rfl, ?_⟩
      | refine (h2).use ⟨rfl, ?_⟩
      | refine (h3).use ⟨rfl, ?_⟩
      | refine (e3).use ⟨rfl, ?_⟩
      | refine CallX.mk ⟨_, _, (h1).x, rfl, ?_⟩
      | refine CallX.mk ⟨_, _, (h2).x, rfl, ?_⟩
      | refine CallX.mk ⟨_, _, (h3).x, rfl, ?_⟩
      | refine CallX.mk ⟨_, _, (e3).x, rfl, ?_⟩
      | refine Done.mk ⟨rfl, rfl⟩
      | refine Done.mk ⟨congrArg gb ?_, rfl⟩
      | refine Done.mk ⟨?_, rfl⟩
      | refine Done.mk ⟨?_, ?_⟩)
    all_goals first
      | omega
      | exact ⟨by omega, hK0⟩
      | (have h9 := brK_step hx (by omega) hr; refine ⟨by omega, ?_⟩; rw [← h9]; simp_all; done)
      | (have h9 := brK_end (by omega) hr; subst h9; simp_all; done)
      | (simp_all; done)
      | (refine ⟨by omega, ?_⟩; rw [show f = true by assumption, Bool.true_or] at hr; rw [Bool.true_or]; exact hr)
      | (refine ⟨by omega, ?_⟩; rw [brK_none (by assumption)] at hr ⊢; rw [show f = false by assumption] at hr; exact hr)
      | (have h9 := brK_step hx (by omega) hr; refine ⟨by omega, ?_⟩; rw [← h9, show f = false by assumption, decide_eq_false (p := x.To = ah) (by assumption), Bool.false_and, Bool.and_false]; rfl)
      | (rw [decide_eq_false (p := b.Short ≤ s.To - s.From) (by assumption)]; rfl)
      | (rw [decide_eq_false (p := s.To - s.From < b.Weekly) (by assumption), Bool.and_false]; rfl)
  | false =>
    have hends2 : ∀ s, L[((L.length : Int) - 1).toNat]? = some s → ¬ s.To = m := fun s h => of_decide_eq_false (hends s h).symm
    simp only [Bool.false_and]
    clear hends hz hE
    refine ICalls.of_body Try.func20 rfl Try.call20 rfl (Nat.le_of_ble_eq_true rfl) pl_J7_2 rfl ?_
    repeat' ((conv => whnf); first
      | refine Br.yes rfl ?_
      | refine Br.no rfl ?_
      | (refine Elem.mapI (by omega) (by assumption) ?_)
      | (refine Elem.mapK (by assumption) ?_)
      | (refine Elem.map (by omega) (by omega) (fun s hsx => ?_); have hes := hends2 s hsx)
      | refine Br.yes (beq_self_eq_true _) ?_
      | refine Br.not ?_
      | refine Br.yes (decide_eq_true (by assumption)) ?_
      | refine Br.no (decide_eq_false (by assumption)) ?_
      | refine Br.yes (beq_iff_eq.2 (by assumption)) ?_
      | refine Br.no (beq_eq_false_iff_ne.2 (by assumption)) ?_
      | refine Br.yes (bne_iff_ne.2 (by assumption)) ?_
      | (refine Br.dec (fun h => ?_) (fun h => ?_) <;> try dsimp only at h)
      | (refine Br.beqI (fun h => ?_) (fun h => ?_) <;> try dsimp only at h)
      | (refine Br.bneI (fun h => ?_) (fun h => ?_) <;> try dsimp only at h)
      | refine Br.mk (fun h => ?_) (fun h => ?_)
      | refine Need.mk (by first | kernel_rfl | exact ⟨of_decide_eq_true rfl, of_decide_eq_true rfl⟩ | omega) ?_
      | refine Len.mk ⟨_, by simp only [List.length_cons, List.length_nil, Nat.reduceAdd, Int.cast_ofNat_Int]; rfl, ?_⟩
      | refine Wr.lit _ (by simp only [Int.reduceAdd, Int.reduceSub, Int.reduceMul]; rfl) (by decide) ?_
      | refine Wr.fit (by omega) ?_
      | refine Wr.fit (by dsimp only; omega) ?_
      | refine Elem.mk ⟨_, ⟨of_decide_eq_true rfl, rfl⟩, ?_⟩
      | refine Len.map ?_
      | refine Len.dropM ?_
      | refine Elem.dropM ?_
      | refine Len.takeM ?_
      | refine Elem.takeM ?_
      | refine Elem.mapK (by assumption) ?_
      | refine Elem.mapI (by omega) (by assumption) ?_
      | refine Elem.mapN (by omega) (fun x hx => ?_)
      | refine Elem.map (by omega) (by omega) (fun x hx => ?_)
      | refine (h1).use ⟨rfl, ?_⟩
      | refine (h2).use ⟨rfl, ?_⟩
      | refine (h3).use ⟨rfl, ?_⟩
      | refine CallX.mk ⟨_, _, (h1).x, rfl, ?_⟩
      | refine CallX.mk ⟨_, _, (h2).x, rfl, ?_⟩
      | refine CallX.mk ⟨_, _, (h3).x, rfl, ?_⟩
      | refine Done.mk ⟨rfl, rfl⟩
      | refine Done.mk ⟨congrArg gb ?_, rfl⟩
      | refine Done.mk ⟨?_, rfl⟩
      | refine Done.mk ⟨?_, ?_⟩)
    all_goals first
      | omega
      | (simp_all; done)

end Go.Hl

/- Chapter 16: the reference's audit.  -/
set_option linter.unusedVariables false
set_option linter.unusedSimpArgs false
namespace Go.Hl
open Go.Gh Go.Proofs

theorem breaks16_ok (b : Book) (ks : List Int) (m : Nat) (k : Int) (hkm : ks[m]? = some k) (hks : (ks.length : Int) ≤ 1000000) (hb : b.May) (c : Int) (hc : 0 ≤ c ∧ c < 10) :
    ICalls Try.prog 20 [b.g, .list 1 (ints ks) none, gi m, gi c] [] (Done (gb (brkF b ks m c)) []) := by
  by_cases h6 : c = 6
  · subst h6; exact breaks6_ok b ks m k hkm hks hb
  · by_cases h8 : c = 8
    · subst h8; exact breaks8c_ok b ks m k hkm hks hb
    · exact breaks8_ok b ks m k hkm hks hb c (by omega)
/-- The first minute, from one on, that is no rest and breaks a clause. -/
def firstM (b : Book) (ks : List Int) (c : Int) : Nat → Nat → Option Nat
  | 0, _ => none
  | n + 1, m => if ks[m]? ≠ some 0 ∧ brkF b ks m c = true then some m else firstM b ks c n (m + 1)
def fndC (b : Book) (ks : List Int) (c : Int) : List Fnd := match firstM b ks c ks.length 0 with
  | none => []
  | some m => [⟨c, sinF b ks m c, m + 1⟩]
def refAud (b : Book) (ks : List Int) : Nat → Int → List Fnd
  | 0, _ => []
  | n + 1, c => fndC b ks c ++ refAud b ks n (c + 1)
def AG (b : Book) (ks : List Int) (c : Int) (g : List GV) (W : List Fnd) : Prop := ∃ out, g = fnds out ∧ out ++ refAud b ks (10 - c).toNat c = W
theorem first_hit {b : Book} {ks : List Int} {c : Int} {m : Nat} {k : Int} {R : Option Nat} (hx : ks[m]? = some k) (h0 : ¬ k = 0) (hb : brkF b ks m c = true) (hr : firstM b ks c (ks.length - m) m = R) : R = some m := by
  have h := (List.getElem?_eq_some_iff.1 hx).1
  rw [show ks.length - m = (ks.length - (m + 1)) + 1 by omega, firstM, if_pos ⟨by rw [hx]; simpa using h0, hb⟩] at hr
  exact hr.symm
theorem first_rest {b : Book} {ks : List Int} {c : Int} {m : Nat} {k : Int} {R : Option Nat} (hx : ks[m]? = some k) (h0 : k = 0) (hr : firstM b ks c (ks.length - m) m = R) : firstM b ks c (ks.length - (m + 1)) (m + 1) = R := by
  have h := (List.getElem?_eq_some_iff.1 hx).1
  rw [show ks.length - m = (ks.length - (m + 1)) + 1 by omega, firstM, if_neg (fun e => e.1 (by rw [hx, h0]))] at hr
  exact hr
theorem first_ok {b : Book} {ks : List Int} {c : Int} {m : Nat} {k : Int} {R : Option Nat} (hx : ks[m]? = some k) (h0 : brkF b ks m c = false) (hr : firstM b ks c (ks.length - m) m = R) : firstM b ks c (ks.length - (m + 1)) (m + 1) = R := by
  have h := (List.getElem?_eq_some_iff.1 hx).1
  rw [show ks.length - m = (ks.length - (m + 1)) + 1 by omega, firstM, if_neg (fun e => by rw [h0] at e; exact absurd e.2 (by decide))] at hr
  exact hr
theorem first_end {b : Book} {ks : List Int} {c : Int} {m : Nat} {R : Option Nat} (hi : ¬ (m : Int) < ks.length) (hr : firstM b ks c (ks.length - m) m = R) : R = none := by
  rw [show ks.length - m = 0 by omega, firstM] at hr; exact hr.symm
theorem AG.hit {b : Book} {ks : List Int} {c : Int} {m : Nat} {g : List GV} {W : List Fnd} (h : AG b ks c g W) (hc : 0 ≤ c ∧ c < 10) (hR : firstM b ks c ks.length 0 = some m) : AG b ks (c + 1) (g ++ [.agg [gi c, gi (sinF b ks m c), gi (m + 1)]]) W := by
  obtain ⟨out, rfl, h2⟩ := h
  rw [show (10 - c).toNat = (10 - (c + 1)).toNat + 1 by omega, refAud, fndC, hR] at h2
  exact ⟨out ++ [⟨c, sinF b ks m c, m + 1⟩], by simp [Fnd.g, Fnd.c], by rw [← h2]; simp⟩
theorem AG.none {b : Book} {ks : List Int} {c : Int} {g : List GV} {W : List Fnd} (h : AG b ks c g W) (hc : 0 ≤ c ∧ c < 10) (hR : firstM b ks c ks.length 0 = Option.none) : AG b ks (c + 1) g W := by
  obtain ⟨out, rfl, h2⟩ := h
  rw [show (10 - c).toNat = (10 - (c + 1)).toNat + 1 by omega, refAud, fndC, hR] at h2
  exact ⟨out, rfl, by rw [← h2]; simp⟩
theorem AG.fin {b : Book} {ks : List Int} {c : Int} {g : List GV} {W : List Fnd} (h : AG b ks c g W) (hc : ¬ c < 10) : g = fnds W := by
  obtain ⟨out, rfl, h2⟩ := h
  rw [show (10 - c).toNat = 0 by omega, refAud, List.append_nil] at h2
  rw [h2]

def pl_J8_1 : Nat → Option (List Nat × List Nat) := (fun k => bif Nat.beq k 7 then some ([1000007, 2, 7, 8, 9], [102, 108, 152]) else bif Nat.beq k 10 then some ([1000010, 2, 7, 8, 9, 10], [102, 108, 152]) else none)
set_option maxRecDepth 100000 in
set_option maxHeartbeats 4000000 in
theorem refAudit16_ok (b : Book) (l : List Rec) (hl : (l.length : Int) ≤ 1000) (he : dutyErr b l = 0) : ICalls Try.prog 7 [b.g, .list 3 (recs l) none] [] (Done (.tup [.list 3 (fnds (refAud b (kindsOf l) 10 0)) none, gi 0]) []) := by
  have h1 := refDutyCheck_ok b l (by omega)
  rw [he] at h1
  have hb : b.May := by
    rw [dutyErr_ref] at he
    by_cases h : b.May
    · exact h
    · rw [if_neg h] at he; cases he
  have hr : (recsErr 0 none l).2 = 0 := by
    rw [dutyErr_ref, if_pos hb] at he
    by_cases h : (recsErr 0 none l).2 = 0
    · exact h
    · rw [if_pos h] at he; exact he
  have hc := chain_first hr
  have hbeg : 0 ≤ beginOf l ∧ beginOf l ≤ 40320 := by
    cases l with
    | nil => exact ⟨Int.le_refl _, by decide⟩
    | cons r t => have := recErr_inv hc.2.1; exact ⟨by show 0 ≤ r.From; omega, by show r.From ≤ 40320; omega⟩
  have hlen := chain_len l (beginOf l) hc hbeg.2
  have hall := chain_all l _ hc
  have h2 := refKinds_ok l (by omega) (fun r hr => by have := recErr_inv (hall r hr); omega) (by omega)
  have hks : ((kindsOf l).length : Int) ≤ 1000000 := by omega
  generalize kindsOf l = ks at *
  generalize hW : refAud b ks 10 0 = W
  clear he hc hall hr hlen hbeg
  refine ICalls.of_body Try.func7 rfl Try.call7 rfl (Nat.le_of_ble_eq_true rfl) pl_J8_1 rfl ?_
  repeat' ((conv => whnf); first
    | refine Br.yes rfl ?_
    | refine Br.no rfl ?_
    | (refine Elem.mapK (by assumption) ?_)
    | (refine Elem.mapN (by omega) (fun k hx => ?_))
    | (refine ILoop.ov 1000010 (fun (m : Nat) => [(10, gi m)]) (fun (m : Nat) => []) (fun (m : Nat) => m ≤ ks.length ∧ firstM b ks c (ks.length - m) m = firstM b ks c ks.length 0) (fun (m : Nat) => ks.length - m) (0) (by exact rfl) ?_; (conv => whnf); refine Start.mk rfl ?_ ?_; (try dsimp only); rotate_left; rintro m ⟨hm, hf⟩)
    | (refine Again.mk ⟨(m + 1), rfl, ?_, ?_⟩ <;> try dsimp only)
    | (refine ILoop.ov 1000007 (fun ((g, c, n) : List GV × Int × Nat) => [(9, gi c), (8, .list 3 g (some 108))]) (fun ((g, c, n) : List GV × Int × Nat) => [(108, .vec 38 n)]) (fun ((g, c, n) : List GV × Int × Nat) => (0 ≤ c ∧ c ≤ 10) ∧ (n = g.length ∧ (n : Int) ≤ c) ∧ AG b ks c g W) (fun ((g, c, n) : List GV × Int × Nat) => (10 - c).toNat) (([], 0, 0)) (by exact rfl) ?_; (conv => whnf); refine Start.mk rfl ?_ ?_; (try dsimp only); rotate_left; rintro ⟨g, c, n⟩ ⟨hc, ⟨hn, hnc⟩, hg⟩)
    | (refine Again.mk ⟨((_, c + 1, _)), rfl, ?_, ?_⟩ <;> try dsimp only)
    | refine Br.yes (beq_self_eq_true _) ?_
    | refine Br.not ?_
    | refine Br.yes (decide_eq_true (by assumption)) ?_
    | refine Br.no (decide_eq_false (by assumption)) ?_
    | refine Br.yes (beq_iff_eq.2 (by assumption)) ?_
    | refine Br.no (beq_eq_false_iff_ne.2 (by assumption)) ?_
    | refine Br.yes (bne_iff_ne.2 (by assumption)) ?_
    | (refine Br.dec (fun h => ?_) (fun h => ?_) <;> try dsimp only at h)
    | (refine Br.beqI (fun h => ?_) (fun h => ?_) <;> try dsimp only at h)
    | (refine Br.bneI (fun h => ?_) (fun h => ?_) <;> try dsimp only at h)
    | refine Br.mk (fun h => ?_) (fun h => ?_)
    | refine Need.mk (app_need (by first | (simp only [List.length_append, List.length_map, List.length_nil, List.length_cons, List.nil_append, Nat.zero_add, Nat.add_zero]; done) | (simp only [List.length_append, List.length_map, List.length_nil, List.length_cons, List.nil_append, Nat.zero_add, Nat.add_zero]; omega) | omega) (Nat.le_of_ble_eq_true rfl) (by first | (simp only [List.length_append, List.length_map, List.length_nil, List.length_cons, List.nil_append, Nat.zero_add, Nat.add_zero]; done) | (simp only [List.length_append, List.length_map, List.length_nil, List.length_cons, List.nil_append, Nat.zero_add, Nat.add_zero]; omega) | omega)) ?_
    | refine Need.mk (app_need0 (Nat.le_of_ble_eq_true rfl) (by first | (simp only [List.length_append, List.length_map, List.length_nil, List.length_cons, List.nil_append, Nat.zero_add, Nat.add_zero]; done) | (simp only [List.length_append, List.length_map, List.length_nil, List.length_cons, List.nil_append, Nat.zero_add, Nat.add_zero]; omega) | omega)) ?_
    | refine Need.mk (by first | kernel_rfl | exact ⟨of_decide_eq_true rfl, of_decide_eq_true rfl⟩ | omega) ?_
    | refine Len.mk ⟨_, by simp only [List.length_cons, List.length_nil, Nat.reduceAdd, Int.cast_ofNat_Int]; rfl, ?_⟩
    | refine Wr.lit _ (by simp only [Int.reduceAdd, Int.reduceSub, Int.reduceMul]; rfl) (by decide) ?_
    | refine Wr.fit (by omega) ?_
    | refine Wr.fit (by dsimp only; omega) ?_
    | refine Elem.mk ⟨_, ⟨of_decide_eq_true rfl, rfl⟩, ?_⟩
    | refine Len.map ?_
    | refine Len.dropM ?_
    | refine Elem.dropM ?_
    | refine Len.takeM ?_
    | refine Elem.takeM ?_
    | refine Elem.mapK (by assumption) ?_
    | refine Elem.mapI (by omega) (by assumption) ?_
    | refine Elem.mapN (by omega) (fun x hx => ?_)
    | refine Elem.map (by omega) (by omega) (fun x hx => ?_)
    | refine (h1).use ⟨rfl, ?_⟩
    | refine (h2).use ⟨rfl, ?_⟩
    | refine (breaks16_ok b ks m k hx hks hb c (by omega)).use ⟨rfl, ?_⟩
    | refine (since16_ok b ks m (by omega) hks hb c).use ⟨rfl, ?_⟩
    | refine CallX.mk ⟨_, _, (h1).x, rfl, ?_⟩
    | refine CallX.mk ⟨_, _, (h2).x, rfl, ?_⟩
    | refine CallX.mk ⟨_, _, (breaks16_ok b ks m k hx hks hb c (by omega)).x, rfl, ?_⟩
    | refine CallX.mk ⟨_, _, (since16_ok b ks m (by omega) hks hb c).x, rfl, ?_⟩
    | refine Done.mk ⟨rfl, rfl⟩
    | refine Done.mk ⟨congrArg gb ?_, rfl⟩
    | refine Done.mk ⟨?_, rfl⟩
    | refine Done.mk ⟨?_, ?_⟩)
  all_goals first
    | omega
    | exact ⟨by omega, ⟨rfl, by decide⟩, [], rfl, hW⟩
    | exact ⟨by omega, by rw [Nat.sub_zero]⟩
    | exact ⟨by omega, first_rest hx (by assumption) hf⟩
    | exact ⟨by omega, first_ok hx (by assumption) hf⟩
    | exact ⟨by omega, ⟨by simp only [List.length_append, List.length_cons, List.length_nil]; omega, by simp only [List.length_cons, List.length_nil]; omega⟩, hg.hit (by omega) (first_hit hx (by assumption) (by assumption) hf)⟩
    | exact ⟨by omega, ⟨hn, by omega⟩, hg.none (by omega) (first_end (by assumption) hf)⟩
    | exact congrArg (fun q => GV.tup [GV.list 3 q none, gi 0]) (hg.fin (by assumption))

end Go.Hl
