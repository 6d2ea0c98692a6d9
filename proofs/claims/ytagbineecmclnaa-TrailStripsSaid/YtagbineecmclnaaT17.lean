/- Contracts of functions, bundle T17; proved for whatever the arguments' types allow, as each theorem says. -/
import Derived.Test.YtagbineecmclnaaT15

/- Chapter 20: the reference's sum of tasks.  -/
set_option linter.unusedVariables false
set_option linter.unusedSimpArgs false
namespace Go.Hl
open Go.Gh Go.Proofs

/-- The tasks from one on, in numbers, the first one from the spot on. -/
def dI (l : List Task) (s : Spot) (i : Int) : Int := if i = s.Task then (tAt l i).Drive - s.Driven else (tAt l i).Drive
def wI (l : List Task) (s : Spot) (i : Int) : Int := if i = s.Task then (tAt l i).Serve - s.Served else (tAt l i).Serve
def sumF (l : List Task) (s : Spot) : Nat → Int → List Int → List Int
  | 0, _, out => out
  | n + 1, i, out => sumF l s n (i + 1) (addZ (addZ out (dI l s i)) (0 - wI l s i))
def sumT (l : List Task) (s : Spot) : List Int := sumF l s (l.length - s.Task).toNat s.Task []
theorem sumF_next {l : List Task} {s : Spot} {i : Int} {out W : List Int} (h : i < l.length) (hr : sumF l s (l.length - i).toNat i out = W) : sumF l s (l.length - (i + 1)).toNat (i + 1) (addZ (addZ out (dI l s i)) (0 - wI l s i)) = W := by
  rw [show ((l.length : Int) - i).toNat = ((l.length : Int) - (i + 1)).toNat + 1 by omega, sumF] at hr; exact hr
theorem sumF_end {l : List Task} {s : Spot} {i : Int} {out W : List Int} (h : ¬ i < l.length) (hr : sumF l s (l.length - i).toNat i out = W) : out = W := by
  rw [show ((l.length : Int) - i).toNat = 0 by omega] at hr; exact hr
theorem sumF_A {l : List Task} {s : Spot} : ∀ (n : Nat) (i : Int) (out : List Int), s.Task < i → 0 ≤ i → i + n = l.length → sumF l s n i out = sumA (l.drop i.toNat) out
  | 0, i, out, h, h0, hn => by rw [List.drop_eq_nil_of_le (by omega)]; rfl
  | n + 1, i, out, h, h0, hn => by
    obtain ⟨t, hx⟩ : ∃ t, l[i.toNat]? = some t := ⟨_, List.getElem?_eq_getElem (by omega)⟩
    rw [sumF, sumF_A n (i + 1) _ (by omega) (by omega) (by omega), drop_of_get hx, sumA, show (i + 1).toNat = i.toNat + 1 by omega]
    unfold dI wI
    rw [if_neg (by omega), if_neg (by omega), tAt_get hx]
theorem sumT_N {l : List Task} {s : Spot} (h0 : 0 ≤ s.Task) (h1 : s.Task ≤ l.length) : sumT l s = sumN l s [] := by
  unfold sumT sumN
  by_cases h : s.Task < l.length
  · rw [if_pos h, show ((l.length : Int) - s.Task).toNat = ((l.length : Int) - (s.Task + 1)).toNat + 1 by omega, sumF, sumF_A _ _ _ (by omega) (by omega) (by omega), show (s.Task + 1).toNat = s.Task.toNat + 1 by omega]
    unfold dI wI
    rw [if_pos rfl, if_pos rfl]
  · rw [if_neg h, show ((l.length : Int) - s.Task).toNat = 0 by omega]; rfl

/-- One of the two numbers of a task. -/
def xI (l : List Task) (s : Spot) (i k : Int) : Int := if k = 1 then 0 - wI l s i else dI l s i
theorem xI_d1 {l : List Task} {s : Spot} {i k : Int} {t : Task} (ht : tAt l i = t) (hk : ¬ k = 1) (hi : i = s.Task) : xI l s i k = t.Drive - s.Driven := by unfold xI dI; rw [if_neg hk, if_pos hi, ht]
theorem xI_d2 {l : List Task} {s : Spot} {i k : Int} {t : Task} (ht : tAt l i = t) (hk : ¬ k = 1) (hi : ¬ i = s.Task) : xI l s i k = t.Drive := by unfold xI dI; rw [if_neg hk, if_neg hi, ht]
theorem xI_w1 {l : List Task} {s : Spot} {i k : Int} {t : Task} (ht : tAt l i = t) (hk : k = 1) (hi : i = s.Task) : xI l s i k = 0 - (t.Serve - s.Served) := by unfold xI wI; rw [if_pos hk, if_pos hi, ht]
theorem xI_w2 {l : List Task} {s : Spot} {i k : Int} {t : Task} (ht : tAt l i = t) (hk : k = 1) (hi : ¬ i = s.Task) : xI l s i k = 0 - t.Serve := by unfold xI wI; rw [if_pos hk, if_neg hi, ht]
theorem kstep {l : List Task} {s : Spot} {i k : Int} {out o2 : List Int} (hk : 0 ≤ k ∧ k < 2) (k0 : k = 0 → o2 = out) (k1 : k = 1 → o2 = addZ out (dI l s i)) :
    (k + 1 = 0 → addZ o2 (xI l s i k) = out) ∧ (k + 1 = 1 → addZ o2 (xI l s i k) = addZ out (dI l s i)) ∧ (k + 1 = 2 → addZ o2 (xI l s i k) = addZ (addZ out (dI l s i)) (0 - wI l s i)) := by
  refine ⟨fun e => by omega, fun e => ?_, fun e => ?_⟩
  · rw [k0 (by omega), xI, if_neg (by omega)]
  · rw [k1 (by omega), xI, if_pos (by omega)]
theorem addZ_pos {out : List Int} {n : Int} (h : ¬ n = 0) : addZ out n = Hl.addN out n := if_neg h
theorem addZ_skip {out : List Int} {n : Int} (h : n = 0) : addZ out n = out := if_pos h
theorem SB.addN {B n : Int} {out : List Int} {i : Nat} (h : SB B out i) (hB : 0 ≤ B) (hn : -B ≤ n ∧ n ≤ B) : SB B (Hl.addN out n) (i + 1) := by
  rcases List.eq_nil_or_concat out with rfl | ⟨o, x, rfl⟩
  · exact h.app hB hn
  · rw [List.concat_eq_append] at *
    rw [addN_snoc]
    split
    · exact h.set hB hn
    · exact h.app hB hn

def pl_T17_1 : Nat → Option (List Nat × List Nat) := (fun k => bif Nat.beq k 3 then some ([1000003, 0, 3, 5, 6, 5000005, 6000004], [103, 105, 182]) else bif Nat.beq k 9 then some ([1000009, 0, 3, 5, 6, 7, 8, 9, 5000005, 6000004], [103, 105, 182]) else bif Nat.beq k 5000005 then some ([], []) else bif Nat.beq k 6000004 then some ([], []) else none)
set_option maxRecDepth 100000 in
set_option maxHeartbeats 4000000 in
theorem refSum_ok (l : List Task) (s : Spot) (hl : l.length ≤ 40) (hm : ∀ t, t ∈ l → t.May) (hs : fitsS l s = true) : ICalls Try.prog 32 [.list 3 (tasks l) none, s.g] [] (Done (.list 1 (ints (sumT l s)) none) []) := by
  have hin := fits_in hs
  have hmt : ∀ i : Int, (tAt l i).May := fun i => tAt_may hm i
  have hm0 := hmt s.Task
  have hmd0 := hm0.drive
  have hms0 := hm0.serve
  generalize hW : sumT l s = W
  unfold sumT at hW
  clear hs
  refine ICalls.of_body Try.func32 rfl Try.call32 rfl (Nat.le_of_ble_eq_true rfl) pl_T17_1 rfl ?_
  repeat' ((conv => whnf); first
    | refine Br.yes rfl ?_
    | refine Br.no rfl ?_
    | (refine Elem.mapI (by omega) (by assumption) ?_)
    | (refine Elem.map (by omega) (by omega) (fun t ht => ?_); have htt := tAt_get ht; have hmt1 := hmt i; have hmd := hmt1.drive; have hms := hmt1.serve; rw [htt] at hmd hms)
    | (refine Elem.map (by omega) (by omega) (fun x hx2 => ?_); have hxb := hb2.all x (List.mem_of_getElem? hx2))
    | (refine ILoop.ov 1000009 (fun ((o2, k, c2, g2, n2, v2) : List Int × Int × Nat × List GV × Nat × Nat) => [(9, gi k), (5, .ms 1 105 v2 n2)]) (fun ((o2, k, c2, g2, n2, v2) : List Int × Int × Nat × List GV × Nat × Nat) => [(105, .mvec 3 1 g2 v2)]) (fun ((o2, k, c2, g2, n2, v2) : List Int × Int × Nat × List GV × Nat × Nat) => ((0 ≤ k ∧ k ≤ 2) ∧ (c2 : Int) = c + k) ∧ (g2 = ints o2 ∧ n2 = o2.length) ∧ SB 20160 o2 c2 ∧ (k = 0 → o2 = out) ∧ (k = 1 → o2 = addZ out (dI l s i)) ∧ (k = 2 → o2 = addZ (addZ out (dI l s i)) (0 - wI l s i))) (fun ((o2, k, c2, g2, n2, v2) : List Int × Int × Nat × List GV × Nat × Nat) => (2 - k).toNat) ((out, 0, c, ints out, out.length, v)) (by exact rfl) ?_; (conv => whnf); refine Start.mk rfl ?_ ?_; (try dsimp only); rotate_left; rintro ⟨o2, k, c2, g2, n2, v2⟩ ⟨hk, ⟨rfl, rfl⟩, hb2, k0, k1, k2⟩; (have hb2l := hb2.len))
    | (refine Again.mk ⟨((addZ o2 (xI l s i k), k + 1, c2 + 1, _, _, _)), rfl, ?_, ?_⟩ <;> try dsimp only)
    | (refine ILoop.ov 1000003 (fun ((i, c, out, g, n, v) : Int × Nat × List Int × List GV × Nat × Nat) => [(6, gi i), (5, .ms 1 105 v n)]) (fun ((i, c, out, g, n, v) : Int × Nat × List Int × List GV × Nat × Nat) => [(105, .mvec 3 1 g v)]) (fun ((i, c, out, g, n, v) : Int × Nat × List Int × List GV × Nat × Nat) => (s.Task ≤ i ∧ i ≤ l.length ∧ (c : Int) = 2 * (i - s.Task)) ∧ (g = ints out ∧ n = out.length) ∧ SB 20160 out c ∧ sumF l s (l.length - i).toNat i out = W) (fun ((i, c, out, g, n, v) : Int × Nat × List Int × List GV × Nat × Nat) => (l.length - i).toNat) ((s.Task, 0, [], [], 0, 0)) (by exact rfl) ?_; (conv => whnf); refine Start.mk rfl ?_ ?_; (try dsimp only); rotate_left; rintro ⟨i, c, out, g, n, v⟩ ⟨hi, ⟨rfl, rfl⟩, hb, hw⟩; (have hbl := hb.len))
    | (refine Again.mk ⟨((i + 1, c + 2, o2, _, _, _)), rfl, ?_, ?_⟩ <;> try dsimp only)
    | refine Br.yes (beq_self_eq_true _) ?_
    | refine Br.not ?_
    | refine Br.yes (decide_eq_true (by assumption)) ?_
    | refine Br.no (decide_eq_false (by assumption)) ?_
    | refine Br.yes (beq_iff_eq.2 (by assumption)) ?_
    | refine Br.no (beq_eq_false_iff_ne.2 (by assumption)) ?_
    | refine Br.yes (bne_iff_ne.2 (by assumption)) ?_
    | (refine Br.dec (fun h => ?_) (fun h => ?_) <;> try dsimp only at h)
    | (refine Br.beqI (fun h => ?_) (fun h => ?_) <;> try dsimp only at h)
    | (refine Br.bneI (fun h => ?_) (fun h => ?_) <;> try dsimp only at h)
    | refine Br.mk (fun h => ?_) (fun h => ?_)
    | refine Need.mk (app_need (by first | (simp only [List.length_append, List.length_map, List.length_nil, List.length_cons, List.nil_append, Nat.zero_add, Nat.add_zero]; done) | (simp only [List.length_append, List.length_map, List.length_nil, List.length_cons, List.nil_append, Nat.zero_add, Nat.add_zero]; omega) | omega) (Nat.le_of_ble_eq_true rfl) (by first | (simp only [List.length_append, List.length_map, List.length_nil, List.length_cons, List.nil_append, Nat.zero_add, Nat.add_zero]; done) | (simp only [List.length_append, List.length_map, List.length_nil, List.length_cons, List.nil_append, Nat.zero_add, Nat.add_zero]; omega) | omega)) ?_
    | refine Need.mk (app_need0 (Nat.le_of_ble_eq_true rfl) (by first | (simp only [List.length_append, List.length_map, List.length_nil, List.length_cons, List.nil_append, Nat.zero_add, Nat.add_zero]; done) | (simp only [List.length_append, List.length_map, List.length_nil, List.length_cons, List.nil_append, Nat.zero_add, Nat.add_zero]; omega) | omega)) ?_
    | refine Need.mk (app_needM rfl (Nat.le_of_ble_eq_true rfl) (by first | (simp only [List.length_append, List.length_map, List.length_nil, List.length_cons, List.nil_append, Nat.zero_add, Nat.add_zero]; done) | (simp only [List.length_append, List.length_map, List.length_nil, List.length_cons, List.nil_append, Nat.zero_add, Nat.add_zero]; omega) | omega)) ?_
    | refine Need.mk (zeros_need (by omega) (Nat.le_of_ble_eq_true rfl) (by omega)) ?_
    | refine Need.mk (by first | kernel_rfl | exact ⟨of_decide_eq_true rfl, of_decide_eq_true rfl⟩ | omega) ?_
    | refine Len.mk ⟨_, by simp only [List.length_cons, List.length_nil, Nat.reduceAdd, Int.cast_ofNat_Int]; rfl, ?_⟩
    | refine Wr.lit _ (by simp only [Int.reduceAdd, Int.reduceSub, Int.reduceMul]; rfl) (by decide) ?_
    | refine Wr.fit (by omega) ?_
    | refine Wr.fit (by dsimp only; omega) ?_
    | refine Elem.mk ⟨_, ⟨of_decide_eq_true rfl, rfl⟩, ?_⟩
    | refine Len.map ?_
    | refine Len.dropM ?_
    | refine Elem.dropM ?_
    | refine Len.takeM ?_
    | refine Elem.takeM ?_
    | refine Elem.mapK (by assumption) ?_
    | refine Elem.mapI (by omega) (by assumption) ?_
    | refine Elem.mapN (by omega) (fun x hx => ?_)
    | refine Elem.map (by omega) (by omega) (fun x hx => ?_)
    | refine Done.mk ⟨rfl, rfl⟩
    | refine Done.mk ⟨congrArg gb ?_, rfl⟩
    | refine Done.mk ⟨?_, rfl⟩
    | refine Done.mk ⟨?_, ?_⟩)
  --X
  all_goals first
    | omega
    | exact ⟨by omega, ⟨rfl, rfl⟩, hb, fun _ => rfl, fun e => by omega, fun e => by omega⟩
    | exact ⟨by omega, ⟨rfl, rfl⟩, SB.start, hW⟩
    | (rw [← sumF_end (by assumption) hw]; rfl)
    | exact ⟨by omega, ⟨rfl, rfl⟩, by rw [show c + 2 = c2 by omega]; exact hb2, by rw [k2 (by omega)]; exact sumF_next (by assumption) hw⟩
    | (have ks := kstep (l := l) (s := s) (i := i) (k := k) ⟨by omega, by omega⟩ k0 k1
       first
       | (have ex := xI_w1 (s := s) (i := i) (k := k) htt (by assumption) (by assumption)
          rw [ex] at ks ⊢
          first
          | (rw [addZ_skip (by assumption)] at ks ⊢; exact ⟨by omega, ⟨rfl, rfl⟩, hb2.more (by decide), ks⟩)
          | (rw [addZ_pos (by assumption)] at ks ⊢
             first
             | (have h9 := add_first hb2 (by decide) (n := 0 - (t.Serve - s.Served)) (by omega) (by omega); exact ⟨by omega, h9.1, h9.2, ks⟩)
             | (have h9 := add_other hb2 (by decide) (n := 0 - (t.Serve - s.Served)) (by omega) hx2 (by assumption); exact ⟨by omega, h9.1, h9.2, ks⟩)
             | (have h9 := add_same hb2 (by decide) (n := 0 - (t.Serve - s.Served)) (by omega) hx2 (by assumption); exact ⟨by omega, h9.1, h9.2, ks⟩)))
       | (have ex := xI_w2 (s := s) (i := i) (k := k) htt (by assumption) (by assumption)
          rw [ex] at ks ⊢
          first
          | (rw [addZ_skip (by assumption)] at ks ⊢; exact ⟨by omega, ⟨rfl, rfl⟩, hb2.more (by decide), ks⟩)
          | (rw [addZ_pos (by assumption)] at ks ⊢
             first
             | (have h9 := add_first hb2 (by decide) (n := 0 - t.Serve) (by omega) (by omega); exact ⟨by omega, h9.1, h9.2, ks⟩)
             | (have h9 := add_other hb2 (by decide) (n := 0 - t.Serve) (by omega) hx2 (by assumption); exact ⟨by omega, h9.1, h9.2, ks⟩)
             | (have h9 := add_same hb2 (by decide) (n := 0 - t.Serve) (by omega) hx2 (by assumption); exact ⟨by omega, h9.1, h9.2, ks⟩)))
       | (have ex := xI_d1 (s := s) (i := i) (k := k) htt (by assumption) (by assumption)
          rw [ex] at ks ⊢
          first
          | (rw [addZ_skip (by assumption)] at ks ⊢; exact ⟨by omega, ⟨rfl, rfl⟩, hb2.more (by decide), ks⟩)
          | (rw [addZ_pos (by assumption)] at ks ⊢
             first
             | (have h9 := add_first hb2 (by decide) (n := t.Drive - s.Driven) (by omega) (by omega); exact ⟨by omega, h9.1, h9.2, ks⟩)
             | (have h9 := add_other hb2 (by decide) (n := t.Drive - s.Driven) (by omega) hx2 (by assumption); exact ⟨by omega, h9.1, h9.2, ks⟩)
             | (have h9 := add_same hb2 (by decide) (n := t.Drive - s.Driven) (by omega) hx2 (by assumption); exact ⟨by omega, h9.1, h9.2, ks⟩)))
       | (have ex := xI_d2 (s := s) (i := i) (k := k) htt (by assumption) (by assumption)
          rw [ex] at ks ⊢
          first
          | (rw [addZ_skip (by assumption)] at ks ⊢; exact ⟨by omega, ⟨rfl, rfl⟩, hb2.more (by decide), ks⟩)
          | (rw [addZ_pos (by assumption)] at ks ⊢
             first
             | (have h9 := add_first hb2 (by decide) (n := t.Drive) (by omega) (by omega); exact ⟨by omega, h9.1, h9.2, ks⟩)
             | (have h9 := add_other hb2 (by decide) (n := t.Drive) (by omega) hx2 (by assumption); exact ⟨by omega, h9.1, h9.2, ks⟩)
             | (have h9 := add_same hb2 (by decide) (n := t.Drive) (by omega) hx2 (by assumption); exact ⟨by omega, h9.1, h9.2, ks⟩))))

end Go.Hl
