/- Contracts of functions, bundle H16; proved for whatever the arguments' types allow, as each theorem says. -/
import Derived.Test.YtoofplbjpkgdgaaH15

/- Contracts: a truck rested; what its past comes to; the chapter's examples.  -/
set_option linter.unusedVariables false
set_option linter.unusedSimpArgs false
namespace Go.Hl
open Go.Gh Go.Proofs

def restP (p ev m : Int) (A B : Truck × Int) : Truck × Int :=
  if ¬ p = 0 then (Truck.zero, p) else if m < 0 ∨ 40320 < m then (Truck.zero, 4) else if m < ev then (Truck.zero, 1) else if m = ev then A else B
def restedV (t : Truck) (m : Int) : Truck × Int := restP (pastErr t.Past) (endV t.Past) m (moreV t t.Past) (moreV t (t.Past ++ [⟨0, endV t.Past, m⟩]))

def t29 : Truck := ⟨0, 0, 0, 0, 0, [⟨3, 0, 5⟩]⟩
theorem runM_all (b : Book) : ∀ (ks : List Int) (m : Meter) (bits : Int), m.May → (∀ k, k ∈ ks → 0 ≤ k ∧ k < 4) → m.Now + (ks.length : Int) ≤ 40320 → (runM b ks m bits).2.2 = 0
  | [], _, _, _, _, _ => rfl
  | k :: r, m, bits, hm, hk, hn => by
    have h1 := hk k (List.mem_cons_self ..)
    simp only [List.length_cons] at hn
    have h2 := hm.step (b := b) (by omega) k
    rw [runM_cons, if_neg (by omega), if_neg (by omega)]
    exact runM_all b r _ _ h2.1 (fun q hq => hk q (List.mem_cons_of_mem _ hq)) (by rw [h2.2]; omega)
theorem kinds_mem {l : List Rec} (h : ∀ r, r ∈ l → recErr r = 0) : ∀ k, k ∈ kindsOf l → 0 ≤ k ∧ k < 4 := by
  intro k hk
  obtain ⟨r, hr, h2⟩ := List.mem_flatMap.1 hk
  have := List.eq_of_mem_replicate h2
  subst this
  exact (recErr_inv (h r hr)).1
def pastV (b : Book) (l : List Rec) : Meter × Int × Int := runM b (kindsOf l) Meter.zero 0
theorem pastV_0 {l : List Rec} (b : Book) (h : pastErr l = 0) : (pastV b l).2.2 = 0 := by
  have hc := chain_first (pastErr_code h)
  have hb : beginOf l = 0 := by
    unfold pastErr at h; rw [if_neg (by have := pastErr_code (l := l) h; omega)] at h
    split at h
    · cases h
    · omega
  rw [hb] at hc
  have := chain_len l 0 hc (by omega)
  exact runM_all b _ _ _ zero_May (kinds_mem (chain_all l 0 hc)) (by show (0 : Int) + _ ≤ _; omega)
theorem ofAll_past {b : Book} {l : List Rec} (hb : b.May) (h : pastErr l = 0) : ofAll b l = pastV b l := by
  have h1 : (recsErr 0 none l).2 = 0 := pastErr_code h
  have hbeg : beginOf l = 0 := by
    unfold pastErr at h; rw [if_neg (by have := pastErr_code (l := l) h; omega)] at h
    split at h
    · cases h
    · omega
  unfold ofAll
  rw [if_pos hb, if_neg (by omega), if_neg (by omega)]
  rfl
def truckMeter (b : Book) (l : List Rec) : Meter × Int :=
  if b.May then (if pastErr l = 0 then (if (pastV b l).2.1 = 0 then ((pastV b l).1, 0) else (Meter.zero, 16)) else (Meter.zero, pastErr l)) else (Meter.zero, 14)
def meterV (x : Meter × Int) : GV := .tup [x.1.g, gi x.2]

set_option maxRecDepth 100000 in
set_option maxHeartbeats 1000000 in
theorem truckMeter_ok (b : Book) (t : Truck) (hl : (t.Past.length : Int) ≤ 1000000000) : ICalls Try.prog 100 [b.g, t.g] [] (Done (meterV (truckMeter b t.Past)) []) := by
  have hb := bookCheck_ok b
  have hp := truckPast_ok t.Past hl
  have hm := meterOf_ok b t.Past hl
  unfold truckMeter
  by_cases h1 : b.May
  {
  rw [if_pos h1]
  rw [show b.code = 0 from if_pos h1] at hb
  by_cases h2 : pastErr t.Past = 0
  {
  rw [if_pos h2]
  rw [h2] at hp
  rw [ofAll_past h1 h2] at hm
  have h3 := pastV_0 b h2
  generalize pastV b t.Past = R at *
  obtain ⟨mm, bits, e⟩ := R
  simp only at h3
  subst h3
  obtain ⟨a, b', c, d, e, l⟩ := t
  simp only at *
  clear hl
  by_cases h4 : bits = 0
  {
  rw [if_pos h4]
  refine ICalls.of_body Try.func100 rfl Try.call100 rfl (Nat.le_of_ble_eq_true rfl) (fun _ => none) rfl ?_
  repeat' ((conv => whnf); first
    | refine Br.yes rfl ?_
    | refine Br.no rfl ?_
    | refine Br.yes (beq_self_eq_true _) ?_
    | refine Br.not ?_
    | refine Br.yes (decide_eq_true (by assumption)) ?_
    | refine Br.no (decide_eq_false (by assumption)) ?_
    | refine Br.yes (beq_iff_eq.2 (by assumption)) ?_
    | refine Br.no (beq_eq_false_iff_ne.2 (by assumption)) ?_
    | refine Br.yes (bne_iff_ne.2 (by assumption)) ?_
    | (refine Br.dec (fun h => ?_) (fun h => ?_) <;> try dsimp only at h)
    | (refine Br.beqI (fun h => ?_) (fun h => ?_) <;> try dsimp only at h)
    | (refine Br.bneI (fun h => ?_) (fun h => ?_) <;> try dsimp only at h)
    | refine Br.mk (fun h => ?_) (fun h => ?_)
    | refine Need.mk (by first | kernel_rfl | exact ⟨of_decide_eq_true rfl, of_decide_eq_true rfl⟩ | omega) ?_
    | refine Len.mk ⟨_, by simp only [List.length_cons, List.length_nil, Nat.reduceAdd, Int.cast_ofNat_Int]; rfl, ?_⟩
    | refine Wr.lit _ (by simp only [Int.reduceAdd, Int.reduceSub, Int.reduceMul]; rfl) (by decide) ?_
    | refine Wr.fit (by omega) ?_
    | refine Wr.fit (by dsimp only; omega) ?_
    | refine Elem.mk ⟨_, ⟨of_decide_eq_true rfl, rfl⟩, ?_⟩
    | refine Len.map ?_
    | refine Len.dropM ?_
    | refine Elem.dropM ?_
    | refine Len.takeM ?_
    | refine Elem.takeM ?_
    | refine Elem.mapK (by assumption) ?_
    | refine Elem.mapI (by omega) (by assumption) ?_
    | refine Elem.mapN (by omega) (fun x hx => ?_)
    | refine Elem.map (by omega) (by omega) (fun x hx => ?_)
    | refine (hb).use ⟨rfl, ?_⟩
    | refine (hp).use ⟨rfl, ?_⟩
    | refine (hm).use ⟨rfl, ?_⟩
    | refine CallX.mk ⟨_, _, (hb).x, rfl, ?_⟩
    | refine CallX.mk ⟨_, _, (hp).x, rfl, ?_⟩
    | refine CallX.mk ⟨_, _, (hm).x, rfl, ?_⟩
    | refine Done.mk ⟨rfl, rfl⟩
    | refine Done.mk ⟨congrArg gb ?_, rfl⟩
    | refine Done.mk ⟨?_, rfl⟩
    | refine Done.mk ⟨?_, ?_⟩)
  all_goals skip
  }
  {
  rw [if_neg h4]
  refine ICalls.of_body Try.func100 rfl Try.call100 rfl (Nat.le_of_ble_eq_true rfl) (fun _ => none) rfl ?_
  repeat' ((conv => whnf); first
    | refine Br.yes rfl ?_
    | refine Br.no rfl ?_
    | refine Br.yes (beq_self_eq_true _) ?_
    | refine Br.not ?_
    | refine Br.yes (decide_eq_true (by assumption)) ?_
    | refine Br.no (decide_eq_false (by assumption)) ?_
    | refine Br.yes (beq_iff_eq.2 (by assumption)) ?_
    | refine Br.no (beq_eq_false_iff_ne.2 (by assumption)) ?_
    | refine Br.yes (bne_iff_ne.2 (by assumption)) ?_
    | (refine Br.dec (fun h => ?_) (fun h => ?_) <;> try dsimp only at h)
    | (refine Br.beqI (fun h => ?_) (fun h => ?_) <;> try dsimp only at h)
    | (refine Br.bneI (fun h => ?_) (fun h => ?_) <;> try dsimp only at h)
    | refine Br.mk (fun h => ?_) (fun h => ?_)
    | refine Need.mk (by first | kernel_rfl | exact ⟨of_decide_eq_true rfl, of_decide_eq_true rfl⟩ | omega) ?_
    | refine Len.mk ⟨_, by simp only [List.length_cons, List.length_nil, Nat.reduceAdd, Int.cast_ofNat_Int]; rfl, ?_⟩
    | refine Wr.lit _ (by simp only [Int.reduceAdd, Int.reduceSub, Int.reduceMul]; rfl) (by decide) ?_
    | refine Wr.fit (by omega) ?_
    | refine Wr.fit (by dsimp only; omega) ?_
    | refine Elem.mk ⟨_, ⟨of_decide_eq_true rfl, rfl⟩, ?_⟩
    | refine Len.map ?_
    | refine Len.dropM ?_
    | refine Elem.dropM ?_
    | refine Len.takeM ?_
    | refine Elem.takeM ?_
    | refine Elem.mapK (by assumption) ?_
    | refine Elem.mapI (by omega) (by assumption) ?_
    | refine Elem.mapN (by omega) (fun x hx => ?_)
    | refine Elem.map (by omega) (by omega) (fun x hx => ?_)
    | refine (hb).use ⟨rfl, ?_⟩
    | refine (hp).use ⟨rfl, ?_⟩
    | refine (hm).use ⟨rfl, ?_⟩
    | refine CallX.mk ⟨_, _, (hb).x, rfl, ?_⟩
    | refine CallX.mk ⟨_, _, (hp).x, rfl, ?_⟩
    | refine CallX.mk ⟨_, _, (hm).x, rfl, ?_⟩
    | refine Done.mk ⟨rfl, rfl⟩
    | refine Done.mk ⟨congrArg gb ?_, rfl⟩
    | refine Done.mk ⟨?_, rfl⟩
    | refine Done.mk ⟨?_, ?_⟩)
  all_goals skip
  }
  }
  {
  rw [if_neg h2]
  generalize pastErr t.Past = p at *
  obtain ⟨a, b', c, d, e, l⟩ := t
  simp only at *
  clear hl hm
  refine ICalls.of_body Try.func100 rfl Try.call100 rfl (Nat.le_of_ble_eq_true rfl) (fun _ => none) rfl ?_
  repeat' ((conv => whnf); first
    | refine Br.yes rfl ?_
    | refine Br.no rfl ?_
    | refine Br.yes (beq_self_eq_true _) ?_
    | refine Br.not ?_
    | refine Br.yes (decide_eq_true (by assumption)) ?_
    | refine Br.no (decide_eq_false (by assumption)) ?_
    | refine Br.yes (beq_iff_eq.2 (by assumption)) ?_
    | refine Br.no (beq_eq_false_iff_ne.2 (by assumption)) ?_
    | refine Br.yes (bne_iff_ne.2 (by assumption)) ?_
    | (refine Br.dec (fun h => ?_) (fun h => ?_) <;> try dsimp only at h)
    | (refine Br.beqI (fun h => ?_) (fun h => ?_) <;> try dsimp only at h)
    | (refine Br.bneI (fun h => ?_) (fun h => ?_) <;> try dsimp only at h)
    | refine Br.mk (fun h => ?_) (fun h => ?_)
    | refine Need.mk (by first | kernel_rfl | exact ⟨of_decide_eq_true rfl, of_decide_eq_true rfl⟩ | omega) ?_
    | refine Len.mk ⟨_, by simp only [List.length_cons, List.length_nil, Nat.reduceAdd, Int.cast_ofNat_Int]; rfl, ?_⟩
    | refine Wr.lit _ (by simp only [Int.reduceAdd, Int.reduceSub, Int.reduceMul]; rfl) (by decide) ?_
    | refine Wr.fit (by omega) ?_
    | refine Wr.fit (by dsimp only; omega) ?_
    | refine Elem.mk ⟨_, ⟨of_decide_eq_true rfl, rfl⟩, ?_⟩
    | refine Len.map ?_
    | refine Len.dropM ?_
    | refine Elem.dropM ?_
    | refine Len.takeM ?_
    | refine Elem.takeM ?_
    | refine Elem.mapK (by assumption) ?_
    | refine Elem.mapI (by omega) (by assumption) ?_
    | refine Elem.mapN (by omega) (fun x hx => ?_)
    | refine Elem.map (by omega) (by omega) (fun x hx => ?_)
    | refine (hb).use ⟨rfl, ?_⟩
    | refine (hp).use ⟨rfl, ?_⟩
    | refine CallX.mk ⟨_, _, (hb).x, rfl, ?_⟩
    | refine CallX.mk ⟨_, _, (hp).x, rfl, ?_⟩
    | refine Done.mk ⟨rfl, rfl⟩
    | refine Done.mk ⟨congrArg gb ?_, rfl⟩
    | refine Done.mk ⟨?_, rfl⟩
    | refine Done.mk ⟨?_, ?_⟩)
  all_goals skip
  }
  }
  {
  rw [if_neg h1]
  rw [show b.code = 14 from if_neg h1] at hb
  clear hl hm hp
  refine ICalls.of_body Try.func100 rfl Try.call100 rfl (Nat.le_of_ble_eq_true rfl) (fun _ => none) rfl ?_
  repeat' ((conv => whnf); first
    | refine Br.yes rfl ?_
    | refine Br.no rfl ?_
    | refine Br.yes (beq_self_eq_true _) ?_
    | refine Br.not ?_
    | refine Br.yes (decide_eq_true (by assumption)) ?_
    | refine Br.no (decide_eq_false (by assumption)) ?_
    | refine Br.yes (beq_iff_eq.2 (by assumption)) ?_
    | refine Br.no (beq_eq_false_iff_ne.2 (by assumption)) ?_
    | refine Br.yes (bne_iff_ne.2 (by assumption)) ?_
    | (refine Br.dec (fun h => ?_) (fun h => ?_) <;> try dsimp only at h)
    | (refine Br.beqI (fun h => ?_) (fun h => ?_) <;> try dsimp only at h)
    | (refine Br.bneI (fun h => ?_) (fun h => ?_) <;> try dsimp only at h)
    | refine Br.mk (fun h => ?_) (fun h => ?_)
    | refine Need.mk (by first | kernel_rfl | exact ⟨of_decide_eq_true rfl, of_decide_eq_true rfl⟩ | omega) ?_
    | refine Len.mk ⟨_, by simp only [List.length_cons, List.length_nil, Nat.reduceAdd, Int.cast_ofNat_Int]; rfl, ?_⟩
    | refine Wr.lit _ (by simp only [Int.reduceAdd, Int.reduceSub, Int.reduceMul]; rfl) (by decide) ?_
    | refine Wr.fit (by omega) ?_
    | refine Wr.fit (by dsimp only; omega) ?_
    | refine Elem.mk ⟨_, ⟨of_decide_eq_true rfl, rfl⟩, ?_⟩
    | refine Len.map ?_
    | refine Len.dropM ?_
    | refine Elem.dropM ?_
    | refine Len.takeM ?_
    | refine Elem.takeM ?_
    | refine Elem.mapK (by assumption) ?_
    | refine Elem.mapI (by omega) (by assumption) ?_
    | refine Elem.mapN (by omega) (fun x hx => ?_)
    | refine Elem.map (by omega) (by omega) (fun x hx => ?_)
    | refine (hb).use ⟨rfl, ?_⟩
    | refine CallX.mk ⟨_, _, (hb).x, rfl, ?_⟩
    | refine Done.mk ⟨rfl, rfl⟩
    | refine Done.mk ⟨congrArg gb ?_, rfl⟩
    | refine Done.mk ⟨?_, rfl⟩
    | refine Done.mk ⟨?_, ?_⟩)
  all_goals skip
  }

end Go.Hl

/- Laws of chapter 29: meters, checks, rests.  -/
set_option linter.unusedVariables false
set_option linter.unusedSimpArgs false
namespace Go.Hl
open Go.Gh Go.Proofs

def light29 (l : List Truck) : Bool := decide (l.length ≤ 110) && l.all fun t => decide (t.Past.length ≤ 60)
theorem light29_len {l : List Truck} (h : light29 l = true) : l.length ≤ 110 ∧ ∀ t, t ∈ l → (t.Past.length : Int) ≤ 60 := by
  unfold light29 at h
  simp only [Bool.and_eq_true, decide_eq_true_eq, List.all_eq_true] at h
  exact ⟨h.1, fun t ht => by have := h.2 t ht; omega⟩
theorem light29_no {l : List Truck} {i : Nat} {t : Truck} (h : l[i]? = some t) (hp : 60 < (t.Past.length : Int)) : false = light29 l := by
  symm
  cases hb : light29 l with
  | false => rfl
  | true => have := (light29_len hb).2 t (List.mem_of_getElem? h); omega
theorem light29_end {l : List Truck} {i : Nat} (hl : ¬ 110 < (l.length : Int)) (hi : ¬ (i : Int) < l.length) (h : ∀ j t, j < i → l[j]? = some t → t.Past.length ≤ 60) : true = light29 l := by
  symm
  unfold light29
  simp only [Bool.and_eq_true, decide_eq_true_eq, List.all_eq_true]
  refine ⟨by omega, fun t ht => ?_⟩
  obtain ⟨j, hj⟩ := List.mem_iff_getElem?.1 ht
  exact h j t (by have := (List.getElem?_eq_some_iff.1 hj).1; omega) hj

def pl_F7_1 : Nat → Option (List Nat × List Nat) := (fun k => bif Nat.beq k 4 then some ([1000004, 8, 9, 10], []) else none)
set_option maxRecDepth 100000 in
set_option maxHeartbeats 1000000 in
theorem light29_ok (l : List Truck) : ICalls Try.prog 47 [.list 6 (trucks l) none] [] (Done (gb (light29 l)) []) := by
  have hno := @light29_no l
  have hend := @light29_end l
  have h0 : 110 < (l.length : Int) → false = light29 l := fun h => by
    symm
    cases hb : light29 l with
    | false => rfl
    | true => have := (light29_len hb).1; omega
  generalize light29 l = q at *
  refine ICalls.of_body Try.func47 rfl Try.call47 rfl (Nat.le_of_ble_eq_true rfl) pl_F7_1 rfl ?_
  repeat' ((conv => whnf); first
    | refine Br.yes rfl ?_
    | refine Br.no rfl ?_
    | (refine ILoop.ov 1000004 (fun (i : Nat) => [(10, gi i)]) (fun (i : Nat) => []) (fun (i : Nat) => i ≤ l.length ∧ ∀ j t, j < i → l[j]? = some t → t.Past.length ≤ 60) (fun (i : Nat) => l.length - i) (0) (by exact rfl) ?_; (conv => whnf); refine Start.mk rfl ?_ ?_; (try dsimp only); rotate_left; rintro i ⟨hi, hp⟩)
    | (refine Again.mk ⟨(i + 1), rfl, ?_, ?_⟩ <;> try dsimp only)
    | refine Br.yes (beq_self_eq_true _) ?_
    | refine Br.not ?_
    | refine Br.yes (decide_eq_true (by assumption)) ?_
    | refine Br.no (decide_eq_false (by assumption)) ?_
    | refine Br.yes (beq_iff_eq.2 (by assumption)) ?_
    | refine Br.no (beq_eq_false_iff_ne.2 (by assumption)) ?_
    | refine Br.yes (bne_iff_ne.2 (by assumption)) ?_
    | (refine Br.dec (fun h => ?_) (fun h => ?_) <;> try dsimp only at h)
    | (refine Br.beqI (fun h => ?_) (fun h => ?_) <;> try dsimp only at h)
    | (refine Br.bneI (fun h => ?_) (fun h => ?_) <;> try dsimp only at h)
    | refine Br.mk (fun h => ?_) (fun h => ?_)
    | refine Need.mk (by first | kernel_rfl | exact ⟨of_decide_eq_true rfl, of_decide_eq_true rfl⟩ | omega) ?_
    | refine Len.mk ⟨_, by simp only [List.length_cons, List.length_nil, Nat.reduceAdd, Int.cast_ofNat_Int]; rfl, ?_⟩
    | refine Wr.lit _ (by simp only [Int.reduceAdd, Int.reduceSub, Int.reduceMul]; rfl) (by decide) ?_
    | refine Wr.fit (by omega) ?_
    | refine Wr.fit (by dsimp only; omega) ?_
    | refine Elem.mk ⟨_, ⟨of_decide_eq_true rfl, rfl⟩, ?_⟩
    | refine Len.map ?_
    | refine Len.dropM ?_
    | refine Elem.dropM ?_
    | refine Len.takeM ?_
    | refine Elem.takeM ?_
    | refine Elem.mapK (by assumption) ?_
    | refine Elem.mapI (by omega) (by assumption) ?_
    | refine Elem.mapN (by omega) (fun x hx => ?_)
    | refine Elem.map (by omega) (by omega) (fun x hx => ?_)
    | refine Done.mk ⟨rfl, rfl⟩
    | refine Done.mk ⟨congrArg gb ?_, rfl⟩
    | refine Done.mk ⟨?_, rfl⟩
    | refine Done.mk ⟨?_, ?_⟩)
  all_goals first
    | omega
    | exact h0 h
    | exact hno hx h
    | exact hend (by assumption) h hp
    | exact ⟨by omega, fun j t hj => by omega⟩
    | exact ⟨by omega, fun j t hj ht => by
        by_cases e : j = i
        · subst e; rw [hx] at ht; cases ht; omega
        · exact hp j t (by omega) ht⟩

end Go.Hl
