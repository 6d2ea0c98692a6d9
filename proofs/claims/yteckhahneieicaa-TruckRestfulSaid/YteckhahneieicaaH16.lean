/- Contracts of functions, bundle H16; proved for whatever the arguments' types allow, as each theorem says. -/
import Derived.Test.YteckhahneieicaaH15

/- Contracts: a truck rested; what its past comes to; the chapter's examples.  -/
set_option linter.unusedVariables false
set_option linter.unusedSimpArgs false
namespace Go.Hl
open Go.Gh Go.Proofs

def restP (p ev m : Int) (A B : Truck × Int) : Truck × Int :=
  if ¬ p = 0 then (Truck.zero, p) else if m < 0 ∨ 40320 < m then (Truck.zero, 4) else if m < ev then (Truck.zero, 1) else if m = ev then A else B
def restedV (t : Truck) (m : Int) : Truck × Int := restP (pastErr t.Past) (endV t.Past) m (moreV t t.Past) (moreV t (t.Past ++ [⟨0, endV t.Past, m⟩]))

set_option maxRecDepth 100000 in
set_option maxHeartbeats 1000000 in
theorem rested_ok (t : Truck) (m : Int) (hl : (t.Past.length : Int) ≤ 100000) : ICalls Try.prog 40 [t.g, gi m] [] (Done (truckV (restedV t m)) []) := by
  have he := truckEnd_ok t (by omega)
  have h0 := (more_ok t [] (by omega) (by simp)).sub (.cons (.refl _) (.cons (.nil 3) .nil))
  have h1 := more_ok t [⟨0, endV t.Past, m⟩] (by omega) (by simp)
  rw [List.append_nil] at h0
  refine ICalls.ofS ?_
  unfold restedV
  generalize moreV t t.Past = A at *
  generalize moreV t (t.Past ++ [⟨0, endV t.Past, m⟩]) = B at *
  generalize endV t.Past = ev at *
  generalize pastErr t.Past = p at *
  obtain ⟨TA, ca⟩ := A
  obtain ⟨TB, cb⟩ := B
  clear hl
  refine ICalls.of_body Try.func40 rfl Try.call40 rfl (Nat.le_of_ble_eq_true rfl) (fun _ => none) rfl ?_
  repeat' ((conv => whnf); first
    | refine Br.yes rfl ?_
    | refine Br.no rfl ?_
    | (refine DoneS.mk ⟨?_, rfl⟩)
    | refine Br.yes (beq_self_eq_true _) ?_
    | refine Br.not ?_
    | refine Br.yes (decide_eq_true (by assumption)) ?_
    | refine Br.no (decide_eq_false (by assumption)) ?_
    | refine Br.yes (beq_iff_eq.2 (by assumption)) ?_
    | refine Br.no (beq_eq_false_iff_ne.2 (by assumption)) ?_
    | refine Br.yes (bne_iff_ne.2 (by assumption)) ?_
    | (refine Br.dec (fun h => ?_) (fun h => ?_) <;> try dsimp only at h)
    | (refine Br.beqI (fun h => ?_) (fun h => ?_) <;> try dsimp only at h)
    | (refine Br.bneI (fun h => ?_) (fun h => ?_) <;> try dsimp only at h)
    | refine Br.mk (fun h => ?_) (fun h => ?_)
    | refine Need.mk (app_need (by first | (simp only [List.length_append, List.length_map, List.length_nil, List.length_cons, List.nil_append, Nat.zero_add, Nat.add_zero]; done) | (simp only [List.length_append, List.length_map, List.length_nil, List.length_cons, List.nil_append, Nat.zero_add, Nat.add_zero]; omega) | omega) (Nat.le_of_ble_eq_true rfl) (by first | (simp only [List.length_append, List.length_map, List.length_nil, List.length_cons, List.nil_append, Nat.zero_add, Nat.add_zero]; done) | (simp only [List.length_append, List.length_map, List.length_nil, List.length_cons, List.nil_append, Nat.zero_add, Nat.add_zero]; omega) | omega)) ?_
    | refine Need.mk (app_need0 (Nat.le_of_ble_eq_true rfl) (by first | (simp only [List.length_append, List.length_map, List.length_nil, List.length_cons, List.nil_append, Nat.zero_add, Nat.add_zero]; done) | (simp only [List.length_append, List.length_map, List.length_nil, List.length_cons, List.nil_append, Nat.zero_add, Nat.add_zero]; omega) | omega)) ?_
    | refine Need.mk (by first | kernel_rfl | exact ⟨of_decide_eq_true rfl, of_decide_eq_true rfl⟩ | omega) ?_
    | refine Len.mk ⟨_, by simp only [List.length_cons, List.length_nil, Nat.reduceAdd, Int.cast_ofNat_Int]; rfl, ?_⟩
    | refine Wr.lit _ (by simp only [Int.reduceAdd, Int.reduceSub, Int.reduceMul]; rfl) (by decide) ?_
    | refine Wr.fit (by omega) ?_
    | refine Wr.fit (by dsimp only; omega) ?_
    | refine Elem.mk ⟨_, ⟨of_decide_eq_true rfl, rfl⟩, ?_⟩
    | refine Len.map ?_
    | refine Len.dropM ?_
    | refine Elem.dropM ?_
    | refine Len.takeM ?_
    | refine Elem.takeM ?_
    | refine Elem.mapK (by assumption) ?_
    | refine Elem.mapI (by omega) (by assumption) ?_
    | refine Elem.mapN (by omega) (fun x hx => ?_)
    | refine Elem.map (by omega) (by omega) (fun x hx => ?_)
    | refine (he).use ⟨rfl, ?_⟩
    | refine (h0).use ⟨rfl, ?_⟩
    | refine (h1).use ⟨rfl, ?_⟩
    | refine CallX.mk ⟨_, _, (he).x, rfl, ?_⟩
    | refine CallX.mk ⟨_, _, (h0).x, rfl, ?_⟩
    | refine CallX.mk ⟨_, _, (h1).x, rfl, ?_⟩
    | refine Done.mk ⟨rfl, rfl⟩
    | refine Done.mk ⟨congrArg gb ?_, rfl⟩
    | refine Done.mk ⟨?_, rfl⟩
    | refine Done.mk ⟨?_, ?_⟩)
  all_goals first
    | (rw [show restP p ev m (TA, ca) (TB, cb) = (Truck.zero, p) from if_pos (by omega)]; exact zeroT_tup _)
    | (rw [show restP p ev m (TA, ca) (TB, cb) = (Truck.zero, 4) from by unfold restP; rw [if_neg (by omega), if_pos (by omega)]]; exact zeroT_tup _)
    | (rw [show restP p ev m (TA, ca) (TB, cb) = (Truck.zero, 1) from by unfold restP; rw [if_neg (by omega), if_neg (by omega), if_pos (by omega)]]; exact zeroT_tup _)
    | (rw [show restP p ev m (TA, ca) (TB, cb) = (TA, ca) from by unfold restP; rw [if_neg (by omega), if_neg (by omega), if_neg (by omega), if_pos (by omega)]]; exact Sub.refl _)
    | (rw [show restP p ev m (TA, ca) (TB, cb) = (TB, cb) from by unfold restP; rw [if_neg (by omega), if_neg (by omega), if_neg (by omega), if_neg (by omega)]]; exact Sub.refl _)

set_option maxRecDepth 100000 in
set_option maxHeartbeats 1000000 in
theorem refRested_ok (t : Truck) (m : Int) (hl : (t.Past.length : Int) ≤ 100000) : ICalls Try.prog 43 [t.g, gi m] [] (Done (truckV (restedV t m)) []) := by
  have hp := refTruckPast_ok t.Past (by omega)
  have he := refEnd_ok t.Past (by omega)
  have h0 := (refMore_ok t [] (by omega) (by simp)).sub (.cons (.refl _) (.cons (.nil 3) .nil))
  have h1 := refMore_ok t [⟨0, endV t.Past, m⟩] (by omega) (by simp)
  rw [List.append_nil] at h0
  refine ICalls.ofS ?_
  unfold restedV
  generalize moreV t t.Past = A at *
  generalize moreV t (t.Past ++ [⟨0, endV t.Past, m⟩]) = B at *
  by_cases hz : pastErr t.Past = 0
  {
  have hev : endV t.Past = endOf t.Past := by unfold endV; rw [if_pos hz]
  rw [hev] at h1 ⊢
  rw [hz] at hp ⊢
  generalize endOf t.Past = ev at *
  obtain ⟨TA, ca⟩ := A
  obtain ⟨TB, cb⟩ := B
  clear hl hev
  refine ICalls.of_body Try.func43 rfl Try.call43 rfl (Nat.le_of_ble_eq_true rfl) (fun _ => none) rfl ?_
  repeat' ((conv => whnf); first
    | refine Br.yes rfl ?_
    | refine Br.no rfl ?_
    | (refine DoneS.mk ⟨?_, rfl⟩)
    | refine Br.yes (beq_self_eq_true _) ?_
    | refine Br.not ?_
    | refine Br.yes (decide_eq_true (by assumption)) ?_
    | refine Br.no (decide_eq_false (by assumption)) ?_
    | refine Br.yes (beq_iff_eq.2 (by assumption)) ?_
    | refine Br.no (beq_eq_false_iff_ne.2 (by assumption)) ?_
    | refine Br.yes (bne_iff_ne.2 (by assumption)) ?_
    | (refine Br.dec (fun h => ?_) (fun h => ?_) <;> try dsimp only at h)
    | (refine Br.beqI (fun h => ?_) (fun h => ?_) <;> try dsimp only at h)
    | (refine Br.bneI (fun h => ?_) (fun h => ?_) <;> try dsimp only at h)
    | refine Br.mk (fun h => ?_) (fun h => ?_)
    | refine Need.mk (app_need (by first | (simp only [List.length_append, List.length_map, List.length_nil, List.length_cons, List.nil_append, Nat.zero_add, Nat.add_zero]; done) | (simp only [List.length_append, List.length_map, List.length_nil, List.length_cons, List.nil_append, Nat.zero_add, Nat.add_zero]; omega) | omega) (Nat.le_of_ble_eq_true rfl) (by first | (simp only [List.length_append, List.length_map, List.length_nil, List.length_cons, List.nil_append, Nat.zero_add, Nat.add_zero]; done) | (simp only [List.length_append, List.length_map, List.length_nil, List.length_cons, List.nil_append, Nat.zero_add, Nat.add_zero]; omega) | omega)) ?_
    | refine Need.mk (app_need0 (Nat.le_of_ble_eq_true rfl) (by first | (simp only [List.length_append, List.length_map, List.length_nil, List.length_cons, List.nil_append, Nat.zero_add, Nat.add_zero]; done) | (simp only [List.length_append, List.length_map, List.length_nil, List.length_cons, List.nil_append, Nat.zero_add, Nat.add_zero]; omega) | omega)) ?_
    | refine Need.mk (by first | kernel_rfl | exact ⟨of_decide_eq_true rfl, of_decide_eq_true rfl⟩ | omega) ?_
    | refine Len.mk ⟨_, by simp only [List.length_cons, List.length_nil, Nat.reduceAdd, Int.cast_ofNat_Int]; rfl, ?_⟩
    | refine Wr.lit _ (by simp only [Int.reduceAdd, Int.reduceSub, Int.reduceMul]; rfl) (by decide) ?_
    | refine Wr.fit (by omega) ?_
    | refine Wr.fit (by dsimp only; omega) ?_
    | refine Elem.mk ⟨_, ⟨of_decide_eq_true rfl, rfl⟩, ?_⟩
    | refine Len.map ?_
    | refine Len.dropM ?_
    | refine Elem.dropM ?_
    | refine Len.takeM ?_
    | refine Elem.takeM ?_
    | refine Elem.mapK (by assumption) ?_
    | refine Elem.mapI (by omega) (by assumption) ?_
    | refine Elem.mapN (by omega) (fun x hx => ?_)
    | refine Elem.map (by omega) (by omega) (fun x hx => ?_)
    | refine (hp).use ⟨rfl, ?_⟩
    | refine (he).use ⟨rfl, ?_⟩
    | refine (h0).use ⟨rfl, ?_⟩
    | refine (h1).use ⟨rfl, ?_⟩
    | refine CallX.mk ⟨_, _, (hp).x, rfl, ?_⟩
    | refine CallX.mk ⟨_, _, (he).x, rfl, ?_⟩
    | refine CallX.mk ⟨_, _, (h0).x, rfl, ?_⟩
    | refine CallX.mk ⟨_, _, (h1).x, rfl, ?_⟩
    | refine Done.mk ⟨rfl, rfl⟩
    | refine Done.mk ⟨congrArg gb ?_, rfl⟩
    | refine Done.mk ⟨?_, rfl⟩
    | refine Done.mk ⟨?_, ?_⟩)
  all_goals first
    | (rw [show restP 0 ev m (TA, ca) (TB, cb) = (Truck.zero, 4) from by unfold restP; rw [if_neg (by omega), if_pos (by omega)]]; exact zeroT_tup _)
    | (rw [show restP 0 ev m (TA, ca) (TB, cb) = (Truck.zero, 1) from by unfold restP; rw [if_neg (by omega), if_neg (by omega), if_pos (by omega)]]; exact zeroT_tup _)
    | (rw [show restP 0 ev m (TA, ca) (TB, cb) = (TA, ca) from by unfold restP; rw [if_neg (by omega), if_neg (by omega), if_neg (by omega), if_pos (by omega)]]; exact Sub.refl _)
    | (rw [show restP 0 ev m (TA, ca) (TB, cb) = (TB, cb) from by unfold restP; rw [if_neg (by omega), if_neg (by omega), if_neg (by omega), if_neg (by omega)]]; exact Sub.refl _)
  }
  {
  rw [show restP (pastErr t.Past) (endV t.Past) m A B = (Truck.zero, pastErr t.Past) from if_pos hz]
  generalize pastErr t.Past = p at *
  clear hl
  refine ICalls.of_body Try.func43 rfl Try.call43 rfl (Nat.le_of_ble_eq_true rfl) (fun _ => none) rfl ?_
  repeat' ((conv => whnf); first
    | refine Br.yes rfl ?_
    | refine Br.no rfl ?_
    | (refine DoneS.mk ⟨zeroT_tup _, rfl⟩)
    | refine Br.yes (beq_self_eq_true _) ?_
    | refine Br.not ?_
    | refine Br.yes (decide_eq_true (by assumption)) ?_
    | refine Br.no (decide_eq_false (by assumption)) ?_
    | refine Br.yes (beq_iff_eq.2 (by assumption)) ?_
    | refine Br.no (beq_eq_false_iff_ne.2 (by assumption)) ?_
    | refine Br.yes (bne_iff_ne.2 (by assumption)) ?_
    | (refine Br.dec (fun h => ?_) (fun h => ?_) <;> try dsimp only at h)
    | (refine Br.beqI (fun h => ?_) (fun h => ?_) <;> try dsimp only at h)
    | (refine Br.bneI (fun h => ?_) (fun h => ?_) <;> try dsimp only at h)
    | refine Br.mk (fun h => ?_) (fun h => ?_)
    | refine Need.mk (app_need (by first | (simp only [List.length_append, List.length_map, List.length_nil, List.length_cons, List.nil_append, Nat.zero_add, Nat.add_zero]; done) | (simp only [List.length_append, List.length_map, List.length_nil, List.length_cons, List.nil_append, Nat.zero_add, Nat.add_zero]; omega) | omega) (Nat.le_of_ble_eq_true rfl) (by first | (simp only [List.length_append, List.length_map, List.length_nil, List.length_cons, List.nil_append, Nat.zero_add, Nat.add_zero]; done) | (simp only [List.length_append, List.length_map, List.length_nil, List.length_cons, List.nil_append, Nat.zero_add, Nat.add_zero]; omega) | omega)) ?_
    | refine Need.mk (app_need0 (Nat.le_of_ble_eq_true rfl) (by first | (simp only [List.length_append, List.length_map, List.length_nil, List.length_cons, List.nil_append, Nat.zero_add, Nat.add_zero]; done) | (simp only [List.length_append, List.length_map, List.length_nil, List.length_cons, List.nil_append, Nat.zero_add, Nat.add_zero]; omega) | omega)) ?_
    | refine Need.mk (by first | kernel_rfl | exact ⟨of_decide_eq_true rfl, of_decide_eq_true rfl⟩ | omega) ?_
    | refine Len.mk ⟨_, by simp only [List.length_cons, List.length_nil, Nat.reduceAdd, Int.cast_ofNat_Int]; rfl, ?_⟩
    | refine Wr.lit _ (by simp only [Int.reduceAdd, Int.reduceSub, Int.reduceMul]; rfl) (by decide) ?_
    | refine Wr.fit (by omega) ?_
    | refine Wr.fit (by dsimp only; omega) ?_
    | refine Elem.mk ⟨_, ⟨of_decide_eq_true rfl, rfl⟩, ?_⟩
    | refine Len.map ?_
    | refine Len.dropM ?_
    | refine Elem.dropM ?_
    | refine Len.takeM ?_
    | refine Elem.takeM ?_
    | refine Elem.mapK (by assumption) ?_
    | refine Elem.mapI (by omega) (by assumption) ?_
    | refine Elem.mapN (by omega) (fun x hx => ?_)
    | refine Elem.map (by omega) (by omega) (fun x hx => ?_)
    | refine (hp).use ⟨rfl, ?_⟩
    | refine CallX.mk ⟨_, _, (hp).x, rfl, ?_⟩
    | refine Done.mk ⟨rfl, rfl⟩
    | refine Done.mk ⟨congrArg gb ?_, rfl⟩
    | refine Done.mk ⟨?_, rfl⟩
    | refine Done.mk ⟨?_, ?_⟩)
  all_goals omega
  }

def t29 : Truck := ⟨0, 0, 0, 0, 0, [⟨3, 0, 5⟩]⟩
theorem rest29 : restedV t29 9 = (⟨0, 0, 0, 0, 0, [⟨3, 0, 5⟩, ⟨0, 5, 9⟩]⟩, 0) := by decide +kernel

set_option maxRecDepth 100000 in
set_option maxHeartbeats 1000000 in
theorem alive29_ok : ICalls Try.prog 23 [] [] (Done (gb true) []) := by
  have h0 := rested_ok t29 9 (by decide)
  rw [rest29] at h0
  refine ICalls.of_body Try.func23 rfl Try.call23 rfl (Nat.le_of_ble_eq_true rfl) (fun _ => none) rfl ?_
  repeat' ((conv => whnf); first
    | refine Br.yes rfl ?_
    | refine Br.no rfl ?_
    | refine Need.mk (EqRun.flat (by kernel_rfl) rfl) ?_
    | refine Br.yes (beq_self_eq_true _) ?_
    | refine Br.not ?_
    | refine Br.yes (decide_eq_true (by assumption)) ?_
    | refine Br.no (decide_eq_false (by assumption)) ?_
    | refine Br.yes (beq_iff_eq.2 (by assumption)) ?_
    | refine Br.no (beq_eq_false_iff_ne.2 (by assumption)) ?_
    | refine Br.yes (bne_iff_ne.2 (by assumption)) ?_
    | (refine Br.dec (fun h => ?_) (fun h => ?_) <;> try dsimp only at h)
    | (refine Br.beqI (fun h => ?_) (fun h => ?_) <;> try dsimp only at h)
    | (refine Br.bneI (fun h => ?_) (fun h => ?_) <;> try dsimp only at h)
    | refine Br.mk (fun h => ?_) (fun h => ?_)
    | refine Need.mk (app_need (by first | (simp only [List.length_append, List.length_map, List.length_nil, List.length_cons, List.nil_append, Nat.zero_add, Nat.add_zero]; done) | (simp only [List.length_append, List.length_map, List.length_nil, List.length_cons, List.nil_append, Nat.zero_add, Nat.add_zero]; omega) | omega) (Nat.le_of_ble_eq_true rfl) (by first | (simp only [List.length_append, List.length_map, List.length_nil, List.length_cons, List.nil_append, Nat.zero_add, Nat.add_zero]; done) | (simp only [List.length_append, List.length_map, List.length_nil, List.length_cons, List.nil_append, Nat.zero_add, Nat.add_zero]; omega) | omega)) ?_
    | refine Need.mk (app_need0 (Nat.le_of_ble_eq_true rfl) (by first | (simp only [List.length_append, List.length_map, List.length_nil, List.length_cons, List.nil_append, Nat.zero_add, Nat.add_zero]; done) | (simp only [List.length_append, List.length_map, List.length_nil, List.length_cons, List.nil_append, Nat.zero_add, Nat.add_zero]; omega) | omega)) ?_
    | refine Need.mk (by first | kernel_rfl | exact ⟨of_decide_eq_true rfl, of_decide_eq_true rfl⟩ | omega) ?_
    | refine Len.mk ⟨_, by simp only [List.length_cons, List.length_nil, Nat.reduceAdd, Int.cast_ofNat_Int]; rfl, ?_⟩
    | refine Wr.lit _ (by simp only [Int.reduceAdd, Int.reduceSub, Int.reduceMul]; rfl) (by decide) ?_
    | refine Wr.fit (by omega) ?_
    | refine Wr.fit (by dsimp only; omega) ?_
    | refine Elem.mk ⟨_, ⟨of_decide_eq_true rfl, rfl⟩, ?_⟩
    | refine Len.map ?_
    | refine Len.dropM ?_
    | refine Elem.dropM ?_
    | refine Len.takeM ?_
    | refine Elem.takeM ?_
    | refine Elem.mapK (by assumption) ?_
    | refine Elem.mapI (by omega) (by assumption) ?_
    | refine Elem.mapN (by omega) (fun x hx => ?_)
    | refine Elem.map (by omega) (by omega) (fun x hx => ?_)
    | refine (h0).use ⟨rfl, ?_⟩
    | refine CallX.mk ⟨_, _, (h0).x, rfl, ?_⟩
    | refine Done.mk ⟨rfl, rfl⟩
    | refine Done.mk ⟨congrArg gb ?_, rfl⟩
    | refine Done.mk ⟨?_, rfl⟩
    | refine Done.mk ⟨?_, ?_⟩)

/-! ### What a past comes to -/
theorem runM_all (b : Book) : ∀ (ks : List Int) (m : Meter) (bits : Int), m.May → (∀ k, k ∈ ks → 0 ≤ k ∧ k < 4) → m.Now + (ks.length : Int) ≤ 40320 → (runM b ks m bits).2.2 = 0
  | [], _, _, _, _, _ => rfl
  | k :: r, m, bits, hm, hk, hn => by
    have h1 := hk k (List.mem_cons_self ..)
    simp only [List.length_cons] at hn
    have h2 := hm.step (b := b) (by omega) k
    rw [runM_cons, if_neg (by omega), if_neg (by omega)]
    exact runM_all b r _ _ h2.1 (fun q hq => hk q (List.mem_cons_of_mem _ hq)) (by rw [h2.2]; omega)
theorem kinds_mem {l : List Rec} (h : ∀ r, r ∈ l → recErr r = 0) : ∀ k, k ∈ kindsOf l → 0 ≤ k ∧ k < 4 := by
  intro k hk
  obtain ⟨r, hr, h2⟩ := List.mem_flatMap.1 hk
  have := List.eq_of_mem_replicate h2
  subst this
  exact (recErr_inv (h r hr)).1
def pastV (b : Book) (l : List Rec) : Meter × Int × Int := runM b (kindsOf l) Meter.zero 0
theorem pastV_0 {l : List Rec} (b : Book) (h : pastErr l = 0) : (pastV b l).2.2 = 0 := by
  have hc := chain_first (pastErr_code h)
  have hb : beginOf l = 0 := by
    unfold pastErr at h; rw [if_neg (by have := pastErr_code (l := l) h; omega)] at h
    split at h
    · cases h
    · omega
  rw [hb] at hc
  have := chain_len l 0 hc (by omega)
  exact runM_all b _ _ _ zero_May (kinds_mem (chain_all l 0 hc)) (by show (0 : Int) + _ ≤ _; omega)
theorem ofAll_past {b : Book} {l : List Rec} (hb : b.May) (h : pastErr l = 0) : ofAll b l = pastV b l := by
  have h1 : (recsErr 0 none l).2 = 0 := pastErr_code h
  have hbeg : beginOf l = 0 := by
    unfold pastErr at h; rw [if_neg (by have := pastErr_code (l := l) h; omega)] at h
    split at h
    · cases h
    · omega
  unfold ofAll
  rw [if_pos hb, if_neg (by omega), if_neg (by omega)]
  rfl
def truckMeter (b : Book) (l : List Rec) : Meter × Int :=
  if b.May then (if pastErr l = 0 then (if (pastV b l).2.1 = 0 then ((pastV b l).1, 0) else (Meter.zero, 16)) else (Meter.zero, pastErr l)) else (Meter.zero, 14)
def meterV (x : Meter × Int) : GV := .tup [x.1.g, gi x.2]

set_option maxRecDepth 100000 in
set_option maxHeartbeats 1000000 in
theorem truckMeter_ok (b : Book) (t : Truck) (hl : (t.Past.length : Int) ≤ 1000000000) : ICalls Try.prog 24 [b.g, t.g] [] (Done (meterV (truckMeter b t.Past)) []) := by
  have hb := bookCheck_ok b
  have hp := truckPast_ok t.Past hl
  have hm := meterOf_ok b t.Past hl
  unfold truckMeter
  by_cases h1 : b.May
  {
  rw [if_pos h1]
  rw [show b.code = 0 from if_pos h1] at hb
  by_cases h2 : pastErr t.Past = 0
  {
  rw [if_pos h2]
  rw [h2] at hp
  rw [ofAll_past h1 h2] at hm
  have h3 := pastV_0 b h2
  generalize pastV b t.Past = R at *
  obtain ⟨mm, bits, e⟩ := R
  simp only at h3
  subst h3
  obtain ⟨a, b', c, d, e, l⟩ := t
  simp only at *
  clear hl
  by_cases h4 : bits = 0
  {
  rw [if_pos h4]
  refine ICalls.of_body Try.func24 rfl Try.call24 rfl (Nat.le_of_ble_eq_true rfl) (fun _ => none) rfl ?_
  repeat' ((conv => whnf); first
    | refine Br.yes rfl ?_
    | refine Br.no rfl ?_
    | refine Br.yes (beq_self_eq_true _) ?_
    | refine Br.not ?_
    | refine Br.yes (decide_eq_true (by assumption)) ?_
    | refine Br.no (decide_eq_false (by assumption)) ?_
    | refine Br.yes (beq_iff_eq.2 (by assumption)) ?_
    | refine Br.no (beq_eq_false_iff_ne.2 (by assumption)) ?_
    | refine Br.yes (bne_iff_ne.2 (by assumption)) ?_
    | (refine Br.dec (fun h => ?_) (fun h => ?_) <;> try dsimp only at h)
    | (refine Br.beqI (fun h => ?_) (fun h => ?_) <;> try dsimp only at h)
    | (refine Br.bneI (fun h => ?_) (fun h => ?_) <;> try dsimp only at h)
    | refine Br.mk (fun h => ?_) (fun h => ?_)
    | refine Need.mk (app_need (by first | (simp only [List.length_append, List.length_map, List.length_nil, List.length_cons, List.nil_append, Nat.zero_add, Nat.add_zero]; done) | (simp only [List.length_append, List.length_map, List.length_nil, List.length_cons, List.nil_append, Nat.zero_add, Nat.add_zero]; omega) | omega) (Nat.le_of_ble_eq_true rfl) (by first | (simp only [List.length_append, List.length_map, List.length_nil, List.length_cons, List.nil_append, Nat.zero_add, Nat.add_zero]; done) | (simp only [List.length_append, List.length_map, List.length_nil, List.length_cons, List.nil_append, Nat.zero_add, Nat.add_zero]; omega) | omega)) ?_
    | refine Need.mk (app_need0 (Nat.le_of_ble_eq_true rfl) (by first | (simp only [List.length_append, List.length_map, List.length_nil, List.length_cons, List.nil_append, Nat.zero_add, Nat.add_zero]; done) | (simp only [List.length_append, List.length_map, List.length_nil, List.length_cons, List.nil_append, Nat.zero_add, Nat.add_zero]; omega) | omega)) ?_
    | refine Need.mk (by first | kernel_rfl | exact ⟨of_decide_eq_true rfl, of_decide_eq_true rfl⟩ | omega) ?_
    | refine Len.mk ⟨_, by simp only [List.length_cons, List.length_nil, Nat.reduceAdd, Int.cast_ofNat_Int]; rfl, ?_⟩
    | refine Wr.lit _ (by simp only [Int.reduceAdd, Int.reduceSub, Int.reduceMul]; rfl) (by decide) ?_
    | refine Wr.fit (by omega) ?_
    | refine Wr.fit (by dsimp only; omega) ?_
    | refine Elem.mk ⟨_, ⟨of_decide_eq_true rfl, rfl⟩, ?_⟩
    | refine Len.map ?_
    | refine Len.dropM ?_
    | refine Elem.dropM ?_
    | refine Len.takeM ?_
    | refine Elem.takeM ?_
    | refine Elem.mapK (by assumption) ?_
    | refine Elem.mapI (by omega) (by assumption) ?_
    | refine Elem.mapN (by omega) (fun x hx => ?_)
    | refine Elem.map (by omega) (by omega) (fun x hx => ?_)
    | refine (hb).use ⟨rfl, ?_⟩
    | refine (hp).use ⟨rfl, ?_⟩
    | refine (hm).use ⟨rfl, ?_⟩
    | refine CallX.mk ⟨_, _, (hb).x, rfl, ?_⟩
    | refine CallX.mk ⟨_, _, (hp).x, rfl, ?_⟩
    | refine CallX.mk ⟨_, _, (hm).x, rfl, ?_⟩
    | refine Done.mk ⟨rfl, rfl⟩
    | refine Done.mk ⟨congrArg gb ?_, rfl⟩
    | refine Done.mk ⟨?_, rfl⟩
    | refine Done.mk ⟨?_, ?_⟩)
  all_goals skip
  }
  {
  rw [if_neg h4]
  refine ICalls.of_body Try.func24 rfl Try.call24 rfl (Nat.le_of_ble_eq_true rfl) (fun _ => none) rfl ?_
  repeat' ((conv => whnf); first
    | refine Br.yes rfl ?_
    | refine Br.no rfl ?_
    | refine Br.yes (beq_self_eq_true _) ?_
    | refine Br.not ?_
    | refine Br.yes (decide_eq_true (by assumption)) ?_
    | refine Br.no (decide_eq_false (by assumption)) ?_
    | refine Br.yes (beq_iff_eq.2 (by assumption)) ?_
    | refine Br.no (beq_eq_false_iff_ne.2 (by assumption)) ?_
    | refine Br.yes (bne_iff_ne.2 (by assumption)) ?_
    | (refine Br.dec (fun h => ?_) (fun h => ?_) <;> try dsimp only at h)
    | (refine Br.beqI (fun h => ?_) (fun h => ?_) <;> try dsimp only at h)
    | (refine Br.bneI (fun h => ?_) (fun h => ?_) <;> try dsimp only at h)
    | refine Br.mk (fun h => ?_) (fun h => ?_)
    | refine Need.mk (app_need (by first | (simp only [List.length_append, List.length_map, List.length_nil, List.length_cons, List.nil_append, Nat.zero_add, Nat.add_zero]; done) | (simp only [List.length_append, List.length_map, List.length_nil, List.length_cons, List.nil_append, Nat.zero_add, Nat.add_zero]; omega) | omega) (Nat.le_of_ble_eq_true rfl) (by first | (simp only [List.length_append, List.length_map, List.length_nil, List.length_cons, List.nil_append, Nat.zero_add, Nat.add_zero]; done) | (simp only [List.length_append, List.length_map, List.length_nil, List.length_cons, List.nil_append, Nat.zero_add, Nat.add_zero]; omega) | omega)) ?_
    | refine Need.mk (app_need0 (Nat.le_of_ble_eq_true rfl) (by first | (simp only [List.length_append, List.length_map, List.length_nil, List.length_cons, List.nil_append, Nat.zero_add, Nat.add_zero]; done) | (simp only [List.length_append, List.length_map, List.length_nil, List.length_cons, List.nil_append, Nat.zero_add, Nat.add_zero]; omega) | omega)) ?_
    | refine Need.mk (by first | kernel_rfl | exact ⟨of_decide_eq_true rfl, of_decide_eq_true rfl⟩ | omega) ?_
    | refine Len.mk ⟨_, by simp only [List.length_cons, List.length_nil, Nat.reduceAdd, Int.cast_ofNat_Int]; rfl, ?_⟩
    | refine Wr.lit _ (by simp only [Int.reduceAdd, Int.reduceSub, Int.reduceMul]; rfl) (by decide) ?_
    | refine Wr.fit (by omega) ?_
    | refine Wr.fit (by dsimp only; omega) ?_
    | refine Elem.mk ⟨_, ⟨of_decide_eq_true rfl, rfl⟩, ?_⟩
    | refine Len.map ?_
    | refine Len.dropM ?_
    | refine Elem.dropM ?_
    | refine Len.takeM ?_
    | refine Elem.takeM ?_
    | refine Elem.mapK (by assumption) ?_
    | refine Elem.mapI (by omega) (by assumption) ?_
    | refine Elem.mapN (by omega) (fun x hx => ?_)
    | refine Elem.map (by omega) (by omega) (fun x hx => ?_)
    | refine (hb).use ⟨rfl, ?_⟩
    | refine (hp).use ⟨rfl, ?_⟩
    | refine (hm).use ⟨rfl, ?_⟩
    | refine CallX.mk ⟨_, _, (hb).x, rfl, ?_⟩
    | refine CallX.mk ⟨_, _, (hp).x, rfl, ?_⟩
    | refine CallX.mk ⟨_, _, (hm).x, rfl, ?_⟩
    | refine Done.mk ⟨rfl, rfl⟩
    | refine Done.mk ⟨congrArg gb ?_, rfl⟩
    | refine Done.mk ⟨?_, rfl⟩
    | refine Done.mk ⟨?_, ?_⟩)
  all_goals skip
  }
  }
  {
  rw [if_neg h2]
  generalize pastErr t.Past = p at *
  obtain ⟨a, b', c, d, e, l⟩ := t
  simp only at *
  clear hl hm
  refine ICalls.of_body Try.func24 rfl Try.call24 rfl (Nat.le_of_ble_eq_true rfl) (fun _ => none) rfl ?_
  repeat' ((conv => whnf); first
    | refine Br.yes rfl ?_
    | refine Br.no rfl ?_
    | refine Br.yes (beq_self_eq_true _) ?_
    | refine Br.not ?_
    | refine Br.yes (decide_eq_true (by assumption)) ?_
    | refine Br.no (decide_eq_false (by assumption)) ?_
    | refine Br.yes (beq_iff_eq.2 (by assumption)) ?_
    | refine Br.no (beq_eq_false_iff_ne.2 (by assumption)) ?_
    | refine Br.yes (bne_iff_ne.2 (by assumption)) ?_
    | (refine Br.dec (fun h => ?_) (fun h => ?_) <;> try dsimp only at h)
    | (refine Br.beqI (fun h => ?_) (fun h => ?_) <;> try dsimp only at h)
    | (refine Br.bneI (fun h => ?_) (fun h => ?_) <;> try dsimp only at h)
    | refine Br.mk (fun h => ?_) (fun h => ?_)
    | refine Need.mk (app_need (by first | (simp only [List.length_append, List.length_map, List.length_nil, List.length_cons, List.nil_append, Nat.zero_add, Nat.add_zero]; done) | (simp only [List.length_append, List.length_map, List.length_nil, List.length_cons, List.nil_append, Nat.zero_add, Nat.add_zero]; omega) | omega) (Nat.le_of_ble_eq_true rfl) (by first | (simp only [List.length_append, List.length_map, List.length_nil, List.length_cons, List.nil_append, Nat.zero_add, Nat.add_zero]; done) | (simp only [List.length_append, List.length_map, List.length_nil, List.length_cons, List.nil_append, Nat.zero_add, Nat.add_zero]; omega) | omega)) ?_
    | refine Need.mk (app_need0 (Nat.le_of_ble_eq_true rfl) (by first | (simp only [List.length_append, List.length_map, List.length_nil, List.length_cons, List.nil_append, Nat.zero_add, Nat.add_zero]; done) | (simp only [List.length_append, List.length_map, List.length_nil, List.length_cons, List.nil_append, Nat.zero_add, Nat.add_zero]; omega) | omega)) ?_
    | refine Need.mk (by first | kernel_rfl | exact ⟨of_decide_eq_true rfl, of_decide_eq_true rfl⟩ | omega) ?_
    | refine Len.mk ⟨_, by simp only [List.length_cons, List.length_nil, Nat.reduceAdd, Int.cast_ofNat_Int]; rfl, ?_⟩
    | refine Wr.lit _ (by simp only [Int.reduceAdd, Int.reduceSub, Int.reduceMul]; rfl) (by decide) ?_
    | refine Wr.fit (by omega) ?_
    | refine Wr.fit (by dsimp only; omega) ?_
    | refine Elem.mk ⟨_, ⟨of_decide_eq_true rfl, rfl⟩, ?_⟩
    | refine Len.map ?_
    | refine Len.dropM ?_
    | refine Elem.dropM ?_
    | refine Len.takeM ?_
    | refine Elem.takeM ?_
    | refine Elem.mapK (by assumption) ?_
    | refine Elem.mapI (by omega) (by assumption) ?_
    | refine Elem.mapN (by omega) (fun x hx => ?_)
    | refine Elem.map (by omega) (by omega) (fun x hx => ?_)
    | refine (hb).use ⟨rfl, ?_⟩
    | refine (hp).use ⟨rfl, ?_⟩
    | refine CallX.mk ⟨_, _, (hb).x, rfl, ?_⟩
    | refine CallX.mk ⟨_, _, (hp).x, rfl, ?_⟩
    | refine Done.mk ⟨rfl, rfl⟩
    | refine Done.mk ⟨congrArg gb ?_, rfl⟩
    | refine Done.mk ⟨?_, rfl⟩
    | refine Done.mk ⟨?_, ?_⟩)
  all_goals skip
  }
  }
  {
  rw [if_neg h1]
  rw [show b.code = 14 from if_neg h1] at hb
  clear hl hm hp
  refine ICalls.of_body Try.func24 rfl Try.call24 rfl (Nat.le_of_ble_eq_true rfl) (fun _ => none) rfl ?_
  repeat' ((conv => whnf); first
    | refine Br.yes rfl ?_
    | refine Br.no rfl ?_
    | refine Br.yes (beq_self_eq_true _) ?_
    | refine Br.not ?_
    | refine Br.yes (decide_eq_true (by assumption)) ?_
    | refine Br.no (decide_eq_false (by assumption)) ?_
    | refine Br.yes (beq_iff_eq.2 (by assumption)) ?_
    | refine Br.no (beq_eq_false_iff_ne.2 (by assumption)) ?_
    | refine Br.yes (bne_iff_ne.2 (by assumption)) ?_
    | (refine Br.dec (fun h => ?_) (fun h => ?_) <;> try dsimp only at h)
    | (refine Br.beqI (fun h => ?_) (fun h => ?_) <;> try dsimp only at h)
    | (refine Br.bneI (fun h => ?_) (fun h => ?_) <;> try dsimp only at h)
    | refine Br.mk (fun h => ?_) (fun h => ?_)
    | refine Need.mk (app_need (by first | (simp only [List.length_append, List.length_map, List.length_nil, List.length_cons, List.nil_append, Nat.zero_add, Nat.add_zero]; done) | (simp only [List.length_append, List.length_map, List.length_nil, List.length_cons, List.nil_append, Nat.zero_add, Nat.add_zero]; omega) | omega) (Nat.le_of_ble_eq_true rfl) (by first | (simp only [List.length_append, List.length_map, List.length_nil, List.length_cons, List.nil_append, Nat.zero_add, Nat.add_zero]; done) | (simp only [List.length_append, List.length_map, List.length_nil, List.length_cons, List.nil_append, Nat.zero_add, Nat.add_zero]; omega) | omega)) ?_
    | refine Need.mk (app_need0 (Nat.le_of_ble_eq_true rfl) (by first | (simp only [List.length_append, List.length_map, List.length_nil, List.length_cons, List.nil_append, Nat.zero_add, Nat.add_zero]; done) | (simp only [List.length_append, List.length_map, List.length_nil, List.length_cons, List.nil_append, Nat.zero_add, Nat.add_zero]; omega) | omega)) ?_
    | refine Need.mk (by first | kernel_rfl | exact ⟨of_decide_eq_true rfl, of_decide_eq_true rfl⟩ | omega) ?_
    | refine Len.mk ⟨_, by simp only [List.length_cons, List.length_nil, Nat.reduceAdd, Int.cast_ofNat_Int]; rfl, ?_⟩
    | refine Wr.lit _ (by simp only [Int.reduceAdd, Int.reduceSub, Int.reduceMul]; rfl) (by decide) ?_
    | refine Wr.fit (by omega) ?_
    | refine Wr.fit (by dsimp only; omega) ?_
    | refine Elem.mk ⟨_, ⟨of_decide_eq_true rfl, rfl⟩, ?_⟩
    | refine Len.map ?_
    | refine Len.dropM ?_
    | refine Elem.dropM ?_
    | refine Len.takeM ?_
    | refine Elem.takeM ?_
    | refine Elem.mapK (by assumption) ?_
    | refine Elem.mapI (by omega) (by assumption) ?_
    | refine Elem.mapN (by omega) (fun x hx => ?_)
    | refine Elem.map (by omega) (by omega) (fun x hx => ?_)
    | refine (hb).use ⟨rfl, ?_⟩
    | refine CallX.mk ⟨_, _, (hb).x, rfl, ?_⟩
    | refine Done.mk ⟨rfl, rfl⟩
    | refine Done.mk ⟨congrArg gb ?_, rfl⟩
    | refine Done.mk ⟨?_, rfl⟩
    | refine Done.mk ⟨?_, ?_⟩)
  all_goals skip
  }

set_option maxRecDepth 100000 in
set_option maxHeartbeats 1000000 in
theorem refTruckMeter_ok (b : Book) (t : Truck) (hl : (t.Past.length : Int) ≤ 1000000000) : ICalls Try.prog 25 [b.g, t.g] [] (Done (meterV (truckMeter b t.Past)) []) := by
  have hb := bookMay_ok b
  have hp := refTruckPast_ok t.Past hl
  have hm := refOf13_ok b t.Past hl
  unfold truckMeter
  by_cases h1 : b.May
  {
  rw [if_pos h1]
  rw [show decide b.May = true from decide_eq_true h1] at hb
  by_cases h2 : pastErr t.Past = 0
  {
  rw [if_pos h2]
  rw [h2] at hp
  rw [ofAll_past h1 h2] at hm
  have h3 := pastV_0 b h2
  generalize pastV b t.Past = R at *
  obtain ⟨mm, bits, e⟩ := R
  simp only at h3
  subst h3
  obtain ⟨a, b', c, d, e, l⟩ := t
  simp only at *
  clear hl
  by_cases h4 : bits = 0
  {
  rw [if_pos h4]
  refine ICalls.of_body Try.func25 rfl Try.call25 rfl (Nat.le_of_ble_eq_true rfl) (fun _ => none) rfl ?_
  repeat' ((conv => whnf); first
    | refine Br.yes rfl ?_
    | refine Br.no rfl ?_
    | refine Br.yes (beq_self_eq_true _) ?_
    | refine Br.not ?_
    | refine Br.yes (decide_eq_true (by assumption)) ?_
    | refine Br.no (decide_eq_false (by assumption)) ?_
    | refine Br.yes (beq_iff_eq.2 (by assumption)) ?_
    | refine Br.no (beq_eq_false_iff_ne.2 (by assumption)) ?_
    | refine Br.yes (bne_iff_ne.2 (by assumption)) ?_
    | (refine Br.dec (fun h => ?_) (fun h => ?_) <;> try dsimp only at h)
    | (refine Br.beqI (fun h => ?_) (fun h => ?_) <;> try dsimp only at h)
    | (refine Br.bneI (fun h => ?_) (fun h => ?_) <;> try dsimp only at h)
    | refine Br.mk (fun h => ?_) (fun h => ?_)
    | refine Need.mk (app_need (by first | (simp only [List.length_append, List.length_map, List.length_nil, List.length_cons, List.nil_append, Nat.zero_add, Nat.add_zero]; done) | (simp only [List.length_append, List.length_map, List.length_nil, List.length_cons, List.nil_append, Nat.zero_add, Nat.add_zero]; omega) | omega) (Nat.le_of_ble_eq_true rfl) (by first | (simp only [List.length_append, List.length_map, List.length_nil, List.length_cons, List.nil_append, Nat.zero_add, Nat.add_zero]; done) | (simp only [List.length_append, List.length_map, List.length_nil, List.length_cons, List.nil_append, Nat.zero_add, Nat.add_zero]; omega) | omega)) ?_
    | refine Need.mk (app_need0 (Nat.le_of_ble_eq_true rfl) (by first | (simp only [List.length_append, List.length_map, List.length_nil, List.length_cons, List.nil_append, Nat.zero_add, Nat.add_zero]; done) | (simp only [List.length_append, List.length_map, List.length_nil, List.length_cons, List.nil_append, Nat.zero_add, Nat.add_zero]; omega) | omega)) ?_
    | refine Need.mk (by first | kernel_rfl | exact ⟨of_decide_eq_true rfl, of_decide_eq_true rfl⟩ | omega) ?_
    | refine Len.mk ⟨_, by simp only [List.length_cons, List.length_nil, Nat.reduceAdd, Int.cast_ofNat_Int]; rfl, ?_⟩
    | refine Wr.lit _ (by simp only [Int.reduceAdd, Int.reduceSub, Int.reduceMul]; rfl) (by decide) ?_
    | refine Wr.fit (by omega) ?_
    | refine Wr.fit (by dsimp only; omega) ?_
    | refine Elem.mk ⟨_, ⟨of_decide_eq_true rfl, rfl⟩, ?_⟩
    | refine Len.map ?_
    | refine Len.dropM ?_
    | refine Elem.dropM ?_
    | refine Len.takeM ?_
    | refine Elem.takeM ?_
    | refine Elem.mapK (by assumption) ?_
    | refine Elem.mapI (by omega) (by assumption) ?_
    | refine Elem.mapN (by omega) (fun x hx => ?_)
    | refine Elem.map (by omega) (by omega) (fun x hx => ?_)
    | refine (hb).use ⟨rfl, ?_⟩
    | refine (hp).use ⟨rfl, ?_⟩
    | refine (hm).use ⟨rfl, ?_⟩
    | refine CallX.mk ⟨_, _, (hb).x, rfl, ?_⟩
    | refine CallX.mk ⟨_, _, (hp).x, rfl, ?_⟩
    | refine CallX.mk ⟨_, _, (hm).x, rfl, ?_⟩
    | refine Done.mk ⟨rfl, rfl⟩
    | refine Done.mk ⟨congrArg gb ?_, rfl⟩
    | refine Done.mk ⟨?_, rfl⟩
    | refine Done.mk ⟨?_, ?_⟩)
  all_goals skip
  }
  {
  rw [if_neg h4]
  refine ICalls.of_body Try.func25 rfl Try.call25 rfl (Nat.le_of_ble_eq_true rfl) (fun _ => none) rfl ?_
  repeat' ((conv => whnf); first
    | refine Br.yes rfl ?_
    | refine Br.no rfl ?_
    | refine Br.yes (beq_self_eq_true _) ?_
    | refine Br.not ?_
    | refine Br.yes (decide_eq_true (by assumption)) ?_
    | refine Br.no (decide_eq_false (by assumption)) ?_
    | refine Br.yes (beq_iff_eq.2 (by assumption)) ?_
    | refine Br.no (beq_eq_false_iff_ne.2 (by assumption)) ?_
    | refine Br.yes (bne_iff_ne.2 (by assumption)) ?_
    | (refine Br.dec (fun h => ?_) (fun h => ?_) <;> try dsimp only at h)
    | (refine Br.beqI (fun h => ?_) (fun h => ?_) <;> try dsimp only at h)
    | (refine Br.bneI (fun h => ?_) (fun h => ?_) <;> try dsimp only at h)
    | refine Br.mk (fun h => ?_) (fun h => ?_)
    | refine Need.mk (app_need (by first | (simp only [List.length_append, List.length_map, List.length_nil, List.length_cons, List.nil_append, Nat.zero_add, Nat.add_zero]; done) | (simp only [List.length_append, List.length_map, List.length_nil, List.length_cons, List.nil_append, Nat.zero_add, Nat.add_zero]; omega) | omega) (Nat.le_of_ble_eq_true rfl) (by first | (simp only [List.length_append, List.length_map, List.length_nil, List.length_cons, List.nil_append, Nat.zero_add, Nat.add_zero]; done) | (simp only [List.length_append, List.length_map, List.length_nil, List.length_cons, List.nil_append, Nat.zero_add, Nat.add_zero]; omega) | omega)) ?_
    | refine Need.mk (app_need0 (Nat.le_of_ble_eq_true rfl) (by first | (simp only [List.length_append, List.length_map, List.length_nil, List.length_cons, List.nil_append, Nat.zero_add, Nat.add_zero]; done) | (simp only [List.length_append, List.length_map, List.length_nil, List.length_cons, List.nil_append, Nat.zero_add, Nat.add_zero]; omega) | omega)) ?_
    | refine Need.mk (by first | kernel_rfl | exact ⟨of_decide_eq_true rfl, of_decide_eq_true rfl⟩ | omega) ?_
    | refine Len.mk ⟨_, by simp only [List.length_cons, List.length_nil, Nat.reduceAdd, Int.cast_ofNat_Int]; rfl, ?_⟩
    | refine Wr.lit _ (by simp only [Int.reduceAdd, Int.reduceSub, Int.reduceMul]; rfl) (by decide) ?_
    | refine Wr.fit (by omega) ?_
    | refine Wr.fit (by dsimp only; omega) ?_
    | refine Elem.mk ⟨_, ⟨of_decide_eq_true rfl, rfl⟩, ?_⟩
    | refine Len.map ?_
    | refine Len.dropM ?_
    | refine Elem.dropM ?_
    | refine Len.takeM ?_
    | refine Elem.takeM ?_
    | refine Elem.mapK (by assumption) ?_
    | refine Elem.mapI (by omega) (by assumption) ?_
    | refine Elem.mapN (by omega) (fun x hx => ?_)
    | refine Elem.map (by omega) (by omega) (fun x hx => ?_)
    | refine (hb).use ⟨rfl, ?_⟩
    | refine (hp).use ⟨rfl, ?_⟩
    | refine (hm).use ⟨rfl, ?_⟩
    | refine CallX.mk ⟨_, _, (hb).x, rfl, ?_⟩
    | refine CallX.mk ⟨_, _, (hp).x, rfl, ?_⟩
    | refine CallX.mk ⟨_, _, (hm).x, rfl, ?_⟩
    | refine Done.mk ⟨rfl, rfl⟩
    | refine Done.mk ⟨congrArg gb ?_, rfl⟩
    | refine Done.mk ⟨?_, rfl⟩
    | refine Done.mk ⟨?_, ?_⟩)
  all_goals skip
  }
  }
  {
  rw [if_neg h2]
  generalize pastErr t.Past = p at *
  obtain ⟨a, b', c, d, e, l⟩ := t
  simp only at *
  clear hl hm
  refine ICalls.of_body Try.func25 rfl Try.call25 rfl (Nat.le_of_ble_eq_true rfl) (fun _ => none) rfl ?_
  repeat' ((conv => whnf); first
    | refine Br.yes rfl ?_
    | refine Br.no rfl ?_
    | refine Br.yes (beq_self_eq_true _) ?_
    | refine Br.not ?_
    | refine Br.yes (decide_eq_true (by assumption)) ?_
    | refine Br.no (decide_eq_false (by assumption)) ?_
    | refine Br.yes (beq_iff_eq.2 (by assumption)) ?_
    | refine Br.no (beq_eq_false_iff_ne.2 (by assumption)) ?_
    | refine Br.yes (bne_iff_ne.2 (by assumption)) ?_
    | (refine Br.dec (fun h => ?_) (fun h => ?_) <;> try dsimp only at h)
    | (refine Br.beqI (fun h => ?_) (fun h => ?_) <;> try dsimp only at h)
    | (refine Br.bneI (fun h => ?_) (fun h => ?_) <;> try dsimp only at h)
    | refine Br.mk (fun h => ?_) (fun h => ?_)
    | refine Need.mk (app_need (by first | (simp only [List.length_append, List.length_map, List.length_nil, List.length_cons, List.nil_append, Nat.zero_add, Nat.add_zero]; done) | (simp only [List.length_append, List.length_map, List.length_nil, List.length_cons, List.nil_append, Nat.zero_add, Nat.add_zero]; omega) | omega) (Nat.le_of_ble_eq_true rfl) (by first | (simp only [List.length_append, List.length_map, List.length_nil, List.length_cons, List.nil_append, Nat.zero_add, Nat.add_zero]; done) | (simp only [List.length_append, List.length_map, List.length_nil, List.length_cons, List.nil_append, Nat.zero_add, Nat.add_zero]; omega) | omega)) ?_
    | refine Need.mk (app_need0 (Nat.le_of_ble_eq_true rfl) (by first | (simp only [List.length_append, List.length_map, List.length_nil, List.length_cons, List.nil_append, Nat.zero_add, Nat.add_zero]; done) | (simp only [List.length_append, List.length_map, List.length_nil, List.length_cons, List.nil_append, Nat.zero_add, Nat.add_zero]; omega) | omega)) ?_
    | refine Need.mk (by first | kernel_rfl | exact ⟨of_decide_eq_true rfl, of_decide_eq_true rfl⟩ | omega) ?_
    | refine Len.mk ⟨_, by simp only [List.length_cons, List.length_nil, Nat.reduceAdd, Int.cast_ofNat_Int]; rfl, ?_⟩
    | refine Wr.lit _ (by simp only [Int.reduceAdd, Int.reduceSub, Int.reduceMul]; rfl) (by decide) ?_
    | refine Wr.fit (by omega) ?_
    | refine Wr.fit (by dsimp only; omega) ?_
    | refine Elem.mk ⟨_, ⟨of_decide_eq_true rfl, rfl⟩, ?_⟩
    | refine Len.map ?_
    | refine Len.dropM ?_
    | refine Elem.dropM ?_
    | refine Len.takeM ?_
    | refine Elem.takeM ?_
    | refine Elem.mapK (by assumption) ?_
    | refine Elem.mapI (by omega) (by assumption) ?_
    | refine Elem.mapN (by omega) (fun x hx => ?_)
    | refine Elem.map (by omega) (by omega) (fun x hx => ?_)
    | refine (hb).use ⟨rfl, ?_⟩
    | refine (hp).use ⟨rfl, ?_⟩
    | refine CallX.mk ⟨_, _, (hb).x, rfl, ?_⟩
    | refine CallX.mk ⟨_, _, (hp).x, rfl, ?_⟩
    | refine Done.mk ⟨rfl, rfl⟩
    | refine Done.mk ⟨congrArg gb ?_, rfl⟩
    | refine Done.mk ⟨?_, rfl⟩
    | refine Done.mk ⟨?_, ?_⟩)
  all_goals skip
  }
  }
  {
  rw [if_neg h1]
  rw [show decide b.May = false from decide_eq_false h1] at hb
  clear hl hm hp
  refine ICalls.of_body Try.func25 rfl Try.call25 rfl (Nat.le_of_ble_eq_true rfl) (fun _ => none) rfl ?_
  repeat' ((conv => whnf); first
    | refine Br.yes rfl ?_
    | refine Br.no rfl ?_
    | refine Br.yes (beq_self_eq_true _) ?_
    | refine Br.not ?_
    | refine Br.yes (decide_eq_true (by assumption)) ?_
    | refine Br.no (decide_eq_false (by assumption)) ?_
    | refine Br.yes (beq_iff_eq.2 (by assumption)) ?_
    | refine Br.no (beq_eq_false_iff_ne.2 (by assumption)) ?_
    | refine Br.yes (bne_iff_ne.2 (by assumption)) ?_
    | (refine Br.dec (fun h => ?_) (fun h => ?_) <;> try dsimp only at h)
    | (refine Br.beqI (fun h => ?_) (fun h => ?_) <;> try dsimp only at h)
    | (refine Br.bneI (fun h => ?_) (fun h => ?_) <;> try dsimp only at h)
    | refine Br.mk (fun h => ?_) (fun h => ?_)
    | refine Need.mk (app_need (by first | (simp only [List.length_append, List.length_map, List.length_nil, List.length_cons, List.nil_append, Nat.zero_add, Nat.add_zero]; done) | (simp only [List.length_append, List.length_map, List.length_nil, List.length_cons, List.nil_append, Nat.zero_add, Nat.add_zero]; omega) | omega) (Nat.le_of_ble_eq_true rfl) (by first | (simp only [List.length_append, List.length_map, List.length_nil, List.length_cons, List.nil_append, Nat.zero_add, Nat.add_zero]; done) | (simp only [List.length_append, List.length_map, List.length_nil, List.length_cons, List.nil_append, Nat.zero_add, Nat.add_zero]; omega) | omega)) ?_
    | refine Need.mk (app_need0 (Nat.le_of_ble_eq_true rfl) (by first | (simp only [List.length_append, List.length_map, List.length_nil, List.length_cons, List.nil_append, Nat.zero_add, Nat.add_zero]; done) | (simp only [List.length_append, List.length_map, List.length_nil, List.length_cons, List.nil_append, Nat.zero_add, Nat.add_zero]; omega) | omega)) ?_
    | refine Need.mk (by first | kernel_rfl | exact ⟨of_decide_eq_true rfl, of_decide_eq_true rfl⟩ | omega) ?_
    | refine Len.mk ⟨_, by simp only [List.length_cons, List.length_nil, Nat.reduceAdd, Int.cast_ofNat_Int]; rfl, ?_⟩
    | refine Wr.lit _ (by simp only [Int.reduceAdd, Int.reduceSub, Int.reduceMul]; rfl) (by decide) ?_
    | refine Wr.fit (by omega) ?_
    | refine Wr.fit (by dsimp only; omega) ?_
    | refine Elem.mk ⟨_, ⟨of_decide_eq_true rfl, rfl⟩, ?_⟩
    | refine Len.map ?_
    | refine Len.dropM ?_
    | refine Elem.dropM ?_
    | refine Len.takeM ?_
    | refine Elem.takeM ?_
    | refine Elem.mapK (by assumption) ?_
    | refine Elem.mapI (by omega) (by assumption) ?_
    | refine Elem.mapN (by omega) (fun x hx => ?_)
    | refine Elem.map (by omega) (by omega) (fun x hx => ?_)
    | refine (hb).use ⟨rfl, ?_⟩
    | refine CallX.mk ⟨_, _, (hb).x, rfl, ?_⟩
    | refine Done.mk ⟨rfl, rfl⟩
    | refine Done.mk ⟨congrArg gb ?_, rfl⟩
    | refine Done.mk ⟨?_, rfl⟩
    | refine Done.mk ⟨?_, ?_⟩)
  all_goals skip
  }

end Go.Hl

/- Laws of chapter 29: meters, checks, rests.  -/
set_option linter.unusedVariables false
set_option linter.unusedSimpArgs false
namespace Go.Hl
open Go.Gh Go.Proofs

set_option maxRecDepth 100000 in
set_option maxHeartbeats 1000000 in
theorem truckMeters_ok (b : Book) (t : Truck) : ICalls Try.prog 7 [b.g, t.g] [] (Done (gb true) []) := by
  by_cases hl : (t.Past.length : Int) ≤ 60
  {
  have h1 := truckMeter_ok b t (by omega)
  have h2 := refTruckMeter_ok b t (by omega)
  generalize truckMeter b t.Past = r at *
  obtain ⟨mm, e⟩ := r
  obtain ⟨a, b', c, d, e', l⟩ := t
  refine ICalls.of_body Try.func7 rfl Try.call7 rfl (Nat.le_of_ble_eq_true rfl) (fun _ => none) rfl ?_
  repeat' ((conv => whnf); first
    | refine Br.yes rfl ?_
    | refine Br.no rfl ?_
    | refine Need.mk (EqRun.plain (by kernel_rfl) rfl) ?_
    | (refine Len.map ?_)
    | refine Br.yes (beq_self_eq_true _) ?_
    | refine Br.not ?_
    | refine Br.yes (decide_eq_true (by assumption)) ?_
    | refine Br.no (decide_eq_false (by assumption)) ?_
    | refine Br.yes (beq_iff_eq.2 (by assumption)) ?_
    | refine Br.no (beq_eq_false_iff_ne.2 (by assumption)) ?_
    | refine Br.yes (bne_iff_ne.2 (by assumption)) ?_
    | (refine Br.dec (fun h => ?_) (fun h => ?_) <;> try dsimp only at h)
    | (refine Br.beqI (fun h => ?_) (fun h => ?_) <;> try dsimp only at h)
    | (refine Br.bneI (fun h => ?_) (fun h => ?_) <;> try dsimp only at h)
    | refine Br.mk (fun h => ?_) (fun h => ?_)
    | refine Need.mk (app_need (by first | (simp only [List.length_append, List.length_map, List.length_nil, List.length_cons, List.nil_append, Nat.zero_add, Nat.add_zero]; done) | (simp only [List.length_append, List.length_map, List.length_nil, List.length_cons, List.nil_append, Nat.zero_add, Nat.add_zero]; omega) | omega) (Nat.le_of_ble_eq_true rfl) (by first | (simp only [List.length_append, List.length_map, List.length_nil, List.length_cons, List.nil_append, Nat.zero_add, Nat.add_zero]; done) | (simp only [List.length_append, List.length_map, List.length_nil, List.length_cons, List.nil_append, Nat.zero_add, Nat.add_zero]; omega) | omega)) ?_
    | refine Need.mk (app_need0 (Nat.le_of_ble_eq_true rfl) (by first | (simp only [List.length_append, List.length_map, List.length_nil, List.length_cons, List.nil_append, Nat.zero_add, Nat.add_zero]; done) | (simp only [List.length_append, List.length_map, List.length_nil, List.length_cons, List.nil_append, Nat.zero_add, Nat.add_zero]; omega) | omega)) ?_
    | refine Need.mk (by first | kernel_rfl | exact ⟨of_decide_eq_true rfl, of_decide_eq_true rfl⟩ | omega) ?_
    | refine Len.mk ⟨_, by simp only [List.length_cons, List.length_nil, Nat.reduceAdd, Int.cast_ofNat_Int]; rfl, ?_⟩
    | refine Wr.lit _ (by simp only [Int.reduceAdd, Int.reduceSub, Int.reduceMul]; rfl) (by decide) ?_
    | refine Wr.fit (by omega) ?_
    | refine Wr.fit (by dsimp only; omega) ?_
    | refine Elem.mk ⟨_, ⟨of_decide_eq_true rfl, rfl⟩, ?_⟩
    | refine Len.map ?_
    | refine Len.dropM ?_
    | refine Elem.dropM ?_
    | refine Len.takeM ?_
    | refine Elem.takeM ?_
    | refine Elem.mapK (by assumption) ?_
    | refine Elem.mapI (by omega) (by assumption) ?_
    | refine Elem.mapN (by omega) (fun x hx => ?_)
    | refine Elem.map (by omega) (by omega) (fun x hx => ?_)
    | refine (h1).use ⟨rfl, ?_⟩
    | refine (h2).use ⟨rfl, ?_⟩
    | refine (alive29_ok).use ⟨rfl, ?_⟩
    | refine CallX.mk ⟨_, _, (h1).x, rfl, ?_⟩
    | refine CallX.mk ⟨_, _, (h2).x, rfl, ?_⟩
    | refine CallX.mk ⟨_, _, (alive29_ok).x, rfl, ?_⟩
    | refine Done.mk ⟨rfl, rfl⟩
    | refine Done.mk ⟨congrArg gb ?_, rfl⟩
    | refine Done.mk ⟨?_, rfl⟩
    | refine Done.mk ⟨?_, ?_⟩)
  all_goals first
    | (exfalso; simp only at *; omega)
    | (clear h1 h2; simp_all; done)
  }
  {
  obtain ⟨a, b', c, d, e', l⟩ := t
  refine ICalls.of_body Try.func7 rfl Try.call7 rfl (Nat.le_of_ble_eq_true rfl) (fun _ => none) rfl ?_
  repeat' ((conv => whnf); first
    | refine Br.yes rfl ?_
    | refine Br.no rfl ?_
    | (refine Len.map ?_)
    | refine Br.yes (beq_self_eq_true _) ?_
    | refine Br.not ?_
    | refine Br.yes (decide_eq_true (by assumption)) ?_
    | refine Br.no (decide_eq_false (by assumption)) ?_
    | refine Br.yes (beq_iff_eq.2 (by assumption)) ?_
    | refine Br.no (beq_eq_false_iff_ne.2 (by assumption)) ?_
    | refine Br.yes (bne_iff_ne.2 (by assumption)) ?_
    | (refine Br.dec (fun h => ?_) (fun h => ?_) <;> try dsimp only at h)
    | (refine Br.beqI (fun h => ?_) (fun h => ?_) <;> try dsimp only at h)
    | (refine Br.bneI (fun h => ?_) (fun h => ?_) <;> try dsimp only at h)
    | refine Br.mk (fun h => ?_) (fun h => ?_)
    | refine Need.mk (app_need (by first | (simp only [List.length_append, List.length_map, List.length_nil, List.length_cons, List.nil_append, Nat.zero_add, Nat.add_zero]; done) | (simp only [List.length_append, List.length_map, List.length_nil, List.length_cons, List.nil_append, Nat.zero_add, Nat.add_zero]; omega) | omega) (Nat.le_of_ble_eq_true rfl) (by first | (simp only [List.length_append, List.length_map, List.length_nil, List.length_cons, List.nil_append, Nat.zero_add, Nat.add_zero]; done) | (simp only [List.length_append, List.length_map, List.length_nil, List.length_cons, List.nil_append, Nat.zero_add, Nat.add_zero]; omega) | omega)) ?_
    | refine Need.mk (app_need0 (Nat.le_of_ble_eq_true rfl) (by first | (simp only [List.length_append, List.length_map, List.length_nil, List.length_cons, List.nil_append, Nat.zero_add, Nat.add_zero]; done) | (simp only [List.length_append, List.length_map, List.length_nil, List.length_cons, List.nil_append, Nat.zero_add, Nat.add_zero]; omega) | omega)) ?_
    | refine Need.mk (by first | kernel_rfl | exact ⟨of_decide_eq_true rfl, of_decide_eq_true rfl⟩ | omega) ?_
    | refine Len.mk ⟨_, by simp only [List.length_cons, List.length_nil, Nat.reduceAdd, Int.cast_ofNat_Int]; rfl, ?_⟩
    | refine Wr.lit _ (by simp only [Int.reduceAdd, Int.reduceSub, Int.reduceMul]; rfl) (by decide) ?_
    | refine Wr.fit (by omega) ?_
    | refine Wr.fit (by dsimp only; omega) ?_
    | refine Elem.mk ⟨_, ⟨of_decide_eq_true rfl, rfl⟩, ?_⟩
    | refine Len.map ?_
    | refine Len.dropM ?_
    | refine Elem.dropM ?_
    | refine Len.takeM ?_
    | refine Elem.takeM ?_
    | refine Elem.mapK (by assumption) ?_
    | refine Elem.mapI (by omega) (by assumption) ?_
    | refine Elem.mapN (by omega) (fun x hx => ?_)
    | refine Elem.map (by omega) (by omega) (fun x hx => ?_)
    | refine (alive29_ok).use ⟨rfl, ?_⟩
    | refine CallX.mk ⟨_, _, (alive29_ok).x, rfl, ?_⟩
    | refine Done.mk ⟨rfl, rfl⟩
    | refine Done.mk ⟨congrArg gb ?_, rfl⟩
    | refine Done.mk ⟨?_, rfl⟩
    | refine Done.mk ⟨?_, ?_⟩)
  all_goals (exfalso; simp only at *; omega)
  }

def light29 (l : List Truck) : Bool := decide (l.length ≤ 110) && l.all fun t => decide (t.Past.length ≤ 60)
theorem light29_len {l : List Truck} (h : light29 l = true) : l.length ≤ 110 ∧ ∀ t, t ∈ l → (t.Past.length : Int) ≤ 60 := by
  unfold light29 at h
  simp only [Bool.and_eq_true, decide_eq_true_eq, List.all_eq_true] at h
  exact ⟨h.1, fun t ht => by have := h.2 t ht; omega⟩
theorem light29_no {l : List Truck} {i : Nat} {t : Truck} (h : l[i]? = some t) (hp : 60 < (t.Past.length : Int)) : false = light29 l := by
  symm
  cases hb : light29 l with
  | false => rfl
  | true => have := (light29_len hb).2 t (List.mem_of_getElem? h); omega
theorem light29_end {l : List Truck} {i : Nat} (hl : ¬ 110 < (l.length : Int)) (hi : ¬ (i : Int) < l.length) (h : ∀ j t, j < i → l[j]? = some t → t.Past.length ≤ 60) : true = light29 l := by
  symm
  unfold light29
  simp only [Bool.and_eq_true, decide_eq_true_eq, List.all_eq_true]
  refine ⟨by omega, fun t ht => ?_⟩
  obtain ⟨j, hj⟩ := List.mem_iff_getElem?.1 ht
  exact h j t (by have := (List.getElem?_eq_some_iff.1 hj).1; omega) hj

def pl_F7_1 : Nat → Option (List Nat × List Nat) := (fun k => bif Nat.beq k 4 then some ([1000004, 8, 9, 10], []) else none)
set_option maxRecDepth 100000 in
set_option maxHeartbeats 1000000 in
theorem light29_ok (l : List Truck) : ICalls Try.prog 45 [.list 6 (trucks l) none] [] (Done (gb (light29 l)) []) := by
  have hno := @light29_no l
  have hend := @light29_end l
  have h0 : 110 < (l.length : Int) → false = light29 l := fun h => by
    symm
    cases hb : light29 l with
    | false => rfl
    | true => have := (light29_len hb).1; omega
  generalize light29 l = q at *
  refine ICalls.of_body Try.func45 rfl Try.call45 rfl (Nat.le_of_ble_eq_true rfl) pl_F7_1 rfl ?_
  repeat' ((conv => whnf); first
    | refine Br.yes rfl ?_
    | refine Br.no rfl ?_
    | (refine ILoop.ov 1000004 (fun (i : Nat) => [(10, gi i)]) (fun (i : Nat) => []) (fun (i : Nat) => i ≤ l.length ∧ ∀ j t, j < i → l[j]? = some t → t.Past.length ≤ 60) (fun (i : Nat) => l.length - i) (0) (by exact rfl) ?_; (conv => whnf); refine Start.mk rfl ?_ ?_; (try dsimp only); rotate_left; rintro i ⟨hi, hp⟩)
    | (refine Again.mk ⟨(i + 1), rfl, ?_, ?_⟩ <;> try dsimp only)
    | refine Br.yes (beq_self_eq_true _) ?_
    | refine Br.not ?_
    | refine Br.yes (decide_eq_true (by assumption)) ?_
    | refine Br.no (decide_eq_false (by assumption)) ?_
    | refine Br.yes (beq_iff_eq.2 (by assumption)) ?_
    | refine Br.no (beq_eq_false_iff_ne.2 (by assumption)) ?_
    | refine Br.yes (bne_iff_ne.2 (by assumption)) ?_
    | (refine Br.dec (fun h => ?_) (fun h => ?_) <;> try dsimp only at h)
    | (refine Br.beqI (fun h => ?_) (fun h => ?_) <;> try dsimp only at h)
    | (refine Br.bneI (fun h => ?_) (fun h => ?_) <;> try dsimp only at h)
    | refine Br.mk (fun h => ?_) (fun h => ?_)
    | refine Need.mk (app_need (by first | (simp only [List.length_append, List.length_map, List.length_nil, List.length_cons, List.nil_append, Nat.zero_add, Nat.add_zero]; done) | (simp only [List.length_append, List.length_map, List.length_nil, List.length_cons, List.nil_append, Nat.zero_add, Nat.add_zero]; omega) | omega) (Nat.le_of_ble_eq_true rfl) (by first | (simp only [List.length_append, List.length_map, List.length_nil, List.length_cons, List.nil_append, Nat.zero_add, Nat.add_zero]; done) | (simp only [List.length_append, List.length_map, List.length_nil, List.length_cons, List.nil_append, Nat.zero_add, Nat.add_zero]; omega) | omega)) ?_
    | refine Need.mk (app_need0 (Nat.le_of_ble_eq_true rfl) (by first | (simp only [List.length_append, List.length_map, List.length_nil, List.length_cons, List.nil_append, Nat.zero_add, Nat.add_zero]; done) | (simp only [List.length_append, List.length_map, List.length_nil, List.length_cons, List.nil_append, Nat.zero_add, Nat.add_zero]; omega) | omega)) ?_
    | refine Need.mk (by first | kernel_rfl | exact ⟨of_decide_eq_true rfl, of_decide_eq_true rfl⟩ | omega) ?_
    | refine Len.mk ⟨_, by simp only [List.length_cons, List.length_nil, Nat.reduceAdd, Int.cast_ofNat_Int]; rfl, ?_⟩
    | refine Wr.lit _ (by simp only [Int.reduceAdd, Int.reduceSub, Int.reduceMul]; rfl) (by decide) ?_
    | refine Wr.fit (by omega) ?_
    | refine Wr.fit (by dsimp only; omega) ?_
    | refine Elem.mk ⟨_, ⟨of_decide_eq_true rfl, rfl⟩, ?_⟩
    | refine Len.map ?_
    | refine Len.dropM ?_
    | refine Elem.dropM ?_
    | refine Len.takeM ?_
    | refine Elem.takeM ?_
    | refine Elem.mapK (by assumption) ?_
    | refine Elem.mapI (by omega) (by assumption) ?_
    | refine Elem.mapN (by omega) (fun x hx => ?_)
    | refine Elem.map (by omega) (by omega) (fun x hx => ?_)
    | refine Done.mk ⟨rfl, rfl⟩
    | refine Done.mk ⟨congrArg gb ?_, rfl⟩
    | refine Done.mk ⟨?_, rfl⟩
    | refine Done.mk ⟨?_, ?_⟩)
  all_goals first
    | omega
    | exact h0 h
    | exact hno hx h
    | exact hend (by assumption) h hp
    | exact ⟨by omega, fun j t hj => by omega⟩
    | exact ⟨by omega, fun j t hj ht => by
        by_cases e : j = i
        · subst e; rw [hx] at ht; cases ht; omega
        · exact hp j t (by omega) ht⟩

set_option maxRecDepth 100000 in
set_option maxHeartbeats 1000000 in
theorem truckChecks_ok (s t : Truck) (p : Int) : ICalls Try.prog 12 [s.g, t.g, gi p] [] (Done (gb true) []) := by
  have hL := light29_ok [s, t]
  cases hb : light29 [s, t] with
  | false =>
    rw [hb] at hL
    refine ICalls.of_body Try.func12 rfl Try.call12 rfl (Nat.le_of_ble_eq_true rfl) (fun _ => none) rfl ?_
    repeat' ((conv => whnf); first
      | refine Br.yes rfl ?_
      | refine Br.no rfl ?_
      | refine Br.yes (beq_self_eq_true _) ?_
      | refine Br.not ?_
      | refine Br.yes (decide_eq_true (by assumption)) ?_
      | refine Br.no (decide_eq_false (by assumption)) ?_
      | refine Br.yes (beq_iff_eq.2 (by assumption)) ?_
      | refine Br.no (beq_eq_false_iff_ne.2 (by assumption)) ?_
      | refine Br.yes (bne_iff_ne.2 (by assumption)) ?_
      | (refine Br.dec (fun h => ?_) (fun h => ?_) <;> try dsimp only at h)
      | (refine Br.beqI (fun h => ?_) (fun h => ?_) <;> try dsimp only at h)
      | (refine Br.bneI (fun h => ?_) (fun h => ?_) <;> try dsimp only at h)
      | refine Br.mk (fun h => ?_) (fun h => ?_)
      | refine Need.mk (app_need (by first | (simp only [List.length_append, List.length_map, List.length_nil, List.length_cons, List.nil_append, Nat.zero_add, Nat.add_zero]; done) | (simp only [List.length_append, List.length_map, List.length_nil, List.length_cons, List.nil_append, Nat.zero_add, Nat.add_zero]; omega) | omega) (Nat.le_of_ble_eq_true rfl) (by first | (simp only [List.length_append, List.length_map, List.length_nil, List.length_cons, List.nil_append, Nat.zero_add, Nat.add_zero]; done) | (simp only [List.length_append, List.length_map, List.length_nil, List.length_cons, List.nil_append, Nat.zero_add, Nat.add_zero]; omega) | omega)) ?_
      | refine Need.mk (app_need0 (Nat.le_of_ble_eq_true rfl) (by first | (simp only [List.length_append, List.length_map, List.length_nil, List.length_cons, List.nil_append, Nat.zero_add, Nat.add_zero]; done) | (simp only [List.length_append, List.length_map, List.length_nil, List.length_cons, List.nil_append, Nat.zero_add, Nat.add_zero]; omega) | omega)) ?_
      | refine Need.mk (by first | kernel_rfl | exact ⟨of_decide_eq_true rfl, of_decide_eq_true rfl⟩ | omega) ?_
      | refine Len.mk ⟨_, by simp only [List.length_cons, List.length_nil, Nat.reduceAdd, Int.cast_ofNat_Int]; rfl, ?_⟩
      | refine Wr.lit _ (by simp only [Int.reduceAdd, Int.reduceSub, Int.reduceMul]; rfl) (by decide) ?_
      | refine Wr.fit (by omega) ?_
      | refine Wr.fit (by dsimp only; omega) ?_
      | refine Elem.mk ⟨_, ⟨of_decide_eq_true rfl, rfl⟩, ?_⟩
      | refine Len.map ?_
      | refine Len.dropM ?_
      | refine Elem.dropM ?_
      | refine Len.takeM ?_
      | refine Elem.takeM ?_
      | refine Elem.mapK (by assumption) ?_
      | refine Elem.mapI (by omega) (by assumption) ?_
      | refine Elem.mapN (by omega) (fun x hx => ?_)
      | refine Elem.map (by omega) (by omega) (fun x hx => ?_)
      | refine (hL).use ⟨rfl, ?_⟩
      | refine (alive29_ok).use ⟨rfl, ?_⟩
      | refine CallX.mk ⟨_, _, (hL).x, rfl, ?_⟩
      | refine CallX.mk ⟨_, _, (alive29_ok).x, rfl, ?_⟩
      | refine Done.mk ⟨rfl, rfl⟩
      | refine Done.mk ⟨congrArg gb ?_, rfl⟩
      | refine Done.mk ⟨?_, rfl⟩
      | refine Done.mk ⟨?_, ?_⟩)
  | true =>
    have hs := (light29_len hb).2 s (by simp)
    have ht := (light29_len hb).2 t (by simp)
    rw [hb] at hL
    have h1 := truckCheck_ok s p (by omega)
    have h2 := refTruckCheck_ok s p (by omega)
    have h3 := sameTruck_ok s t (by omega) (by omega)
    have h4 := refSameTruck_ok s t (by omega) (by omega)
    have h5 := sameTruck_ok s s (by omega) (by omega)
    rw [decide_eq_true rfl] at h5
    clear hs ht
    generalize truckErr s p = e at *
    generalize decide (s = t) = q at *
    refine ICalls.of_body Try.func12 rfl Try.call12 rfl (Nat.le_of_ble_eq_true rfl) (fun _ => none) rfl ?_
    repeat' ((conv => whnf); first
      | refine Br.yes rfl ?_
      | refine Br.no rfl ?_
      | refine Br.yes (beq_self_eq_true _) ?_
      | refine Br.not ?_
      | refine Br.yes (decide_eq_true (by assumption)) ?_
      | refine Br.no (decide_eq_false (by assumption)) ?_
      | refine Br.yes (beq_iff_eq.2 (by assumption)) ?_
      | refine Br.no (beq_eq_false_iff_ne.2 (by assumption)) ?_
      | refine Br.yes (bne_iff_ne.2 (by assumption)) ?_
      | (refine Br.dec (fun h => ?_) (fun h => ?_) <;> try dsimp only at h)
      | (refine Br.beqI (fun h => ?_) (fun h => ?_) <;> try dsimp only at h)
      | (refine Br.bneI (fun h => ?_) (fun h => ?_) <;> try dsimp only at h)
      | refine Br.mk (fun h => ?_) (fun h => ?_)
      | refine Need.mk (app_need (by first | (simp only [List.length_append, List.length_map, List.length_nil, List.length_cons, List.nil_append, Nat.zero_add, Nat.add_zero]; done) | (simp only [List.length_append, List.length_map, List.length_nil, List.length_cons, List.nil_append, Nat.zero_add, Nat.add_zero]; omega) | omega) (Nat.le_of_ble_eq_true rfl) (by first | (simp only [List.length_append, List.length_map, List.length_nil, List.length_cons, List.nil_append, Nat.zero_add, Nat.add_zero]; done) | (simp only [List.length_append, List.length_map, List.length_nil, List.length_cons, List.nil_append, Nat.zero_add, Nat.add_zero]; omega) | omega)) ?_
      | refine Need.mk (app_need0 (Nat.le_of_ble_eq_true rfl) (by first | (simp only [List.length_append, List.length_map, List.length_nil, List.length_cons, List.nil_append, Nat.zero_add, Nat.add_zero]; done) | (simp only [List.length_append, List.length_map, List.length_nil, List.length_cons, List.nil_append, Nat.zero_add, Nat.add_zero]; omega) | omega)) ?_
      | refine Need.mk (by first | kernel_rfl | exact ⟨of_decide_eq_true rfl, of_decide_eq_true rfl⟩ | omega) ?_
      | refine Len.mk ⟨_, by simp only [List.length_cons, List.length_nil, Nat.reduceAdd, Int.cast_ofNat_Int]; rfl, ?_⟩
      | refine Wr.lit _ (by simp only [Int.reduceAdd, Int.reduceSub, Int.reduceMul]; rfl) (by decide) ?_
      | refine Wr.fit (by omega) ?_
      | refine Wr.fit (by dsimp only; omega) ?_
      | refine Elem.mk ⟨_, ⟨of_decide_eq_true rfl, rfl⟩, ?_⟩
      | refine Len.map ?_
      | refine Len.dropM ?_
      | refine Elem.dropM ?_
      | refine Len.takeM ?_
      | refine Elem.takeM ?_
      | refine Elem.mapK (by assumption) ?_
      | refine Elem.mapI (by omega) (by assumption) ?_
      | refine Elem.mapN (by omega) (fun x hx => ?_)
      | refine Elem.map (by omega) (by omega) (fun x hx => ?_)
      | refine (hL).use ⟨rfl, ?_⟩
      | refine (h1).use ⟨rfl, ?_⟩
      | refine (h2).use ⟨rfl, ?_⟩
      | refine (h3).use ⟨rfl, ?_⟩
      | refine (h4).use ⟨rfl, ?_⟩
      | refine (h5).use ⟨rfl, ?_⟩
      | refine (alive29_ok).use ⟨rfl, ?_⟩
      | refine CallX.mk ⟨_, _, (hL).x, rfl, ?_⟩
      | refine CallX.mk ⟨_, _, (h1).x, rfl, ?_⟩
      | refine CallX.mk ⟨_, _, (h2).x, rfl, ?_⟩
      | refine CallX.mk ⟨_, _, (h3).x, rfl, ?_⟩
      | refine CallX.mk ⟨_, _, (h4).x, rfl, ?_⟩
      | refine CallX.mk ⟨_, _, (h5).x, rfl, ?_⟩
      | refine CallX.mk ⟨_, _, (alive29_ok).x, rfl, ?_⟩
      | refine Done.mk ⟨rfl, rfl⟩
      | refine Done.mk ⟨congrArg gb ?_, rfl⟩
      | refine Done.mk ⟨?_, rfl⟩
      | refine Done.mk ⟨?_, ?_⟩)
    all_goals skip

set_option maxRecDepth 100000 in
set_option maxHeartbeats 1000000 in
theorem truckRests_ok (t : Truck) (r : List Rec) (m : Int) : ICalls Try.prog 11 [t.g, .list 3 (recs r) none, gi m] [] (Done (gb true) []) := by
  by_cases hl : (t.Past.length : Int) ≤ 60 ∧ (r.length : Int) ≤ 60
  {
  obtain ⟨hl, hr⟩ := hl
  have h1 := truckEnd_ok t (by omega)
  have h2 := more_ok t r (by omega) (by omega)
  have h3 := rested_ok t m (by omega)
  have h4 := refTruckPast_ok t.Past (by omega)
  have h5 := refMore_ok t r (by omega) (by omega)
  have h6 := refRested_ok t m (by omega)
  have hA : (moreV t (t.Past ++ r)).1.Past.length ≤ 120 := by
    unfold moreV
    split
    · have := norm_le (t.Past ++ r); simp at this ⊢; omega
    · simp [Truck.zero]
  have hB : (restedV t m).1.Past.length ≤ 61 := by
    have h7 : ∀ l : List Rec, l.length ≤ 61 → (moreV t l).1.Past.length ≤ 61 := by
      intro l hl
      unfold moreV
      split
      · have := norm_le l; simp; omega
      · simp [Truck.zero]
    unfold restedV restP
    split
    · simp [Truck.zero]
    · split
      · simp [Truck.zero]
      · split
        · simp [Truck.zero]
        · split
          · exact h7 _ (by omega)
          · exact h7 _ (by simp; omega)
  have h7 := refSameTruck_ok (moreV t (t.Past ++ r)).1 (moreV t (t.Past ++ r)).1 (by omega) (by omega)
  have h8 := refSameTruck_ok (restedV t m).1 (restedV t m).1 (by omega) (by omega)
  rw [decide_eq_true rfl] at h7 h8
  have hev0 : ¬ pastErr t.Past = 0 → endV t.Past = 0 := fun h => by unfold endV; rw [if_neg h]
  have hev : pastErr t.Past = 0 → endV t.Past = endOf t.Past := fun h => by unfold endV; rw [if_pos h]
  clear hA hB
  generalize moreV t (t.Past ++ r) = A at *
  generalize restedV t m = B at *
  obtain ⟨A, ca⟩ := A
  obtain ⟨B, cb⟩ := B
  obtain ⟨a, b', c, d, e', l⟩ := t
  simp only at *
  generalize pastErr l = p at *
  generalize endV l = ev at *
  show ICalls _ _ [.agg [gi a, gi b', gi c, gi d, gi e', .list 3 (l.map Rec.g) none], .list 3 (r.map Rec.g) none, gi m] _ _
  refine ICalls.of_body Try.func11 rfl Try.call11 rfl (Nat.le_of_ble_eq_true rfl) (fun _ => none) rfl ?_
  repeat' ((conv => whnf); first
    | refine Br.yes rfl ?_
    | refine Br.no rfl ?_
    | (refine Len.map ?_)
    | refine Br.yes (beq_self_eq_true _) ?_
    | refine Br.not ?_
    | refine Br.yes (decide_eq_true (by assumption)) ?_
    | refine Br.no (decide_eq_false (by assumption)) ?_
    | refine Br.yes (beq_iff_eq.2 (by assumption)) ?_
    | refine Br.no (beq_eq_false_iff_ne.2 (by assumption)) ?_
    | refine Br.yes (bne_iff_ne.2 (by assumption)) ?_
    | (refine Br.dec (fun h => ?_) (fun h => ?_) <;> try dsimp only at h)
    | (refine Br.beqI (fun h => ?_) (fun h => ?_) <;> try dsimp only at h)
    | (refine Br.bneI (fun h => ?_) (fun h => ?_) <;> try dsimp only at h)
    | refine Br.mk (fun h => ?_) (fun h => ?_)
    | refine Need.mk (app_need (by first | (simp only [List.length_append, List.length_map, List.length_nil, List.length_cons, List.nil_append, Nat.zero_add, Nat.add_zero]; done) | (simp only [List.length_append, List.length_map, List.length_nil, List.length_cons, List.nil_append, Nat.zero_add, Nat.add_zero]; omega) | omega) (Nat.le_of_ble_eq_true rfl) (by first | (simp only [List.length_append, List.length_map, List.length_nil, List.length_cons, List.nil_append, Nat.zero_add, Nat.add_zero]; done) | (simp only [List.length_append, List.length_map, List.length_nil, List.length_cons, List.nil_append, Nat.zero_add, Nat.add_zero]; omega) | omega)) ?_
    | refine Need.mk (app_need0 (Nat.le_of_ble_eq_true rfl) (by first | (simp only [List.length_append, List.length_map, List.length_nil, List.length_cons, List.nil_append, Nat.zero_add, Nat.add_zero]; done) | (simp only [List.length_append, List.length_map, List.length_nil, List.length_cons, List.nil_append, Nat.zero_add, Nat.add_zero]; omega) | omega)) ?_
    | refine Need.mk (by first | kernel_rfl | exact ⟨of_decide_eq_true rfl, of_decide_eq_true rfl⟩ | omega) ?_
    | refine Len.mk ⟨_, by simp only [List.length_cons, List.length_nil, Nat.reduceAdd, Int.cast_ofNat_Int]; rfl, ?_⟩
    | refine Wr.lit _ (by simp only [Int.reduceAdd, Int.reduceSub, Int.reduceMul]; rfl) (by decide) ?_
    | refine Wr.fit (by omega) ?_
    | refine Wr.fit (by dsimp only; omega) ?_
    | refine Elem.mk ⟨_, ⟨of_decide_eq_true rfl, rfl⟩, ?_⟩
    | refine Len.map ?_
    | refine Len.dropM ?_
    | refine Elem.dropM ?_
    | refine Len.takeM ?_
    | refine Elem.takeM ?_
    | refine Elem.mapK (by assumption) ?_
    | refine Elem.mapI (by omega) (by assumption) ?_
    | refine Elem.mapN (by omega) (fun x hx => ?_)
    | refine Elem.map (by omega) (by omega) (fun x hx => ?_)
    | refine (h1).use ⟨rfl, ?_⟩
    | refine (h2).use ⟨rfl, ?_⟩
    | refine (h3).use ⟨rfl, ?_⟩
    | refine (h4).use ⟨rfl, ?_⟩
    | refine (h5).use ⟨rfl, ?_⟩
    | refine (h6).use ⟨rfl, ?_⟩
    | refine (h7).use ⟨rfl, ?_⟩
    | refine (h8).use ⟨rfl, ?_⟩
    | refine (alive29_ok).use ⟨rfl, ?_⟩
    | refine CallX.mk ⟨_, _, (h1).x, rfl, ?_⟩
    | refine CallX.mk ⟨_, _, (h2).x, rfl, ?_⟩
    | refine CallX.mk ⟨_, _, (h3).x, rfl, ?_⟩
    | refine CallX.mk ⟨_, _, (h4).x, rfl, ?_⟩
    | refine CallX.mk ⟨_, _, (h5).x, rfl, ?_⟩
    | refine CallX.mk ⟨_, _, (h6).x, rfl, ?_⟩
    | refine CallX.mk ⟨_, _, (h7).x, rfl, ?_⟩
    | refine CallX.mk ⟨_, _, (h8).x, rfl, ?_⟩
    | refine CallX.mk ⟨_, _, (alive29_ok).x, rfl, ?_⟩
    | refine Done.mk ⟨rfl, rfl⟩
    | refine Done.mk ⟨congrArg gb ?_, rfl⟩
    | refine Done.mk ⟨?_, rfl⟩
    | refine Done.mk ⟨?_, ?_⟩)
  all_goals first
    | (exfalso; omega)
    | (exfalso; have := hev0 (by assumption); omega)
    | (exfalso; have e1 := hev (by assumption); have e2 := endOf_get (l := l) rfl hx; omega)
    | (exfalso; have e1 := hev (by assumption); have e2 : l = [] := List.eq_nil_of_length_eq_zero (by omega)
       subst e2; rw [endOf_nil] at e1; omega)
  }
  {
  obtain ⟨a, b', c, d, e', l⟩ := t
  simp only at hl
  refine ICalls.of_body Try.func11 rfl Try.call11 rfl (Nat.le_of_ble_eq_true rfl) (fun _ => none) rfl ?_
  repeat' ((conv => whnf); first
    | refine Br.yes rfl ?_
    | refine Br.no rfl ?_
    | (refine Len.map ?_)
    | refine Br.yes (beq_self_eq_true _) ?_
    | refine Br.not ?_
    | refine Br.yes (decide_eq_true (by assumption)) ?_
    | refine Br.no (decide_eq_false (by assumption)) ?_
    | refine Br.yes (beq_iff_eq.2 (by assumption)) ?_
    | refine Br.no (beq_eq_false_iff_ne.2 (by assumption)) ?_
    | refine Br.yes (bne_iff_ne.2 (by assumption)) ?_
    | (refine Br.dec (fun h => ?_) (fun h => ?_) <;> try dsimp only at h)
    | (refine Br.beqI (fun h => ?_) (fun h => ?_) <;> try dsimp only at h)
    | (refine Br.bneI (fun h => ?_) (fun h => ?_) <;> try dsimp only at h)
    | refine Br.mk (fun h => ?_) (fun h => ?_)
    | refine Need.mk (app_need (by first | (simp only [List.length_append, List.length_map, List.length_nil, List.length_cons, List.nil_append, Nat.zero_add, Nat.add_zero]; done) | (simp only [List.length_append, List.length_map, List.length_nil, List.length_cons, List.nil_append, Nat.zero_add, Nat.add_zero]; omega) | omega) (Nat.le_of_ble_eq_true rfl) (by first | (simp only [List.length_append, List.length_map, List.length_nil, List.length_cons, List.nil_append, Nat.zero_add, Nat.add_zero]; done) | (simp only [List.length_append, List.length_map, List.length_nil, List.length_cons, List.nil_append, Nat.zero_add, Nat.add_zero]; omega) | omega)) ?_
    | refine Need.mk (app_need0 (Nat.le_of_ble_eq_true rfl) (by first | (simp only [List.length_append, List.length_map, List.length_nil, List.length_cons, List.nil_append, Nat.zero_add, Nat.add_zero]; done) | (simp only [List.length_append, List.length_map, List.length_nil, List.length_cons, List.nil_append, Nat.zero_add, Nat.add_zero]; omega) | omega)) ?_
    | refine Need.mk (by first | kernel_rfl | exact ⟨of_decide_eq_true rfl, of_decide_eq_true rfl⟩ | omega) ?_
    | refine Len.mk ⟨_, by simp only [List.length_cons, List.length_nil, Nat.reduceAdd, Int.cast_ofNat_Int]; rfl, ?_⟩
    | refine Wr.lit _ (by simp only [Int.reduceAdd, Int.reduceSub, Int.reduceMul]; rfl) (by decide) ?_
    | refine Wr.fit (by omega) ?_
    | refine Wr.fit (by dsimp only; omega) ?_
    | refine Elem.mk ⟨_, ⟨of_decide_eq_true rfl, rfl⟩, ?_⟩
    | refine Len.map ?_
    | refine Len.dropM ?_
    | refine Elem.dropM ?_
    | refine Len.takeM ?_
    | refine Elem.takeM ?_
    | refine Elem.mapK (by assumption) ?_
    | refine Elem.mapI (by omega) (by assumption) ?_
    | refine Elem.mapN (by omega) (fun x hx => ?_)
    | refine Elem.map (by omega) (by omega) (fun x hx => ?_)
    | refine (alive29_ok).use ⟨rfl, ?_⟩
    | refine CallX.mk ⟨_, _, (alive29_ok).x, rfl, ?_⟩
    | refine Done.mk ⟨rfl, rfl⟩
    | refine Done.mk ⟨congrArg gb ?_, rfl⟩
    | refine Done.mk ⟨?_, rfl⟩
    | refine Done.mk ⟨?_, ?_⟩)
  all_goals (exfalso; omega)
  }

end Go.Hl
