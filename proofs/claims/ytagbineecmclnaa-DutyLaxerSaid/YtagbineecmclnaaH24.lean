/- Contracts of functions, bundle H24; proved for whatever the arguments' types allow, as each theorem says. -/
import Derived.Test.YtagbineecmclnaaH23

/- Contracts: a block of minutes.  -/
set_option linter.unusedVariables false
set_option linter.unusedSimpArgs false
namespace Go.Hl
open Go.Gh Go.Proofs

def F10.zero : F10 := ⟨0, 0, 0, 0, 0, 0, 0, 0, 0, 0⟩
def overAll (b : Book) (m : Meter) (k n : Int) : Meter × F10 × Int :=
  if check14 b m k n = 0 then (stN b k n.toNat m, fiN b k n.toNat m F10.none, 0) else (Meter.zero, F10.zero, check14 b m k n)
def overG (r : Meter × F10 × Int) : GV := .tup [r.1.g, r.2.1.g, gi r.2.2]
theorem check14_0 {b : Book} {m : Meter} {k n : Int} (h : check14 b m k n = 0) : b.May ∧ m.May ∧ (0 ≤ k ∧ k ≤ 3) ∧ 0 ≤ n ∧ m.Now + n ≤ 40320 := by
  unfold check14 at h
  split at h
  · split at h
    · split at h
      · cases h
      · split at h
        · cases h
        · refine ⟨by assumption, by assumption, ?_, ?_⟩ <;> omega
    · cases h
  · cases h
theorem toNat_add {a c n : Int} (ha : 0 ≤ a) (hc : 0 ≤ c) (h : n = a + c) : n.toNat = a.toNat + c.toNat := by omega
theorem over_step {b : Book} {m : Meter} {k n : Int} {f : F10} (hb : b.May) (hm : m.May) (hl : k ≠ 0 → m.Lie = 0) (hf : f.Early m.Now) (a : Int) (ha : 1 ≤ a) (han : a ≤ n) (hL : a ≤ b.Length - m.Now.tmod b.Length) (hn : m.Now + n ≤ 40320) :
    (weekM b m k a).Now = m.Now + a ∧ (weekM b m k a).May ∧ (k ≠ 0 → (weekM b m k a).Lie = 0) ∧ (weekF b m k a f).Early (weekM b m k a).Now ∧
    stN b k (n - a).toNat (weekM b m k a) = stN b k n.toNat m ∧ fiN b k (n - a).toNat (weekM b m k a) (weekF b m k a f) = fiN b k n.toNat m f := by
  have h := week_plain hb hm hl hf a.toNat (by omega) (by omega) (by omega)
  have h2 := stN_May (b := b) (k := k) hm a.toNat (by omega)
  have h3 := fiN_early (b := b) (k := k) hm hf a.toNat (by omega)
  have e : ((a.toNat : Nat) : Int) = a := by omega
  rw [e] at h h2 h3
  rw [h.1, h.2, toNat_add (a := a) (c := n - a) (n := n) (by omega) (by omega) (by omega), stN_add, fiN_add]
  refine ⟨h2.2, h2.1, fun hk => ?_, by rw [h2.2]; exact h3, rfl, rfl⟩
  obtain ⟨j, hj⟩ : ∃ j, a.toNat = j + 1 := ⟨a.toNat - 1, by omega⟩
  rw [hj]
  exact step_lie (stN_May (b := b) (k := k) hm j (by omega)).1 hk
theorem long_le {b : Book} {m : Meter} (hb : b.May) (hm : m.May) : 1 ≤ b.Length - m.Now.tmod b.Length ∧ b.Length - m.Now.tmod b.Length ≤ 40320 ∧ 0 ≤ m.Now.tmod b.Length := by
  have hw := hb.within
  simp only [Book.within] at hw
  rw [Int.tmod_eq_emod_of_nonneg hm.now.1]
  have h1 := Int.emod_nonneg m.Now (show b.Length ≠ 0 by omega)
  have h2 := Int.emod_lt_of_pos m.Now (show 0 < b.Length by omega)
  omega
theorem long_min {b : Book} {m : Meter} (hb : b.May) (hm : m.May) (n : Int) : (if b.Length - m.Now.tmod b.Length < n then b.Length - m.Now.tmod b.Length else n) ≤ n ∧ (if b.Length - m.Now.tmod b.Length < n then b.Length - m.Now.tmod b.Length else n) ≤ b.Length - m.Now.tmod b.Length ∧ (1 ≤ n → 1 ≤ (if b.Length - m.Now.tmod b.Length < n then b.Length - m.Now.tmod b.Length else n)) ∧ b.Length - m.Now.tmod b.Length ≤ 40320 ∧ 0 ≤ m.Now.tmod b.Length := by
  have h := long_le hb hm
  split <;> omega
theorem over_rise {b : Book} {m : Meter} {k n : Int} (hm : m.May) (hk : k ≠ 0) (hn : 0 < n) (hN : m.Now + n ≤ 40320) :
    (m.step b k).Now = m.Now + 1 ∧ (m.step b k).May ∧ (m.step b k).Lie = 0 ∧ (F10.none.rise (stepN b m k) m.Now).Early (m.step b k).Now ∧
    stN b k (n - 1).toNat (m.step b k) = stN b k n.toNat m ∧ fiN b k (n - 1).toNat (m.step b k) (F10.none.rise (stepN b m k) m.Now) = fiN b k n.toNat m F10.none := by
  have h := hm.step (b := b) (by omega) k
  have hr := rise_mark (none_early hm.now.1) (stepN b m k)
  rw [hr, toNat_add (a := 1) (c := n - 1) (n := n) (by omega) (by omega) (by omega), stN_add, fiN_add]
  exact ⟨h.2, h.1, step_lie hm hk, mark_early (none_early hm.now.1) (by omega) _, rfl, rfl⟩

def pl_G7_1 : Nat → Option (List Nat × List Nat) := (fun k => bif Nat.beq k 10 then some ([1000010, 2, 3, 4, 8, 9, 12], [104, 108, 109, 129]) else none)
def pl_G7_2 : Nat → Option (List Nat × List Nat) := (fun k => bif Nat.beq k 10 then some ([1000010, 2, 3, 4, 8, 9, 12], [104, 108, 109, 129]) else none)
def pl_G7_3 : Nat → Option (List Nat × List Nat) := (fun k => bif Nat.beq k 10 then some ([1000010, 2, 3, 4, 8, 9, 12], [104, 108, 109, 129]) else none)
set_option maxRecDepth 100000 in
set_option maxHeartbeats 2000000 in
theorem over_ok (b : Book) (m : Meter) (k n : Int) : ICalls Try.prog 87 [b.g, m.g, gi k, gi n] [] (Done (overG (overAll b m k n)) []) := by
  have h1 := check14_ok b m k n
  unfold overAll
  by_cases hc : check14 b m k n = 0
  {
  rw [if_pos hc]
  rw [hc] at h1
  obtain ⟨hb, hm, hk, hn, hN⟩ := check14_0 hc
  have hw := hb.within
  simp only [Book.within] at hw
  have hm0 := hm.now
  generalize hS : stN b k n.toNat m = S
  generalize hF : fiN b k n.toNat m F10.none = F
  by_cases hr : 0 < n ∧ k ≠ 0
  {
  have hrise := rise14_ok b m F10.none k hb hm hk (by omega)
  have hov := over_rise (b := b) hm hr.2 hr.1 hN
  refine ICalls.of_body Try.func87 rfl Try.call87 rfl (Nat.le_of_ble_eq_true rfl) pl_G7_1 rfl ?_
  repeat' ((conv => whnf); first
    | refine Br.yes rfl ?_
    | refine Br.no rfl ?_
    | (refine ILoop.ov 1000010 (fun ((n1, m1, f1) : Int × Meter × F10) => [(3, gi n1)]) (fun ((n1, m1, f1) : Int × Meter × F10) => [(129, .cells (blkC b m1 f1))]) (fun ((n1, m1, f1) : Int × Meter × F10) => (0 ≤ n1 ∧ m1.Now + n1 ≤ 40320) ∧ m1.May ∧ (0 < n1 → k ≠ 0 → m1.Lie = 0) ∧ f1.Early m1.Now ∧ stN b k n1.toNat m1 = S ∧ fiN b k n1.toNat m1 f1 = F) (fun ((n1, m1, f1) : Int × Meter × F10) => n1.toNat) ((n - 1, m.step b k, F10.none.rise (stepN b m k) m.Now)) (by exact rfl) ?_; (conv => whnf); refine Start.mk rfl ?_ ?_; (try dsimp only); rotate_left; rintro ⟨n1, m1, f1⟩ ⟨hn1, hm1, hl1, hf1, hS1, hF1⟩; (have ht := long_min (b := b) (m := m1) hb hm1 n1; have hnow := hm1.now))
    | (refine Again.mk ⟨((n1 - (if b.Length - m1.Now.tmod b.Length < n1 then b.Length - m1.Now.tmod b.Length else n1), weekM b m1 k (if b.Length - m1.Now.tmod b.Length < n1 then b.Length - m1.Now.tmod b.Length else n1), weekF b m1 k (if b.Length - m1.Now.tmod b.Length < n1 then b.Length - m1.Now.tmod b.Length else n1) f1)), rfl, ?_, ?_⟩ <;> try dsimp only)
    | refine Br.yes (beq_self_eq_true _) ?_
    | refine Br.not ?_
    | refine Br.yes (decide_eq_true (by assumption)) ?_
    | refine Br.no (decide_eq_false (by assumption)) ?_
    | refine Br.yes (beq_iff_eq.2 (by assumption)) ?_
    | refine Br.no (beq_eq_false_iff_ne.2 (by assumption)) ?_
    | refine Br.yes (bne_iff_ne.2 (by assumption)) ?_
    | (refine Br.dec (fun h => ?_) (fun h => ?_) <;> try dsimp only at h)
    | (refine Br.beqI (fun h => ?_) (fun h => ?_) <;> try dsimp only at h)
    | (refine Br.bneI (fun h => ?_) (fun h => ?_) <;> try dsimp only at h)
    | refine Br.mk (fun h => ?_) (fun h => ?_)
    | refine Need.mk (app_need (by first | (simp only [List.length_append, List.length_map, List.length_nil, List.length_cons, List.nil_append, Nat.zero_add, Nat.add_zero]; done) | (simp only [List.length_append, List.length_map, List.length_nil, List.length_cons, List.nil_append, Nat.zero_add, Nat.add_zero]; omega) | omega) (Nat.le_of_ble_eq_true rfl) (by first | (simp only [List.length_append, List.length_map, List.length_nil, List.length_cons, List.nil_append, Nat.zero_add, Nat.add_zero]; done) | (simp only [List.length_append, List.length_map, List.length_nil, List.length_cons, List.nil_append, Nat.zero_add, Nat.add_zero]; omega) | omega)) ?_
    | refine Need.mk (app_need0 (Nat.le_of_ble_eq_true rfl) (by first | (simp only [List.length_append, List.length_map, List.length_nil, List.length_cons, List.nil_append, Nat.zero_add, Nat.add_zero]; done) | (simp only [List.length_append, List.length_map, List.length_nil, List.length_cons, List.nil_append, Nat.zero_add, Nat.add_zero]; omega) | omega)) ?_
    | refine Need.mk (by first | kernel_rfl | exact ⟨of_decide_eq_true rfl, of_decide_eq_true rfl⟩ | omega) ?_
    | refine Len.mk ⟨_, by simp only [List.length_cons, List.length_nil, Nat.reduceAdd, Int.cast_ofNat_Int]; rfl, ?_⟩
    | refine Wr.lit _ (by simp only [Int.reduceAdd, Int.reduceSub, Int.reduceMul]; rfl) (by decide) ?_
    | refine Wr.fit (by omega) ?_
    | refine Wr.fit (by dsimp only; omega) ?_
    | refine Elem.mk ⟨_, ⟨of_decide_eq_true rfl, rfl⟩, ?_⟩
    | refine Len.map ?_
    | refine Len.dropM ?_
    | refine Elem.dropM ?_
    | refine Len.takeM ?_
    | refine Elem.takeM ?_
    | refine Elem.mapK (by assumption) ?_
    | refine Elem.mapI (by omega) (by assumption) ?_
    | refine Elem.mapN (by omega) (fun x hx => ?_)
    | refine Elem.map (by omega) (by omega) (fun x hx => ?_)
    | refine (h1).use ⟨rfl, ?_⟩
    | refine (none14_ok).use ⟨rfl, ?_⟩
    | refine (hrise).use ⟨rfl, ?_⟩
    | refine (weekN_ok b m1 f1 k (if b.Length - m1.Now.tmod b.Length < n1 then b.Length - m1.Now.tmod b.Length else n1) hb (hm1.lim.small (by omega)) ⟨by omega, by omega⟩).use ⟨rfl, ?_⟩
    | refine CallX.mk ⟨_, _, (h1).x, rfl, ?_⟩
    | refine CallX.mk ⟨_, _, (none14_ok).x, rfl, ?_⟩
    | refine CallX.mk ⟨_, _, (hrise).x, rfl, ?_⟩
    | refine CallX.mk ⟨_, _, (weekN_ok b m1 f1 k (if b.Length - m1.Now.tmod b.Length < n1 then b.Length - m1.Now.tmod b.Length else n1) hb (hm1.lim.small (by omega)) ⟨by omega, by omega⟩).x, rfl, ?_⟩
    | refine Done.mk ⟨rfl, rfl⟩
    | refine Done.mk ⟨congrArg gb ?_, rfl⟩
    | refine Done.mk ⟨?_, rfl⟩
    | refine Done.mk ⟨?_, ?_⟩)
  all_goals clear hw
  all_goals first
    | (exfalso; omega)
    | (obtain ⟨ht1, ht2, ht3, -⟩ := ht; have ht4 := ht3 (by omega); clear ht3; generalize (if b.Length - m1.Now.tmod b.Length < n1 then b.Length - m1.Now.tmod b.Length else n1) = a at *; omega)
    | (show _ = overG (S, F, 0); rw [← hS1, ← hF1, show n1.toNat = 0 by omega]; rfl)
    | exact ⟨⟨by omega, by omega⟩, hov.2.1, fun _ _ => hov.2.2.1, hov.2.2.2.1, hov.2.2.2.2.1.trans hS, hov.2.2.2.2.2.trans hF⟩
    | (have hst := over_step (b := b) (k := k) (n := n1) hb hm1 (hl1 h) hf1 (if b.Length - m1.Now.tmod b.Length < n1 then b.Length - m1.Now.tmod b.Length else n1) (ht.2.2.1 (by omega)) ht.1 ht.2.1 hn1.2; exact ⟨⟨by omega, by have := hst.1; omega⟩, hst.2.1, fun _ => hst.2.2.1, hst.2.2.2.1, hst.2.2.2.2.1.trans hS1, hst.2.2.2.2.2.trans hF1⟩)
  }
  {
  refine ICalls.of_body Try.func87 rfl Try.call87 rfl (Nat.le_of_ble_eq_true rfl) pl_G7_2 rfl ?_
  repeat' ((conv => whnf); first
    | refine Br.yes rfl ?_
    | refine Br.no rfl ?_
    | (refine ILoop.ov 1000010 (fun ((n1, m1, f1) : Int × Meter × F10) => [(3, gi n1)]) (fun ((n1, m1, f1) : Int × Meter × F10) => [(129, .cells (blkC b m1 f1))]) (fun ((n1, m1, f1) : Int × Meter × F10) => (0 ≤ n1 ∧ m1.Now + n1 ≤ 40320) ∧ m1.May ∧ (0 < n1 → k ≠ 0 → m1.Lie = 0) ∧ f1.Early m1.Now ∧ stN b k n1.toNat m1 = S ∧ fiN b k n1.toNat m1 f1 = F) (fun ((n1, m1, f1) : Int × Meter × F10) => n1.toNat) ((n, m, F10.none)) (by exact rfl) ?_; (conv => whnf); refine Start.mk rfl ?_ ?_; (try dsimp only); rotate_left; rintro ⟨n1, m1, f1⟩ ⟨hn1, hm1, hl1, hf1, hS1, hF1⟩; (have ht := long_min (b := b) (m := m1) hb hm1 n1; have hnow := hm1.now))
    | (refine Again.mk ⟨((n1 - (if b.Length - m1.Now.tmod b.Length < n1 then b.Length - m1.Now.tmod b.Length else n1), weekM b m1 k (if b.Length - m1.Now.tmod b.Length < n1 then b.Length - m1.Now.tmod b.Length else n1), weekF b m1 k (if b.Length - m1.Now.tmod b.Length < n1 then b.Length - m1.Now.tmod b.Length else n1) f1)), rfl, ?_, ?_⟩ <;> try dsimp only)
    | refine Br.yes (beq_self_eq_true _) ?_
    | refine Br.not ?_
    | refine Br.yes (decide_eq_true (by assumption)) ?_
    | refine Br.no (decide_eq_false (by assumption)) ?_
    | refine Br.yes (beq_iff_eq.2 (by assumption)) ?_
    | refine Br.no (beq_eq_false_iff_ne.2 (by assumption)) ?_
    | refine Br.yes (bne_iff_ne.2 (by assumption)) ?_
    | (refine Br.dec (fun h => ?_) (fun h => ?_) <;> try dsimp only at h)
    | (refine Br.beqI (fun h => ?_) (fun h => ?_) <;> try dsimp only at h)
    | (refine Br.bneI (fun h => ?_) (fun h => ?_) <;> try dsimp only at h)
    | refine Br.mk (fun h => ?_) (fun h => ?_)
    | refine Need.mk (app_need (by first | (simp only [List.length_append, List.length_map, List.length_nil, List.length_cons, List.nil_append, Nat.zero_add, Nat.add_zero]; done) | (simp only [List.length_append, List.length_map, List.length_nil, List.length_cons, List.nil_append, Nat.zero_add, Nat.add_zero]; omega) | omega) (Nat.le_of_ble_eq_true rfl) (by first | (simp only [List.length_append, List.length_map, List.length_nil, List.length_cons, List.nil_append, Nat.zero_add, Nat.add_zero]; done) | (simp only [List.length_append, List.length_map, List.length_nil, List.length_cons, List.nil_append, Nat.zero_add, Nat.add_zero]; omega) | omega)) ?_
    | refine Need.mk (app_need0 (Nat.le_of_ble_eq_true rfl) (by first | (simp only [List.length_append, List.length_map, List.length_nil, List.length_cons, List.nil_append, Nat.zero_add, Nat.add_zero]; done) | (simp only [List.length_append, List.length_map, List.length_nil, List.length_cons, List.nil_append, Nat.zero_add, Nat.add_zero]; omega) | omega)) ?_
    | refine Need.mk (by first | kernel_rfl | exact ⟨of_decide_eq_true rfl, of_decide_eq_true rfl⟩ | omega) ?_
    | refine Len.mk ⟨_, by simp only [List.length_cons, List.length_nil, Nat.reduceAdd, Int.cast_ofNat_Int]; rfl, ?_⟩
    | refine Wr.lit _ (by simp only [Int.reduceAdd, Int.reduceSub, Int.reduceMul]; rfl) (by decide) ?_
    | refine Wr.fit (by omega) ?_
    | refine Wr.fit (by dsimp only; omega) ?_
    | refine Elem.mk ⟨_, ⟨of_decide_eq_true rfl, rfl⟩, ?_⟩
    | refine Len.map ?_
    | refine Len.dropM ?_
    | refine Elem.dropM ?_
    | refine Len.takeM ?_
    | refine Elem.takeM ?_
    | refine Elem.mapK (by assumption) ?_
    | refine Elem.mapI (by omega) (by assumption) ?_
    | refine Elem.mapN (by omega) (fun x hx => ?_)
    | refine Elem.map (by omega) (by omega) (fun x hx => ?_)
    | refine (h1).use ⟨rfl, ?_⟩
    | refine (none14_ok).use ⟨rfl, ?_⟩
    | refine (weekN_ok b m1 f1 k (if b.Length - m1.Now.tmod b.Length < n1 then b.Length - m1.Now.tmod b.Length else n1) hb (hm1.lim.small (by omega)) ⟨by omega, by omega⟩).use ⟨rfl, ?_⟩
    | refine CallX.mk ⟨_, _, (h1).x, rfl, ?_⟩
    | refine CallX.mk ⟨_, _, (none14_ok).x, rfl, ?_⟩
    | refine CallX.mk ⟨_, _, (weekN_ok b m1 f1 k (if b.Length - m1.Now.tmod b.Length < n1 then b.Length - m1.Now.tmod b.Length else n1) hb (hm1.lim.small (by omega)) ⟨by omega, by omega⟩).x, rfl, ?_⟩
    | refine Done.mk ⟨rfl, rfl⟩
    | refine Done.mk ⟨congrArg gb ?_, rfl⟩
    | refine Done.mk ⟨?_, rfl⟩
    | refine Done.mk ⟨?_, ?_⟩)
  all_goals clear hw
  all_goals first
    | (exfalso; omega)
    | (obtain ⟨ht1, ht2, ht3, -⟩ := ht; have ht4 := ht3 (by omega); clear ht3; generalize (if b.Length - m1.Now.tmod b.Length < n1 then b.Length - m1.Now.tmod b.Length else n1) = a at *; omega)
    | (show _ = overG (S, F, 0); rw [← hS1, ← hF1, show n1.toNat = 0 by omega]; rfl)
    | exact ⟨⟨by omega, by omega⟩, hm, fun h1 h2 => absurd ⟨h1, h2⟩ hr, none_early hm0.1, hS, hF⟩
    | (have hst := over_step (b := b) (k := k) (n := n1) hb hm1 (hl1 h) hf1 (if b.Length - m1.Now.tmod b.Length < n1 then b.Length - m1.Now.tmod b.Length else n1) (ht.2.2.1 (by omega)) ht.1 ht.2.1 hn1.2; exact ⟨⟨by omega, by have := hst.1; omega⟩, hst.2.1, fun _ => hst.2.2.1, hst.2.2.2.1, hst.2.2.2.2.1.trans hS1, hst.2.2.2.2.2.trans hF1⟩)
  }
  }
  {
  rw [if_neg hc]
  refine ICalls.of_body Try.func87 rfl Try.call87 rfl (Nat.le_of_ble_eq_true rfl) pl_G7_3 rfl ?_
  repeat' ((conv => whnf); first
    | refine Br.yes rfl ?_
    | refine Br.no rfl ?_
    | refine Br.yes (beq_self_eq_true _) ?_
    | refine Br.not ?_
    | refine Br.yes (decide_eq_true (by assumption)) ?_
    | refine Br.no (decide_eq_false (by assumption)) ?_
    | refine Br.yes (beq_iff_eq.2 (by assumption)) ?_
    | refine Br.no (beq_eq_false_iff_ne.2 (by assumption)) ?_
    | refine Br.yes (bne_iff_ne.2 (by assumption)) ?_
    | (refine Br.dec (fun h => ?_) (fun h => ?_) <;> try dsimp only at h)
    | (refine Br.beqI (fun h => ?_) (fun h => ?_) <;> try dsimp only at h)
    | (refine Br.bneI (fun h => ?_) (fun h => ?_) <;> try dsimp only at h)
    | refine Br.mk (fun h => ?_) (fun h => ?_)
    | refine Need.mk (app_need (by first | (simp only [List.length_append, List.length_map, List.length_nil, List.length_cons, List.nil_append, Nat.zero_add, Nat.add_zero]; done) | (simp only [List.length_append, List.length_map, List.length_nil, List.length_cons, List.nil_append, Nat.zero_add, Nat.add_zero]; omega) | omega) (Nat.le_of_ble_eq_true rfl) (by first | (simp only [List.length_append, List.length_map, List.length_nil, List.length_cons, List.nil_append, Nat.zero_add, Nat.add_zero]; done) | (simp only [List.length_append, List.length_map, List.length_nil, List.length_cons, List.nil_append, Nat.zero_add, Nat.add_zero]; omega) | omega)) ?_
    | refine Need.mk (app_need0 (Nat.le_of_ble_eq_true rfl) (by first | (simp only [List.length_append, List.length_map, List.length_nil, List.length_cons, List.nil_append, Nat.zero_add, Nat.add_zero]; done) | (simp only [List.length_append, List.length_map, List.length_nil, List.length_cons, List.nil_append, Nat.zero_add, Nat.add_zero]; omega) | omega)) ?_
    | refine Need.mk (by first | kernel_rfl | exact ⟨of_decide_eq_true rfl, of_decide_eq_true rfl⟩ | omega) ?_
    | refine Len.mk ⟨_, by simp only [List.length_cons, List.length_nil, Nat.reduceAdd, Int.cast_ofNat_Int]; rfl, ?_⟩
    | refine Wr.lit _ (by simp only [Int.reduceAdd, Int.reduceSub, Int.reduceMul]; rfl) (by decide) ?_
    | refine Wr.fit (by omega) ?_
    | refine Wr.fit (by dsimp only; omega) ?_
    | refine Elem.mk ⟨_, ⟨of_decide_eq_true rfl, rfl⟩, ?_⟩
    | refine Len.map ?_
    | refine Len.dropM ?_
    | refine Elem.dropM ?_
    | refine Len.takeM ?_
    | refine Elem.takeM ?_
    | refine Elem.mapK (by assumption) ?_
    | refine Elem.mapI (by omega) (by assumption) ?_
    | refine Elem.mapN (by omega) (fun x hx => ?_)
    | refine Elem.map (by omega) (by omega) (fun x hx => ?_)
    | refine (h1).use ⟨rfl, ?_⟩
    | refine CallX.mk ⟨_, _, (h1).x, rfl, ?_⟩
    | refine Done.mk ⟨rfl, rfl⟩
    | refine Done.mk ⟨congrArg gb ?_, rfl⟩
    | refine Done.mk ⟨?_, rfl⟩
    | refine Done.mk ⟨?_, ?_⟩)
  }

end Go.Hl
