/- Contracts of functions, bundle H5; proved for whatever the arguments' types allow, as each theorem says. -/
import Derived.Test.YtagbineecmclnaaH4

/- The reference's run of minutes.  -/
set_option linter.unusedVariables false
set_option linter.unusedSimpArgs false
namespace Go.Hl
open Go.Gh Go.Proofs

theorem pair_eq {m : Meter} {a b : Int} (h : a = b) : GV.tup [m.g, gi a] = .tup [m.g, gi b] := by rw [h]

set_option maxRecDepth 100000 in
theorem step_ok (b : Book) (m : Meter) (k : Int) : ICalls Try.prog 126 [b.g, m.g, gi k] [] (Done (runV (runAll b m [k])) []) := by
  refine ICalls.of_body Try.func126 rfl Try.call126 rfl (Nat.le_of_ble_eq_true rfl) (fun _ => none) rfl ?_
  repeat' ((conv => whnf); first
    | refine Br.yes rfl ?_
    | refine Br.no rfl ?_
    | refine Br.yes (beq_self_eq_true _) ?_
    | refine Br.not ?_
    | refine Br.yes (decide_eq_true (by assumption)) ?_
    | refine Br.no (decide_eq_false (by assumption)) ?_
    | refine Br.yes (beq_iff_eq.2 (by assumption)) ?_
    | refine Br.no (beq_eq_false_iff_ne.2 (by assumption)) ?_
    | refine Br.yes (bne_iff_ne.2 (by assumption)) ?_
    | (refine Br.dec (fun h => ?_) (fun h => ?_) <;> try dsimp only at h)
    | (refine Br.beqI (fun h => ?_) (fun h => ?_) <;> try dsimp only at h)
    | (refine Br.bneI (fun h => ?_) (fun h => ?_) <;> try dsimp only at h)
    | refine Br.mk (fun h => ?_) (fun h => ?_)
    | refine Need.mk (app_need (by first | (simp only [List.length_append, List.length_map, List.length_nil, List.length_cons, List.nil_append, Nat.zero_add, Nat.add_zero]; done) | (simp only [List.length_append, List.length_map, List.length_nil, List.length_cons, List.nil_append, Nat.zero_add, Nat.add_zero]; omega) | omega) (Nat.le_of_ble_eq_true rfl) (by first | (simp only [List.length_append, List.length_map, List.length_nil, List.length_cons, List.nil_append, Nat.zero_add, Nat.add_zero]; done) | (simp only [List.length_append, List.length_map, List.length_nil, List.length_cons, List.nil_append, Nat.zero_add, Nat.add_zero]; omega) | omega)) ?_
    | refine Need.mk (app_need0 (Nat.le_of_ble_eq_true rfl) (by first | (simp only [List.length_append, List.length_map, List.length_nil, List.length_cons, List.nil_append, Nat.zero_add, Nat.add_zero]; done) | (simp only [List.length_append, List.length_map, List.length_nil, List.length_cons, List.nil_append, Nat.zero_add, Nat.add_zero]; omega) | omega)) ?_
    | refine Need.mk (by first | kernel_rfl | exact ⟨of_decide_eq_true rfl, of_decide_eq_true rfl⟩ | omega) ?_
    | refine Len.mk ⟨_, by simp only [List.length_cons, List.length_nil, Nat.reduceAdd, Int.cast_ofNat_Int]; rfl, ?_⟩
    | refine Wr.lit _ (by simp only [Int.reduceAdd, Int.reduceSub, Int.reduceMul]; rfl) (by decide) ?_
    | refine Wr.fit (by omega) ?_
    | refine Wr.fit (by dsimp only; omega) ?_
    | refine Elem.mk ⟨_, ⟨of_decide_eq_true rfl, rfl⟩, ?_⟩
    | refine Len.map ?_
    | refine Len.dropM ?_
    | refine Elem.dropM ?_
    | refine Len.takeM ?_
    | refine Elem.takeM ?_
    | refine Elem.mapK (by assumption) ?_
    | refine Elem.mapI (by omega) (by assumption) ?_
    | refine Elem.mapN (by omega) (fun x hx => ?_)
    | refine Elem.map (by omega) (by omega) (fun x hx => ?_)
    | refine (run_ok b m [k] (by simp)).use ⟨rfl, ?_⟩
    | refine CallX.mk ⟨_, _, (run_ok b m [k] (by simp)).x, rfl, ?_⟩
    | refine Done.mk ⟨rfl, rfl⟩
    | refine Done.mk ⟨congrArg gb ?_, rfl⟩
    | refine Done.mk ⟨?_, rfl⟩
    | refine Done.mk ⟨?_, ?_⟩)

def al13 : Meter := ⟨300, 270, false, 0, 30, 270, 0, false, 0, 30, false, 270, 0, 270⟩
theorem al13_run : runAll Book.europe al13 [3] = (⟨301, 271, false, 0, 30, 271, 0, false, 0, 30, false, 271, 0, 271⟩, 1, 0) := by decide +kernel
theorem runM_cons (b : Book) (k : Int) (r : List Int) (m : Meter) (bits : Int) : runM b (k :: r) m bits = if k < 0 ∨ 4 ≤ k then (Meter.zero, 0, 2) else if m.Now = 40320 then (Meter.zero, 0, 4) else runM b r (m.step b k) (stepBits b m k bits) := rfl
theorem runM_e (b : Book) : ∀ (ks : List Int) (m : Meter) (bits : Int), (runM b ks m bits).2.2 ≠ 0 → (runM b ks m bits).1 = Meter.zero ∧ (runM b ks m bits).2.1 = 0
  | [], m, bits, h => absurd rfl h
  | k :: r, m, bits, h => by
    unfold runM at *
    split
    · exact ⟨rfl, rfl⟩
    · rename_i h1
      rw [if_neg h1] at h
      split
      · exact ⟨rfl, rfl⟩
      · rename_i h2
        rw [if_neg h2] at h
        exact runM_e b r _ _ h
theorem runM_ok (b : Book) : ∀ (ks : List Int) (m : Meter) (n : Nat), m.May → n < 1024 → (runM b ks m n).2.2 = 0 → (runM b ks m n).1.May ∧ (∃ q : Nat, q < 1024 ∧ (runM b ks m n).2.1 = q) ∧ ∀ (ks2 : List Int), (∀ q : Nat, (runM b ks m n).2.1 = q → runM b (ks ++ ks2) m n = runM b ks2 (runM b ks m n).1 q)
  | [], m, n, hm, hn, h => ⟨hm, ⟨n, hn, rfl⟩, fun ks2 q hq => by simp only [runM] at hq ⊢; rw [List.nil_append, hq]⟩
  | k :: r, m, n, hm, hn, h => by
    rw [runM_cons] at h ⊢
    split at h
    · cases h
    · rename_i h1
      rw [if_neg h1]
      split at h
      · cases h
      · rename_i h2
        rw [if_neg h2]
        rw [stepBits_or b m k n hn] at *
        obtain ⟨g1, g2, g3⟩ := runM_ok b r _ _ (hm.step (by have := hm.now; omega) k).1 (Nat.or_lt_two_pow (n := 10) hn (stepN_lt b m k)) h
        refine ⟨g1, g2, fun ks2 q hq => ?_⟩
        have := g3 ks2 q hq
        rw [List.cons_append, runM_cons, if_neg h1, if_neg h2, stepBits_or b m k n hn]
        exact this
theorem runM_bits (b : Book) : ∀ (ks : List Int) (m : Meter) (n : Nat), n < 1024 → (runM b ks m n).2.2 = (runM b ks m 0).2.2 ∧ ((runM b ks m n).2.2 = 0 → (runM b ks m n).1 = (runM b ks m 0).1 ∧ ∀ q : Nat, (runM b ks m 0).2.1 = q → (runM b ks m n).2.1 = ((n ||| q : Nat) : Int)) := by
  have key : ∀ (ks : List Int) (m : Meter) (n z : Nat), n < 1024 → z < 1024 → (runM b ks m (n ||| z : Nat)).2.2 = (runM b ks m z).2.2 ∧ ((runM b ks m z).2.2 = 0 → (runM b ks m (n ||| z : Nat)).1 = (runM b ks m z).1 ∧ ∀ q : Nat, (runM b ks m z).2.1 = q → (runM b ks m (n ||| z : Nat)).2.1 = ((n ||| q : Nat) : Int)) := by
    intro ks
    induction ks with
    | nil => intro m n z hn hz; exact ⟨rfl, fun _ => ⟨rfl, fun q hq => by simp only [runM] at *; have : z = q := by omega
                                                                          rw [this]⟩⟩
    | cons k r ih =>
      intro m n z hn hz
      unfold runM
      split
      · exact ⟨rfl, fun h => by cases h⟩
      · split
        · exact ⟨rfl, fun h => by cases h⟩
        · rw [stepBits_or b m k _ (Nat.or_lt_two_pow (n := 10) hn hz), stepBits_or b m k z hz, Nat.or_assoc]
          exact ih _ _ _ hn (Nat.or_lt_two_pow (n := 10) hz (stepN_lt b m k))
  intro ks m n hn
  have := key ks m n 0 hn (by omega)
  simp only [Nat.or_zero] at this
  exact ⟨this.1, fun h => this.2 (by have h1 := this.1; rw [h1] at h; exact h)⟩
theorem runAll_rest (b : Book) (m : Meter) (hb : b.May) (hm : m.May) : ((runAll b m [0]).2.2 ≠ 0 ∧ m.Now = 40320) ∨ ((runAll b m [0]).2.2 = 0 ∧ (runAll b m [0]).2.1 = 0 ∧ (runAll b m [0]).1.Lie = m.Lie + 1 ∧ (runAll b m [0]).1.Now = m.Now + 1) := by
  unfold runAll
  rw [if_pos hb, if_pos hm]
  simp only [runM]
  by_cases h : m.Now = 40320
  · left; simp [h]
  · right
    simp only [h]
    have hs : m.step b 0 = { m.turn b with Lie := (m.turn b).Lie + 1, Now := (m.turn b).Now + 1 } := if_pos rfl
    have hn : (m.turn b).Now = m.Now ∧ (m.turn b).Lie = m.Lie := by unfold Meter.turn; split <;> exact ⟨rfl, rfl⟩
    simp [hs, hn, stepBits]

end Go.Hl

/- The law MeterParts.  -/
set_option linter.unusedVariables false
set_option linter.unusedSimpArgs false
namespace Go.Hl
open Go.Gh Go.Proofs

theorem run2_ok (b : Book) (m : Meter) (one two : List Int) (hl : ((one.length + two.length : Nat) : Int) ≤ 9223372036854775807) :
    ICalls Try.prog 143 [b.g, m.g, .list 1 (ints one ++ ints two) none] [] (Done (runV (runAll b m (one ++ two))) []) := by
  have := run_ok b m (one ++ two) (by simpa using hl)
  rwa [ints, List.map_append] at this

end Go.Hl
