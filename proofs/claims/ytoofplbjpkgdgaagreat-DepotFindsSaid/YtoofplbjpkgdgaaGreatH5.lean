/- Contracts of functions, bundle H5; proved for whatever the arguments' types allow, as each theorem says. -/
import Derived.Test.YtoofplbjpkgdgaaGreatH4

/- The reference's run of minutes.  -/
set_option linter.unusedVariables false
set_option linter.unusedSimpArgs false
namespace Go.Hl
open Go.Gh Go.Proofs

theorem pair_eq {m : Meter} {a b : Int} (h : a = b) : GV.tup [m.g, gi a] = .tup [m.g, gi b] := by rw [h]

def pl_C21_1 : Nat → Option (List Nat × List Nat) := (fun k => bif Nat.beq k 7 then some ([1000007, 2, 3, 4, 6, 9, 10], [103, 104, 106]) else none)
def pl_C21_2 : Nat → Option (List Nat × List Nat) := (fun k => bif Nat.beq k 7 then some ([1000007, 2, 3, 4, 6, 9, 10], [103, 104, 106]) else none)
def pl_C21_3 : Nat → Option (List Nat × List Nat) := (fun k => bif Nat.beq k 7 then some ([1000007, 2, 3, 4, 6, 9, 10], [103, 104, 106]) else none)
set_option maxRecDepth 100000 in
set_option maxHeartbeats 1000000 in
theorem refRun_ok (b : Book) (m : Meter) (ks : List Int) (hl : (ks.length : Int) ≤ 9223372036854775807) :
    ICalls Tryz.prog 79 [b.g, m.g, .list 1 (ints ks) none] [] (Done (runV (runAll b m ks)) []) := by
  by_cases hb : b.May
  case neg =>
    have hc : decide b.May = false := decide_eq_false hb
    rw [show runAll b m ks = (Meter.zero, 0, 14) from if_neg hb]
    refine ICalls.of_body Tryz.func79 rfl Tryz.call79 rfl (Nat.le_of_ble_eq_true rfl) pl_C21_1 rfl ?_
    repeat' ((conv => whnf); first
      | refine Br.yes rfl ?_
      | refine Br.no rfl ?_
      | refine Br.yes (beq_self_eq_true _) ?_
      | refine Br.not ?_
      | refine Br.yes (decide_eq_true (by assumption)) ?_
      | refine Br.no (decide_eq_false (by assumption)) ?_
      | refine Br.yes (beq_iff_eq.2 (by assumption)) ?_
      | refine Br.no (beq_eq_false_iff_ne.2 (by assumption)) ?_
      | refine Br.yes (bne_iff_ne.2 (by assumption)) ?_
      | (refine Br.dec (fun h => ?_) (fun h => ?_) <;> try dsimp only at h)
      | (refine Br.beqI (fun h => ?_) (fun h => ?_) <;> try dsimp only at h)
      | (refine Br.bneI (fun h => ?_) (fun h => ?_) <;> try dsimp only at h)
      | refine Br.mk (fun h => ?_) (fun h => ?_)
      | refine Need.mk (by first | kernel_rfl | exact ⟨of_decide_eq_true rfl, of_decide_eq_true rfl⟩ | omega) ?_
      | refine Len.mk ⟨_, by simp only [List.length_cons, List.length_nil, Nat.reduceAdd, Int.cast_ofNat_Int]; rfl, ?_⟩
      | refine Wr.lit _ (by simp only [Int.reduceAdd, Int.reduceSub, Int.reduceMul]; rfl) (by decide) ?_
      | refine Wr.fit (by omega) ?_
      | refine Wr.fit (by dsimp only; omega) ?_
      | refine Elem.mk ⟨_, ⟨of_decide_eq_true rfl, rfl⟩, ?_⟩
      | refine Len.map ?_
      | refine Len.dropM ?_
      | refine Elem.dropM ?_
      | refine Len.takeM ?_
      | refine Elem.takeM ?_
      | refine Elem.mapK (by assumption) ?_
      | refine Elem.mapI (by omega) (by assumption) ?_
      | refine Elem.mapN (by omega) (fun x hx => ?_)
      | refine Elem.map (by omega) (by omega) (fun x hx => ?_)
      | refine ((bookMay_ok b).to (congrArg gb hc)).use ⟨rfl, ?_⟩
      | refine CallX.mk ⟨_, _, ((bookMay_ok b).to (congrArg gb hc)).x, rfl, ?_⟩
      | refine Done.mk ⟨rfl, rfl⟩
      | refine Done.mk ⟨congrArg gb ?_, rfl⟩
      | refine Done.mk ⟨?_, rfl⟩
      | refine Done.mk ⟨?_, ?_⟩)
  case pos =>
  have hc : decide b.May = true := decide_eq_true hb
  by_cases hm : m.May
  case neg =>
    have hd : decide m.May = false := decide_eq_false hm
    rw [show runAll b m ks = (Meter.zero, 0, 1) from by unfold runAll; rw [if_pos hb, if_neg hm]]
    refine ICalls.of_body Tryz.func79 rfl Tryz.call79 rfl (Nat.le_of_ble_eq_true rfl) pl_C21_2 rfl ?_
    repeat' ((conv => whnf); first
      | refine Br.yes rfl ?_
      | refine Br.no rfl ?_
      | refine Br.yes (beq_self_eq_true _) ?_
      | refine Br.not ?_
      | refine Br.yes (decide_eq_true (by assumption)) ?_
      | refine Br.no (decide_eq_false (by assumption)) ?_
      | refine Br.yes (beq_iff_eq.2 (by assumption)) ?_
      | refine Br.no (beq_eq_false_iff_ne.2 (by assumption)) ?_
      | refine Br.yes (bne_iff_ne.2 (by assumption)) ?_
      | (refine Br.dec (fun h => ?_) (fun h => ?_) <;> try dsimp only at h)
      | (refine Br.beqI (fun h => ?_) (fun h => ?_) <;> try dsimp only at h)
      | (refine Br.bneI (fun h => ?_) (fun h => ?_) <;> try dsimp only at h)
      | refine Br.mk (fun h => ?_) (fun h => ?_)
      | refine Need.mk (by first | kernel_rfl | exact ⟨of_decide_eq_true rfl, of_decide_eq_true rfl⟩ | omega) ?_
      | refine Len.mk ⟨_, by simp only [List.length_cons, List.length_nil, Nat.reduceAdd, Int.cast_ofNat_Int]; rfl, ?_⟩
      | refine Wr.lit _ (by simp only [Int.reduceAdd, Int.reduceSub, Int.reduceMul]; rfl) (by decide) ?_
      | refine Wr.fit (by omega) ?_
      | refine Wr.fit (by dsimp only; omega) ?_
      | refine Elem.mk ⟨_, ⟨of_decide_eq_true rfl, rfl⟩, ?_⟩
      | refine Len.map ?_
      | refine Len.dropM ?_
      | refine Elem.dropM ?_
      | refine Len.takeM ?_
      | refine Elem.takeM ?_
      | refine Elem.mapK (by assumption) ?_
      | refine Elem.mapI (by omega) (by assumption) ?_
      | refine Elem.mapN (by omega) (fun x hx => ?_)
      | refine Elem.map (by omega) (by omega) (fun x hx => ?_)
      | refine ((bookMay_ok b).to (congrArg gb hc)).use ⟨rfl, ?_⟩
      | refine ((meterMay_ok m).to (congrArg gb hd)).use ⟨rfl, ?_⟩
      | refine CallX.mk ⟨_, _, ((bookMay_ok b).to (congrArg gb hc)).x, rfl, ?_⟩
      | refine CallX.mk ⟨_, _, ((meterMay_ok m).to (congrArg gb hd)).x, rfl, ?_⟩
      | refine Done.mk ⟨rfl, rfl⟩
      | refine Done.mk ⟨congrArg gb ?_, rfl⟩
      | refine Done.mk ⟨?_, rfl⟩
      | refine Done.mk ⟨?_, ?_⟩)
  case pos =>
    have hd : decide m.May = true := decide_eq_true hm
    rw [show runAll b m ks = runM b ks m 0 from by unfold runAll; rw [if_pos hb, if_pos hm]]
    refine ICalls.of_body Tryz.func79 rfl Tryz.call79 rfl (Nat.le_of_ble_eq_true rfl) pl_C21_3 rfl ?_
    repeat' ((conv => whnf); first
      | refine Br.yes rfl ?_
      | refine Br.no rfl ?_
      | (refine ILoop.ov 1000007 (fun ((i, mm, n) : Nat × Meter × Nat) => [(10, gi i), (9, gi n)]) (fun ((i, mm, n) : Nat × Meter × Nat) => [(104, .cells (mm.c))]) (fun ((i, mm, n) : Nat × Meter × Nat) => i ≤ ks.length ∧ mm.May ∧ n < 1024 ∧ runM b (ks.drop i) mm n = runM b ks m 0) (fun ((i, mm, n) : Nat × Meter × Nat) => ks.length - i) ((0, m, 0)) (by exact rfl) ?_; (conv => whnf); refine Start.mk rfl ?_ ?_; (try dsimp only); rotate_left; rintro ⟨i, mm, n⟩ ⟨hi, hmm, hn, hr⟩)
      | (refine Again.mk ⟨((i + 1, mm.step b x, n ||| stepN b mm x)), rfl, ?_, ?_⟩ <;> try dsimp only)
      | refine Br.yes (beq_self_eq_true _) ?_
      | refine Br.not ?_
      | refine Br.yes (decide_eq_true (by assumption)) ?_
      | refine Br.no (decide_eq_false (by assumption)) ?_
      | refine Br.yes (beq_iff_eq.2 (by assumption)) ?_
      | refine Br.no (beq_eq_false_iff_ne.2 (by assumption)) ?_
      | refine Br.yes (bne_iff_ne.2 (by assumption)) ?_
      | (refine Br.dec (fun h => ?_) (fun h => ?_) <;> try dsimp only at h)
      | (refine Br.beqI (fun h => ?_) (fun h => ?_) <;> try dsimp only at h)
      | (refine Br.bneI (fun h => ?_) (fun h => ?_) <;> try dsimp only at h)
      | refine Br.mk (fun h => ?_) (fun h => ?_)
      | refine Need.mk (by first | kernel_rfl | exact ⟨of_decide_eq_true rfl, of_decide_eq_true rfl⟩ | omega) ?_
      | refine Len.mk ⟨_, by simp only [List.length_cons, List.length_nil, Nat.reduceAdd, Int.cast_ofNat_Int]; rfl, ?_⟩
      | refine Wr.lit _ (by simp only [Int.reduceAdd, Int.reduceSub, Int.reduceMul]; rfl) (by decide) ?_
      | refine Wr.fit (by omega) ?_
      | refine Wr.fit (by dsimp only; omega) ?_
      | refine Elem.mk ⟨_, ⟨of_decide_eq_true rfl, rfl⟩, ?_⟩
      | refine Len.map ?_
      | refine Len.dropM ?_
      | refine Elem.dropM ?_
      | refine Len.takeM ?_
      | refine Elem.takeM ?_
      | refine Elem.mapK (by assumption) ?_
      | refine Elem.mapI (by omega) (by assumption) ?_
      | refine Elem.mapN (by omega) (fun x hx => ?_)
      | refine Elem.map (by omega) (by omega) (fun x hx => ?_)
      | refine ((bookMay_ok b).to (congrArg gb hc)).use ⟨rfl, ?_⟩
      | refine ((meterMay_ok m).to (congrArg gb hd)).use ⟨rfl, ?_⟩
      | refine ((refStep_ok b mm x hb hmm ⟨by omega, by omega⟩).to (pair_eq (stepN_cast b mm x))).use ⟨rfl, ?_⟩
      | refine (refOr_ok n (stepN b mm x) hn (stepN_lt b mm x)).use ⟨rfl, ?_⟩
      | refine CallX.mk ⟨_, _, ((bookMay_ok b).to (congrArg gb hc)).x, rfl, ?_⟩
      | refine CallX.mk ⟨_, _, ((meterMay_ok m).to (congrArg gb hd)).x, rfl, ?_⟩
      | refine CallX.mk ⟨_, _, ((refStep_ok b mm x hb hmm ⟨by omega, by omega⟩).to (pair_eq (stepN_cast b mm x))).x, rfl, ?_⟩
      | refine CallX.mk ⟨_, _, (refOr_ok n (stepN b mm x) hn (stepN_lt b mm x)).x, rfl, ?_⟩
      | refine Done.mk ⟨rfl, rfl⟩
      | refine Done.mk ⟨congrArg gb ?_, rfl⟩
      | refine Done.mk ⟨?_, rfl⟩
      | refine Done.mk ⟨?_, ?_⟩)
    · have e := drop_of_get hx
      rw [← hr, e, runM, if_pos (by omega)]; rfl
    · have e := drop_of_get hx
      rw [← hr, e, runM, if_pos (by omega)]; rfl
    · have e := drop_of_get hx
      rw [← hr, e, runM, if_neg (by omega), if_pos h]; rfl
    · have e := drop_of_get hx
      rw [e, runM, if_neg (by omega), if_neg h, stepBits_or b mm x n hn] at hr
      exact ⟨by omega, (hmm.step (by have := hmm.now; omega) x).1, Nat.or_lt_two_pow (n := 10) hn (stepN_lt b mm x), hr⟩
    · omega
    · rw [List.drop_eq_nil_of_le (by omega), runM] at hr
      rw [← hr]; rfl
    · exact ⟨by omega, hm, by omega, rfl⟩

def al13 : Meter := ⟨300, 270, false, 0, 30, 270, 0, false, 0, 30, false, 270, 0, 270⟩
theorem runM_cons (b : Book) (k : Int) (r : List Int) (m : Meter) (bits : Int) : runM b (k :: r) m bits = if k < 0 ∨ 4 ≤ k then (Meter.zero, 0, 2) else if m.Now = 40320 then (Meter.zero, 0, 4) else runM b r (m.step b k) (stepBits b m k bits) := rfl
theorem runM_ok (b : Book) : ∀ (ks : List Int) (m : Meter) (n : Nat), m.May → n < 1024 → (runM b ks m n).2.2 = 0 → (runM b ks m n).1.May ∧ (∃ q : Nat, q < 1024 ∧ (runM b ks m n).2.1 = q) ∧ ∀ (ks2 : List Int), (∀ q : Nat, (runM b ks m n).2.1 = q → runM b (ks ++ ks2) m n = runM b ks2 (runM b ks m n).1 q)
  | [], m, n, hm, hn, h => ⟨hm, ⟨n, hn, rfl⟩, fun ks2 q hq => by simp only [runM] at hq ⊢; rw [List.nil_append, hq]⟩
  | k :: r, m, n, hm, hn, h => by
    rw [runM_cons] at h ⊢
    split at h
    · cases h
    · rename_i h1
      rw [if_neg h1]
      split at h
      · cases h
      · rename_i h2
        rw [if_neg h2]
        rw [stepBits_or b m k n hn] at *
        obtain ⟨g1, g2, g3⟩ := runM_ok b r _ _ (hm.step (by have := hm.now; omega) k).1 (Nat.or_lt_two_pow (n := 10) hn (stepN_lt b m k)) h
        refine ⟨g1, g2, fun ks2 q hq => ?_⟩
        have := g3 ks2 q hq
        rw [List.cons_append, runM_cons, if_neg h1, if_neg h2, stepBits_or b m k n hn]
        exact this
end Go.Hl
