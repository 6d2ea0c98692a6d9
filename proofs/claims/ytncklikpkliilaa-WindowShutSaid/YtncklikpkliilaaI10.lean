/- Contracts of functions, bundle I10; proved for whatever the arguments' types allow, as each theorem says. -/
import Derived.Test.YtncklikpkliilaaI9
import Derived.Test.YtncklikpkliilaaH1

/- Law Next of chapter 18; the chapter's laws over all arguments.  -/
set_option linter.unusedVariables false
set_option linter.unusedSimpArgs false
namespace Go.Hl
open Go.Gh Go.Proofs

set_option maxRecDepth 100000 in
set_option maxHeartbeats 4000000 in
theorem windowNext_ok (l : List Span) (m n : Int) (hf : ∀ s, s ∈ l → s.Fits) : ICalls Try.prog 8 [.list 2 (spans l) none, gi m, gi n] [] (Done (gb true) []) := by
  by_cases hl : (l.length : Int) ≤ 30
  case neg =>
    refine ICalls.of_body Try.func8 rfl Try.call8 rfl (Nat.le_of_ble_eq_true rfl) (fun _ => none) rfl ?_
    repeat' ((conv => whnf); first
      | refine Br.yes rfl ?_
      | refine Br.no rfl ?_
      | refine Br.yes (beq_self_eq_true _) ?_
      | refine Br.not ?_
      | refine Br.yes (decide_eq_true (by assumption)) ?_
      | refine Br.no (decide_eq_false (by assumption)) ?_
      | refine Br.yes (beq_iff_eq.2 (by assumption)) ?_
      | refine Br.no (beq_eq_false_iff_ne.2 (by assumption)) ?_
      | refine Br.yes (bne_iff_ne.2 (by assumption)) ?_
      | (refine Br.dec (fun h => ?_) (fun h => ?_) <;> try dsimp only at h)
      | (refine Br.beqI (fun h => ?_) (fun h => ?_) <;> try dsimp only at h)
      | (refine Br.bneI (fun h => ?_) (fun h => ?_) <;> try dsimp only at h)
      | refine Br.mk (fun h => ?_) (fun h => ?_)
      | refine Need.mk (app_need (by first | (simp only [List.length_append, List.length_map, List.length_nil, List.length_cons, List.nil_append, Nat.zero_add, Nat.add_zero]; done) | (simp only [List.length_append, List.length_map, List.length_nil, List.length_cons, List.nil_append, Nat.zero_add, Nat.add_zero]; omega) | omega) (Nat.le_of_ble_eq_true rfl) (by first | (simp only [List.length_append, List.length_map, List.length_nil, List.length_cons, List.nil_append, Nat.zero_add, Nat.add_zero]; done) | (simp only [List.length_append, List.length_map, List.length_nil, List.length_cons, List.nil_append, Nat.zero_add, Nat.add_zero]; omega) | omega)) ?_
      | refine Need.mk (app_need0 (Nat.le_of_ble_eq_true rfl) (by first | (simp only [List.length_append, List.length_map, List.length_nil, List.length_cons, List.nil_append, Nat.zero_add, Nat.add_zero]; done) | (simp only [List.length_append, List.length_map, List.length_nil, List.length_cons, List.nil_append, Nat.zero_add, Nat.add_zero]; omega) | omega)) ?_
      | refine Need.mk (by first | kernel_rfl | exact ⟨of_decide_eq_true rfl, of_decide_eq_true rfl⟩ | omega) ?_
      | refine Len.mk ⟨_, by simp only [List.length_cons, List.length_nil, Nat.reduceAdd, Int.cast_ofNat_Int]; rfl, ?_⟩
      | refine Wr.lit _ (by simp only [Int.reduceAdd, Int.reduceSub, Int.reduceMul]; rfl) (by decide) ?_
      | refine Wr.fit (by omega) ?_
      | refine Wr.fit (by dsimp only; omega) ?_
      | refine Elem.mk ⟨_, ⟨of_decide_eq_true rfl, rfl⟩, ?_⟩
      | refine Len.map ?_
      | refine Len.dropM ?_
      | refine Elem.dropM ?_
      | refine Len.takeM ?_
      | refine Elem.takeM ?_
      | refine Elem.mapK (by assumption) ?_
      | refine Elem.mapI (by omega) (by assumption) ?_
      | refine Elem.mapN (by omega) (fun x hx => ?_)
      | refine Elem.map (by omega) (by omega) (fun x hx => ?_)
      | refine (alive18_ok).use ⟨rfl, ?_⟩
      | refine CallX.mk ⟨_, _, (alive18_ok).x, rfl, ?_⟩
      | refine Done.mk ⟨rfl, rfl⟩
      | refine Done.mk ⟨congrArg gb ?_, rfl⟩
      | refine Done.mk ⟨?_, rfl⟩
      | refine Done.mk ⟨?_, ?_⟩)
    all_goals omega
  case pos =>
    have h1 := winNext_ok l m (by omega)
    have h2 := winLast_ok l (by omega) hf
    have hN : IsNext l m (nextM m (mkL l)) := (nextM_is (mkL l) none m (mkL_rf l)).congr (mkL_has l)
    have hL : IsLast l (lastM (mkL l)) := (lastM_is (mkL_rf l)).congr (mkL_has l)
    generalize nextM m (mkL l) = z at *
    obtain ⟨a, is⟩ := z
    generalize lastM (mkL l) = w at *
    obtain ⟨b, so⟩ := w
    have h5 := winMay_ok l n (by omega)
    cases is
    case false =>
      obtain ⟨rfl, hn⟩ := hN.no rfl
      cases so
      case false =>
        have hx := (hL.no rfl).2 n
        rw [hx] at h5
        refine ICalls.of_body Try.func8 rfl Try.call8 rfl (Nat.le_of_ble_eq_true rfl) (fun _ => none) rfl ?_
        repeat' ((conv => whnf); first
          | refine Br.yes rfl ?_
          | refine Br.no rfl ?_
          | refine Br.yes (beq_self_eq_true _) ?_
          | refine Br.not ?_
          | refine Br.yes (decide_eq_true (by assumption)) ?_
          | refine Br.no (decide_eq_false (by assumption)) ?_
          | refine Br.yes (beq_iff_eq.2 (by assumption)) ?_
          | refine Br.no (beq_eq_false_iff_ne.2 (by assumption)) ?_
          | refine Br.yes (bne_iff_ne.2 (by assumption)) ?_
          | (refine Br.dec (fun h => ?_) (fun h => ?_) <;> try dsimp only at h)
          | (refine Br.beqI (fun h => ?_) (fun h => ?_) <;> try dsimp only at h)
          | (refine Br.bneI (fun h => ?_) (fun h => ?_) <;> try dsimp only at h)
          | refine Br.mk (fun h => ?_) (fun h => ?_)
          | refine Need.mk (app_need (by first | (simp only [List.length_append, List.length_map, List.length_nil, List.length_cons, List.nil_append, Nat.zero_add, Nat.add_zero]; done) | (simp only [List.length_append, List.length_map, List.length_nil, List.length_cons, List.nil_append, Nat.zero_add, Nat.add_zero]; omega) | omega) (Nat.le_of_ble_eq_true rfl) (by first | (simp only [List.length_append, List.length_map, List.length_nil, List.length_cons, List.nil_append, Nat.zero_add, Nat.add_zero]; done) | (simp only [List.length_append, List.length_map, List.length_nil, List.length_cons, List.nil_append, Nat.zero_add, Nat.add_zero]; omega) | omega)) ?_
          | refine Need.mk (app_need0 (Nat.le_of_ble_eq_true rfl) (by first | (simp only [List.length_append, List.length_map, List.length_nil, List.length_cons, List.nil_append, Nat.zero_add, Nat.add_zero]; done) | (simp only [List.length_append, List.length_map, List.length_nil, List.length_cons, List.nil_append, Nat.zero_add, Nat.add_zero]; omega) | omega)) ?_
          | refine Need.mk (by first | kernel_rfl | exact ⟨of_decide_eq_true rfl, of_decide_eq_true rfl⟩ | omega) ?_
          | refine Len.mk ⟨_, by simp only [List.length_cons, List.length_nil, Nat.reduceAdd, Int.cast_ofNat_Int]; rfl, ?_⟩
          | refine Wr.lit _ (by simp only [Int.reduceAdd, Int.reduceSub, Int.reduceMul]; rfl) (by decide) ?_
          | refine Wr.fit (by omega) ?_
          | refine Wr.fit (by dsimp only; omega) ?_
          | refine Elem.mk ⟨_, ⟨of_decide_eq_true rfl, rfl⟩, ?_⟩
          | refine Len.map ?_
          | refine Len.dropM ?_
          | refine Elem.dropM ?_
          | refine Len.takeM ?_
          | refine Elem.takeM ?_
          | refine Elem.mapK (by assumption) ?_
          | refine Elem.mapI (by omega) (by assumption) ?_
          | refine Elem.mapN (by omega) (fun x hx => ?_)
          | refine Elem.map (by omega) (by omega) (fun x hx => ?_)
          | refine (h1).use ⟨rfl, ?_⟩
          | refine (h2).use ⟨rfl, ?_⟩
          | refine (h5).use ⟨rfl, ?_⟩
          | refine (alive18_ok).use ⟨rfl, ?_⟩
          | refine CallX.mk ⟨_, _, (h1).x, rfl, ?_⟩
          | refine CallX.mk ⟨_, _, (h2).x, rfl, ?_⟩
          | refine CallX.mk ⟨_, _, (h5).x, rfl, ?_⟩
          | refine CallX.mk ⟨_, _, (alive18_ok).x, rfl, ?_⟩
          | refine Done.mk ⟨rfl, rfl⟩
          | refine Done.mk ⟨congrArg gb ?_, rfl⟩
          | refine Done.mk ⟨?_, rfl⟩
          | refine Done.mk ⟨?_, ?_⟩)
        all_goals omega
      case true =>
        obtain ⟨k1, k2⟩ := hL.yes rfl
        simp only at k1 k2
        have h4 := (winMay_ok l b (by omega)).to (congrArg gb k1)
        have hx : hasL l n = true → ¬ m ≤ n ∧ ¬ b < n := fun e => ⟨fun h => (by rw [hn n h] at e; cases e), fun h => (by rw [k2 n h] at e; cases e)⟩
        generalize hasL l n = x at *
        cases x
        case false =>
          refine ICalls.of_body Try.func8 rfl Try.call8 rfl (Nat.le_of_ble_eq_true rfl) (fun _ => none) rfl ?_
          repeat' ((conv => whnf); first
            | refine Br.yes rfl ?_
            | refine Br.no rfl ?_
            | refine Br.yes (beq_self_eq_true _) ?_
            | refine Br.not ?_
            | refine Br.yes (decide_eq_true (by assumption)) ?_
            | refine Br.no (decide_eq_false (by assumption)) ?_
            | refine Br.yes (beq_iff_eq.2 (by assumption)) ?_
            | refine Br.no (beq_eq_false_iff_ne.2 (by assumption)) ?_
            | refine Br.yes (bne_iff_ne.2 (by assumption)) ?_
            | (refine Br.dec (fun h => ?_) (fun h => ?_) <;> try dsimp only at h)
            | (refine Br.beqI (fun h => ?_) (fun h => ?_) <;> try dsimp only at h)
            | (refine Br.bneI (fun h => ?_) (fun h => ?_) <;> try dsimp only at h)
            | refine Br.mk (fun h => ?_) (fun h => ?_)
            | refine Need.mk (app_need (by first | (simp only [List.length_append, List.length_map, List.length_nil, List.length_cons, List.nil_append, Nat.zero_add, Nat.add_zero]; done) | (simp only [List.length_append, List.length_map, List.length_nil, List.length_cons, List.nil_append, Nat.zero_add, Nat.add_zero]; omega) | omega) (Nat.le_of_ble_eq_true rfl) (by first | (simp only [List.length_append, List.length_map, List.length_nil, List.length_cons, List.nil_append, Nat.zero_add, Nat.add_zero]; done) | (simp only [List.length_append, List.length_map, List.length_nil, List.length_cons, List.nil_append, Nat.zero_add, Nat.add_zero]; omega) | omega)) ?_
            | refine Need.mk (app_need0 (Nat.le_of_ble_eq_true rfl) (by first | (simp only [List.length_append, List.length_map, List.length_nil, List.length_cons, List.nil_append, Nat.zero_add, Nat.add_zero]; done) | (simp only [List.length_append, List.length_map, List.length_nil, List.length_cons, List.nil_append, Nat.zero_add, Nat.add_zero]; omega) | omega)) ?_
            | refine Need.mk (by first | kernel_rfl | exact ⟨of_decide_eq_true rfl, of_decide_eq_true rfl⟩ | omega) ?_
            | refine Len.mk ⟨_, by simp only [List.length_cons, List.length_nil, Nat.reduceAdd, Int.cast_ofNat_Int]; rfl, ?_⟩
            | refine Wr.lit _ (by simp only [Int.reduceAdd, Int.reduceSub, Int.reduceMul]; rfl) (by decide) ?_
            | refine Wr.fit (by omega) ?_
            | refine Wr.fit (by dsimp only; omega) ?_
            | refine Elem.mk ⟨_, ⟨of_decide_eq_true rfl, rfl⟩, ?_⟩
            | refine Len.map ?_
            | refine Len.dropM ?_
            | refine Elem.dropM ?_
            | refine Len.takeM ?_
            | refine Elem.takeM ?_
            | refine Elem.mapK (by assumption) ?_
            | refine Elem.mapI (by omega) (by assumption) ?_
            | refine Elem.mapN (by omega) (fun x hx => ?_)
            | refine Elem.map (by omega) (by omega) (fun x hx => ?_)
            | refine (h1).use ⟨rfl, ?_⟩
            | refine (h2).use ⟨rfl, ?_⟩
            | refine (h4).use ⟨rfl, ?_⟩
            | refine (h5).use ⟨rfl, ?_⟩
            | refine (alive18_ok).use ⟨rfl, ?_⟩
            | refine CallX.mk ⟨_, _, (h1).x, rfl, ?_⟩
            | refine CallX.mk ⟨_, _, (h2).x, rfl, ?_⟩
            | refine CallX.mk ⟨_, _, (h4).x, rfl, ?_⟩
            | refine CallX.mk ⟨_, _, (h5).x, rfl, ?_⟩
            | refine CallX.mk ⟨_, _, (alive18_ok).x, rfl, ?_⟩
            | refine Done.mk ⟨rfl, rfl⟩
            | refine Done.mk ⟨congrArg gb ?_, rfl⟩
            | refine Done.mk ⟨?_, rfl⟩
            | refine Done.mk ⟨?_, ?_⟩)
          all_goals omega
        case true =>
          have x1 := (hx rfl).1
          have x2 := (hx rfl).2
          refine ICalls.of_body Try.func8 rfl Try.call8 rfl (Nat.le_of_ble_eq_true rfl) (fun _ => none) rfl ?_
          repeat' ((conv => whnf); first
            | refine Br.yes rfl ?_
            | refine Br.no rfl ?_
            | refine Br.yes (beq_self_eq_true _) ?_
            | refine Br.not ?_
            | refine Br.yes (decide_eq_true (by assumption)) ?_
            | refine Br.no (decide_eq_false (by assumption)) ?_
            | refine Br.yes (beq_iff_eq.2 (by assumption)) ?_
            | refine Br.no (beq_eq_false_iff_ne.2 (by assumption)) ?_
            | refine Br.yes (bne_iff_ne.2 (by assumption)) ?_
            | (refine Br.dec (fun h => ?_) (fun h => ?_) <;> try dsimp only at h)
            | (refine Br.beqI (fun h => ?_) (fun h => ?_) <;> try dsimp only at h)
            | (refine Br.bneI (fun h => ?_) (fun h => ?_) <;> try dsimp only at h)
            | refine Br.mk (fun h => ?_) (fun h => ?_)
            | refine Need.mk (app_need (by first | (simp only [List.length_append, List.length_map, List.length_nil, List.length_cons, List.nil_append, Nat.zero_add, Nat.add_zero]; done) | (simp only [List.length_append, List.length_map, List.length_nil, List.length_cons, List.nil_append, Nat.zero_add, Nat.add_zero]; omega) | omega) (Nat.le_of_ble_eq_true rfl) (by first | (simp only [List.length_append, List.length_map, List.length_nil, List.length_cons, List.nil_append, Nat.zero_add, Nat.add_zero]; done) | (simp only [List.length_append, List.length_map, List.length_nil, List.length_cons, List.nil_append, Nat.zero_add, Nat.add_zero]; omega) | omega)) ?_
            | refine Need.mk (app_need0 (Nat.le_of_ble_eq_true rfl) (by first | (simp only [List.length_append, List.length_map, List.length_nil, List.length_cons, List.nil_append, Nat.zero_add, Nat.add_zero]; done) | (simp only [List.length_append, List.length_map, List.length_nil, List.length_cons, List.nil_append, Nat.zero_add, Nat.add_zero]; omega) | omega)) ?_
            | refine Need.mk (by first | kernel_rfl | exact ⟨of_decide_eq_true rfl, of_decide_eq_true rfl⟩ | omega) ?_
            | refine Len.mk ⟨_, by simp only [List.length_cons, List.length_nil, Nat.reduceAdd, Int.cast_ofNat_Int]; rfl, ?_⟩
            | refine Wr.lit _ (by simp only [Int.reduceAdd, Int.reduceSub, Int.reduceMul]; rfl) (by decide) ?_
            | refine Wr.fit (by omega) ?_
            | refine Wr.fit (by dsimp only; omega) ?_
            | refine Elem.mk ⟨_, ⟨of_decide_eq_true rfl, rfl⟩, ?_⟩
            | refine Len.map ?_
            | refine Len.dropM ?_
            | refine Elem.dropM ?_
            | refine Len.takeM ?_
            | refine Elem.takeM ?_
            | refine Elem.mapK (by assumption) ?_
            | refine Elem.mapI (by omega) (by assumption) ?_
            | refine Elem.mapN (by omega) (fun x hx => ?_)
            | refine Elem.map (by omega) (by omega) (fun x hx => ?_)
            | refine (h1).use ⟨rfl, ?_⟩
            | refine (h2).use ⟨rfl, ?_⟩
            | refine (h4).use ⟨rfl, ?_⟩
            | refine (h5).use ⟨rfl, ?_⟩
            | refine (alive18_ok).use ⟨rfl, ?_⟩
            | refine CallX.mk ⟨_, _, (h1).x, rfl, ?_⟩
            | refine CallX.mk ⟨_, _, (h2).x, rfl, ?_⟩
            | refine CallX.mk ⟨_, _, (h4).x, rfl, ?_⟩
            | refine CallX.mk ⟨_, _, (h5).x, rfl, ?_⟩
            | refine CallX.mk ⟨_, _, (alive18_ok).x, rfl, ?_⟩
            | refine Done.mk ⟨rfl, rfl⟩
            | refine Done.mk ⟨congrArg gb ?_, rfl⟩
            | refine Done.mk ⟨?_, rfl⟩
            | refine Done.mk ⟨?_, ?_⟩)
          all_goals omega
    case true =>
      obtain ⟨j1, j2, j3⟩ := hN.yes rfl
      simp only at j1 j2 j3
      have hso : so = true := by
        cases so with
        | true => rfl
        | false => rw [(hL.no rfl).2 a] at j2; cases j2
      subst hso
      obtain ⟨k1, k2⟩ := hL.yes rfl
      simp only at k1 k2
      have hab : ¬ b < a := fun h => by rw [k2 a h] at j2; cases j2
      have h3 := (winMay_ok l a (by omega)).to (congrArg gb j2)
      have h4 := (winMay_ok l b (by omega)).to (congrArg gb k1)
      have hx : hasL l n = true → ¬ (m ≤ n ∧ n < a) ∧ ¬ b < n := fun e => ⟨fun h => (by rw [j3 n h.1 h.2] at e; cases e), fun h => (by rw [k2 n h] at e; cases e)⟩
      generalize hasL l n = x at *
      cases x
      case false =>
        refine ICalls.of_body Try.func8 rfl Try.call8 rfl (Nat.le_of_ble_eq_true rfl) (fun _ => none) rfl ?_
        repeat' ((conv => whnf); first
          | refine Br.yes rfl ?_
          | refine Br.no rfl ?_
          | refine Br.yes (beq_self_eq_true _) ?_
          | refine Br.not ?_
          | refine Br.yes (decide_eq_true (by assumption)) ?_
          | refine Br.no (decide_eq_false (by assumption)) ?_
          | refine Br.yes (beq_iff_eq.2 (by assumption)) ?_
          | refine Br.no (beq_eq_false_iff_ne.2 (by assumption)) ?_
          | refine Br.yes (bne_iff_ne.2 (by assumption)) ?_
          | (refine Br.dec (fun h => ?_) (fun h => ?_) <;> try dsimp only at h)
          | (refine Br.beqI (fun h => ?_) (fun h => ?_) <;> try dsimp only at h)
          | (refine Br.bneI (fun h => ?_) (fun h => ?_) <;> try dsimp only at h)
          | refine Br.mk (fun h => ?_) (fun h => ?_)
          | refine Need.mk (app_need (by first | (simp only [List.length_append, List.length_map, List.length_nil, List.length_cons, List.nil_append, Nat.zero_add, Nat.add_zero]; done) | (simp only [List.length_append, List.length_map, List.length_nil, List.length_cons, List.nil_append, Nat.zero_add, Nat.add_zero]; omega) | omega) (Nat.le_of_ble_eq_true rfl) (by first | (simp only [List.length_append, List.length_map, List.length_nil, List.length_cons, List.nil_append, Nat.zero_add, Nat.add_zero]; done) | (simp only [List.length_append, List.length_map, List.length_nil, List.length_cons, List.nil_append, Nat.zero_add, Nat.add_zero]; omega) | omega)) ?_
          | refine Need.mk (app_need0 (Nat.le_of_ble_eq_true rfl) (by first | (simp only [List.length_append, List.length_map, List.length_nil, List.length_cons, List.nil_append, Nat.zero_add, Nat.add_zero]; done) | (simp only [List.length_append, List.length_map, List.length_nil, List.length_cons, List.nil_append, Nat.zero_add, Nat.add_zero]; omega) | omega)) ?_
          | refine Need.mk (by first | kernel_rfl | exact ⟨of_decide_eq_true rfl, of_decide_eq_true rfl⟩ | omega) ?_
          | refine Len.mk ⟨_, by simp only [List.length_cons, List.length_nil, Nat.reduceAdd, Int.cast_ofNat_Int]; rfl, ?_⟩
          | refine Wr.lit _ (by simp only [Int.reduceAdd, Int.reduceSub, Int.reduceMul]; rfl) (by decide) ?_
          | refine Wr.fit (by omega) ?_
          | refine Wr.fit (by dsimp only; omega) ?_
          | refine Elem.mk ⟨_, ⟨of_decide_eq_true rfl, rfl⟩, ?_⟩
          | refine Len.map ?_
          | refine Len.dropM ?_
          | refine Elem.dropM ?_
          | refine Len.takeM ?_
          | refine Elem.takeM ?_
          | refine Elem.mapK (by assumption) ?_
          | refine Elem.mapI (by omega) (by assumption) ?_
          | refine Elem.mapN (by omega) (fun x hx => ?_)
          | refine Elem.map (by omega) (by omega) (fun x hx => ?_)
          | refine (h1).use ⟨rfl, ?_⟩
          | refine (h2).use ⟨rfl, ?_⟩
          | refine (h3).use ⟨rfl, ?_⟩
          | refine (h4).use ⟨rfl, ?_⟩
          | refine (h5).use ⟨rfl, ?_⟩
          | refine (alive18_ok).use ⟨rfl, ?_⟩
          | refine CallX.mk ⟨_, _, (h1).x, rfl, ?_⟩
          | refine CallX.mk ⟨_, _, (h2).x, rfl, ?_⟩
          | refine CallX.mk ⟨_, _, (h3).x, rfl, ?_⟩
          | refine CallX.mk ⟨_, _, (h4).x, rfl, ?_⟩
          | refine CallX.mk ⟨_, _, (h5).x, rfl, ?_⟩
          | refine CallX.mk ⟨_, _, (alive18_ok).x, rfl, ?_⟩
          | refine Done.mk ⟨rfl, rfl⟩
          | refine Done.mk ⟨congrArg gb ?_, rfl⟩
          | refine Done.mk ⟨?_, rfl⟩
          | refine Done.mk ⟨?_, ?_⟩)
        all_goals omega
      case true =>
        have x1 := (hx rfl).1
        have x2 := (hx rfl).2
        refine ICalls.of_body Try.func8 rfl Try.call8 rfl (Nat.le_of_ble_eq_true rfl) (fun _ => none) rfl ?_
        repeat' ((conv => whnf); first
          | refine Br.yes rfl ?_
          | refine Br.no rfl ?_
          | refine Br.yes (beq_self_eq_true _) ?_
          | refine Br.not ?_
          | refine Br.yes (decide_eq_true (by assumption)) ?_
          | refine Br.no (decide_eq_false (by assumption)) ?_
          | refine Br.yes (beq_iff_eq.2 (by assumption)) ?_
          | refine Br.no (beq_eq_false_iff_ne.2 (by assumption)) ?_
          | refine Br.yes (bne_iff_ne.2 (by assumption)) ?_
          | (refine Br.dec (fun h => ?_) (fun h => ?_) <;> try dsimp only at h)
          | (refine Br.beqI (fun h => ?_) (fun h => ?_) <;> try dsimp only at h)
          | (refine Br.bneI (fun h => ?_) (fun h => ?_) <;> try dsimp only at h)
          | refine Br.mk (fun h => ?_) (fun h => ?_)
          | refine Need.mk (app_need (by first | (simp only [List.length_append, List.length_map, List.length_nil, List.length_cons, List.nil_append, Nat.zero_add, Nat.add_zero]; done) | (simp only [List.length_append, List.length_map, List.length_nil, List.length_cons, List.nil_append, Nat.zero_add, Nat.add_zero]; omega) | omega) (Nat.le_of_ble_eq_true rfl) (by first | (simp only [List.length_append, List.length_map, List.length_nil, List.length_cons, List.nil_append, Nat.zero_add, Nat.add_zero]; done) | (simp only [List.length_append, List.length_map, List.length_nil, List.length_cons, List.nil_append, Nat.zero_add, Nat.add_zero]; omega) | omega)) ?_
          | refine Need.mk (app_need0 (Nat.le_of_ble_eq_true rfl) (by first | (simp only [List.length_append, List.length_map, List.length_nil, List.length_cons, List.nil_append, Nat.zero_add, Nat.add_zero]; done) | (simp only [List.length_append, List.length_map, List.length_nil, List.length_cons, List.nil_append, Nat.zero_add, Nat.add_zero]; omega) | omega)) ?_
          | refine Need.mk (by first | kernel_rfl | exact ⟨of_decide_eq_true rfl, of_decide_eq_true rfl⟩ | omega) ?_
          | refine Len.mk ⟨_, by simp only [List.length_cons, List.length_nil, Nat.reduceAdd, Int.cast_ofNat_Int]; rfl, ?_⟩
          | refine Wr.lit _ (by simp only [Int.reduceAdd, Int.reduceSub, Int.reduceMul]; rfl) (by decide) ?_
          | refine Wr.fit (by omega) ?_
          | refine Wr.fit (by dsimp only; omega) ?_
          | refine Elem.mk ⟨_, ⟨of_decide_eq_true rfl, rfl⟩, ?_⟩
          | refine Len.map ?_
          | refine Len.dropM ?_
          | refine Elem.dropM ?_
          | refine Len.takeM ?_
          | refine Elem.takeM ?_
          | refine Elem.mapK (by assumption) ?_
          | refine Elem.mapI (by omega) (by assumption) ?_
          | refine Elem.mapN (by omega) (fun x hx => ?_)
          | refine Elem.map (by omega) (by omega) (fun x hx => ?_)
          | refine (h1).use ⟨rfl, ?_⟩
          | refine (h2).use ⟨rfl, ?_⟩
          | refine (h3).use ⟨rfl, ?_⟩
          | refine (h4).use ⟨rfl, ?_⟩
          | refine (h5).use ⟨rfl, ?_⟩
          | refine (alive18_ok).use ⟨rfl, ?_⟩
          | refine CallX.mk ⟨_, _, (h1).x, rfl, ?_⟩
          | refine CallX.mk ⟨_, _, (h2).x, rfl, ?_⟩
          | refine CallX.mk ⟨_, _, (h3).x, rfl, ?_⟩
          | refine CallX.mk ⟨_, _, (h4).x, rfl, ?_⟩
          | refine CallX.mk ⟨_, _, (h5).x, rfl, ?_⟩
          | refine CallX.mk ⟨_, _, (alive18_ok).x, rfl, ?_⟩
          | refine Done.mk ⟨rfl, rfl⟩
          | refine Done.mk ⟨congrArg gb ?_, rfl⟩
          | refine Done.mk ⟨?_, rfl⟩
          | refine Done.mk ⟨?_, ?_⟩)
        all_goals omega

theorem windowNext_law (g0 : GV) (h0 : ArgOk (.list spanTy) g0) (g1 : GV) (h1 : ArgOk .int g1) (g2 : GV) (h2 : ArgOk .int g2) :
    ICalls Try.prog 8 [g0, g1, g2] [] (Done (gb true) []) := by
  obtain ⟨l, rfl, hf⟩ := list_of el_span h0
  obtain ⟨m, rfl, _⟩ := int_of h1
  obtain ⟨n, rfl, _⟩ := int_of h2
  exact windowNext_ok l m n hf
theorem windowChecks_law (g0 : GV) (h0 : ArgOk (.list spanTy) g0) (g1 : GV) (h1 : ArgOk .int g1) :
    ICalls Try.prog 10 [g0, g1] [] (Done (gb true) []) := by
  obtain ⟨l, rfl, hf⟩ := list_of el_span h0
  obtain ⟨m, rfl, _⟩ := int_of h1
  exact windowChecks_ok l m hf
theorem windowShut_law (g0 : GV) (h0 : ArgOk (.list spanTy) g0) (g1 : GV) (h1 : ArgOk spanTy g1) (g2 : GV) (h2 : ArgOk .int g2) :
    ICalls Try.prog 9 [g0, g1, g2] [] (Done (gb true) []) := by
  obtain ⟨l, rfl, hf⟩ := list_of el_span h0
  obtain ⟨s, rfl, _⟩ := agg_of span_wt h1
  obtain ⟨m, rfl, _⟩ := int_of h2
  exact windowShut_ok l s m

end Go.Hl
