/- Contracts of functions, bundle H13; proved for whatever the arguments' types allow, as each theorem says. -/
import Derived.Test.YteckhahneieicaaH12
import Derived.Test.YteckhahneieicaaH1

/- Laws of chapter 25: plays, bounds.  -/
set_option linter.unusedVariables false
set_option linter.unusedSimpArgs false
namespace Go.Hl
open Go.Gh Go.Proofs

theorem lab_europe (l : List Task) (x : Lab) : labErr Book.europe l x = spotErr l x := if_pos (by decide +kernel)
theorem play_law {b : Book} {l : List Task} : ∀ (ks : List Int) {x : Lab}, labErr b l x = 0 → (playN b l ks x).2 = true →
    labErr b l (playN b l ks x).1 = 0 ∧ (playN b l ks x).1.m.Now = x.m.Now + ks.length ∧
    x.m.Now + leftD l x.s + leftS l x.s ≤ (playN b l ks x).1.m.Now + leftD l (playN b l ks x).1.s + leftS l (playN b l ks x).1.s
  | [], x, he, h => ⟨he, by simp [playN], by simp [playN]⟩
  | k :: r, x, he, h => by
    unfold playN at h ⊢
    split at h
    · rename_i h1
      rw [if_pos h1]
      have hk : 0 ≤ k ∧ k < 4 := by
        apply Classical.byContradiction
        intro hn
        have := lstep_bad he (k := k) (by omega)
        rw [this] at h1; cases h1
      obtain ⟨g1, g2, g3⟩ := lstep_keep he hk h1
      obtain ⟨g4, g5, g6⟩ := play_law r g1 h
      refine ⟨g4, by rw [g5, g2, List.length_cons]; omega, ?_⟩
      have : (if k = 3 ∨ k = 2 then (1 : Int) else 0) ≤ 1 := by split <;> omega
      omega
    · cases h

set_option maxRecDepth 100000 in
set_option maxHeartbeats 4000000 in
theorem labelPlays_ok (b : Book) (l : List Task) (x : Lab) (ks : List Int) : ICalls Try.prog 9 [b.g, .agg (.list 3 (tasks l) none :: x.c), .list 1 (ints ks) none] [] (Done (gb true) []) := by
  by_cases hl : lightB l = true
  case neg =>
    refine ICalls.of_body Try.func9 rfl Try.call9 rfl (Nat.le_of_ble_eq_true rfl) (fun _ => none) ?_
    repeat' ((conv => whnf); first
      | refine Br.yes rfl ?_
      | refine Br.no rfl ?_
      | refine Br.yes (beq_self_eq_true _) ?_
      | refine Br.not ?_
      | refine Br.yes (decide_eq_true (by assumption)) ?_
      | refine Br.no (decide_eq_false (by assumption)) ?_
      | refine Br.yes (beq_iff_eq.2 (by assumption)) ?_
      | refine Br.no (beq_eq_false_iff_ne.2 (by assumption)) ?_
      | refine Br.yes (bne_iff_ne.2 (by assumption)) ?_
      | (refine Br.dec (fun h => ?_) (fun h => ?_) <;> try dsimp only at h)
      | (refine Br.beqI (fun h => ?_) (fun h => ?_) <;> try dsimp only at h)
      | (refine Br.bneI (fun h => ?_) (fun h => ?_) <;> try dsimp only at h)
      | refine Br.mk (fun h => ?_) (fun h => ?_)
      | refine Need.mk (app_need (by first | (simp only [List.length_append, List.length_map, List.length_nil, List.length_cons, List.nil_append, Nat.zero_add, Nat.add_zero]; done) | (simp only [List.length_append, List.length_map, List.length_nil, List.length_cons, List.nil_append, Nat.zero_add, Nat.add_zero]; omega) | omega) (Nat.le_of_ble_eq_true rfl) (by first | (simp only [List.length_append, List.length_map, List.length_nil, List.length_cons, List.nil_append, Nat.zero_add, Nat.add_zero]; done) | (simp only [List.length_append, List.length_map, List.length_nil, List.length_cons, List.nil_append, Nat.zero_add, Nat.add_zero]; omega) | omega)) ?_
      | refine Need.mk (app_need0 (Nat.le_of_ble_eq_true rfl) (by first | (simp only [List.length_append, List.length_map, List.length_nil, List.length_cons, List.nil_append, Nat.zero_add, Nat.add_zero]; done) | (simp only [List.length_append, List.length_map, List.length_nil, List.length_cons, List.nil_append, Nat.zero_add, Nat.add_zero]; omega) | omega)) ?_
      | refine Need.mk (by first | kernel_rfl | exact ⟨of_decide_eq_true rfl, of_decide_eq_true rfl⟩ | omega) ?_
      | refine Len.mk ⟨_, by simp only [List.length_cons, List.length_nil, Nat.reduceAdd, Int.cast_ofNat_Int]; rfl, ?_⟩
      | refine Wr.lit _ (by simp only [Int.reduceAdd, Int.reduceSub, Int.reduceMul]; rfl) (by decide) ?_
      | refine Wr.fit (by omega) ?_
      | refine Wr.fit (by dsimp only; omega) ?_
      | refine Elem.mk ⟨_, ⟨of_decide_eq_true rfl, rfl⟩, ?_⟩
      | refine Len.map ?_
      | refine Len.dropM ?_
      | refine Elem.dropM ?_
      | refine Len.takeM ?_
      | refine Elem.takeM ?_
      | refine Elem.mapK (by assumption) ?_
      | refine Elem.mapI (by omega) (by assumption) ?_
      | refine Elem.mapN (by omega) (fun x hx => ?_)
      | refine Elem.map (by omega) (by omega) (fun x hx => ?_)
      | refine ((light_ok l).to (congrArg gb (Bool.eq_false_iff.2 hl))).use ⟨rfl, ?_⟩
      | refine (alive25_ok).use ⟨rfl, ?_⟩
      | refine CallX.mk ⟨_, _, ((light_ok l).to (congrArg gb (Bool.eq_false_iff.2 hl))).x, rfl, ?_⟩
      | refine CallX.mk ⟨_, _, (alive25_ok).x, rfl, ?_⟩
      | refine Done.mk ⟨rfl, rfl⟩
      | refine Done.mk ⟨congrArg gb ?_, rfl⟩
      | refine Done.mk ⟨?_, rfl⟩
      | refine Done.mk ⟨?_, ?_⟩)
  case pos =>
  have hlen := lightB_len hl
  by_cases hk : (ks.length : Int) ≤ 1000000000
  case neg =>
    refine ICalls.of_body Try.func9 rfl Try.call9 rfl (Nat.le_of_ble_eq_true rfl) (fun _ => none) ?_
    repeat' ((conv => whnf); first
      | refine Br.yes rfl ?_
      | refine Br.no rfl ?_
      | refine Br.yes (beq_self_eq_true _) ?_
      | refine Br.not ?_
      | refine Br.yes (decide_eq_true (by assumption)) ?_
      | refine Br.no (decide_eq_false (by assumption)) ?_
      | refine Br.yes (beq_iff_eq.2 (by assumption)) ?_
      | refine Br.no (beq_eq_false_iff_ne.2 (by assumption)) ?_
      | refine Br.yes (bne_iff_ne.2 (by assumption)) ?_
      | (refine Br.dec (fun h => ?_) (fun h => ?_) <;> try dsimp only at h)
      | (refine Br.beqI (fun h => ?_) (fun h => ?_) <;> try dsimp only at h)
      | (refine Br.bneI (fun h => ?_) (fun h => ?_) <;> try dsimp only at h)
      | refine Br.mk (fun h => ?_) (fun h => ?_)
      | refine Need.mk (app_need (by first | (simp only [List.length_append, List.length_map, List.length_nil, List.length_cons, List.nil_append, Nat.zero_add, Nat.add_zero]; done) | (simp only [List.length_append, List.length_map, List.length_nil, List.length_cons, List.nil_append, Nat.zero_add, Nat.add_zero]; omega) | omega) (Nat.le_of_ble_eq_true rfl) (by first | (simp only [List.length_append, List.length_map, List.length_nil, List.length_cons, List.nil_append, Nat.zero_add, Nat.add_zero]; done) | (simp only [List.length_append, List.length_map, List.length_nil, List.length_cons, List.nil_append, Nat.zero_add, Nat.add_zero]; omega) | omega)) ?_
      | refine Need.mk (app_need0 (Nat.le_of_ble_eq_true rfl) (by first | (simp only [List.length_append, List.length_map, List.length_nil, List.length_cons, List.nil_append, Nat.zero_add, Nat.add_zero]; done) | (simp only [List.length_append, List.length_map, List.length_nil, List.length_cons, List.nil_append, Nat.zero_add, Nat.add_zero]; omega) | omega)) ?_
      | refine Need.mk (by first | kernel_rfl | exact ⟨of_decide_eq_true rfl, of_decide_eq_true rfl⟩ | omega) ?_
      | refine Len.mk ⟨_, by simp only [List.length_cons, List.length_nil, Nat.reduceAdd, Int.cast_ofNat_Int]; rfl, ?_⟩
      | refine Wr.lit _ (by simp only [Int.reduceAdd, Int.reduceSub, Int.reduceMul]; rfl) (by decide) ?_
      | refine Wr.fit (by omega) ?_
      | refine Wr.fit (by dsimp only; omega) ?_
      | refine Elem.mk ⟨_, ⟨of_decide_eq_true rfl, rfl⟩, ?_⟩
      | refine Len.map ?_
      | refine Len.dropM ?_
      | refine Elem.dropM ?_
      | refine Len.takeM ?_
      | refine Elem.takeM ?_
      | refine Elem.mapK (by assumption) ?_
      | refine Elem.mapI (by omega) (by assumption) ?_
      | refine Elem.mapN (by omega) (fun x hx => ?_)
      | refine Elem.map (by omega) (by omega) (fun x hx => ?_)
      | refine ((light_ok l).to (congrArg gb hl)).use ⟨rfl, ?_⟩
      | refine (alive25_ok).use ⟨rfl, ?_⟩
      | refine CallX.mk ⟨_, _, ((light_ok l).to (congrArg gb hl)).x, rfl, ?_⟩
      | refine CallX.mk ⟨_, _, (alive25_ok).x, rfl, ?_⟩
      | refine Done.mk ⟨rfl, rfl⟩
      | refine Done.mk ⟨congrArg gb ?_, rfl⟩
      | refine Done.mk ⟨?_, rfl⟩
      | refine Done.mk ⟨?_, ?_⟩)
    all_goals (exfalso; omega)
  case pos =>
    have hb := bound_ok l x
    have hp := play_ok b l x ks hk
    have h1 := refLabCheck_ok b l x (by omega)
    have h2 := (refLabCheck_ok Book.europe l x (by omega)).to (congrArg gi (lab_europe l x))
    by_cases he : labErr b l x = 0
    case pos =>
      obtain ⟨hbm, hs⟩ := labErr_0 he
      have hr := refPlay_ok b l x ks hk he
      have hrb := refBound_ok l x hs
      rw [if_pos hs, hs] at hb
      rw [hs] at h2
      rw [if_pos he, he] at hp
      rw [he] at h1
      generalize playN b l ks x = q at *
      generalize x.m.Now + leftD l x.s + leftS l x.s = n at *
      obtain ⟨y, i⟩ := q
      clear he hs
      refine ICalls.of_body Try.func9 rfl Try.call9 rfl (Nat.le_of_ble_eq_true rfl) (fun _ => none) ?_
      repeat' ((conv => whnf); first
        | refine Br.yes rfl ?_
        | refine Br.no rfl ?_
        | refine Need.mk (EqRun.deep (by kernel_rfl) rfl) ?_
        | refine Br.yes (beq_self_eq_true _) ?_
        | refine Br.not ?_
        | refine Br.yes (decide_eq_true (by assumption)) ?_
        | refine Br.no (decide_eq_false (by assumption)) ?_
        | refine Br.yes (beq_iff_eq.2 (by assumption)) ?_
        | refine Br.no (beq_eq_false_iff_ne.2 (by assumption)) ?_
        | refine Br.yes (bne_iff_ne.2 (by assumption)) ?_
        | (refine Br.dec (fun h => ?_) (fun h => ?_) <;> try dsimp only at h)
        | (refine Br.beqI (fun h => ?_) (fun h => ?_) <;> try dsimp only at h)
        | (refine Br.bneI (fun h => ?_) (fun h => ?_) <;> try dsimp only at h)
        | refine Br.mk (fun h => ?_) (fun h => ?_)
        | refine Need.mk (app_need (by first | (simp only [List.length_append, List.length_map, List.length_nil, List.length_cons, List.nil_append, Nat.zero_add, Nat.add_zero]; done) | (simp only [List.length_append, List.length_map, List.length_nil, List.length_cons, List.nil_append, Nat.zero_add, Nat.add_zero]; omega) | omega) (Nat.le_of_ble_eq_true rfl) (by first | (simp only [List.length_append, List.length_map, List.length_nil, List.length_cons, List.nil_append, Nat.zero_add, Nat.add_zero]; done) | (simp only [List.length_append, List.length_map, List.length_nil, List.length_cons, List.nil_append, Nat.zero_add, Nat.add_zero]; omega) | omega)) ?_
        | refine Need.mk (app_need0 (Nat.le_of_ble_eq_true rfl) (by first | (simp only [List.length_append, List.length_map, List.length_nil, List.length_cons, List.nil_append, Nat.zero_add, Nat.add_zero]; done) | (simp only [List.length_append, List.length_map, List.length_nil, List.length_cons, List.nil_append, Nat.zero_add, Nat.add_zero]; omega) | omega)) ?_
        | refine Need.mk (by first | kernel_rfl | exact ⟨of_decide_eq_true rfl, of_decide_eq_true rfl⟩ | omega) ?_
        | refine Len.mk ⟨_, by simp only [List.length_cons, List.length_nil, Nat.reduceAdd, Int.cast_ofNat_Int]; rfl, ?_⟩
        | refine Wr.lit _ (by simp only [Int.reduceAdd, Int.reduceSub, Int.reduceMul]; rfl) (by decide) ?_
        | refine Wr.fit (by omega) ?_
        | refine Wr.fit (by dsimp only; omega) ?_
        | refine Elem.mk ⟨_, ⟨of_decide_eq_true rfl, rfl⟩, ?_⟩
        | refine Len.map ?_
        | refine Len.dropM ?_
        | refine Elem.dropM ?_
        | refine Len.takeM ?_
        | refine Elem.takeM ?_
        | refine Elem.mapK (by assumption) ?_
        | refine Elem.mapI (by omega) (by assumption) ?_
        | refine Elem.mapN (by omega) (fun x hx => ?_)
        | refine Elem.map (by omega) (by omega) (fun x hx => ?_)
        | refine ((light_ok l).to (congrArg gb hl)).use ⟨rfl, ?_⟩
        | refine (hp).use ⟨rfl, ?_⟩
        | refine (hb).use ⟨rfl, ?_⟩
        | refine (h1).use ⟨rfl, ?_⟩
        | refine (h2).use ⟨rfl, ?_⟩
        | refine (hr).use ⟨rfl, ?_⟩
        | refine (hrb).use ⟨rfl, ?_⟩
        | refine (europe_ok).use ⟨rfl, ?_⟩
        | refine (alive25_ok).use ⟨rfl, ?_⟩
        | refine CallX.mk ⟨_, _, ((light_ok l).to (congrArg gb hl)).x, rfl, ?_⟩
        | refine CallX.mk ⟨_, _, (hp).x, rfl, ?_⟩
        | refine CallX.mk ⟨_, _, (hb).x, rfl, ?_⟩
        | refine CallX.mk ⟨_, _, (h1).x, rfl, ?_⟩
        | refine CallX.mk ⟨_, _, (h2).x, rfl, ?_⟩
        | refine CallX.mk ⟨_, _, (hr).x, rfl, ?_⟩
        | refine CallX.mk ⟨_, _, (hrb).x, rfl, ?_⟩
        | refine CallX.mk ⟨_, _, (europe_ok).x, rfl, ?_⟩
        | refine CallX.mk ⟨_, _, (alive25_ok).x, rfl, ?_⟩
        | refine Done.mk ⟨rfl, rfl⟩
        | refine Done.mk ⟨congrArg gb ?_, rfl⟩
        | refine Done.mk ⟨?_, rfl⟩
        | refine Done.mk ⟨?_, ?_⟩)
      all_goals (clear hb hrb hp hr h1 h2; simp at h)
    case neg =>
      rw [if_neg he] at hp
      by_cases hs : spotErr l x = 0
      case pos =>
        have hrb := refBound_ok l x hs
        rw [if_pos hs, hs] at hb
        rw [hs] at h2
        generalize x.m.Now + leftD l x.s + leftS l x.s = n at *
        generalize labErr b l x = e at *
        clear hs
        refine ICalls.of_body Try.func9 rfl Try.call9 rfl (Nat.le_of_ble_eq_true rfl) (fun _ => none) ?_
        repeat' ((conv => whnf); first
          | refine Br.yes rfl ?_
          | refine Br.no rfl ?_
          | refine Need.mk (EqRun.deep (by kernel_rfl) rfl) ?_
          | refine Br.yes (beq_self_eq_true _) ?_
          | refine Br.not ?_
          | refine Br.yes (decide_eq_true (by assumption)) ?_
          | refine Br.no (decide_eq_false (by assumption)) ?_
          | refine Br.yes (beq_iff_eq.2 (by assumption)) ?_
          | refine Br.no (beq_eq_false_iff_ne.2 (by assumption)) ?_
          | refine Br.yes (bne_iff_ne.2 (by assumption)) ?_
          | (refine Br.dec (fun h => ?_) (fun h => ?_) <;> try dsimp only at h)
          | (refine Br.beqI (fun h => ?_) (fun h => ?_) <;> try dsimp only at h)
          | (refine Br.bneI (fun h => ?_) (fun h => ?_) <;> try dsimp only at h)
          | refine Br.mk (fun h => ?_) (fun h => ?_)
          | refine Need.mk (app_need (by first | (simp only [List.length_append, List.length_map, List.length_nil, List.length_cons, List.nil_append, Nat.zero_add, Nat.add_zero]; done) | (simp only [List.length_append, List.length_map, List.length_nil, List.length_cons, List.nil_append, Nat.zero_add, Nat.add_zero]; omega) | omega) (Nat.le_of_ble_eq_true rfl) (by first | (simp only [List.length_append, List.length_map, List.length_nil, List.length_cons, List.nil_append, Nat.zero_add, Nat.add_zero]; done) | (simp only [List.length_append, List.length_map, List.length_nil, List.length_cons, List.nil_append, Nat.zero_add, Nat.add_zero]; omega) | omega)) ?_
          | refine Need.mk (app_need0 (Nat.le_of_ble_eq_true rfl) (by first | (simp only [List.length_append, List.length_map, List.length_nil, List.length_cons, List.nil_append, Nat.zero_add, Nat.add_zero]; done) | (simp only [List.length_append, List.length_map, List.length_nil, List.length_cons, List.nil_append, Nat.zero_add, Nat.add_zero]; omega) | omega)) ?_
          | refine Need.mk (by first | kernel_rfl | exact ⟨of_decide_eq_true rfl, of_decide_eq_true rfl⟩ | omega) ?_
          | refine Len.mk ⟨_, by simp only [List.length_cons, List.length_nil, Nat.reduceAdd, Int.cast_ofNat_Int]; rfl, ?_⟩
          | refine Wr.lit _ (by simp only [Int.reduceAdd, Int.reduceSub, Int.reduceMul]; rfl) (by decide) ?_
          | refine Wr.fit (by omega) ?_
          | refine Wr.fit (by dsimp only; omega) ?_
          | refine Elem.mk ⟨_, ⟨of_decide_eq_true rfl, rfl⟩, ?_⟩
          | refine Len.map ?_
          | refine Len.dropM ?_
          | refine Elem.dropM ?_
          | refine Len.takeM ?_
          | refine Elem.takeM ?_
          | refine Elem.mapK (by assumption) ?_
          | refine Elem.mapI (by omega) (by assumption) ?_
          | refine Elem.mapN (by omega) (fun x hx => ?_)
          | refine Elem.map (by omega) (by omega) (fun x hx => ?_)
          | refine ((light_ok l).to (congrArg gb hl)).use ⟨rfl, ?_⟩
          | refine (hp).use ⟨rfl, ?_⟩
          | refine (hb).use ⟨rfl, ?_⟩
          | refine (h1).use ⟨rfl, ?_⟩
          | refine (h2).use ⟨rfl, ?_⟩
          | refine (hrb).use ⟨rfl, ?_⟩
          | refine (europe_ok).use ⟨rfl, ?_⟩
          | refine (alive25_ok).use ⟨rfl, ?_⟩
          | refine CallX.mk ⟨_, _, ((light_ok l).to (congrArg gb hl)).x, rfl, ?_⟩
          | refine CallX.mk ⟨_, _, (hp).x, rfl, ?_⟩
          | refine CallX.mk ⟨_, _, (hb).x, rfl, ?_⟩
          | refine CallX.mk ⟨_, _, (h1).x, rfl, ?_⟩
          | refine CallX.mk ⟨_, _, (h2).x, rfl, ?_⟩
          | refine CallX.mk ⟨_, _, (hrb).x, rfl, ?_⟩
          | refine CallX.mk ⟨_, _, (europe_ok).x, rfl, ?_⟩
          | refine CallX.mk ⟨_, _, (alive25_ok).x, rfl, ?_⟩
          | refine Done.mk ⟨rfl, rfl⟩
          | refine Done.mk ⟨congrArg gb ?_, rfl⟩
          | refine Done.mk ⟨?_, rfl⟩
          | refine Done.mk ⟨?_, ?_⟩)
      case neg =>
        rw [if_neg hs] at hb
        generalize spotErr l x = f at *
        generalize labErr b l x = e at *
        refine ICalls.of_body Try.func9 rfl Try.call9 rfl (Nat.le_of_ble_eq_true rfl) (fun _ => none) ?_
        repeat' ((conv => whnf); first
          | refine Br.yes rfl ?_
          | refine Br.no rfl ?_
          | refine Need.mk (EqRun.deep (by kernel_rfl) rfl) ?_
          | refine Br.yes (beq_self_eq_true _) ?_
          | refine Br.not ?_
          | refine Br.yes (decide_eq_true (by assumption)) ?_
          | refine Br.no (decide_eq_false (by assumption)) ?_
          | refine Br.yes (beq_iff_eq.2 (by assumption)) ?_
          | refine Br.no (beq_eq_false_iff_ne.2 (by assumption)) ?_
          | refine Br.yes (bne_iff_ne.2 (by assumption)) ?_
          | (refine Br.dec (fun h => ?_) (fun h => ?_) <;> try dsimp only at h)
          | (refine Br.beqI (fun h => ?_) (fun h => ?_) <;> try dsimp only at h)
          | (refine Br.bneI (fun h => ?_) (fun h => ?_) <;> try dsimp only at h)
          | refine Br.mk (fun h => ?_) (fun h => ?_)
          | refine Need.mk (app_need (by first | (simp only [List.length_append, List.length_map, List.length_nil, List.length_cons, List.nil_append, Nat.zero_add, Nat.add_zero]; done) | (simp only [List.length_append, List.length_map, List.length_nil, List.length_cons, List.nil_append, Nat.zero_add, Nat.add_zero]; omega) | omega) (Nat.le_of_ble_eq_true rfl) (by first | (simp only [List.length_append, List.length_map, List.length_nil, List.length_cons, List.nil_append, Nat.zero_add, Nat.add_zero]; done) | (simp only [List.length_append, List.length_map, List.length_nil, List.length_cons, List.nil_append, Nat.zero_add, Nat.add_zero]; omega) | omega)) ?_
          | refine Need.mk (app_need0 (Nat.le_of_ble_eq_true rfl) (by first | (simp only [List.length_append, List.length_map, List.length_nil, List.length_cons, List.nil_append, Nat.zero_add, Nat.add_zero]; done) | (simp only [List.length_append, List.length_map, List.length_nil, List.length_cons, List.nil_append, Nat.zero_add, Nat.add_zero]; omega) | omega)) ?_
          | refine Need.mk (by first | kernel_rfl | exact ⟨of_decide_eq_true rfl, of_decide_eq_true rfl⟩ | omega) ?_
          | refine Len.mk ⟨_, by simp only [List.length_cons, List.length_nil, Nat.reduceAdd, Int.cast_ofNat_Int]; rfl, ?_⟩
          | refine Wr.lit _ (by simp only [Int.reduceAdd, Int.reduceSub, Int.reduceMul]; rfl) (by decide) ?_
          | refine Wr.fit (by omega) ?_
          | refine Wr.fit (by dsimp only; omega) ?_
          | refine Elem.mk ⟨_, ⟨of_decide_eq_true rfl, rfl⟩, ?_⟩
          | refine Len.map ?_
          | refine Len.dropM ?_
          | refine Elem.dropM ?_
          | refine Len.takeM ?_
          | refine Elem.takeM ?_
          | refine Elem.mapK (by assumption) ?_
          | refine Elem.mapI (by omega) (by assumption) ?_
          | refine Elem.mapN (by omega) (fun x hx => ?_)
          | refine Elem.map (by omega) (by omega) (fun x hx => ?_)
          | refine ((light_ok l).to (congrArg gb hl)).use ⟨rfl, ?_⟩
          | refine (hp).use ⟨rfl, ?_⟩
          | refine (hb).use ⟨rfl, ?_⟩
          | refine (h1).use ⟨rfl, ?_⟩
          | refine (h2).use ⟨rfl, ?_⟩
          | refine (europe_ok).use ⟨rfl, ?_⟩
          | refine (alive25_ok).use ⟨rfl, ?_⟩
          | refine CallX.mk ⟨_, _, ((light_ok l).to (congrArg gb hl)).x, rfl, ?_⟩
          | refine CallX.mk ⟨_, _, (hp).x, rfl, ?_⟩
          | refine CallX.mk ⟨_, _, (hb).x, rfl, ?_⟩
          | refine CallX.mk ⟨_, _, (h1).x, rfl, ?_⟩
          | refine CallX.mk ⟨_, _, (h2).x, rfl, ?_⟩
          | refine CallX.mk ⟨_, _, (europe_ok).x, rfl, ?_⟩
          | refine CallX.mk ⟨_, _, (alive25_ok).x, rfl, ?_⟩
          | refine Done.mk ⟨rfl, rfl⟩
          | refine Done.mk ⟨congrArg gb ?_, rfl⟩
          | refine Done.mk ⟨?_, rfl⟩
          | refine Done.mk ⟨?_, ?_⟩)

theorem bound_next {b : Book} {l : List Task} {x : Lab} {k : Int} (he : labErr b l x = 0) (hk : 0 ≤ k ∧ k < 4) (h : (lstep b l x k).2 = true) :
    ICalls Try.prog 29 [.list 3 (tasks l) none, (lstep b l x k).1.g] [] (Done (.tup [gi (x.m.Now + leftD l x.s + leftS l x.s + (if k = 3 ∨ k = 2 then 0 else 1)), gi 0]) []) ∧ (lstep b l x k).1.m.Now = x.m.Now + 1 := by
  obtain ⟨g1, g2, g3⟩ := lstep_keep he hk h
  have hb := bound_ok l (lstep b l x k).1
  rw [if_pos (labErr_0 g1).2, (labErr_0 g1).2] at hb
  refine ⟨hb.to (congrArg (fun q => GV.tup [gi q, gi 0]) ?_), g2⟩
  rw [g2]
  split at g3 <;> rename_i hc <;> simp only [hc, if_true, if_false] <;> omega
def encN (p : Int × Lab) : GV := .agg (gi p.1 :: p.2.c)
theorem next_enc (k : Int) (p : Lab × Bool) : nextOf k p = ((if p.2 then [(k, p.1)] else []) : List (Int × Lab)).map encN := by
  unfold nextOf; split <;> rfl
theorem ways_enc (b : Book) (l : List Task) (x : Lab) : ∃ ns : List (Int × Lab), waysL b l x = ns.map encN ∧ ns.length ≤ 4 ∧ ∀ q, q ∈ ns → (0 ≤ q.1 ∧ q.1 < 4) ∧ (lstep b l x q.1).2 = true ∧ q.2 = (lstep b l x q.1).1 := by
  refine ⟨_, by unfold waysL; rw [next_enc, next_enc, next_enc, next_enc, ← List.map_append, ← List.map_append, ← List.map_append], ?_, ?_⟩
  · simp only [List.length_append]
    have h : ∀ c : Prop, [Decidable c] → ∀ q : Int × Lab, (if c then [q] else []).length ≤ 1 := by intro c _ q; split <;> simp
    have h3 := h ((lstep b l x 3).2 = true) (3, (lstep b l x 3).1)
    have h2 := h ((lstep b l x 2).2 = true) (2, (lstep b l x 2).1)
    have h0 := h ((lstep b l x 0).2 = true) (0, (lstep b l x 0).1)
    have h1 := h ((lstep b l x 1).2 = true) (1, (lstep b l x 1).1)
    omega
  · intro q hq
    simp only [List.mem_append] at hq
    have one : ∀ k : Int, q ∈ (if (lstep b l x k).2 = true then [(k, (lstep b l x k).1)] else []) → q.1 = k ∧ (lstep b l x k).2 = true ∧ q.2 = (lstep b l x k).1 := by
      intro k h
      split at h
      · simp only [List.mem_singleton] at h; subst h; exact ⟨rfl, by assumption, rfl⟩
      · cases h
    rcases hq with h | h | h | h <;> (obtain ⟨e1, e2, e3⟩ := one _ h; rw [e1]; exact ⟨by decide, e2, e3⟩)

theorem play_fin {b : Book} {l : List Task} {x : Lab} {ks : List Int} (he : labErr b l x = 0) (h : (playN b l ks x).2 = true) :
    fitsS l (playN b l ks x).1.s = true ∧ (playN b l ks x).1.m.Now = x.m.Now + ks.length ∧ ((playN b l ks x).1.s.Task = l.length → x.m.Now + leftD l x.s + leftS l x.s ≤ (playN b l ks x).1.m.Now) := by
  obtain ⟨g1, g2, g3⟩ := play_law ks he h
  obtain ⟨h3, h4, h5⟩ := spotErr_0 (labErr_0 g1).2
  refine ⟨h5, g2, fun e => ?_⟩
  have := (left_zero (tasksErr_ok h3).2 h5).2 e
  omega

def pl_E8_1 : Nat → Option (List Nat × List Nat) := (fun k => bif Nat.beq k 11 then some ([1000011, 2, 3, 4, 7, 10, 64, 65, 66], [103, 104, 107]) else none)
def pl_E8_2 : Nat → Option (List Nat × List Nat) := (fun k => bif Nat.beq k 11 then some ([1000011, 2, 3, 4, 7, 10, 64, 65, 66], [103, 104, 107]) else none)
def pl_E8_3 : Nat → Option (List Nat × List Nat) := (fun k => bif Nat.beq k 11 then some ([1000011, 2, 3, 4, 7, 10, 64, 65, 66], [103, 104, 107]) else none)
def pl_E8_4 : Nat → Option (List Nat × List Nat) := (fun k => bif Nat.beq k 11 then some ([1000011, 2, 3, 4, 7, 10, 64, 65, 66], [103, 104, 107]) else none)
set_option maxRecDepth 100000 in
set_option maxHeartbeats 16000000 in
theorem labelBounds_ok (b : Book) (l : List Task) (x : Lab) (ks : List Int) : ICalls Try.prog 8 [b.g, .agg (.list 3 (tasks l) none :: x.c), .list 1 (ints ks) none] [] (Done (gb true) []) := by
  by_cases hl : lightB l = true
  case neg =>
    refine ICalls.of_body Try.func8 rfl Try.call8 rfl (Nat.le_of_ble_eq_true rfl) pl_E8_1 ?_
    repeat' ((conv => whnf); first
      | refine Br.yes rfl ?_
      | refine Br.no rfl ?_
      | refine Br.yes (beq_self_eq_true _) ?_
      | refine Br.not ?_
      | refine Br.yes (decide_eq_true (by assumption)) ?_
      | refine Br.no (decide_eq_false (by assumption)) ?_
      | refine Br.yes (beq_iff_eq.2 (by assumption)) ?_
      | refine Br.no (beq_eq_false_iff_ne.2 (by assumption)) ?_
      | refine Br.yes (bne_iff_ne.2 (by assumption)) ?_
      | (refine Br.dec (fun h => ?_) (fun h => ?_) <;> try dsimp only at h)
      | (refine Br.beqI (fun h => ?_) (fun h => ?_) <;> try dsimp only at h)
      | (refine Br.bneI (fun h => ?_) (fun h => ?_) <;> try dsimp only at h)
      | refine Br.mk (fun h => ?_) (fun h => ?_)
      | refine Need.mk (app_need (by first | (simp only [List.length_append, List.length_map, List.length_nil, List.length_cons, List.nil_append, Nat.zero_add, Nat.add_zero]; done) | (simp only [List.length_append, List.length_map, List.length_nil, List.length_cons, List.nil_append, Nat.zero_add, Nat.add_zero]; omega) | omega) (Nat.le_of_ble_eq_true rfl) (by first | (simp only [List.length_append, List.length_map, List.length_nil, List.length_cons, List.nil_append, Nat.zero_add, Nat.add_zero]; done) | (simp only [List.length_append, List.length_map, List.length_nil, List.length_cons, List.nil_append, Nat.zero_add, Nat.add_zero]; omega) | omega)) ?_
      | refine Need.mk (app_need0 (Nat.le_of_ble_eq_true rfl) (by first | (simp only [List.length_append, List.length_map, List.length_nil, List.length_cons, List.nil_append, Nat.zero_add, Nat.add_zero]; done) | (simp only [List.length_append, List.length_map, List.length_nil, List.length_cons, List.nil_append, Nat.zero_add, Nat.add_zero]; omega) | omega)) ?_
      | refine Need.mk (by first | kernel_rfl | exact ⟨of_decide_eq_true rfl, of_decide_eq_true rfl⟩ | omega) ?_
      | refine Len.mk ⟨_, by simp only [List.length_cons, List.length_nil, Nat.reduceAdd, Int.cast_ofNat_Int]; rfl, ?_⟩
      | refine Wr.lit _ (by simp only [Int.reduceAdd, Int.reduceSub, Int.reduceMul]; rfl) (by decide) ?_
      | refine Wr.fit (by omega) ?_
      | refine Wr.fit (by dsimp only; omega) ?_
      | refine Elem.mk ⟨_, ⟨of_decide_eq_true rfl, rfl⟩, ?_⟩
      | refine Len.map ?_
      | refine Len.dropM ?_
      | refine Elem.dropM ?_
      | refine Len.takeM ?_
      | refine Elem.takeM ?_
      | refine Elem.mapK (by assumption) ?_
      | refine Elem.mapI (by omega) (by assumption) ?_
      | refine Elem.mapN (by omega) (fun x hx => ?_)
      | refine Elem.map (by omega) (by omega) (fun x hx => ?_)
      | refine ((light_ok l).to (congrArg gb (Bool.eq_false_iff.2 hl))).use ⟨rfl, ?_⟩
      | refine (alive25_ok).use ⟨rfl, ?_⟩
      | refine CallX.mk ⟨_, _, ((light_ok l).to (congrArg gb (Bool.eq_false_iff.2 hl))).x, rfl, ?_⟩
      | refine CallX.mk ⟨_, _, (alive25_ok).x, rfl, ?_⟩
      | refine Done.mk ⟨rfl, rfl⟩
      | refine Done.mk ⟨congrArg gb ?_, rfl⟩
      | refine Done.mk ⟨?_, rfl⟩
      | refine Done.mk ⟨?_, ?_⟩)
  case pos =>
  have hlen := lightB_len hl
  by_cases hk : (ks.length : Int) ≤ 1000000000
  case neg =>
    refine ICalls.of_body Try.func8 rfl Try.call8 rfl (Nat.le_of_ble_eq_true rfl) pl_E8_2 ?_
    repeat' ((conv => whnf); first
      | refine Br.yes rfl ?_
      | refine Br.no rfl ?_
      | refine Br.yes (beq_self_eq_true _) ?_
      | refine Br.not ?_
      | refine Br.yes (decide_eq_true (by assumption)) ?_
      | refine Br.no (decide_eq_false (by assumption)) ?_
      | refine Br.yes (beq_iff_eq.2 (by assumption)) ?_
      | refine Br.no (beq_eq_false_iff_ne.2 (by assumption)) ?_
      | refine Br.yes (bne_iff_ne.2 (by assumption)) ?_
      | (refine Br.dec (fun h => ?_) (fun h => ?_) <;> try dsimp only at h)
      | (refine Br.beqI (fun h => ?_) (fun h => ?_) <;> try dsimp only at h)
      | (refine Br.bneI (fun h => ?_) (fun h => ?_) <;> try dsimp only at h)
      | refine Br.mk (fun h => ?_) (fun h => ?_)
      | refine Need.mk (app_need (by first | (simp only [List.length_append, List.length_map, List.length_nil, List.length_cons, List.nil_append, Nat.zero_add, Nat.add_zero]; done) | (simp only [List.length_append, List.length_map, List.length_nil, List.length_cons, List.nil_append, Nat.zero_add, Nat.add_zero]; omega) | omega) (Nat.le_of_ble_eq_true rfl) (by first | (simp only [List.length_append, List.length_map, List.length_nil, List.length_cons, List.nil_append, Nat.zero_add, Nat.add_zero]; done) | (simp only [List.length_append, List.length_map, List.length_nil, List.length_cons, List.nil_append, Nat.zero_add, Nat.add_zero]; omega) | omega)) ?_
      | refine Need.mk (app_need0 (Nat.le_of_ble_eq_true rfl) (by first | (simp only [List.length_append, List.length_map, List.length_nil, List.length_cons, List.nil_append, Nat.zero_add, Nat.add_zero]; done) | (simp only [List.length_append, List.length_map, List.length_nil, List.length_cons, List.nil_append, Nat.zero_add, Nat.add_zero]; omega) | omega)) ?_
      | refine Need.mk (by first | kernel_rfl | exact ⟨of_decide_eq_true rfl, of_decide_eq_true rfl⟩ | omega) ?_
      | refine Len.mk ⟨_, by simp only [List.length_cons, List.length_nil, Nat.reduceAdd, Int.cast_ofNat_Int]; rfl, ?_⟩
      | refine Wr.lit _ (by simp only [Int.reduceAdd, Int.reduceSub, Int.reduceMul]; rfl) (by decide) ?_
      | refine Wr.fit (by omega) ?_
      | refine Wr.fit (by dsimp only; omega) ?_
      | refine Elem.mk ⟨_, ⟨of_decide_eq_true rfl, rfl⟩, ?_⟩
      | refine Len.map ?_
      | refine Len.dropM ?_
      | refine Elem.dropM ?_
      | refine Len.takeM ?_
      | refine Elem.takeM ?_
      | refine Elem.mapK (by assumption) ?_
      | refine Elem.mapI (by omega) (by assumption) ?_
      | refine Elem.mapN (by omega) (fun x hx => ?_)
      | refine Elem.map (by omega) (by omega) (fun x hx => ?_)
      | refine ((light_ok l).to (congrArg gb hl)).use ⟨rfl, ?_⟩
      | refine (alive25_ok).use ⟨rfl, ?_⟩
      | refine CallX.mk ⟨_, _, ((light_ok l).to (congrArg gb hl)).x, rfl, ?_⟩
      | refine CallX.mk ⟨_, _, (alive25_ok).x, rfl, ?_⟩
      | refine Done.mk ⟨rfl, rfl⟩
      | refine Done.mk ⟨congrArg gb ?_, rfl⟩
      | refine Done.mk ⟨?_, rfl⟩
      | refine Done.mk ⟨?_, ?_⟩)
    all_goals (exfalso; omega)
  case pos =>
  by_cases he : labErr b l x = 0
  case neg =>
    have hw := ways_ok b l x
    rw [if_neg he] at hw
    generalize labErr b l x = e at *
    refine ICalls.of_body Try.func8 rfl Try.call8 rfl (Nat.le_of_ble_eq_true rfl) pl_E8_3 ?_
    repeat' ((conv => whnf); first
      | refine Br.yes rfl ?_
      | refine Br.no rfl ?_
      | refine Br.yes (beq_self_eq_true _) ?_
      | refine Br.not ?_
      | refine Br.yes (decide_eq_true (by assumption)) ?_
      | refine Br.no (decide_eq_false (by assumption)) ?_
      | refine Br.yes (beq_iff_eq.2 (by assumption)) ?_
      | refine Br.no (beq_eq_false_iff_ne.2 (by assumption)) ?_
      | refine Br.yes (bne_iff_ne.2 (by assumption)) ?_
      | (refine Br.dec (fun h => ?_) (fun h => ?_) <;> try dsimp only at h)
      | (refine Br.beqI (fun h => ?_) (fun h => ?_) <;> try dsimp only at h)
      | (refine Br.bneI (fun h => ?_) (fun h => ?_) <;> try dsimp only at h)
      | refine Br.mk (fun h => ?_) (fun h => ?_)
      | refine Need.mk (app_need (by first | (simp only [List.length_append, List.length_map, List.length_nil, List.length_cons, List.nil_append, Nat.zero_add, Nat.add_zero]; done) | (simp only [List.length_append, List.length_map, List.length_nil, List.length_cons, List.nil_append, Nat.zero_add, Nat.add_zero]; omega) | omega) (Nat.le_of_ble_eq_true rfl) (by first | (simp only [List.length_append, List.length_map, List.length_nil, List.length_cons, List.nil_append, Nat.zero_add, Nat.add_zero]; done) | (simp only [List.length_append, List.length_map, List.length_nil, List.length_cons, List.nil_append, Nat.zero_add, Nat.add_zero]; omega) | omega)) ?_
      | refine Need.mk (app_need0 (Nat.le_of_ble_eq_true rfl) (by first | (simp only [List.length_append, List.length_map, List.length_nil, List.length_cons, List.nil_append, Nat.zero_add, Nat.add_zero]; done) | (simp only [List.length_append, List.length_map, List.length_nil, List.length_cons, List.nil_append, Nat.zero_add, Nat.add_zero]; omega) | omega)) ?_
      | refine Need.mk (by first | kernel_rfl | exact ⟨of_decide_eq_true rfl, of_decide_eq_true rfl⟩ | omega) ?_
      | refine Len.mk ⟨_, by simp only [List.length_cons, List.length_nil, Nat.reduceAdd, Int.cast_ofNat_Int]; rfl, ?_⟩
      | refine Wr.lit _ (by simp only [Int.reduceAdd, Int.reduceSub, Int.reduceMul]; rfl) (by decide) ?_
      | refine Wr.fit (by omega) ?_
      | refine Wr.fit (by dsimp only; omega) ?_
      | refine Elem.mk ⟨_, ⟨of_decide_eq_true rfl, rfl⟩, ?_⟩
      | refine Len.map ?_
      | refine Len.dropM ?_
      | refine Elem.dropM ?_
      | refine Len.takeM ?_
      | refine Elem.takeM ?_
      | refine Elem.mapK (by assumption) ?_
      | refine Elem.mapI (by omega) (by assumption) ?_
      | refine Elem.mapN (by omega) (fun x hx => ?_)
      | refine Elem.map (by omega) (by omega) (fun x hx => ?_)
      | refine ((light_ok l).to (congrArg gb hl)).use ⟨rfl, ?_⟩
      | refine (hw).use ⟨rfl, ?_⟩
      | refine (alive25_ok).use ⟨rfl, ?_⟩
      | refine CallX.mk ⟨_, _, ((light_ok l).to (congrArg gb hl)).x, rfl, ?_⟩
      | refine CallX.mk ⟨_, _, (hw).x, rfl, ?_⟩
      | refine CallX.mk ⟨_, _, (alive25_ok).x, rfl, ?_⟩
      | refine Done.mk ⟨rfl, rfl⟩
      | refine Done.mk ⟨congrArg gb ?_, rfl⟩
      | refine Done.mk ⟨?_, rfl⟩
      | refine Done.mk ⟨?_, ?_⟩)
  case pos =>
    have hw := ways_ok b l x
    have hp := play_ok b l x ks hk
    have hb := bound_ok l x
    rw [if_pos he, he] at hw hp
    obtain ⟨hbm, hs⟩ := labErr_0 he
    obtain ⟨q1, q2, q3⟩ := spotErr_0 hs
    have hroom := left_room q1 q3
    have hnow := q2.now
    rw [if_pos hs, hs] at hb
    obtain ⟨ns, hns, hlen4, hall⟩ := ways_enc b l x
    rw [hns] at hw
    have fb : ∀ q, q ∈ ns → ICalls Try.prog 29 [.list 3 (tasks l) none, q.2.g] [] (Done (.tup [gi (x.m.Now + leftD l x.s + leftS l x.s + (if q.1 = 3 ∨ q.1 = 2 then 0 else 1)), gi 0]) []) ∧ q.2.m.Now = x.m.Now + 1 := by
      intro q hq
      obtain ⟨c1, c2, c3⟩ := hall q hq
      rw [c3]; exact bound_next he c1 c2
    have fp := play_fin (ks := ks) he
    have hn : x.m.Now ≤ x.m.Now + leftD l x.s + leftS l x.s ∧ x.m.Now + leftD l x.s + leftS l x.s ≤ 300000000 := by omega
    generalize x.m.Now + leftD l x.s + leftS l x.s = n at *
    clear hroom q1 q3 hs
    generalize playN b l ks x = p at *
    obtain ⟨y, i⟩ := p
    clear he hall hns
    refine ICalls.of_body Try.func8 rfl Try.call8 rfl (Nat.le_of_ble_eq_true rfl) pl_E8_4 ?_
    repeat' ((conv => whnf); first
      | refine Br.yes rfl ?_
      | refine Br.no rfl ?_
      | refine Elem.mapN (by omega) (fun q hq => ?_)
      | (refine ILoop.ov 1000011 (fun (i' : Nat) => [(66, gi i')]) (fun (i' : Nat) => []) (fun (i' : Nat) => i' ≤ ns.length) (fun (i' : Nat) => ns.length - i') (0) (by exact rfl) ?_; (conv => whnf); refine Start.mk rfl ?_ ?_; (try dsimp only); rotate_left; rintro i' hi')
      | (refine Again.mk ⟨(i' + 1), rfl, ?_, ?_⟩ <;> try dsimp only)
      | refine Br.yes (beq_self_eq_true _) ?_
      | refine Br.not ?_
      | refine Br.yes (decide_eq_true (by assumption)) ?_
      | refine Br.no (decide_eq_false (by assumption)) ?_
      | refine Br.yes (beq_iff_eq.2 (by assumption)) ?_
      | refine Br.no (beq_eq_false_iff_ne.2 (by assumption)) ?_
      | refine Br.yes (bne_iff_ne.2 (by assumption)) ?_
      | (refine Br.dec (fun h => ?_) (fun h => ?_) <;> try dsimp only at h)
      | (refine Br.beqI (fun h => ?_) (fun h => ?_) <;> try dsimp only at h)
      | (refine Br.bneI (fun h => ?_) (fun h => ?_) <;> try dsimp only at h)
      | refine Br.mk (fun h => ?_) (fun h => ?_)
      | refine Need.mk (app_need (by first | (simp only [List.length_append, List.length_map, List.length_nil, List.length_cons, List.nil_append, Nat.zero_add, Nat.add_zero]; done) | (simp only [List.length_append, List.length_map, List.length_nil, List.length_cons, List.nil_append, Nat.zero_add, Nat.add_zero]; omega) | omega) (Nat.le_of_ble_eq_true rfl) (by first | (simp only [List.length_append, List.length_map, List.length_nil, List.length_cons, List.nil_append, Nat.zero_add, Nat.add_zero]; done) | (simp only [List.length_append, List.length_map, List.length_nil, List.length_cons, List.nil_append, Nat.zero_add, Nat.add_zero]; omega) | omega)) ?_
      | refine Need.mk (app_need0 (Nat.le_of_ble_eq_true rfl) (by first | (simp only [List.length_append, List.length_map, List.length_nil, List.length_cons, List.nil_append, Nat.zero_add, Nat.add_zero]; done) | (simp only [List.length_append, List.length_map, List.length_nil, List.length_cons, List.nil_append, Nat.zero_add, Nat.add_zero]; omega) | omega)) ?_
      | refine Need.mk (by first | kernel_rfl | exact ⟨of_decide_eq_true rfl, of_decide_eq_true rfl⟩ | omega) ?_
      | refine Len.mk ⟨_, by simp only [List.length_cons, List.length_nil, Nat.reduceAdd, Int.cast_ofNat_Int]; rfl, ?_⟩
      | refine Wr.lit _ (by simp only [Int.reduceAdd, Int.reduceSub, Int.reduceMul]; rfl) (by decide) ?_
      | refine Wr.fit (by omega) ?_
      | refine Wr.fit (by dsimp only; omega) ?_
      | refine Elem.mk ⟨_, ⟨of_decide_eq_true rfl, rfl⟩, ?_⟩
      | refine Len.map ?_
      | refine Len.dropM ?_
      | refine Elem.dropM ?_
      | refine Len.takeM ?_
      | refine Elem.takeM ?_
      | refine Elem.mapK (by assumption) ?_
      | refine Elem.mapI (by omega) (by assumption) ?_
      | refine Elem.mapN (by omega) (fun x hx => ?_)
      | refine Elem.map (by omega) (by omega) (fun x hx => ?_)
      | refine ((light_ok l).to (congrArg gb hl)).use ⟨rfl, ?_⟩
      | refine (hw).use ⟨rfl, ?_⟩
      | refine (hb).use ⟨rfl, ?_⟩
      | refine (hp).use ⟨rfl, ?_⟩
      | refine ((fb q (List.mem_of_getElem? hq)).1).use ⟨rfl, ?_⟩
      | refine (refFits_ok l y.s (by omega)).use ⟨rfl, ?_⟩
      | refine (alive25_ok).use ⟨rfl, ?_⟩
      | refine CallX.mk ⟨_, _, ((light_ok l).to (congrArg gb hl)).x, rfl, ?_⟩
      | refine CallX.mk ⟨_, _, (hw).x, rfl, ?_⟩
      | refine CallX.mk ⟨_, _, (hb).x, rfl, ?_⟩
      | refine CallX.mk ⟨_, _, (hp).x, rfl, ?_⟩
      | refine CallX.mk ⟨_, _, ((fb q (List.mem_of_getElem? hq)).1).x, rfl, ?_⟩
      | refine CallX.mk ⟨_, _, (refFits_ok l y.s (by omega)).x, rfl, ?_⟩
      | refine CallX.mk ⟨_, _, (alive25_ok).x, rfl, ?_⟩
      | refine Done.mk ⟨rfl, rfl⟩
      | refine Done.mk ⟨congrArg gb ?_, rfl⟩
      | refine Done.mk ⟨?_, rfl⟩
      | refine Done.mk ⟨?_, ?_⟩)
    all_goals first
      | omega
      | (exfalso; have hq2 := (fb q (List.mem_of_getElem? hq)).2; clear hw hb hp fb fp; first | omega | exact absurd hq2 h | (split at h <;> omega) | (simp_all; done) | (simp_all; omega))
      | (exfalso; obtain ⟨a1, a2, a3⟩ := fp (by assumption); clear hw hb hp fb fp; first | (have := a3 (by assumption); omega) | exact absurd a2 h | (simp_all; done))

end Go.Hl

/- Laws of chapter 25, as contracts over all arguments. -/
set_option linter.unusedVariables false
namespace Go.Hl
open Go.Gh Go.Proofs

def labTy : Ty := .agg [meterTy, spotTy]
theorem lab_wt (gs : List GV) (h : WTs [meterTy, spotTy] gs) : ∃ x : Lab, gs = x.c ∧ True := by
  obtain ⟨a, r, rfl, ha, hr⟩ := h
  obtain ⟨c, d, rfl, hc, hr⟩ := hr
  cases WTs.nil hr
  obtain ⟨x, rfl, hx⟩ := meter_wt ha
  obtain ⟨y, rfl, hy⟩ := spot_wt c hc
  exact ⟨⟨x, y⟩, by simp [Lab.c], trivial⟩
theorem lab_of {g : GV} (h : ArgOk labTy g) : ∃ x : Lab, g = x.g ∧ True := agg_of lab_wt h
theorem startL_of {g : GV} (h : ArgOk (.agg [.list taskTy, labTy]) g) : ∃ (l : List Task) (x : Lab), g = .agg (.list 3 (tasks l) none :: x.c) := by
  obtain ⟨cs, rfl, hw⟩ := h.1 rfl
  obtain ⟨l, r, rfl, _, hr⟩ := WTs.list el_task (show WTs _ cs from hw)
  obtain ⟨c, d, rfl, hc, hr⟩ := WTs.agg hr
  cases WTs.nil hr
  obtain ⟨x, rfl, _⟩ := lab_wt c hc
  exact ⟨l, x, by simp; rfl⟩

theorem labelWays_law (g0 : GV) (h0 : ArgOk bookTy g0) (g1 : GV) (h1 : ArgOk (.list taskTy) g1) (g2 : GV) (h2 : ArgOk labTy g2) :
    ICalls Try.prog 10 [g0, g1, g2] [] (Done (gb true) []) := by
  obtain ⟨b, rfl, _⟩ := book_of h0
  obtain ⟨l, rfl, _⟩ := list_of el_task h1
  obtain ⟨x, rfl, _⟩ := lab_of h2
  exact labelWays_ok b l x

theorem labelPlays_law (g0 : GV) (h0 : ArgOk bookTy g0) (g1 : GV) (h1 : ArgOk (.agg [.list taskTy, labTy]) g1) (g2 : GV) (h2 : ArgOk (.list .int) g2) :
    ICalls Try.prog 9 [g0, g1, g2] [] (Done (gb true) []) := by
  obtain ⟨b, rfl, _⟩ := book_of h0
  obtain ⟨l, x, rfl⟩ := startL_of h1
  obtain ⟨k, rfl, _⟩ := list_of el_int h2
  exact labelPlays_ok b l x k

theorem labelBounds_law (g0 : GV) (h0 : ArgOk bookTy g0) (g1 : GV) (h1 : ArgOk (.agg [.list taskTy, labTy]) g1) (g2 : GV) (h2 : ArgOk (.list .int) g2) :
    ICalls Try.prog 8 [g0, g1, g2] [] (Done (gb true) []) := by
  obtain ⟨b, rfl, _⟩ := book_of h0
  obtain ⟨l, x, rfl⟩ := startL_of h1
  obtain ⟨k, rfl, _⟩ := list_of el_int h2
  exact labelBounds_ok b l x k

end Go.Hl
