/- Contracts of functions, bundle H27; proved for whatever the arguments' types allow, as each theorem says. -/
import Derived.Test.YthpdmbnakkaliaaH26

/- For how many minutes a kind can go on: plain Lean; contracts.  -/
set_option linter.unusedVariables false
set_option linter.unusedSimpArgs false
namespace Go.Hl
open Go.Gh Go.Proofs

/-- How many of so many minutes break nothing, up to the first that does. -/
def farR (b : Book) (k : Int) : Nat → Meter → Nat
  | 0, _ => 0
  | n + 1, m => if stepN b m k = 0 then farR b k n (m.step b k) + 1 else 0
theorem stN_cons (b : Book) (k : Int) (n : Nat) (m : Meter) : stN b k (n + 1) m = stN b k n (m.step b k) := by
  have h := stN_add b k 1 m n
  rw [Nat.add_comm] at h; exact h
theorem farR_le (b : Book) (k : Int) : ∀ (n : Nat) (m : Meter), farR b k n m ≤ n
  | 0, _ => Nat.le_refl _
  | n + 1, m => by
    unfold farR
    have := farR_le b k n (m.step b k)
    split <;> omega
theorem farR_free (b : Book) (k : Int) : ∀ (n : Nat) (m : Meter) (j : Nat), j < farR b k n m → stepN b (stN b k j m) k = 0
  | 0, _, j, h => by unfold farR at h; omega
  | n + 1, m, j, h => by
    unfold farR at h
    split at h
    · rename_i h0
      cases j with
      | zero => exact h0
      | succ j => rw [stN_cons]; exact farR_free b k n _ j (by omega)
    · omega
theorem farR_hit (b : Book) (k : Int) : ∀ (n : Nat) (m : Meter), farR b k n m < n → stepN b (stN b k (farR b k n m) m) k ≠ 0
  | 0, _, h => by omega
  | n + 1, m, h => by
    unfold farR at h ⊢
    split at h
    · rename_i h0
      rw [if_pos h0, stN_cons]
      exact farR_hit b k n _ (by omega)
    · rename_i h0
      rw [if_neg h0]; exact h0
theorem fiN_free {b : Book} {k : Int} {m : Meter} (f : F10) : ∀ n : Nat, (∀ j, j < n → stepN b (stN b k j m) k = 0) → fiN b k n m f = f
  | 0, _ => rfl
  | n + 1, h => by
    show (fiN b k n m f).mark (stepN b (stN b k n m) k) _ = f
    rw [h n (by omega), mark_0, fiN_free f n (fun j hj => h j (by omega))]

theorem mark_at (f : F10) (q : Nat) (x : Int) : ∀ i, i < 10 → (f.mark q x).at i = markI (q.testBit i) x (f.at i)
  | 0, _ => rfl
  | 1, _ => rfl
  | 2, _ => rfl
  | 3, _ => rfl
  | 4, _ => rfl
  | 5, _ => rfl
  | 6, _ => rfl
  | 7, _ => rfl
  | 8, _ => rfl
  | 9, _ => rfl
  | n + 10, h => by omega
theorem none_at : ∀ i, F10.none.at i = -1 := by
  intro i
  unfold F10.at
  split <;> rfl
/-- The least is x. -/
structure Fst (f : F10) (x : Int) : Prop where
  pos : 0 ≤ x
  all : ∀ i, i < 10 → f.at i = -1 ∨ x ≤ f.at i
  ex : ∃ i, i < 10 ∧ f.at i = x
theorem fst_all {f : F10} {x : Int} (hx : 0 ≤ x) : ∀ n, (∀ i, i < n → f.at i = -1 ∨ x ≤ f.at i) → (f.fst n = -1 ∨ x ≤ f.fst n) ∧ ((∃ i, i < n ∧ f.at i = x) → f.fst n = x)
  | 0, h => ⟨.inl rfl, fun ⟨i, hi, _⟩ => absurd hi (by omega)⟩
  | n + 1, h => by
    obtain ⟨h1, h2⟩ := fst_all hx n (fun i hi => h i (by omega))
    have h3 := h n (by omega)
    show (pickI (f.fst n) (f.at n) = -1 ∨ x ≤ pickI (f.fst n) (f.at n)) ∧ (_ → pickI (f.fst n) (f.at n) = x)
    constructor
    · unfold pickI; split <;> omega
    · rintro ⟨i, hi, hi2⟩
      by_cases hn : i = n
      · subst hn
        unfold pickI
        split <;> omega
      · have h4 := h2 ⟨i, by omega, hi2⟩
        unfold pickI
        split <;> omega
theorem Fst.fst {f : F10} {x : Int} (h : Fst f x) : f.fst 10 = x := (fst_all h.pos 10 h.all).2 h.ex
theorem Fst.ne {f : F10} {x : Int} (h : Fst f x) : f ≠ F10.none := by
  intro e
  obtain ⟨i, _, hi⟩ := h.ex
  rw [e, none_at] at hi
  have := h.pos
  omega
theorem Fst.mark {f : F10} {x y : Int} (h : Fst f x) (hxy : x ≤ y) (q : Nat) : Fst (f.mark q y) x := by
  have hp := h.pos
  refine ⟨hp, fun i hi => ?_, ?_⟩
  · have := h.all i hi
    rw [mark_at f q y i hi]
    unfold markI
    split <;> omega
  · obtain ⟨i, hi, hi2⟩ := h.ex
    refine ⟨i, hi, ?_⟩
    rw [mark_at f q y i hi]
    unfold markI
    rw [if_neg (fun e => by have := e.2; omega)]
    exact hi2
theorem bits_ne {q : Nat} (hq : q < 1024) (h : q ≠ 0) : ∃ i, i < 10 ∧ q.testBit i = true := by
  refine Classical.byContradiction fun hc => h ?_
  apply Nat.eq_of_testBit_eq
  intro i
  rw [Nat.zero_testBit]
  by_cases hi : i < 10
  · cases hb : q.testBit i
    · rfl
    · exact absurd ⟨i, hi, hb⟩ hc
  · exact Nat.testBit_lt_two_pow (Nat.lt_of_lt_of_le hq (show 2 ^ 10 ≤ 2 ^ i from Nat.pow_le_pow_right (by decide) (by omega)))
theorem Fst.first {q : Nat} (hq : q < 1024) (h : q ≠ 0) {x : Int} (hx : 0 ≤ x) : Fst (F10.none.mark q x) x := by
  refine ⟨hx, fun i hi => ?_, ?_⟩
  · rw [mark_at _ q x i hi, none_at]
    unfold markI
    split <;> omega
  · obtain ⟨i, hi, hb⟩ := bits_ne hq h
    refine ⟨i, hi, ?_⟩
    rw [mark_at _ q x i hi, none_at, hb]
    unfold markI
    simp
theorem fiN_fst {b : Book} {k : Int} {m : Meter} {f : F10} {x : Int} (hm : m.May) (h : Fst f x) (hx : x ≤ m.Now) : ∀ n : Nat, m.Now + (n : Int) ≤ 40320 → Fst (fiN b k n m f) x
  | 0, _ => h
  | n + 1, hn => by
    have h1 := fiN_fst (b := b) (k := k) hm h hx n (by omega)
    have h2 := (stN_May (b := b) (k := k) hm n (by omega)).2
    show Fst ((fiN b k n m f).mark _ (stN b k n m).Now) x
    exact h1.mark (by rw [h2]; omega) _
/-- What a block notes: nothing, or first of all the minute that farR tells. -/
theorem fiN_far {b : Book} {k : Int} {m : Meter} (hm : m.May) (n : Nat) (hn : m.Now + (n : Int) ≤ 40320) :
    (farR b k n m = n → fiN b k n m F10.none = F10.none) ∧ (farR b k n m < n → Fst (fiN b k n m F10.none) (m.Now + farR b k n m)) := by
  constructor
  · intro h
    exact fiN_free _ n (fun j hj => farR_free b k n m j (by omega))
  · intro h
    obtain ⟨c, hc⟩ : ∃ c, n = farR b k n m + 1 + c := ⟨n - (farR b k n m + 1), by omega⟩
    have hf := farR_free b k n m
    have hh := farR_hit b k n m h
    generalize farR b k n m = j at *
    subst hc
    have h1 := stN_May (b := b) (k := k) hm j (by omega)
    have h2 := stN_May (b := b) (k := k) hm (j + 1) (by omega)
    have hq : Fst (fiN b k (j + 1) m F10.none) (m.Now + j) := by
      show Fst ((fiN b k j m F10.none).mark (stepN b (stN b k j m) k) (stN b k j m).Now) _
      rw [fiN_free _ j hf, h1.2]
      exact Fst.first (stepN_lt _ _ _) hh (by have := hm.now; omega)
    rw [fiN_add]
    exact fiN_fst h2.1 hq (by rw [h2.2]; omega) c (by rw [h2.2]; omega)

theorem farR_step {b : Book} {k : Int} {m : Meter} (hm : m.May) (h : m.Now < 40320) : farR b k (40320 - m.Now).toNat m = if stepN b m k = 0 then farR b k (40320 - (m.step b k).Now).toNat (m.step b k) + 1 else 0 := by
  rw [(hm.step (b := b) h k).2, show (40320 - m.Now).toNat = (40320 - (m.Now + 1)).toNat + 1 by omega]
  rfl
def farAll (b : Book) (m : Meter) (k : Int) : Int × Int := if check14 b m k 0 = 0 then (((farR b k (40320 - m.Now).toNat m : Nat) : Int), 0) else (0, check14 b m k 0)
def farG (r : Int × Int) : GV := .tup [gi r.1, gi r.2]
theorem check14_n {b : Book} {m : Meter} {k n : Int} (h : check14 b m k 0 = 0) (hn : 0 ≤ n ∧ m.Now + n ≤ 40320) : check14 b m k n = 0 := by
  obtain ⟨h1, h2, h3, -⟩ := check14_0 h
  unfold check14
  rw [if_pos h1, if_pos h2, if_neg (by omega), if_neg (by omega)]
def flat10 (f : F10) : List Value := [.int .i64 f.a0, .int .i64 f.a1, .int .i64 f.a2, .int .i64 f.a3, .int .i64 f.a4, .int .i64 f.a5, .int .i64 f.a6, .int .i64 f.a7, .int .i64 f.a8, .int .i64 f.a9]
theorem flat10_none (f : F10) : flatEq (flat10 f) (flat10 F10.none) = decide (f = F10.none) := by
  obtain ⟨a0, a1, a2, a3, a4, a5, a6, a7, a8, a9⟩ := f
  rw [Bool.eq_iff_iff]
  simp [flat10, flatEq, F10.none]

set_option maxRecDepth 100000 in
set_option maxHeartbeats 2000000 in
theorem far14_ok (b : Book) (m : Meter) (k : Int) : ICalls Try.prog 18 [b.g, m.g, gi k] [] (Done (farG (farAll b m k)) []) := by
  have h1 := check14_ok b m k 0
  unfold farAll
  by_cases hc : check14 b m k 0 = 0
  {
  rw [if_pos hc]
  rw [hc] at h1
  obtain ⟨hb, hm, hk, -⟩ := check14_0 hc
  have hm0 := hm.now
  have h2 := over_ok b m k (40320 - m.Now)
  unfold overAll at h2
  rw [if_pos (check14_n hc (by omega))] at h2
  have h3 := fiN_far (b := b) (k := k) hm (40320 - m.Now).toNat (by omega)
  have h4 := farR_le b k (40320 - m.Now).toNat m
  generalize stN b k (40320 - m.Now).toNat m = S at *
  generalize fiN b k (40320 - m.Now).toNat m F10.none = F at *
  generalize farR b k (40320 - m.Now).toNat m = r at *
  by_cases hF : F = F10.none
  {
  have hr : r = (40320 - m.Now).toNat := Classical.byContradiction fun e => (h3.2 (by omega)).ne hF
  subst hF
  clear h3
  refine ICalls.of_body Try.func18 rfl Try.call18 rfl (Nat.le_of_ble_eq_true rfl) (fun _ => none) rfl ?_
  repeat' ((conv => whnf); first
    | refine Br.yes rfl ?_
    | refine Br.no rfl ?_
    | refine Need.mk (EqRun.plain (by kernel_rfl) rfl) ?_
    | refine Br.yes (beq_self_eq_true _) ?_
    | refine Br.not ?_
    | refine Br.yes (decide_eq_true (by assumption)) ?_
    | refine Br.no (decide_eq_false (by assumption)) ?_
    | refine Br.yes (beq_iff_eq.2 (by assumption)) ?_
    | refine Br.no (beq_eq_false_iff_ne.2 (by assumption)) ?_
    | refine Br.yes (bne_iff_ne.2 (by assumption)) ?_
    | (refine Br.dec (fun h => ?_) (fun h => ?_) <;> try dsimp only at h)
    | (refine Br.beqI (fun h => ?_) (fun h => ?_) <;> try dsimp only at h)
    | (refine Br.bneI (fun h => ?_) (fun h => ?_) <;> try dsimp only at h)
    | refine Br.mk (fun h => ?_) (fun h => ?_)
    | refine Need.mk (app_need (by first | (simp only [List.length_append, List.length_map, List.length_nil, List.length_cons, List.nil_append, Nat.zero_add, Nat.add_zero]; done) | (simp only [List.length_append, List.length_map, List.length_nil, List.length_cons, List.nil_append, Nat.zero_add, Nat.add_zero]; omega) | omega) (Nat.le_of_ble_eq_true rfl) (by first | (simp only [List.length_append, List.length_map, List.length_nil, List.length_cons, List.nil_append, Nat.zero_add, Nat.add_zero]; done) | (simp only [List.length_append, List.length_map, List.length_nil, List.length_cons, List.nil_append, Nat.zero_add, Nat.add_zero]; omega) | omega)) ?_
    | refine Need.mk (app_need0 (Nat.le_of_ble_eq_true rfl) (by first | (simp only [List.length_append, List.length_map, List.length_nil, List.length_cons, List.nil_append, Nat.zero_add, Nat.add_zero]; done) | (simp only [List.length_append, List.length_map, List.length_nil, List.length_cons, List.nil_append, Nat.zero_add, Nat.add_zero]; omega) | omega)) ?_
    | refine Need.mk (by first | kernel_rfl | exact ⟨of_decide_eq_true rfl, of_decide_eq_true rfl⟩ | omega) ?_
    | refine Len.mk ⟨_, by simp only [List.length_cons, List.length_nil, Nat.reduceAdd, Int.cast_ofNat_Int]; rfl, ?_⟩
    | refine Wr.lit _ (by simp only [Int.reduceAdd, Int.reduceSub, Int.reduceMul]; rfl) (by decide) ?_
    | refine Wr.fit (by omega) ?_
    | refine Wr.fit (by dsimp only; omega) ?_
    | refine Elem.mk ⟨_, ⟨of_decide_eq_true rfl, rfl⟩, ?_⟩
    | refine Len.map ?_
    | refine Len.dropM ?_
    | refine Elem.dropM ?_
    | refine Len.takeM ?_
    | refine Elem.takeM ?_
    | refine Elem.mapK (by assumption) ?_
    | refine Elem.mapI (by omega) (by assumption) ?_
    | refine Elem.mapN (by omega) (fun x hx => ?_)
    | refine Elem.map (by omega) (by omega) (fun x hx => ?_)
    | refine (h1).use ⟨rfl, ?_⟩
    | refine (h2).use ⟨rfl, ?_⟩
    | refine (none14_ok).use ⟨rfl, ?_⟩
    | refine CallX.mk ⟨_, _, (h1).x, rfl, ?_⟩
    | refine CallX.mk ⟨_, _, (h2).x, rfl, ?_⟩
    | refine CallX.mk ⟨_, _, (none14_ok).x, rfl, ?_⟩
    | refine Done.mk ⟨rfl, rfl⟩
    | refine Done.mk ⟨congrArg gb ?_, rfl⟩
    | refine Done.mk ⟨?_, rfl⟩
    | refine Done.mk ⟨?_, ?_⟩)
  all_goals (show _ = GV.tup [gi (r : Int), gi 0]; rw [hr, show (((40320 - m.Now).toNat : Nat) : Int) = 40320 - m.Now by omega])
  }
  {
  have hr : (r : Int) < 40320 - m.Now := Classical.byContradiction fun e => hF (h3.1 (by omega))
  have hq := h3.2 (by omega)
  have hfst := first14_ok F
  rw [hq.fst] at hfst
  have hfl : flatEq (flat10 F) (flat10 F10.none) = false := (flat10_none F).trans (decide_eq_false hF)
  clear h3 hq
  refine ICalls.of_body Try.func18 rfl Try.call18 rfl (Nat.le_of_ble_eq_true rfl) (fun _ => none) rfl ?_
  repeat' ((conv => whnf); first
    | refine Br.yes rfl ?_
    | refine Br.no rfl ?_
    | refine Need.mk (EqRun.plain (by kernel_rfl) rfl) ?_
    | refine Br.no hfl ?_
    | refine Br.yes (beq_self_eq_true _) ?_
    | refine Br.not ?_
    | refine Br.yes (decide_eq_true (by assumption)) ?_
    | refine Br.no (decide_eq_false (by assumption)) ?_
    | refine Br.yes (beq_iff_eq.2 (by assumption)) ?_
    | refine Br.no (beq_eq_false_iff_ne.2 (by assumption)) ?_
    | refine Br.yes (bne_iff_ne.2 (by assumption)) ?_
    | (refine Br.dec (fun h => ?_) (fun h => ?_) <;> try dsimp only at h)
    | (refine Br.beqI (fun h => ?_) (fun h => ?_) <;> try dsimp only at h)
    | (refine Br.bneI (fun h => ?_) (fun h => ?_) <;> try dsimp only at h)
    | refine Br.mk (fun h => ?_) (fun h => ?_)
    | refine Need.mk (app_need (by first | (simp only [List.length_append, List.length_map, List.length_nil, List.length_cons, List.nil_append, Nat.zero_add, Nat.add_zero]; done) | (simp only [List.length_append, List.length_map, List.length_nil, List.length_cons, List.nil_append, Nat.zero_add, Nat.add_zero]; omega) | omega) (Nat.le_of_ble_eq_true rfl) (by first | (simp only [List.length_append, List.length_map, List.length_nil, List.length_cons, List.nil_append, Nat.zero_add, Nat.add_zero]; done) | (simp only [List.length_append, List.length_map, List.length_nil, List.length_cons, List.nil_append, Nat.zero_add, Nat.add_zero]; omega) | omega)) ?_
    | refine Need.mk (app_need0 (Nat.le_of_ble_eq_true rfl) (by first | (simp only [List.length_append, List.length_map, List.length_nil, List.length_cons, List.nil_append, Nat.zero_add, Nat.add_zero]; done) | (simp only [List.length_append, List.length_map, List.length_nil, List.length_cons, List.nil_append, Nat.zero_add, Nat.add_zero]; omega) | omega)) ?_
    | refine Need.mk (by first | kernel_rfl | exact ⟨of_decide_eq_true rfl, of_decide_eq_true rfl⟩ | omega) ?_
    | refine Len.mk ⟨_, by simp only [List.length_cons, List.length_nil, Nat.reduceAdd, Int.cast_ofNat_Int]; rfl, ?_⟩
    | refine Wr.lit _ (by simp only [Int.reduceAdd, Int.reduceSub, Int.reduceMul]; rfl) (by decide) ?_
    | refine Wr.fit (by omega) ?_
    | refine Wr.fit (by dsimp only; omega) ?_
    | refine Elem.mk ⟨_, ⟨of_decide_eq_true rfl, rfl⟩, ?_⟩
    | refine Len.map ?_
    | refine Len.dropM ?_
    | refine Elem.dropM ?_
    | refine Len.takeM ?_
    | refine Elem.takeM ?_
    | refine Elem.mapK (by assumption) ?_
    | refine Elem.mapI (by omega) (by assumption) ?_
    | refine Elem.mapN (by omega) (fun x hx => ?_)
    | refine Elem.map (by omega) (by omega) (fun x hx => ?_)
    | refine (h1).use ⟨rfl, ?_⟩
    | refine (h2).use ⟨rfl, ?_⟩
    | refine (none14_ok).use ⟨rfl, ?_⟩
    | refine (hfst).use ⟨rfl, ?_⟩
    | refine CallX.mk ⟨_, _, (h1).x, rfl, ?_⟩
    | refine CallX.mk ⟨_, _, (h2).x, rfl, ?_⟩
    | refine CallX.mk ⟨_, _, (none14_ok).x, rfl, ?_⟩
    | refine CallX.mk ⟨_, _, (hfst).x, rfl, ?_⟩
    | refine Done.mk ⟨rfl, rfl⟩
    | refine Done.mk ⟨congrArg gb ?_, rfl⟩
    | refine Done.mk ⟨?_, rfl⟩
    | refine Done.mk ⟨?_, ?_⟩)
  all_goals (show GV.tup [gi (m.Now + (r : Int) - m.Now), gi 0] = _; rw [show m.Now + (r : Int) - m.Now = r by omega]; rfl)
  }
  }
  {
  rw [if_neg hc]
  refine ICalls.of_body Try.func18 rfl Try.call18 rfl (Nat.le_of_ble_eq_true rfl) (fun _ => none) rfl ?_
  repeat' ((conv => whnf); first
    | refine Br.yes rfl ?_
    | refine Br.no rfl ?_
    | refine Br.yes (beq_self_eq_true _) ?_
    | refine Br.not ?_
    | refine Br.yes (decide_eq_true (by assumption)) ?_
    | refine Br.no (decide_eq_false (by assumption)) ?_
    | refine Br.yes (beq_iff_eq.2 (by assumption)) ?_
    | refine Br.no (beq_eq_false_iff_ne.2 (by assumption)) ?_
    | refine Br.yes (bne_iff_ne.2 (by assumption)) ?_
    | (refine Br.dec (fun h => ?_) (fun h => ?_) <;> try dsimp only at h)
    | (refine Br.beqI (fun h => ?_) (fun h => ?_) <;> try dsimp only at h)
    | (refine Br.bneI (fun h => ?_) (fun h => ?_) <;> try dsimp only at h)
    | refine Br.mk (fun h => ?_) (fun h => ?_)
    | refine Need.mk (app_need (by first | (simp only [List.length_append, List.length_map, List.length_nil, List.length_cons, List.nil_append, Nat.zero_add, Nat.add_zero]; done) | (simp only [List.length_append, List.length_map, List.length_nil, List.length_cons, List.nil_append, Nat.zero_add, Nat.add_zero]; omega) | omega) (Nat.le_of_ble_eq_true rfl) (by first | (simp only [List.length_append, List.length_map, List.length_nil, List.length_cons, List.nil_append, Nat.zero_add, Nat.add_zero]; done) | (simp only [List.length_append, List.length_map, List.length_nil, List.length_cons, List.nil_append, Nat.zero_add, Nat.add_zero]; omega) | omega)) ?_
    | refine Need.mk (app_need0 (Nat.le_of_ble_eq_true rfl) (by first | (simp only [List.length_append, List.length_map, List.length_nil, List.length_cons, List.nil_append, Nat.zero_add, Nat.add_zero]; done) | (simp only [List.length_append, List.length_map, List.length_nil, List.length_cons, List.nil_append, Nat.zero_add, Nat.add_zero]; omega) | omega)) ?_
    | refine Need.mk (by first | kernel_rfl | exact ⟨of_decide_eq_true rfl, of_decide_eq_true rfl⟩ | omega) ?_
    | refine Len.mk ⟨_, by simp only [List.length_cons, List.length_nil, Nat.reduceAdd, Int.cast_ofNat_Int]; rfl, ?_⟩
    | refine Wr.lit _ (by simp only [Int.reduceAdd, Int.reduceSub, Int.reduceMul]; rfl) (by decide) ?_
    | refine Wr.fit (by omega) ?_
    | refine Wr.fit (by dsimp only; omega) ?_
    | refine Elem.mk ⟨_, ⟨of_decide_eq_true rfl, rfl⟩, ?_⟩
    | refine Len.map ?_
    | refine Len.dropM ?_
    | refine Elem.dropM ?_
    | refine Len.takeM ?_
    | refine Elem.takeM ?_
    | refine Elem.mapK (by assumption) ?_
    | refine Elem.mapI (by omega) (by assumption) ?_
    | refine Elem.mapN (by omega) (fun x hx => ?_)
    | refine Elem.map (by omega) (by omega) (fun x hx => ?_)
    | refine (h1).use ⟨rfl, ?_⟩
    | refine CallX.mk ⟨_, _, (h1).x, rfl, ?_⟩
    | refine Done.mk ⟨rfl, rfl⟩
    | refine Done.mk ⟨congrArg gb ?_, rfl⟩
    | refine Done.mk ⟨?_, rfl⟩
    | refine Done.mk ⟨?_, ?_⟩)
  }

def pl_G9_1 : Nat → Option (List Nat × List Nat) := (fun k => bif Nat.beq k 5 then some ([1000005, 2, 3, 4, 11], [103, 104]) else none)
def pl_G9_2 : Nat → Option (List Nat × List Nat) := (fun k => bif Nat.beq k 5 then some ([1000005, 2, 3, 4, 11], [103, 104]) else none)
set_option maxRecDepth 100000 in
set_option maxHeartbeats 2000000 in
theorem refFar14_ok (b : Book) (m : Meter) (k : Int) : ICalls Try.prog 19 [b.g, m.g, gi k] [] (Done (farG (farAll b m k)) []) := by
  have h1 := refOver_ok b m k 0
  unfold farAll
  unfold overAll at h1
  by_cases hc : check14 b m k 0 = 0
  {
  rw [if_pos hc]
  rw [if_pos hc] at h1
  obtain ⟨hb, hm, hk, -⟩ := check14_0 hc
  have hm0 := hm.now
  generalize hr : farR b k (40320 - m.Now).toNat m = r
  refine ICalls.of_body Try.func19 rfl Try.call19 rfl (Nat.le_of_ble_eq_true rfl) pl_G9_1 rfl ?_
  repeat' ((conv => whnf); first
    | refine Br.yes rfl ?_
    | refine Br.no rfl ?_
    | (refine ILoop.ov 1000005 (fun ((n, mm) : Nat × Meter) => [(11, gi n)]) (fun ((n, mm) : Nat × Meter) => [(104, .cells (mm.c))]) (fun ((n, mm) : Nat × Meter) => mm.May ∧ mm.Now = m.Now + n ∧ n ≤ 40320 ∧ farR b k (40320 - mm.Now).toNat mm + n = r) (fun ((n, mm) : Nat × Meter) => (40320 - mm.Now).toNat) ((0, m)) (by exact rfl) ?_; (conv => whnf); refine Start.mk rfl ?_ ?_; (try dsimp only); rotate_left; rintro ⟨n, mm⟩ ⟨hmm, hN, hn, hr1⟩; (have hm9 := hmm.now))
    | (refine Again.mk ⟨((n + 1, mm.step b k)), rfl, ?_, ?_⟩ <;> try dsimp only)
    | refine Br.yes (beq_self_eq_true _) ?_
    | refine Br.not ?_
    | refine Br.yes (decide_eq_true (by assumption)) ?_
    | refine Br.no (decide_eq_false (by assumption)) ?_
    | refine Br.yes (beq_iff_eq.2 (by assumption)) ?_
    | refine Br.no (beq_eq_false_iff_ne.2 (by assumption)) ?_
    | refine Br.yes (bne_iff_ne.2 (by assumption)) ?_
    | (refine Br.dec (fun h => ?_) (fun h => ?_) <;> try dsimp only at h)
    | (refine Br.beqI (fun h => ?_) (fun h => ?_) <;> try dsimp only at h)
    | (refine Br.bneI (fun h => ?_) (fun h => ?_) <;> try dsimp only at h)
    | refine Br.mk (fun h => ?_) (fun h => ?_)
    | refine Need.mk (app_need (by first | (simp only [List.length_append, List.length_map, List.length_nil, List.length_cons, List.nil_append, Nat.zero_add, Nat.add_zero]; done) | (simp only [List.length_append, List.length_map, List.length_nil, List.length_cons, List.nil_append, Nat.zero_add, Nat.add_zero]; omega) | omega) (Nat.le_of_ble_eq_true rfl) (by first | (simp only [List.length_append, List.length_map, List.length_nil, List.length_cons, List.nil_append, Nat.zero_add, Nat.add_zero]; done) | (simp only [List.length_append, List.length_map, List.length_nil, List.length_cons, List.nil_append, Nat.zero_add, Nat.add_zero]; omega) | omega)) ?_
    | refine Need.mk (app_need0 (Nat.le_of_ble_eq_true rfl) (by first | (simp only [List.length_append, List.length_map, List.length_nil, List.length_cons, List.nil_append, Nat.zero_add, Nat.add_zero]; done) | (simp only [List.length_append, List.length_map, List.length_nil, List.length_cons, List.nil_append, Nat.zero_add, Nat.add_zero]; omega) | omega)) ?_
    | refine Need.mk (by first | kernel_rfl | exact ⟨of_decide_eq_true rfl, of_decide_eq_true rfl⟩ | omega) ?_
    | refine Len.mk ⟨_, by simp only [List.length_cons, List.length_nil, Nat.reduceAdd, Int.cast_ofNat_Int]; rfl, ?_⟩
    | refine Wr.lit _ (by simp only [Int.reduceAdd, Int.reduceSub, Int.reduceMul]; rfl) (by decide) ?_
    | refine Wr.fit (by omega) ?_
    | refine Wr.fit (by dsimp only; omega) ?_
    | refine Elem.mk ⟨_, ⟨of_decide_eq_true rfl, rfl⟩, ?_⟩
    | refine Len.map ?_
    | refine Len.dropM ?_
    | refine Elem.dropM ?_
    | refine Len.takeM ?_
    | refine Elem.takeM ?_
    | refine Elem.mapK (by assumption) ?_
    | refine Elem.mapI (by omega) (by assumption) ?_
    | refine Elem.mapN (by omega) (fun x hx => ?_)
    | refine Elem.map (by omega) (by omega) (fun x hx => ?_)
    | refine (h1).use ⟨rfl, ?_⟩
    | refine ((refStep_ok b mm k hb hmm ⟨by omega, by omega⟩).to (pair_eq (stepN_cast b mm k))).use ⟨rfl, ?_⟩
    | refine CallX.mk ⟨_, _, (h1).x, rfl, ?_⟩
    | refine CallX.mk ⟨_, _, ((refStep_ok b mm k hb hmm ⟨by omega, by omega⟩).to (pair_eq (stepN_cast b mm k))).x, rfl, ?_⟩
    | refine Done.mk ⟨rfl, rfl⟩
    | refine Done.mk ⟨congrArg gb ?_, rfl⟩
    | refine Done.mk ⟨?_, rfl⟩
    | refine Done.mk ⟨?_, ?_⟩)
  · have h8 : stepN b mm k = 0 := by omega
    have h9 := farR_step (b := b) (k := k) hmm (by assumption)
    have h7 := hmm.step (b := b) (by assumption) k
    rw [if_pos h8] at h9
    exact ⟨h7.1, by rw [h7.2]; omega, by omega, by omega⟩
  · have h7 := hmm.step (b := b) (by assumption) k
    rw [h7.2]; omega
  · have h8 : stepN b mm k ≠ 0 := by omega
    have h9 := farR_step (b := b) (k := k) hmm (by assumption)
    rw [if_neg h8] at h9
    rw [h9, Nat.zero_add] at hr1
    rw [hr1]; rfl
  · rw [show (40320 - mm.Now).toNat = 0 by omega] at hr1
    rw [show farR b k 0 mm = 0 from rfl, Nat.zero_add] at hr1
    rw [hr1]; rfl
  · exact ⟨hm, by omega, by omega, hr⟩
  }
  {
  rw [if_neg hc]
  rw [if_neg hc] at h1
  refine ICalls.of_body Try.func19 rfl Try.call19 rfl (Nat.le_of_ble_eq_true rfl) pl_G9_2 rfl ?_
  repeat' ((conv => whnf); first
    | refine Br.yes rfl ?_
    | refine Br.no rfl ?_
    | refine Br.yes (beq_self_eq_true _) ?_
    | refine Br.not ?_
    | refine Br.yes (decide_eq_true (by assumption)) ?_
    | refine Br.no (decide_eq_false (by assumption)) ?_
    | refine Br.yes (beq_iff_eq.2 (by assumption)) ?_
    | refine Br.no (beq_eq_false_iff_ne.2 (by assumption)) ?_
    | refine Br.yes (bne_iff_ne.2 (by assumption)) ?_
    | (refine Br.dec (fun h => ?_) (fun h => ?_) <;> try dsimp only at h)
    | (refine Br.beqI (fun h => ?_) (fun h => ?_) <;> try dsimp only at h)
    | (refine Br.bneI (fun h => ?_) (fun h => ?_) <;> try dsimp only at h)
    | refine Br.mk (fun h => ?_) (fun h => ?_)
    | refine Need.mk (app_need (by first | (simp only [List.length_append, List.length_map, List.length_nil, List.length_cons, List.nil_append, Nat.zero_add, Nat.add_zero]; done) | (simp only [List.length_append, List.length_map, List.length_nil, List.length_cons, List.nil_append, Nat.zero_add, Nat.add_zero]; omega) | omega) (Nat.le_of_ble_eq_true rfl) (by first | (simp only [List.length_append, List.length_map, List.length_nil, List.length_cons, List.nil_append, Nat.zero_add, Nat.add_zero]; done) | (simp only [List.length_append, List.length_map, List.length_nil, List.length_cons, List.nil_append, Nat.zero_add, Nat.add_zero]; omega) | omega)) ?_
    | refine Need.mk (app_need0 (Nat.le_of_ble_eq_true rfl) (by first | (simp only [List.length_append, List.length_map, List.length_nil, List.length_cons, List.nil_append, Nat.zero_add, Nat.add_zero]; done) | (simp only [List.length_append, List.length_map, List.length_nil, List.length_cons, List.nil_append, Nat.zero_add, Nat.add_zero]; omega) | omega)) ?_
    | refine Need.mk (by first | kernel_rfl | exact ⟨of_decide_eq_true rfl, of_decide_eq_true rfl⟩ | omega) ?_
    | refine Len.mk ⟨_, by simp only [List.length_cons, List.length_nil, Nat.reduceAdd, Int.cast_ofNat_Int]; rfl, ?_⟩
    | refine Wr.lit _ (by simp only [Int.reduceAdd, Int.reduceSub, Int.reduceMul]; rfl) (by decide) ?_
    | refine Wr.fit (by omega) ?_
    | refine Wr.fit (by dsimp only; omega) ?_
    | refine Elem.mk ⟨_, ⟨of_decide_eq_true rfl, rfl⟩, ?_⟩
    | refine Len.map ?_
    | refine Len.dropM ?_
    | refine Elem.dropM ?_
    | refine Len.takeM ?_
    | refine Elem.takeM ?_
    | refine Elem.mapK (by assumption) ?_
    | refine Elem.mapI (by omega) (by assumption) ?_
    | refine Elem.mapN (by omega) (fun x hx => ?_)
    | refine Elem.map (by omega) (by omega) (fun x hx => ?_)
    | refine (h1).use ⟨rfl, ?_⟩
    | refine CallX.mk ⟨_, _, (h1).x, rfl, ?_⟩
    | refine Done.mk ⟨rfl, rfl⟩
    | refine Done.mk ⟨congrArg gb ?_, rfl⟩
    | refine Done.mk ⟨?_, rfl⟩
    | refine Done.mk ⟨?_, ?_⟩)
  }

theorem al14 : farAll Book.europe Meter.zero 3 = (270, 0) := by decide +kernel
set_option maxRecDepth 100000 in
theorem alive14_ok : ICalls Try.prog 17 [] [] (Done (gb true) []) := by
  refine ICalls.of_body Try.func17 rfl Try.call17 rfl (Nat.le_of_ble_eq_true rfl) (fun _ => none) rfl ?_
  repeat' ((conv => whnf); first
    | refine Br.yes rfl ?_
    | refine Br.no rfl ?_
    | refine Br.yes (beq_self_eq_true _) ?_
    | refine Br.not ?_
    | refine Br.yes (decide_eq_true (by assumption)) ?_
    | refine Br.no (decide_eq_false (by assumption)) ?_
    | refine Br.yes (beq_iff_eq.2 (by assumption)) ?_
    | refine Br.no (beq_eq_false_iff_ne.2 (by assumption)) ?_
    | refine Br.yes (bne_iff_ne.2 (by assumption)) ?_
    | (refine Br.dec (fun h => ?_) (fun h => ?_) <;> try dsimp only at h)
    | (refine Br.beqI (fun h => ?_) (fun h => ?_) <;> try dsimp only at h)
    | (refine Br.bneI (fun h => ?_) (fun h => ?_) <;> try dsimp only at h)
    | refine Br.mk (fun h => ?_) (fun h => ?_)
    | refine Need.mk (app_need (by first | (simp only [List.length_append, List.length_map, List.length_nil, List.length_cons, List.nil_append, Nat.zero_add, Nat.add_zero]; done) | (simp only [List.length_append, List.length_map, List.length_nil, List.length_cons, List.nil_append, Nat.zero_add, Nat.add_zero]; omega) | omega) (Nat.le_of_ble_eq_true rfl) (by first | (simp only [List.length_append, List.length_map, List.length_nil, List.length_cons, List.nil_append, Nat.zero_add, Nat.add_zero]; done) | (simp only [List.length_append, List.length_map, List.length_nil, List.length_cons, List.nil_append, Nat.zero_add, Nat.add_zero]; omega) | omega)) ?_
    | refine Need.mk (app_need0 (Nat.le_of_ble_eq_true rfl) (by first | (simp only [List.length_append, List.length_map, List.length_nil, List.length_cons, List.nil_append, Nat.zero_add, Nat.add_zero]; done) | (simp only [List.length_append, List.length_map, List.length_nil, List.length_cons, List.nil_append, Nat.zero_add, Nat.add_zero]; omega) | omega)) ?_
    | refine Need.mk (by first | kernel_rfl | exact ⟨of_decide_eq_true rfl, of_decide_eq_true rfl⟩ | omega) ?_
    | refine Len.mk ⟨_, by simp only [List.length_cons, List.length_nil, Nat.reduceAdd, Int.cast_ofNat_Int]; rfl, ?_⟩
    | refine Wr.lit _ (by simp only [Int.reduceAdd, Int.reduceSub, Int.reduceMul]; rfl) (by decide) ?_
    | refine Wr.fit (by omega) ?_
    | refine Wr.fit (by dsimp only; omega) ?_
    | refine Elem.mk ⟨_, ⟨of_decide_eq_true rfl, rfl⟩, ?_⟩
    | refine Len.map ?_
    | refine Len.dropM ?_
    | refine Elem.dropM ?_
    | refine Len.takeM ?_
    | refine Elem.takeM ?_
    | refine Elem.mapK (by assumption) ?_
    | refine Elem.mapI (by omega) (by assumption) ?_
    | refine Elem.mapN (by omega) (fun x hx => ?_)
    | refine Elem.map (by omega) (by omega) (fun x hx => ?_)
    | refine (europe_ok).use ⟨rfl, ?_⟩
    | refine ((far14_ok Book.europe Meter.zero 3).to (congrArg farG al14)).use ⟨rfl, ?_⟩
    | refine CallX.mk ⟨_, _, (europe_ok).x, rfl, ?_⟩
    | refine CallX.mk ⟨_, _, ((far14_ok Book.europe Meter.zero 3).to (congrArg farG al14)).x, rfl, ?_⟩
    | refine Done.mk ⟨rfl, rfl⟩
    | refine Done.mk ⟨congrArg gb ?_, rfl⟩
    | refine Done.mk ⟨?_, rfl⟩
    | refine Done.mk ⟨?_, ?_⟩)

end Go.Hl

/- The laws of chapter 14.  -/
set_option linter.unusedVariables false
set_option linter.unusedSimpArgs false
namespace Go.Hl
open Go.Gh Go.Proofs

def flatM (m : Meter) : List Value := [.int .i64 m.Now, .int .i64 m.Acc, .bool m.Half, .int .i64 m.Lie, .int .i64 m.Dawn, .int .i64 m.Day, .int .i64 m.Longers, .bool m.Split, .int .i64 m.Reduces, .int .i64 m.Sabbath, .bool m.Brief, .int .i64 m.Week, .int .i64 m.Last, .int .i64 m.Labour]
theorem flatM_self (m : Meter) : flatEq (flatM m) (flatM m) = true := by simp [flatM, flatEq]
theorem flat10_self (f : F10) : flatEq (flat10 f) (flat10 f) = true := by simp [flat10, flatEq]

set_option maxRecDepth 100000 in
set_option maxHeartbeats 2000000 in
theorem stretchOver_ok (b : Book) (m : Meter) (k n : Int) : ICalls Try.prog 3 [b.g, m.g, .agg [gi k, gi n]] [] (Done (gb true) []) := by
  have h1 := over_ok b m k n
  have h2 := refOver_ok b m k n
  generalize overAll b m k n = r at *
  obtain ⟨S, F, e⟩ := r
  have hS := flatM_self S
  have hF := flat10_self F
  refine ICalls.of_body Try.func3 rfl Try.call3 rfl (Nat.le_of_ble_eq_true rfl) (fun _ => none) rfl ?_
  repeat' ((conv => whnf); first
    | refine Br.yes rfl ?_
    | refine Br.no rfl ?_
    | refine Need.mk (EqRun.plain (by kernel_rfl) rfl) ?_
    | refine Br.yes hS ?_
    | refine Br.yes hF ?_
    | refine Br.yes (beq_self_eq_true _) ?_
    | refine Br.not ?_
    | refine Br.yes (decide_eq_true (by assumption)) ?_
    | refine Br.no (decide_eq_false (by assumption)) ?_
    | refine Br.yes (beq_iff_eq.2 (by assumption)) ?_
    | refine Br.no (beq_eq_false_iff_ne.2 (by assumption)) ?_
    | refine Br.yes (bne_iff_ne.2 (by assumption)) ?_
    | (refine Br.dec (fun h => ?_) (fun h => ?_) <;> try dsimp only at h)
    | (refine Br.beqI (fun h => ?_) (fun h => ?_) <;> try dsimp only at h)
    | (refine Br.bneI (fun h => ?_) (fun h => ?_) <;> try dsimp only at h)
    | refine Br.mk (fun h => ?_) (fun h => ?_)
    | refine Need.mk (app_need (by first | (simp only [List.length_append, List.length_map, List.length_nil, List.length_cons, List.nil_append, Nat.zero_add, Nat.add_zero]; done) | (simp only [List.length_append, List.length_map, List.length_nil, List.length_cons, List.nil_append, Nat.zero_add, Nat.add_zero]; omega) | omega) (Nat.le_of_ble_eq_true rfl) (by first | (simp only [List.length_append, List.length_map, List.length_nil, List.length_cons, List.nil_append, Nat.zero_add, Nat.add_zero]; done) | (simp only [List.length_append, List.length_map, List.length_nil, List.length_cons, List.nil_append, Nat.zero_add, Nat.add_zero]; omega) | omega)) ?_
    | refine Need.mk (app_need0 (Nat.le_of_ble_eq_true rfl) (by first | (simp only [List.length_append, List.length_map, List.length_nil, List.length_cons, List.nil_append, Nat.zero_add, Nat.add_zero]; done) | (simp only [List.length_append, List.length_map, List.length_nil, List.length_cons, List.nil_append, Nat.zero_add, Nat.add_zero]; omega) | omega)) ?_
    | refine Need.mk (by first | kernel_rfl | exact ⟨of_decide_eq_true rfl, of_decide_eq_true rfl⟩ | omega) ?_
    | refine Len.mk ⟨_, by simp only [List.length_cons, List.length_nil, Nat.reduceAdd, Int.cast_ofNat_Int]; rfl, ?_⟩
    | refine Wr.lit _ (by simp only [Int.reduceAdd, Int.reduceSub, Int.reduceMul]; rfl) (by decide) ?_
    | refine Wr.fit (by omega) ?_
    | refine Wr.fit (by dsimp only; omega) ?_
    | refine Elem.mk ⟨_, ⟨of_decide_eq_true rfl, rfl⟩, ?_⟩
    | refine Len.map ?_
    | refine Len.dropM ?_
    | refine Elem.dropM ?_
    | refine Len.takeM ?_
    | refine Elem.takeM ?_
    | refine Elem.mapK (by assumption) ?_
    | refine Elem.mapI (by omega) (by assumption) ?_
    | refine Elem.mapN (by omega) (fun x hx => ?_)
    | refine Elem.map (by omega) (by omega) (fun x hx => ?_)
    | refine (h1).use ⟨rfl, ?_⟩
    | refine (h2).use ⟨rfl, ?_⟩
    | refine (alive14_ok).use ⟨rfl, ?_⟩
    | refine CallX.mk ⟨_, _, (h1).x, rfl, ?_⟩
    | refine CallX.mk ⟨_, _, (h2).x, rfl, ?_⟩
    | refine CallX.mk ⟨_, _, (alive14_ok).x, rfl, ?_⟩
    | refine Done.mk ⟨rfl, rfl⟩
    | refine Done.mk ⟨congrArg gb ?_, rfl⟩
    | refine Done.mk ⟨?_, rfl⟩
    | refine Done.mk ⟨?_, ?_⟩)

set_option maxRecDepth 100000 in
set_option maxHeartbeats 2000000 in
theorem stretchFar_ok (b : Book) (m : Meter) (k : Int) (f : F10) : ICalls Try.prog 4 [b.g, m.g, .agg (gi k :: f.c)] [] (Done (gb true) []) := by
  have h1 := far14_ok b m k
  have h2 := refFar14_ok b m k
  have h3 := first14_ok f
  have h4 := refFirst14_ok f
  generalize farAll b m k = r at *
  generalize f.fst 10 = x at *
  obtain ⟨n, e⟩ := r
  refine ICalls.of_body Try.func4 rfl Try.call4 rfl (Nat.le_of_ble_eq_true rfl) (fun _ => none) rfl ?_
  repeat' ((conv => whnf); first
    | refine Br.yes rfl ?_
    | refine Br.no rfl ?_
    | refine Br.yes (beq_self_eq_true _) ?_
    | refine Br.not ?_
    | refine Br.yes (decide_eq_true (by assumption)) ?_
    | refine Br.no (decide_eq_false (by assumption)) ?_
    | refine Br.yes (beq_iff_eq.2 (by assumption)) ?_
    | refine Br.no (beq_eq_false_iff_ne.2 (by assumption)) ?_
    | refine Br.yes (bne_iff_ne.2 (by assumption)) ?_
    | (refine Br.dec (fun h => ?_) (fun h => ?_) <;> try dsimp only at h)
    | (refine Br.beqI (fun h => ?_) (fun h => ?_) <;> try dsimp only at h)
    | (refine Br.bneI (fun h => ?_) (fun h => ?_) <;> try dsimp only at h)
    | refine Br.mk (fun h => ?_) (fun h => ?_)
    | refine Need.mk (app_need (by first | (simp only [List.length_append, List.length_map, List.length_nil, List.length_cons, List.nil_append, Nat.zero_add, Nat.add_zero]; done) | (simp only [List.length_append, List.length_map, List.length_nil, List.length_cons, List.nil_append, Nat.zero_add, Nat.add_zero]; omega) | omega) (Nat.le_of_ble_eq_true rfl) (by first | (simp only [List.length_append, List.length_map, List.length_nil, List.length_cons, List.nil_append, Nat.zero_add, Nat.add_zero]; done) | (simp only [List.length_append, List.length_map, List.length_nil, List.length_cons, List.nil_append, Nat.zero_add, Nat.add_zero]; omega) | omega)) ?_
    | refine Need.mk (app_need0 (Nat.le_of_ble_eq_true rfl) (by first | (simp only [List.length_append, List.length_map, List.length_nil, List.length_cons, List.nil_append, Nat.zero_add, Nat.add_zero]; done) | (simp only [List.length_append, List.length_map, List.length_nil, List.length_cons, List.nil_append, Nat.zero_add, Nat.add_zero]; omega) | omega)) ?_
    | refine Need.mk (by first | kernel_rfl | exact ⟨of_decide_eq_true rfl, of_decide_eq_true rfl⟩ | omega) ?_
    | refine Len.mk ⟨_, by simp only [List.length_cons, List.length_nil, Nat.reduceAdd, Int.cast_ofNat_Int]; rfl, ?_⟩
    | refine Wr.lit _ (by simp only [Int.reduceAdd, Int.reduceSub, Int.reduceMul]; rfl) (by decide) ?_
    | refine Wr.fit (by omega) ?_
    | refine Wr.fit (by dsimp only; omega) ?_
    | refine Elem.mk ⟨_, ⟨of_decide_eq_true rfl, rfl⟩, ?_⟩
    | refine Len.map ?_
    | refine Len.dropM ?_
    | refine Elem.dropM ?_
    | refine Len.takeM ?_
    | refine Elem.takeM ?_
    | refine Elem.mapK (by assumption) ?_
    | refine Elem.mapI (by omega) (by assumption) ?_
    | refine Elem.mapN (by omega) (fun x hx => ?_)
    | refine Elem.map (by omega) (by omega) (fun x hx => ?_)
    | refine (h1).use ⟨rfl, ?_⟩
    | refine (h2).use ⟨rfl, ?_⟩
    | refine (h3).use ⟨rfl, ?_⟩
    | refine (h4).use ⟨rfl, ?_⟩
    | refine (alive14_ok).use ⟨rfl, ?_⟩
    | refine CallX.mk ⟨_, _, (h1).x, rfl, ?_⟩
    | refine CallX.mk ⟨_, _, (h2).x, rfl, ?_⟩
    | refine CallX.mk ⟨_, _, (h3).x, rfl, ?_⟩
    | refine CallX.mk ⟨_, _, (h4).x, rfl, ?_⟩
    | refine CallX.mk ⟨_, _, (alive14_ok).x, rfl, ?_⟩
    | refine Done.mk ⟨rfl, rfl⟩
    | refine Done.mk ⟨congrArg gb ?_, rfl⟩
    | refine Done.mk ⟨?_, rfl⟩
    | refine Done.mk ⟨?_, ?_⟩)

end Go.Hl
