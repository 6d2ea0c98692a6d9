/- Contracts of functions, bundle H31; proved for whatever the arguments' types allow, as each theorem says. -/
import Derived.Test.YthpdmbnakkaliaaH27

/- The law Parts of chapter 14.  -/
set_option linter.unusedVariables false
set_option linter.unusedSimpArgs false
namespace Go.Hl
open Go.Gh Go.Proofs

def combI (f g : Int) : Int := if f < 0 then g else f
theorem combT {w f g : Int} (h : w = combI f g) : f < 0 → w = g := fun e => h.trans (if_pos e)
theorem combF {w f g : Int} (h : w = combI f g) : ¬ f < 0 → w = f := fun e => h.trans (if_neg e)
def F10.comb (f g : F10) : F10 := ⟨combI f.a0 g.a0, combI f.a1 g.a1, combI f.a2 g.a2, combI f.a3 g.a3, combI f.a4 g.a4, combI f.a5 g.a5, combI f.a6 g.a6, combI f.a7 g.a7, combI f.a8 g.a8, combI f.a9 g.a9⟩
theorem markI_comb (w : Bool) (x f g : Int) : markI w x (combI f g) = combI f (markI w x g) := by
  unfold markI combI
  by_cases h : f < 0
  · simp [h]
  · rw [if_neg h, if_neg h, if_neg (fun e => h e.2)]
theorem mark_comb (f g : F10) (q : Nat) (x : Int) : (f.comb g).mark q x = f.comb (g.mark q x) := by
  unfold F10.mark F10.comb
  simp only [markI_comb]
theorem comb_none {b : Book} {k : Int} (m : Meter) (f : F10) (hf : ∀ i, -1 ≤ f.at i) : ∀ n : Nat, fiN b k n m f = f.comb (fiN b k n m F10.none)
  | 0 => by
    show f = f.comb F10.none
    have h0 := hf 0; have h1 := hf 1; have h2 := hf 2; have h3 := hf 3; have h4 := hf 4; have h5 := hf 5; have h6 := hf 6; have h7 := hf 7; have h8 := hf 8; have h9 := hf 9
    simp only [F10.at] at *
    have hc : ∀ x : Int, -1 ≤ x → x = combI x (-1) := fun x hx => by unfold combI; split <;> omega
    unfold F10.comb
    obtain ⟨a0, a1, a2, a3, a4, a5, a6, a7, a8, a9⟩ := f
    simp only [F10.none, F10.mk.injEq]
    exact ⟨hc _ h0, hc _ h1, hc _ h2, hc _ h3, hc _ h4, hc _ h5, hc _ h6, hc _ h7, hc _ h8, hc _ h9⟩
  | n + 1 => by
    show (fiN b k n m f).mark _ _ = f.comb ((fiN b k n m F10.none).mark _ _)
    rw [comb_none m f hf n, mark_comb]
theorem markI_low {w : Bool} {x f : Int} (hx : -1 ≤ x) (hf : -1 ≤ f) : -1 ≤ markI w x f := by unfold markI; split <;> assumption
theorem fiN_low {b : Book} {k : Int} {m : Meter} (hm : m.May) {f : F10} (hf : ∀ i, -1 ≤ f.at i) : ∀ n : Nat, m.Now + (n : Int) ≤ 40320 → ∀ i, -1 ≤ (fiN b k n m f).at i
  | 0, _ => hf
  | n + 1, hn => by
    have ih := fiN_low (b := b) (k := k) hm hf n (by omega)
    have h2 := (stN_May (b := b) (k := k) hm n (by omega)).2
    have h3 := hm.now
    intro i
    show -1 ≤ ((fiN b k n m f).mark _ (stN b k n m).Now).at i
    have hx : -1 ≤ (stN b k n m).Now := by omega
    have hlow : ∀ j, j < 10 → -1 ≤ ((fiN b k n m f).mark (stepN b (stN b k n m) k) (stN b k n m).Now).at j := fun j hj => by
      rw [mark_at _ _ _ j hj]; exact markI_low hx (ih j)
    by_cases hi : i < 10
    · exact hlow i hi
    · have h9 := hlow 9 (by omega)
      obtain ⟨c, rfl⟩ : ∃ c, i = c + 10 := ⟨i - 10, by omega⟩
      exact h9
theorem fiN_comb {b : Book} {k : Int} {m : Meter} (hm : m.May) (a c : Nat) (ha : m.Now + (a : Int) ≤ 40320) : fiN b k (a + c) m F10.none = (fiN b k a m F10.none).comb (fiN b k c (stN b k a m) F10.none) := by
  rw [fiN_add]
  exact comb_none _ _ (fiN_low hm (fun i => by rw [none_at]; omega) a ha) c

def pl_G12_1 : Nat → Option (List Nat × List Nat) := (fun k => bif Nat.beq k 11 then some ([1000011, 8, 11, 14, 77], [108, 111, 114]) else none)
def pl_G12_2 : Nat → Option (List Nat × List Nat) := (fun k => bif Nat.beq k 11 then some ([1000011, 8, 11, 14, 77], [108, 111, 114]) else none)
def pl_G12_3 : Nat → Option (List Nat × List Nat) := (fun k => bif Nat.beq k 11 then some ([1000011, 8, 11, 14, 77], [108, 111, 114]) else none)
set_option maxRecDepth 100000 in
set_option maxHeartbeats 4000000 in
theorem stretchParts_ok (b : Book) (m : Meter) (k x y : Int) : ICalls Try.prog 5 [b.g, m.g, .agg [gi k, gi x, gi y]] [] (Done (gb true) []) := by
  have h1 := over_ok b m k x
  unfold overAll at h1
  by_cases hc : check14 b m k x = 0
  case neg =>
    rw [if_neg hc] at h1
    generalize check14 b m k x = e at *
    refine ICalls.of_body Try.func5 rfl Try.call5 rfl (Nat.le_of_ble_eq_true rfl) pl_G12_1 rfl ?_
    repeat' ((conv => whnf); first
      | refine Br.yes rfl ?_
      | refine Br.no rfl ?_
      | refine Need.mk (EqRun.plain (by kernel_rfl) rfl) ?_
      | refine Br.yes (beq_self_eq_true _) ?_
      | refine Br.not ?_
      | refine Br.yes (decide_eq_true (by assumption)) ?_
      | refine Br.no (decide_eq_false (by assumption)) ?_
      | refine Br.yes (beq_iff_eq.2 (by assumption)) ?_
      | refine Br.no (beq_eq_false_iff_ne.2 (by assumption)) ?_
      | refine Br.yes (bne_iff_ne.2 (by assumption)) ?_
      | (refine Br.dec (fun h => ?_) (fun h => ?_) <;> try dsimp only at h)
      | (refine Br.beqI (fun h => ?_) (fun h => ?_) <;> try dsimp only at h)
      | (refine Br.bneI (fun h => ?_) (fun h => ?_) <;> try dsimp only at h)
      | refine Br.mk (fun h => ?_) (fun h => ?_)
      | refine Need.mk (app_need (by first | (simp only [List.length_append, List.length_map, List.length_nil, List.length_cons, List.nil_append, Nat.zero_add, Nat.add_zero]; done) | (simp only [List.length_append, List.length_map, List.length_nil, List.length_cons, List.nil_append, Nat.zero_add, Nat.add_zero]; omega) | omega) (Nat.le_of_ble_eq_true rfl) (by first | (simp only [List.length_append, List.length_map, List.length_nil, List.length_cons, List.nil_append, Nat.zero_add, Nat.add_zero]; done) | (simp only [List.length_append, List.length_map, List.length_nil, List.length_cons, List.nil_append, Nat.zero_add, Nat.add_zero]; omega) | omega)) ?_
      | refine Need.mk (app_need0 (Nat.le_of_ble_eq_true rfl) (by first | (simp only [List.length_append, List.length_map, List.length_nil, List.length_cons, List.nil_append, Nat.zero_add, Nat.add_zero]; done) | (simp only [List.length_append, List.length_map, List.length_nil, List.length_cons, List.nil_append, Nat.zero_add, Nat.add_zero]; omega) | omega)) ?_
      | refine Need.mk (by first | kernel_rfl | exact ⟨of_decide_eq_true rfl, of_decide_eq_true rfl⟩ | omega) ?_
      | refine Len.mk ⟨_, by simp only [List.length_cons, List.length_nil, Nat.reduceAdd, Int.cast_ofNat_Int]; rfl, ?_⟩
      | refine Wr.lit _ (by simp only [Int.reduceAdd, Int.reduceSub, Int.reduceMul]; rfl) (by decide) ?_
      | refine Wr.fit (by omega) ?_
      | refine Wr.fit (by dsimp only; omega) ?_
      | refine Elem.mk ⟨_, ⟨of_decide_eq_true rfl, rfl⟩, ?_⟩
      | refine Len.map ?_
      | refine Len.dropM ?_
      | refine Elem.dropM ?_
      | refine Len.takeM ?_
      | refine Elem.takeM ?_
      | refine Elem.mapK (by assumption) ?_
      | refine Elem.mapI (by omega) (by assumption) ?_
      | refine Elem.mapN (by omega) (fun x hx => ?_)
      | refine Elem.map (by omega) (by omega) (fun x hx => ?_)
      | refine (h1).use ⟨rfl, ?_⟩
      | refine (alive14_ok).use ⟨rfl, ?_⟩
      | refine CallX.mk ⟨_, _, (h1).x, rfl, ?_⟩
      | refine CallX.mk ⟨_, _, (alive14_ok).x, rfl, ?_⟩
      | refine Done.mk ⟨rfl, rfl⟩
      | refine Done.mk ⟨congrArg gb ?_, rfl⟩
      | refine Done.mk ⟨?_, rfl⟩
      | refine Done.mk ⟨?_, ?_⟩)
  case pos =>
  rw [if_pos hc] at h1
  obtain ⟨hb, hm, hk, hx, hxN⟩ := check14_0 hc
  have hm0 := hm.now
  have hA := stN_May (b := b) (k := k) hm x.toNat (by omega)
  have h2 := over_ok b (stN b k x.toNat m) k y
  unfold overAll at h2
  by_cases hd : check14 b (stN b k x.toNat m) k y = 0
  case neg =>
    rw [if_neg hd] at h2
    generalize stN b k x.toNat m = M at *
    generalize fiN b k x.toNat m F10.none = F at *
    generalize check14 b M k y = e at *
    refine ICalls.of_body Try.func5 rfl Try.call5 rfl (Nat.le_of_ble_eq_true rfl) pl_G12_2 rfl ?_
    repeat' ((conv => whnf); first
      | refine Br.yes rfl ?_
      | refine Br.no rfl ?_
      | refine Need.mk (EqRun.plain (by kernel_rfl) rfl) ?_
      | refine Br.yes (beq_self_eq_true _) ?_
      | refine Br.not ?_
      | refine Br.yes (decide_eq_true (by assumption)) ?_
      | refine Br.no (decide_eq_false (by assumption)) ?_
      | refine Br.yes (beq_iff_eq.2 (by assumption)) ?_
      | refine Br.no (beq_eq_false_iff_ne.2 (by assumption)) ?_
      | refine Br.yes (bne_iff_ne.2 (by assumption)) ?_
      | (refine Br.dec (fun h => ?_) (fun h => ?_) <;> try dsimp only at h)
      | (refine Br.beqI (fun h => ?_) (fun h => ?_) <;> try dsimp only at h)
      | (refine Br.bneI (fun h => ?_) (fun h => ?_) <;> try dsimp only at h)
      | refine Br.mk (fun h => ?_) (fun h => ?_)
      | refine Need.mk (app_need (by first | (simp only [List.length_append, List.length_map, List.length_nil, List.length_cons, List.nil_append, Nat.zero_add, Nat.add_zero]; done) | (simp only [List.length_append, List.length_map, List.length_nil, List.length_cons, List.nil_append, Nat.zero_add, Nat.add_zero]; omega) | omega) (Nat.le_of_ble_eq_true rfl) (by first | (simp only [List.length_append, List.length_map, List.length_nil, List.length_cons, List.nil_append, Nat.zero_add, Nat.add_zero]; done) | (simp only [List.length_append, List.length_map, List.length_nil, List.length_cons, List.nil_append, Nat.zero_add, Nat.add_zero]; omega) | omega)) ?_
      | refine Need.mk (app_need0 (Nat.le_of_ble_eq_true rfl) (by first | (simp only [List.length_append, List.length_map, List.length_nil, List.length_cons, List.nil_append, Nat.zero_add, Nat.add_zero]; done) | (simp only [List.length_append, List.length_map, List.length_nil, List.length_cons, List.nil_append, Nat.zero_add, Nat.add_zero]; omega) | omega)) ?_
      | refine Need.mk (by first | kernel_rfl | exact ⟨of_decide_eq_true rfl, of_decide_eq_true rfl⟩ | omega) ?_
      | refine Len.mk ⟨_, by simp only [List.length_cons, List.length_nil, Nat.reduceAdd, Int.cast_ofNat_Int]; rfl, ?_⟩
      | refine Wr.lit _ (by simp only [Int.reduceAdd, Int.reduceSub, Int.reduceMul]; rfl) (by decide) ?_
      | refine Wr.fit (by omega) ?_
      | refine Wr.fit (by dsimp only; omega) ?_
      | refine Elem.mk ⟨_, ⟨of_decide_eq_true rfl, rfl⟩, ?_⟩
      | refine Len.map ?_
      | refine Len.dropM ?_
      | refine Elem.dropM ?_
      | refine Len.takeM ?_
      | refine Elem.takeM ?_
      | refine Elem.mapK (by assumption) ?_
      | refine Elem.mapI (by omega) (by assumption) ?_
      | refine Elem.mapN (by omega) (fun x hx => ?_)
      | refine Elem.map (by omega) (by omega) (fun x hx => ?_)
      | refine (h1).use ⟨rfl, ?_⟩
      | refine (h2).use ⟨rfl, ?_⟩
      | refine (alive14_ok).use ⟨rfl, ?_⟩
      | refine CallX.mk ⟨_, _, (h1).x, rfl, ?_⟩
      | refine CallX.mk ⟨_, _, (h2).x, rfl, ?_⟩
      | refine CallX.mk ⟨_, _, (alive14_ok).x, rfl, ?_⟩
      | refine Done.mk ⟨rfl, rfl⟩
      | refine Done.mk ⟨congrArg gb ?_, rfl⟩
      | refine Done.mk ⟨?_, rfl⟩
      | refine Done.mk ⟨?_, ?_⟩)
  case pos =>
  rw [if_pos hd] at h2
  obtain ⟨-, -, -, hy, hyN⟩ := check14_0 hd
  have h3 := over_ok b m k (x + y)
  unfold overAll at h3
  have hA2 := hA.2
  have hck : check14 b m k 0 = 0 := by
    unfold check14
    rw [if_pos hb, if_pos hm, if_neg (by omega), if_neg (by omega)]
  rw [if_pos (check14_n hck (by omega)), toNat_add hx hy rfl, stN_add, fiN_comb hm x.toNat y.toNat (by omega)] at h3
  generalize hM : stN b k x.toNat m = M at *
  generalize fiN b k x.toNat m F10.none = F at *
  generalize stN b k y.toNat M = L at *
  generalize fiN b k y.toNat M F10.none = G at *
  have hL := flatM_self L
  have hW : ∀ w, w = F.comb G → (w.a0 = combI F.a0 G.a0) ∧ (w.a1 = combI F.a1 G.a1) ∧ (w.a2 = combI F.a2 G.a2) ∧ (w.a3 = combI F.a3 G.a3) ∧ (w.a4 = combI F.a4 G.a4) ∧ (w.a5 = combI F.a5 G.a5) ∧ (w.a6 = combI F.a6 G.a6) ∧ (w.a7 = combI F.a7 G.a7) ∧ (w.a8 = combI F.a8 G.a8) ∧ (w.a9 = combI F.a9 G.a9) := by
    rintro w rfl
    exact ⟨rfl, rfl, rfl, rfl, rfl, rfl, rfl, rfl, rfl, rfl⟩
  generalize hw : F.comb G = W at *
  obtain ⟨w0, w1, w2, w3, w4, w5, w6, w7, w8, w9⟩ := hW W rfl
  have hfit : -9223372036854775808 ≤ x + y ∧ x + y ≤ 9223372036854775807 := by omega
  clear hW hw hm hb hc hd hck hA hA2 hM hm0 hk hx hxN hy hyN
  refine ICalls.of_body Try.func5 rfl Try.call5 rfl (Nat.le_of_ble_eq_true rfl) pl_G12_3 rfl ?_
  repeat' ((conv => whnf); first
    | refine Br.yes rfl ?_
    | refine Br.no rfl ?_
    | refine Need.mk (EqRun.plain (by kernel_rfl) rfl) ?_
    | refine Br.yes hL ?_
    | refine Wr.fit hfit ?_
    | (refine ILoop.ov 1000011 (fun (c : Int) => [(77, gi c)]) (fun (c : Int) => []) (fun (c : Int) => 0 ≤ c ∧ c ≤ 10) (fun (c : Int) => (10 - c).toNat) (0) (by exact rfl) ?_; (conv => whnf); refine Start.mk rfl ?_ ?_; (try dsimp only); rotate_left; rintro c hcc; (have hc2 : c = 0 ∨ c = 1 ∨ c = 2 ∨ c = 3 ∨ c = 4 ∨ c = 5 ∨ c = 6 ∨ c = 7 ∨ c = 8 ∨ c = 9 ∨ c = 10 := (by omega); rcases hc2 with rfl | rfl | rfl | rfl | rfl | rfl | rfl | rfl | rfl | rfl | rfl))
    | (refine Again.mk ⟨(1), rfl, ?_, ?_⟩ <;> try dsimp only)
    | (refine Again.mk ⟨(2), rfl, ?_, ?_⟩ <;> try dsimp only)
    | (refine Again.mk ⟨(3), rfl, ?_, ?_⟩ <;> try dsimp only)
    | (refine Again.mk ⟨(4), rfl, ?_, ?_⟩ <;> try dsimp only)
    | (refine Again.mk ⟨(5), rfl, ?_, ?_⟩ <;> try dsimp only)
    | (refine Again.mk ⟨(6), rfl, ?_, ?_⟩ <;> try dsimp only)
    | (refine Again.mk ⟨(7), rfl, ?_, ?_⟩ <;> try dsimp only)
    | (refine Again.mk ⟨(8), rfl, ?_, ?_⟩ <;> try dsimp only)
    | (refine Again.mk ⟨(9), rfl, ?_, ?_⟩ <;> try dsimp only)
    | (refine Again.mk ⟨(10), rfl, ?_, ?_⟩ <;> try dsimp only)
    | refine Br.yes (beq_self_eq_true _) ?_
    | refine Br.not ?_
    | refine Br.yes (decide_eq_true (by assumption)) ?_
    | refine Br.no (decide_eq_false (by assumption)) ?_
    | refine Br.yes (beq_iff_eq.2 (by assumption)) ?_
    | refine Br.no (beq_eq_false_iff_ne.2 (by assumption)) ?_
    | refine Br.yes (bne_iff_ne.2 (by assumption)) ?_
    | (refine Br.dec (fun h => ?_) (fun h => ?_) <;> try dsimp only at h)
    | (refine Br.beqI (fun h => ?_) (fun h => ?_) <;> try dsimp only at h)
    | (refine Br.bneI (fun h => ?_) (fun h => ?_) <;> try dsimp only at h)
    | refine Br.mk (fun h => ?_) (fun h => ?_)
    | refine Need.mk (app_need (by first | (simp only [List.length_append, List.length_map, List.length_nil, List.length_cons, List.nil_append, Nat.zero_add, Nat.add_zero]; done) | (simp only [List.length_append, List.length_map, List.length_nil, List.length_cons, List.nil_append, Nat.zero_add, Nat.add_zero]; omega) | omega) (Nat.le_of_ble_eq_true rfl) (by first | (simp only [List.length_append, List.length_map, List.length_nil, List.length_cons, List.nil_append, Nat.zero_add, Nat.add_zero]; done) | (simp only [List.length_append, List.length_map, List.length_nil, List.length_cons, List.nil_append, Nat.zero_add, Nat.add_zero]; omega) | omega)) ?_
    | refine Need.mk (app_need0 (Nat.le_of_ble_eq_true rfl) (by first | (simp only [List.length_append, List.length_map, List.length_nil, List.length_cons, List.nil_append, Nat.zero_add, Nat.add_zero]; done) | (simp only [List.length_append, List.length_map, List.length_nil, List.length_cons, List.nil_append, Nat.zero_add, Nat.add_zero]; omega) | omega)) ?_
    | refine Need.mk (by first | kernel_rfl | exact ⟨of_decide_eq_true rfl, of_decide_eq_true rfl⟩ | omega) ?_
    | refine Len.mk ⟨_, by simp only [List.length_cons, List.length_nil, Nat.reduceAdd, Int.cast_ofNat_Int]; rfl, ?_⟩
    | refine Wr.lit _ (by simp only [Int.reduceAdd, Int.reduceSub, Int.reduceMul]; rfl) (by decide) ?_
    | refine Wr.fit (by omega) ?_
    | refine Wr.fit (by dsimp only; omega) ?_
    | refine Elem.mk ⟨_, ⟨of_decide_eq_true rfl, rfl⟩, ?_⟩
    | refine Len.map ?_
    | refine Len.dropM ?_
    | refine Elem.dropM ?_
    | refine Len.takeM ?_
    | refine Elem.takeM ?_
    | refine Elem.mapK (by assumption) ?_
    | refine Elem.mapI (by omega) (by assumption) ?_
    | refine Elem.mapN (by omega) (fun x hx => ?_)
    | refine Elem.map (by omega) (by omega) (fun x hx => ?_)
    | refine (h1).use ⟨rfl, ?_⟩
    | refine (h2).use ⟨rfl, ?_⟩
    | refine (h3).use ⟨rfl, ?_⟩
    | refine (alive14_ok).use ⟨rfl, ?_⟩
    | refine CallX.mk ⟨_, _, (h1).x, rfl, ?_⟩
    | refine CallX.mk ⟨_, _, (h2).x, rfl, ?_⟩
    | refine CallX.mk ⟨_, _, (h3).x, rfl, ?_⟩
    | refine CallX.mk ⟨_, _, (alive14_ok).x, rfl, ?_⟩
    | refine Done.mk ⟨rfl, rfl⟩
    | refine Done.mk ⟨congrArg gb ?_, rfl⟩
    | refine Done.mk ⟨?_, rfl⟩
    | refine Done.mk ⟨?_, ?_⟩)
  all_goals first
    | exact absurd (combT w0 (by assumption)) (by assumption)
    | exact absurd (combF w0 (by assumption)) (by assumption)
    | exact absurd (combT w1 (by assumption)) (by assumption)
    | exact absurd (combF w1 (by assumption)) (by assumption)
    | exact absurd (combT w2 (by assumption)) (by assumption)
    | exact absurd (combF w2 (by assumption)) (by assumption)
    | exact absurd (combT w3 (by assumption)) (by assumption)
    | exact absurd (combF w3 (by assumption)) (by assumption)
    | exact absurd (combT w4 (by assumption)) (by assumption)
    | exact absurd (combF w4 (by assumption)) (by assumption)
    | exact absurd (combT w5 (by assumption)) (by assumption)
    | exact absurd (combF w5 (by assumption)) (by assumption)
    | exact absurd (combT w6 (by assumption)) (by assumption)
    | exact absurd (combF w6 (by assumption)) (by assumption)
    | exact absurd (combT w7 (by assumption)) (by assumption)
    | exact absurd (combF w7 (by assumption)) (by assumption)
    | exact absurd (combT w8 (by assumption)) (by assumption)
    | exact absurd (combF w8 (by assumption)) (by assumption)
    | exact absurd (combT w9 (by assumption)) (by assumption)
    | exact absurd (combF w9 (by assumption)) (by assumption)
    | omega
    | decide
    | (exfalso; omega)

end Go.Hl
