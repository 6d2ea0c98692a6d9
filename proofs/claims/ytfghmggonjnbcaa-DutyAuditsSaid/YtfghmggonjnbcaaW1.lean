/- Contracts of functions, bundle W1; proved for whatever the arguments' types allow, as each theorem says. -/
import Derived.Test.YtfghmggonjnbcaaV2
import Derived.Test.YtfghmggonjnbcaaH23

/- Chapter 16: whether a clause is noted; a finding is noted; whether a break ends.  -/
set_option linter.unusedVariables false
set_option linter.unusedSimpArgs false
namespace Go.Hl
open Go.Gh Go.Proofs

theorem nS_lt {s c : Nat} (hs : s < 1024) (hc : c < 10) : nS s c < 1024 := by
  unfold nS
  split
  · exact hs
  · have : 2 ^ c < 2 ^ 10 := Nat.pow_lt_pow_right (by omega) hc
    exact Nat.or_lt_two_pow (n := 10) hs this

set_option maxRecDepth 100000 in
set_option maxHeartbeats 1000000 in
theorem note_ok (s c : Nat) (a t : Int) (out : List Fnd) (v n : Nat) (hs : s < 1024) (hc : c < 10) (hn : n = out.length) (ho : out.length ≤ 1000000) : ICalls Try.prog 14 [.agg [gi c, gi a, gi t], .ptr 0 0, .ptr 1 0] [.cells [gi s], .cells [.ms 3 2 v n], .mvec 38 3 (fnds out) v]
    (Done (.tup []) [.cells [gi (nS s c)], .cells [.ms 3 2 (nV s c v) (nO s c ⟨c, a, t⟩ out).length], .mvec 38 3 (fnds (nO s c ⟨c, a, t⟩ out)) (nV s c v)]) := by
  subst hn
  have hI := clauseIn_ok s c (by omega) (by omega)
  have hor := set_orN (s := s) (c := c) (by omega) (by omega)
  unfold nS nV nO
  cases hb : s.testBit c
  {
  rw [hb] at hI
  refine ICalls.of_body Try.func14 rfl Try.call14 rfl (Nat.le_of_ble_eq_true rfl) (fun _ => none) rfl ?_
  repeat' ((conv => whnf); first
    | refine Br.yes rfl ?_
    | refine Br.no rfl ?_
    | (refine Need.mk (app_needM rfl (Nat.le_of_ble_eq_true rfl) (by rw [fnds_len]; simp only [List.length_cons, List.length_nil]; omega)) ?_)
    | refine Br.yes (beq_self_eq_true _) ?_
    | refine Br.not ?_
    | refine Br.yes (decide_eq_true (by assumption)) ?_
    | refine Br.no (decide_eq_false (by assumption)) ?_
    | refine Br.yes (beq_iff_eq.2 (by assumption)) ?_
    | refine Br.no (beq_eq_false_iff_ne.2 (by assumption)) ?_
    | refine Br.yes (bne_iff_ne.2 (by assumption)) ?_
    | (refine Br.dec (fun h => ?_) (fun h => ?_) <;> try dsimp only at h)
    | (refine Br.beqI (fun h => ?_) (fun h => ?_) <;> try dsimp only at h)
    | (refine Br.bneI (fun h => ?_) (fun h => ?_) <;> try dsimp only at h)
    | refine Br.mk (fun h => ?_) (fun h => ?_)
    | refine Need.mk (app_need (by first | (simp only [List.length_append, List.length_map, List.length_nil, List.length_cons, List.nil_append, Nat.zero_add, Nat.add_zero]; done) | (simp only [List.length_append, List.length_map, List.length_nil, List.length_cons, List.nil_append, Nat.zero_add, Nat.add_zero]; omega) | omega) (Nat.le_of_ble_eq_true rfl) (by first | (simp only [List.length_append, List.length_map, List.length_nil, List.length_cons, List.nil_append, Nat.zero_add, Nat.add_zero]; done) | (simp only [List.length_append, List.length_map, List.length_nil, List.length_cons, List.nil_append, Nat.zero_add, Nat.add_zero]; omega) | omega)) ?_
    | refine Need.mk (app_need0 (Nat.le_of_ble_eq_true rfl) (by first | (simp only [List.length_append, List.length_map, List.length_nil, List.length_cons, List.nil_append, Nat.zero_add, Nat.add_zero]; done) | (simp only [List.length_append, List.length_map, List.length_nil, List.length_cons, List.nil_append, Nat.zero_add, Nat.add_zero]; omega) | omega)) ?_
    | refine Need.mk (by first | kernel_rfl | exact ⟨of_decide_eq_true rfl, of_decide_eq_true rfl⟩ | omega) ?_
    | refine Len.mk ⟨_, by simp only [List.length_cons, List.length_nil, Nat.reduceAdd, Int.cast_ofNat_Int]; rfl, ?_⟩
    | refine Wr.lit _ (by simp only [Int.reduceAdd, Int.reduceSub, Int.reduceMul]; rfl) (by decide) ?_
    | refine Wr.fit (by omega) ?_
    | refine Wr.fit (by dsimp only; omega) ?_
    | refine Elem.mk ⟨_, ⟨of_decide_eq_true rfl, rfl⟩, ?_⟩
    | refine Len.map ?_
    | refine Len.dropM ?_
    | refine Elem.dropM ?_
    | refine Len.takeM ?_
    | refine Elem.takeM ?_
    | refine Elem.mapK (by assumption) ?_
    | refine Elem.mapI (by omega) (by assumption) ?_
    | refine Elem.mapN (by omega) (fun x hx => ?_)
    | refine Elem.map (by omega) (by omega) (fun x hx => ?_)
    | refine (hI).use ⟨rfl, ?_⟩
    | refine CallX.mk ⟨_, _, (hI).x, rfl, ?_⟩
    | refine Done.mk ⟨rfl, rfl⟩
    | refine Done.mk ⟨congrArg gb ?_, rfl⟩
    | refine Done.mk ⟨?_, rfl⟩
    | refine Done.mk ⟨?_, ?_⟩)
  all_goals first
    | exact note_cells hor out ⟨c, a, t⟩ v
    | rfl
  }
  {
  rw [hb] at hI
  refine ICalls.of_body Try.func14 rfl Try.call14 rfl (Nat.le_of_ble_eq_true rfl) (fun _ => none) rfl ?_
  repeat' ((conv => whnf); first
    | refine Br.yes rfl ?_
    | refine Br.no rfl ?_
    | refine Br.yes (beq_self_eq_true _) ?_
    | refine Br.not ?_
    | refine Br.yes (decide_eq_true (by assumption)) ?_
    | refine Br.no (decide_eq_false (by assumption)) ?_
    | refine Br.yes (beq_iff_eq.2 (by assumption)) ?_
    | refine Br.no (beq_eq_false_iff_ne.2 (by assumption)) ?_
    | refine Br.yes (bne_iff_ne.2 (by assumption)) ?_
    | (refine Br.dec (fun h => ?_) (fun h => ?_) <;> try dsimp only at h)
    | (refine Br.beqI (fun h => ?_) (fun h => ?_) <;> try dsimp only at h)
    | (refine Br.bneI (fun h => ?_) (fun h => ?_) <;> try dsimp only at h)
    | refine Br.mk (fun h => ?_) (fun h => ?_)
    | refine Need.mk (app_need (by first | (simp only [List.length_append, List.length_map, List.length_nil, List.length_cons, List.nil_append, Nat.zero_add, Nat.add_zero]; done) | (simp only [List.length_append, List.length_map, List.length_nil, List.length_cons, List.nil_append, Nat.zero_add, Nat.add_zero]; omega) | omega) (Nat.le_of_ble_eq_true rfl) (by first | (simp only [List.length_append, List.length_map, List.length_nil, List.length_cons, List.nil_append, Nat.zero_add, Nat.add_zero]; done) | (simp only [List.length_append, List.length_map, List.length_nil, List.length_cons, List.nil_append, Nat.zero_add, Nat.add_zero]; omega) | omega)) ?_
    | refine Need.mk (app_need0 (Nat.le_of_ble_eq_true rfl) (by first | (simp only [List.length_append, List.length_map, List.length_nil, List.length_cons, List.nil_append, Nat.zero_add, Nat.add_zero]; done) | (simp only [List.length_append, List.length_map, List.length_nil, List.length_cons, List.nil_append, Nat.zero_add, Nat.add_zero]; omega) | omega)) ?_
    | refine Need.mk (by first | kernel_rfl | exact ⟨of_decide_eq_true rfl, of_decide_eq_true rfl⟩ | omega) ?_
    | refine Len.mk ⟨_, by simp only [List.length_cons, List.length_nil, Nat.reduceAdd, Int.cast_ofNat_Int]; rfl, ?_⟩
    | refine Wr.lit _ (by simp only [Int.reduceAdd, Int.reduceSub, Int.reduceMul]; rfl) (by decide) ?_
    | refine Wr.fit (by omega) ?_
    | refine Wr.fit (by dsimp only; omega) ?_
    | refine Elem.mk ⟨_, ⟨of_decide_eq_true rfl, rfl⟩, ?_⟩
    | refine Len.map ?_
    | refine Len.dropM ?_
    | refine Elem.dropM ?_
    | refine Len.takeM ?_
    | refine Elem.takeM ?_
    | refine Elem.mapK (by assumption) ?_
    | refine Elem.mapI (by omega) (by assumption) ?_
    | refine Elem.mapN (by omega) (fun x hx => ?_)
    | refine Elem.map (by omega) (by omega) (fun x hx => ?_)
    | refine (hI).use ⟨rfl, ?_⟩
    | refine CallX.mk ⟨_, _, (hI).x, rfl, ?_⟩
    | refine Done.mk ⟨rfl, rfl⟩
    | refine Done.mk ⟨congrArg gb ?_, rfl⟩
    | refine Done.mk ⟨?_, rfl⟩
    | refine Done.mk ⟨?_, ?_⟩)
  }

theorem note_okI (s : Nat) (c a t : Int) (out : List Fnd) (v n : Nat) (hs : s < 1024) (hc : 0 ≤ c ∧ c < 10) (hn : n = out.length) (ho : out.length ≤ 1000000) : ICalls Try.prog 14 [.agg [gi c, gi a, gi t], .ptr 0 0, .ptr 1 0] [.cells [gi s], .cells [.ms 3 2 v n], .mvec 38 3 (fnds out) v]
    (Done (.tup []) [.cells [gi (nS s c.toNat)], .cells [.ms 3 2 (nV s c.toNat v) (nO s c.toNat ⟨c, a, t⟩ out).length], .mvec 38 3 (fnds (nO s c.toNat ⟨c, a, t⟩ out)) (nV s c.toNat v)]) := by
  have h := note_ok s c.toNat a t out v n hs (by omega) hn ho
  rw [Int.toNat_of_nonneg hc.1] at h
  exact h

/-- Whether a break ends. -/
def endedB (b : Book) (m : Meter) : Bool := if m.Lie = 0 then false else (m.worth b).Break

set_option maxRecDepth 100000 in
set_option maxHeartbeats 1000000 in
theorem ended_ok (b : Book) (m : Meter) (rest : Int) (hb : b.May) (hm : m.May) : ICalls Try.prog 48 [.ptr 0 0] [swpC b m rest] (Done (gb (endedB b m)) [swpC b m rest]) := by
  unfold endedB
  by_cases h0 : m.Lie = 0
  case pos =>
    rw [if_pos h0]
    exact endedEx_ok b m rest h0
  case neg =>
  rw [if_neg h0]
  have hd : 0 ≤ dawnOf m ∧ dawnOf m ≤ m.Now - m.Lie := by
    have := hm.dawn; have := hm.lie; unfold dawnOf; split <;> omega
  have hn := hm.now
  have hlie := hm.lie
  have ho := spellOf_ok b (m.Now - m.Lie) m.Now (dawnOf m) m.Half m.Split hb ⟨by omega, by omega, by omega, by omega, by omega⟩ (by omega) hn.2 hd.2
  refine ICalls.of_body Try.func48 rfl Try.call48 rfl (Nat.le_of_ble_eq_true rfl) (fun _ => none) rfl ?_
  repeat' ((conv => whnf); first
    | refine Br.yes rfl ?_
    | refine Br.no rfl ?_
    | refine Br.yes (beq_self_eq_true _) ?_
    | refine Br.not ?_
    | refine Br.yes (decide_eq_true (by assumption)) ?_
    | refine Br.no (decide_eq_false (by assumption)) ?_
    | refine Br.yes (beq_iff_eq.2 (by assumption)) ?_
    | refine Br.no (beq_eq_false_iff_ne.2 (by assumption)) ?_
    | refine Br.yes (bne_iff_ne.2 (by assumption)) ?_
    | (refine Br.dec (fun h => ?_) (fun h => ?_) <;> try dsimp only at h)
    | (refine Br.beqI (fun h => ?_) (fun h => ?_) <;> try dsimp only at h)
    | (refine Br.bneI (fun h => ?_) (fun h => ?_) <;> try dsimp only at h)
    | refine Br.mk (fun h => ?_) (fun h => ?_)
    | refine Need.mk (by first | kernel_rfl | exact ⟨of_decide_eq_true rfl, of_decide_eq_true rfl⟩ | omega) ?_
    | refine Len.mk ⟨_, by simp only [List.length_cons, List.length_nil, Nat.reduceAdd, Int.cast_ofNat_Int]; rfl, ?_⟩
    | refine Wr.lit _ (by simp only [Int.reduceAdd, Int.reduceSub, Int.reduceMul]; rfl) (by decide) ?_
    | refine Wr.fit (by omega) ?_
    | refine Wr.fit (by dsimp only; omega) ?_
    | refine Elem.mk ⟨_, ⟨of_decide_eq_true rfl, rfl⟩, ?_⟩
    | refine Len.map ?_
    | refine Len.dropM ?_
    | refine Elem.dropM ?_
    | refine Len.takeM ?_
    | refine Elem.takeM ?_
    | refine Elem.mapK (by assumption) ?_
    | refine Elem.mapI (by omega) (by assumption) ?_
    | refine Elem.mapN (by omega) (fun x hx => ?_)
    | refine Elem.map (by omega) (by omega) (fun x hx => ?_)
    | refine (ho).use ⟨rfl, ?_⟩
    | refine CallX.mk ⟨_, _, (ho).x, rfl, ?_⟩
    | refine Done.mk ⟨rfl, rfl⟩
    | refine Done.mk ⟨congrArg gb ?_, rfl⟩
    | refine Done.mk ⟨?_, rfl⟩
    | refine Done.mk ⟨?_, ?_⟩)

end Go.Hl

/- Chapter 16: a block of minutes, its findings noted.  -/
set_option linter.unusedVariables false
set_option linter.unusedSimpArgs false
namespace Go.Hl
open Go.Gh Go.Proofs

def ntC (b : Book) (m : Meter) (rest : Int) (F : F10) (c : Nat) (x : NS) : NS :=
  if 0 ≤ F.at c then ⟨nS x.s c, nO x.s c ⟨c, sinceV b m rest c (F.at c), F.at c + 1⟩ x.out, nV x.s c x.v⟩ else x
def ntTo (b : Book) (m : Meter) (rest : Int) (F : F10) : Nat → NS → NS
  | 0, x => x
  | c + 1, x => ntC b m rest F c (ntTo b m rest F c x)
theorem ntC_s {b : Book} {m : Meter} {rest : Int} {F : F10} {c : Nat} {x : NS} (hc : c < 10) (h : x.s < 1024) : (ntC b m rest F c x).s < 1024 := by
  unfold ntC; split
  · exact nS_lt h hc
  · exact h
theorem ntC_len {b : Book} {m : Meter} {rest : Int} {F : F10} {c : Nat} {x : NS} : (ntC b m rest F c x).out.length ≤ x.out.length + 1 := by
  unfold ntC; split
  · exact nO_len
  · omega
theorem ntTo_s {b : Book} {m : Meter} {rest : Int} {F : F10} {x : NS} (h : x.s < 1024) : ∀ c : Nat, c ≤ 10 → (ntTo b m rest F c x).s < 1024
  | 0, _ => h
  | c + 1, hc => ntC_s (by omega) (ntTo_s h c (by omega))
theorem ntTo_len {b : Book} {m : Meter} {rest : Int} {F : F10} {x : NS} : ∀ c : Nat, (ntTo b m rest F c x).out.length ≤ x.out.length + c
  | 0 => by simp [ntTo]
  | c + 1 => by have := @ntTo_len b m rest F x c; have := @ntC_len b m rest F c (ntTo b m rest F c x); show (ntC b m rest F c (ntTo b m rest F c x)).out.length ≤ _; omega
theorem nt_yes {b : Book} {m : Meter} {rest : Int} {F : F10} {c : Nat} {x x0 : NS} (hx : x = ntTo b m rest F c x0) (h : 0 ≤ F.at c) :
    (⟨nS x.s c, nO x.s c ⟨c, sinceV b m rest c (F.at c), F.at c + 1⟩ x.out, nV x.s c x.v⟩ : NS) = ntTo b m rest F (c + 1) x0 := by
  rw [ntTo, ← hx, ntC, if_pos h]
theorem nt_no {b : Book} {m : Meter} {rest : Int} {F : F10} {c : Nat} {x x0 : NS} (hx : x = ntTo b m rest F c x0) (h : ¬ 0 ≤ F.at c) : x = ntTo b m rest F (c + 1) x0 := by
  rw [ntTo, ← hx, ntC, if_neg h]
theorem may_length {b : Book} (hb : b.May) : 0 < b.Length ∧ b.Length ≤ 1000000 := by have h := hb.within; unfold Book.within at h; omega
def restOf (b : Book) (m : Meter) (rest k : Int) : Int := if k ≠ 0 ∧ endedB b m = true then m.Now else rest
def noteB (x : NS) : List GB := [.cells [gi x.s], .cells [.ms 3 3 x.v x.out.length], .mvec 38 3 (fnds x.out) x.v]

theorem block_end {b : Book} {m m1 : Meter} {rest r r' : Int} {F : F10} {x0 : NS} {s v : Nat} {out : List Fnd} (hx : (⟨s, out, v⟩ : NS) = ntTo b m rest F 10 x0) (hr : r = r') :
    [GB.cells (swpC b m1 r), GB.cells [gi s], GB.cells [GV.ms 3 3 v out.length], GB.mvec 38 3 (fnds out) v] = .cells (swpC b m1 r') :: noteB (ntTo b m rest F 10 x0) := by
  rw [← hx, hr]; rfl

def pl_W2_1 : Nat → Option (List Nat × List Nat) := (fun k => bif Nat.beq k 5 then some ([1000005, 0, 1, 3, 9, 32, 33], [0, 1, 2, 3, 109]) else none)
set_option maxRecDepth 100000 in
set_option maxHeartbeats 4000000 in
theorem block_ok (b : Book) (m : Meter) (rest k n : Int) (hb : b.May) (hm : m.May) (m1 : Meter) (F : F10) (h1 : ICalls Try.prog 46 [b.g, m.g, gi k, gi n] [] (Done (overG (m1, F, 0)) []))
    (hF : ∀ i, i < 10 → F.at i ≤ 40320) (x0 : NS) (hs : x0.s < 1024) (ho : x0.out.length ≤ 100000) :
    ICalls Try.prog 27 [.ptr 0 0, gi k, gi n, .fn (.func 14) [] [.ptr 1 0, .ptr 2 0]] (.cells (swpC b m rest) :: [.cells [gi x0.s], .cells [.ms 3 3 x0.v x0.out.length], .mvec 38 3 (fnds x0.out) x0.v])
      (Done (gi 0) (.cells (swpC b m1 (restOf b m rest k)) :: noteB (ntTo b m rest F 10 x0))) := by
  have hL := may_length hb
  have he := ended_ok b m rest hb hm
  have h1 : ICalls Try.prog 46 [b.g, m.g, gi k, gi n] [] (Done (.tup [m1.g, F.g, gi 0]) []) := h1
  have f0 : F.a0 ≤ 40320 := hF 0 (by omega)
  have f1 : F.a1 ≤ 40320 := hF 1 (by omega)
  have f2 : F.a2 ≤ 40320 := hF 2 (by omega)
  have f3 : F.a3 ≤ 40320 := hF 3 (by omega)
  have f4 : F.a4 ≤ 40320 := hF 4 (by omega)
  have f5 : F.a5 ≤ 40320 := hF 5 (by omega)
  have f6 : F.a6 ≤ 40320 := hF 6 (by omega)
  have f7 : F.a7 ≤ 40320 := hF 7 (by omega)
  have f8 : F.a8 ≤ 40320 := hF 8 (by omega)
  have f9 : F.a9 ≤ 40320 := hF 9 (by omega)
  clear hF
  unfold restOf
  generalize endedB b m = eb at *
  refine ICalls.of_body Try.func27 rfl Try.call27 rfl (Nat.le_of_ble_eq_true rfl) pl_W2_1 rfl ?_
  repeat' ((conv => whnf); first
    | refine Br.yes rfl ?_
    | refine Br.no rfl ?_
    | (refine ILoop.ov 1000005 (fun ((c, s, out, v) : Int × Nat × List Fnd × Nat) => [(33, gi c)]) (fun ((c, s, out, v) : Int × Nat × List Fnd × Nat) => [(1, .cells ([gi s])), (2, .cells [.ms 3 3 v out.length]), (3, .mvec 38 3 (fnds out) v)]) (fun ((c, s, out, v) : Int × Nat × List Fnd × Nat) => (0 ≤ c ∧ c ≤ 10) ∧ (⟨s, out, v⟩ : NS) = ntTo b m rest F c.toNat x0) (fun ((c, s, out, v) : Int × Nat × List Fnd × Nat) => 10 - c.toNat) ((0, x0.s, x0.out, x0.v)) (by exact rfl) ?_; (conv => whnf); refine Start.mk rfl ?_ ?_; (try dsimp only); rotate_left; rintro ⟨c, s, out, v⟩ ⟨hc, hx⟩; (have hxs : s < 1024 := (by have := ntTo_s (b := b) (m := m) (rest := rest) (F := F) hs c.toNat (by omega); rw [← hx] at this; exact this); have hxo : out.length ≤ 100010 := (by have := @ntTo_len b m rest F x0 c.toNat; rw [← hx] at this; simp only at this; omega); have hc2 : c = 0 ∨ c = 1 ∨ c = 2 ∨ c = 3 ∨ c = 4 ∨ c = 5 ∨ c = 6 ∨ c = 7 ∨ c = 8 ∨ c = 9 ∨ c = 10 := (by omega); rcases hc2 with rfl | rfl | rfl | rfl | rfl | rfl | rfl | rfl | rfl | rfl | rfl))
    | (refine Again.mk ⟨((_, _, _, _)), rfl, ?_, ?_⟩ <;> try dsimp only)
    | refine Br.yes (beq_self_eq_true _) ?_
    | refine Br.not ?_
    | refine Br.yes (decide_eq_true (by assumption)) ?_
    | refine Br.no (decide_eq_false (by assumption)) ?_
    | refine Br.yes (beq_iff_eq.2 (by assumption)) ?_
    | refine Br.no (beq_eq_false_iff_ne.2 (by assumption)) ?_
    | refine Br.yes (bne_iff_ne.2 (by assumption)) ?_
    | (refine Br.dec (fun h => ?_) (fun h => ?_) <;> try dsimp only at h)
    | (refine Br.beqI (fun h => ?_) (fun h => ?_) <;> try dsimp only at h)
    | (refine Br.bneI (fun h => ?_) (fun h => ?_) <;> try dsimp only at h)
    | refine Br.mk (fun h => ?_) (fun h => ?_)
    | refine Need.mk (by first | kernel_rfl | exact ⟨of_decide_eq_true rfl, of_decide_eq_true rfl⟩ | omega) ?_
    | refine Len.mk ⟨_, by simp only [List.length_cons, List.length_nil, Nat.reduceAdd, Int.cast_ofNat_Int]; rfl, ?_⟩
    | refine Wr.lit _ (by simp only [Int.reduceAdd, Int.reduceSub, Int.reduceMul]; rfl) (by decide) ?_
    | refine Wr.fit (by omega) ?_
    | refine Wr.fit (by dsimp only; omega) ?_
    | refine Elem.mk ⟨_, ⟨of_decide_eq_true rfl, rfl⟩, ?_⟩
    | refine Len.map ?_
    | refine Len.dropM ?_
    | refine Elem.dropM ?_
    | refine Len.takeM ?_
    | refine Elem.takeM ?_
    | refine Elem.mapK (by assumption) ?_
    | refine Elem.mapI (by omega) (by assumption) ?_
    | refine Elem.mapN (by omega) (fun x hx => ?_)
    | refine Elem.map (by omega) (by omega) (fun x hx => ?_)
    | refine (h1).use ⟨rfl, ?_⟩
    | refine (he).use ⟨rfl, ?_⟩
    | refine (since_ok b m rest _ _ ⟨by assumption, by omega⟩ hL).use ⟨rfl, ?_⟩
    | refine (note_okI s _ _ _ out v out.length hxs (by omega) rfl (by omega)).use ⟨rfl, ?_⟩
    | refine CallX.mk ⟨_, _, (h1).x, rfl, ?_⟩
    | refine CallX.mk ⟨_, _, (he).x, rfl, ?_⟩
    | refine CallX.mk ⟨_, _, (since_ok b m rest _ _ ⟨by assumption, by omega⟩ hL).x, rfl, ?_⟩
    | refine CallX.mk ⟨_, _, (note_okI s _ _ _ out v out.length hxs (by omega) rfl (by omega)).x, rfl, ?_⟩
    | refine Done.mk ⟨rfl, rfl⟩
    | refine Done.mk ⟨congrArg gb ?_, rfl⟩
    | refine Done.mk ⟨?_, rfl⟩
    | refine Done.mk ⟨?_, ?_⟩)
  all_goals first
    | omega
    | exact ⟨by omega, nt_yes hx h⟩
    | exact ⟨by omega, nt_no hx h⟩
    | exact ⟨by omega, rfl⟩
    | exact block_end hx (by cases eb <;> simp_all)
    | rfl

end Go.Hl
