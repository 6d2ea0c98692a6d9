/- Contracts of functions, bundle V3; proved for whatever the arguments' types allow, as each theorem says. -/
import Derived.Test.YtncklikpkliilaaV2
import Derived.Test.YtncklikpkliilaaH4

/- The set of findings' clauses: the program's, the reference's; the law.  -/
set_option linter.unusedVariables false
set_option linter.unusedSimpArgs false
namespace Go.Hl
open Go.Gh Go.Proofs

def markN (s : Nat) (c : Int) : Nat := if 0 ≤ c ∧ c < 16 then s ||| 2 ^ c.toNat else s
def setN (l : List Fnd) : Nat := l.foldl (fun s f => markN s f.Clause) 0
theorem markN_lt {s : Nat} {c : Int} (hs : s < 65536) : markN s c < 65536 := by
  unfold markN
  split
  · rename_i h
    have : 2 ^ c.toNat < 2 ^ 16 := Nat.pow_lt_pow_right (by omega) (by omega)
    exact Nat.or_lt_two_pow (n := 16) hs this
  · exact hs
theorem foldl_lt : ∀ (l : List Fnd) (s : Nat), s < 65536 → l.foldl (fun s f => markN s f.Clause) s < 65536
  | [], s, h => h
  | f :: l, s, h => foldl_lt l _ (markN_lt h)
theorem setN_lt (l : List Fnd) : setN l < 65536 := foldl_lt l 0 (by omega)
theorem take_succF {l : List Fnd} {j : Nat} {x : Fnd} (h : l[j]? = some x) : l.take (j + 1) = l.take j ++ [x] := by
  obtain ⟨h1, h2⟩ := List.getElem?_eq_some_iff.1 h
  rw [List.take_succ_eq_append_getElem h1, h2]
theorem setN_snoc (l : List Fnd) (f : Fnd) : setN (l ++ [f]) = markN (setN l) f.Clause := by unfold setN; rw [List.foldl_append]; rfl
theorem setN_step {l : List Fnd} {i : Nat} {x : Fnd} (h : l[i]? = some x) : setN (l.take (i + 1)) = markN (setN (l.take i)) x.Clause := by rw [take_succF h, setN_snoc]

theorem set_or {z c : Int} {s : Nat} (hz : z = (s : Int)) (hs : s < 65536) (hc : 0 ≤ c ∧ c < 16) :
    IntKind.i64.wrap ((BitVec.ofInt 64 z ||| BitVec.ofInt 64 (IntKind.i64.wrap (1 * 2 ^ (min c.toNat 64)))).toNat : Int) = ((markN s c : Nat) : Int) := by
  have h2 : 2 ^ c.toNat < 2 ^ 16 := Nat.pow_lt_pow_right (by omega) (by omega)
  have e1 : IntKind.i64.wrap (1 * 2 ^ (min c.toNat 64)) = ((2 ^ c.toNat : Nat) : Int) := by
    rw [show min c.toNat 64 = c.toNat by omega, IntKind.wrap_i64]
    have : (1 * 2 ^ c.toNat : Int) = ((2 ^ c.toNat : Nat) : Int) := by push_cast; omega
    rw [this]
    generalize 2 ^ c.toNat = p at *
    omega
  rw [e1, hz]
  have := @orI_cast s (2 ^ c.toNat) (by omega) (by omega)
  unfold orI at this
  rw [this, markN, if_pos hc]

def pl_V3_1 : Nat → Option (List Nat × List Nat) := (fun k => bif Nat.beq k 3 then some ([1000003, 3, 6, 7, 8], []) else none)
set_option maxRecDepth 100000 in
set_option maxHeartbeats 1000000 in
theorem dutySet_ok (l : List Fnd) (hl : (l.length : Int) ≤ 1000000000) : ICalls Try.prog 46 [.list 3 (fnds l) none] [] (Done (gi (setN l)) []) := by
  generalize hR : setN l = R
  refine ICalls.of_body Try.func46 rfl Try.call46 rfl (Nat.le_of_ble_eq_true rfl) pl_V3_1 rfl ?_
  repeat' ((conv => whnf); first
    | refine Br.yes rfl ?_
    | refine Br.no rfl ?_
    | (refine Elem.mapN (by omega) (fun x hx => ?_))
    | (refine ILoop.ov 1000003 (fun ((i, z) : Nat × Int) => [(8, gi i), (3, gi z)]) (fun ((i, z) : Nat × Int) => []) (fun ((i, z) : Nat × Int) => i ≤ l.length ∧ z = ((setN (l.take i) : Nat) : Int)) (fun ((i, z) : Nat × Int) => l.length - i) ((0, 0)) (by exact rfl) ?_; (conv => whnf); refine Start.mk rfl ?_ ?_; (try dsimp only); rotate_left; rintro ⟨i, z⟩ ⟨hi, hz⟩)
    | (refine Again.mk ⟨((i + 1, _)), rfl, ?_, ?_⟩ <;> try dsimp only)
    | refine Br.yes (beq_self_eq_true _) ?_
    | refine Br.not ?_
    | refine Br.yes (decide_eq_true (by assumption)) ?_
    | refine Br.no (decide_eq_false (by assumption)) ?_
    | refine Br.yes (beq_iff_eq.2 (by assumption)) ?_
    | refine Br.no (beq_eq_false_iff_ne.2 (by assumption)) ?_
    | refine Br.yes (bne_iff_ne.2 (by assumption)) ?_
    | (refine Br.dec (fun h => ?_) (fun h => ?_) <;> try dsimp only at h)
    | (refine Br.beqI (fun h => ?_) (fun h => ?_) <;> try dsimp only at h)
    | (refine Br.bneI (fun h => ?_) (fun h => ?_) <;> try dsimp only at h)
    | refine Br.mk (fun h => ?_) (fun h => ?_)
    | refine Need.mk (app_need (by first | (simp only [List.length_append, List.length_map, List.length_nil, List.length_cons, List.nil_append, Nat.zero_add, Nat.add_zero]; done) | (simp only [List.length_append, List.length_map, List.length_nil, List.length_cons, List.nil_append, Nat.zero_add, Nat.add_zero]; omega) | omega) (Nat.le_of_ble_eq_true rfl) (by first | (simp only [List.length_append, List.length_map, List.length_nil, List.length_cons, List.nil_append, Nat.zero_add, Nat.add_zero]; done) | (simp only [List.length_append, List.length_map, List.length_nil, List.length_cons, List.nil_append, Nat.zero_add, Nat.add_zero]; omega) | omega)) ?_
    | refine Need.mk (app_need0 (Nat.le_of_ble_eq_true rfl) (by first | (simp only [List.length_append, List.length_map, List.length_nil, List.length_cons, List.nil_append, Nat.zero_add, Nat.add_zero]; done) | (simp only [List.length_append, List.length_map, List.length_nil, List.length_cons, List.nil_append, Nat.zero_add, Nat.add_zero]; omega) | omega)) ?_
    | refine Need.mk (by first | kernel_rfl | exact ⟨of_decide_eq_true rfl, of_decide_eq_true rfl⟩ | omega) ?_
    | refine Len.mk ⟨_, by simp only [List.length_cons, List.length_nil, Nat.reduceAdd, Int.cast_ofNat_Int]; rfl, ?_⟩
    | refine Wr.lit _ (by simp only [Int.reduceAdd, Int.reduceSub, Int.reduceMul]; rfl) (by decide) ?_
    | refine Wr.fit (by omega) ?_
    | refine Wr.fit (by dsimp only; omega) ?_
    | refine Elem.mk ⟨_, ⟨of_decide_eq_true rfl, rfl⟩, ?_⟩
    | refine Len.map ?_
    | refine Len.dropM ?_
    | refine Elem.dropM ?_
    | refine Len.takeM ?_
    | refine Elem.takeM ?_
    | refine Elem.mapK (by assumption) ?_
    | refine Elem.mapI (by omega) (by assumption) ?_
    | refine Elem.mapN (by omega) (fun x hx => ?_)
    | refine Elem.map (by omega) (by omega) (fun x hx => ?_)
    | refine Done.mk ⟨rfl, rfl⟩
    | refine Done.mk ⟨congrArg gb ?_, rfl⟩
    | refine Done.mk ⟨?_, rfl⟩
    | refine Done.mk ⟨?_, ?_⟩)
  all_goals first
    | omega
    | exact ⟨by omega, by rw [setN_step hx]; exact set_or hz (setN_lt _) ⟨by assumption, h⟩⟩
    | exact ⟨by omega, by rw [setN_step hx, markN, if_neg (by omega)]; exact hz⟩
    | (rw [List.take_of_length_le (by omega)] at hz; rw [hz, hR]; done)
    | exact ⟨by omega, rfl⟩

/-! ### The reference's -/
def pl_V3_2 : Nat → Option (List Nat × List Nat) := (fun k => bif Nat.beq k 3 then some ([1000003, 0, 1, 5, 6], []) else none)
set_option maxRecDepth 100000 in
theorem refOr16_ok (a b : Nat) (ha : a < 65536) (hb : b < 65536) : ICalls Try.prog 79 [gi a, gi b] [] (Done (gi ((a ||| b : Nat) : Int)) []) := by
  refine ICalls.of_body Try.func79 rfl Try.call79 rfl (Nat.le_of_ble_eq_true rfl) pl_V3_2 rfl ?_
  repeat' ((conv => whnf); first
    | refine Br.yes rfl ?_
    | refine Br.no rfl ?_
    | refine Wr.quoN (by omega) ?_
    | refine Need.mk (show ((2 ^ c : Nat) : Int) ≠ 0 by have := Nat.pow_pos (n := c) (show 0 < 2 by omega); omega) ?_
    | refine Wr.fit (by have := pow_fit (show c < 62 by omega); omega) ?_
    | (refine ILoop.ov 1000003 (fun ((c, o) : Nat × Nat) => [(5, gi o), (6, gi c)]) (fun ((c, o) : Nat × Nat) => []) (fun ((c, o) : Nat × Nat) => c ≤ 16 ∧ o = (a ||| b) % 2 ^ c) (fun ((c, o) : Nat × Nat) => 16 - c) ((0, 0)) (by exact rfl) ?_; (conv => whnf); refine Start.mk rfl ?_ ?_; (try dsimp only); rotate_left; rintro ⟨c, o⟩ ⟨hc, ho⟩)
    | (refine Again.mk ⟨((c + 1, o + 2 ^ c)), rfl, ?_, ?_⟩ <;> try dsimp only)
    | (refine Again.mk ⟨((c + 1, o)), rfl, ?_, ?_⟩ <;> try dsimp only)
    | refine Br.yes (beq_self_eq_true _) ?_
    | refine Br.not ?_
    | refine Br.yes (decide_eq_true (by assumption)) ?_
    | refine Br.no (decide_eq_false (by assumption)) ?_
    | refine Br.yes (beq_iff_eq.2 (by assumption)) ?_
    | refine Br.no (beq_eq_false_iff_ne.2 (by assumption)) ?_
    | refine Br.yes (bne_iff_ne.2 (by assumption)) ?_
    | (refine Br.dec (fun h => ?_) (fun h => ?_) <;> try dsimp only at h)
    | (refine Br.beqI (fun h => ?_) (fun h => ?_) <;> try dsimp only at h)
    | (refine Br.bneI (fun h => ?_) (fun h => ?_) <;> try dsimp only at h)
    | refine Br.mk (fun h => ?_) (fun h => ?_)
    | refine Need.mk (app_need (by first | (simp only [List.length_append, List.length_map, List.length_nil, List.length_cons, List.nil_append, Nat.zero_add, Nat.add_zero]; done) | (simp only [List.length_append, List.length_map, List.length_nil, List.length_cons, List.nil_append, Nat.zero_add, Nat.add_zero]; omega) | omega) (Nat.le_of_ble_eq_true rfl) (by first | (simp only [List.length_append, List.length_map, List.length_nil, List.length_cons, List.nil_append, Nat.zero_add, Nat.add_zero]; done) | (simp only [List.length_append, List.length_map, List.length_nil, List.length_cons, List.nil_append, Nat.zero_add, Nat.add_zero]; omega) | omega)) ?_
    | refine Need.mk (app_need0 (Nat.le_of_ble_eq_true rfl) (by first | (simp only [List.length_append, List.length_map, List.length_nil, List.length_cons, List.nil_append, Nat.zero_add, Nat.add_zero]; done) | (simp only [List.length_append, List.length_map, List.length_nil, List.length_cons, List.nil_append, Nat.zero_add, Nat.add_zero]; omega) | omega)) ?_
    | refine Need.mk (by first | kernel_rfl | exact ⟨of_decide_eq_true rfl, of_decide_eq_true rfl⟩ | omega) ?_
    | refine Len.mk ⟨_, by simp only [List.length_cons, List.length_nil, Nat.reduceAdd, Int.cast_ofNat_Int]; rfl, ?_⟩
    | refine Wr.lit _ (by simp only [Int.reduceAdd, Int.reduceSub, Int.reduceMul]; rfl) (by decide) ?_
    | refine Wr.fit (by omega) ?_
    | refine Wr.fit (by dsimp only; omega) ?_
    | refine Elem.mk ⟨_, ⟨of_decide_eq_true rfl, rfl⟩, ?_⟩
    | refine Len.map ?_
    | refine Len.dropM ?_
    | refine Elem.dropM ?_
    | refine Len.takeM ?_
    | refine Elem.takeM ?_
    | refine Elem.mapK (by assumption) ?_
    | refine Elem.mapI (by omega) (by assumption) ?_
    | refine Elem.mapN (by omega) (fun x hx => ?_)
    | refine Elem.map (by omega) (by omega) (fun x hx => ?_)
    | refine (bitN_ok c (by omega) true).use ⟨rfl, ?_⟩
    | refine CallX.mk ⟨_, _, (bitN_ok c (by omega) true).x, rfl, ?_⟩
    | refine Done.mk ⟨rfl, rfl⟩
    | refine Done.mk ⟨congrArg gb ?_, rfl⟩
    | refine Done.mk ⟨?_, rfl⟩
    | refine Done.mk ⟨?_, ?_⟩)
  all_goals (try (rw [tmod_bit] at *))
  all_goals (try omega)
  · refine ⟨by omega, ?_⟩
    rw [mod_bit, Nat.testBit_or, h, ho]; simp
  · rename_i h2
    refine ⟨by omega, ?_⟩
    rw [mod_bit, Nat.testBit_or, h, ho]; simp
  · rename_i h2
    refine ⟨by omega, ?_⟩
    rw [mod_bit, Nat.testBit_or, ho]; simp [h, h2]
  · have : c = 16 := by omega
    subst this
    have : a ||| b < 2 ^ 16 := Nat.or_lt_two_pow ha hb
    rw [ho, Nat.mod_eq_of_lt (by omega)]

def markB (s : Nat) (c : Int) (j : Nat) : Nat := if 0 ≤ c ∧ c < (j : Int) then s ||| 2 ^ c.toNat else s
theorem markB_lt {s : Nat} {c : Int} {j : Nat} (hj : j ≤ 16) (hs : s < 65536) : markB s c j < 65536 := by
  unfold markB
  split
  · rename_i h
    have : 2 ^ c.toNat < 2 ^ 16 := Nat.pow_lt_pow_right (by omega) (by omega)
    exact Nat.or_lt_two_pow (n := 16) hs this
  · exact hs
theorem markB_0 (s : Nat) (c : Int) : markB s c 0 = s := by unfold markB; rw [if_neg (by omega)]
theorem markB_16 (s : Nat) (c : Int) : markB s c 16 = markN s c := rfl
theorem markB_hit {s : Nat} {c : Int} {j : Nat} (h : c = (j : Int)) : markB s c j ||| 2 ^ j = markB s c (j + 1) := by
  subst h
  unfold markB
  rw [if_neg (by omega), if_pos (by omega), Int.toNat_natCast]
theorem markB_miss {s : Nat} {c : Int} {j : Nat} (h : ¬ c = (j : Int)) : markB s c j = markB s c (j + 1) := by
  unfold markB
  by_cases hc : 0 ≤ c ∧ c < (j : Int)
  · rw [if_pos hc, if_pos (by omega)]
  · rw [if_neg hc, if_neg (by omega)]
def clAt (l : List Fnd) (i : Nat) : Int := ((l[i]?).getD ⟨0, 0, 0⟩).Clause
theorem clAt_of {l : List Fnd} {i : Nat} {x : Fnd} (h : l[i]? = some x) : clAt l i = x.Clause := by unfold clAt; rw [h]; rfl
theorem set_round {l : List Fnd} {i j : Nat} (h1 : (i : Int) < l.length) (hj : j ≤ 16) (h : ¬ (j : Int) < 16) : ((markB (setN (l.take i)) (clAt l i) j : Nat) : Int) = ((setN (l.take (i + 1)) : Nat) : Int) := by
  have e : j = 16 := by omega
  subst e
  have hi : i < l.length := by omega
  have hx : l[i]? = some l[i] := by simp [hi]
  rw [markB_16, setN_step hx, clAt_of hx]
theorem pow16 {j : Nat} (h : j < 16) : 2 ^ j < 65536 := Nat.lt_of_lt_of_le (Nat.pow_lt_pow_right (by omega) h) (by decide)
theorem pow_dbl (j : Nat) : 2 * ((2 ^ j : Nat) : Int) = ((2 ^ (j + 1) : Nat) : Int) := by rw [Nat.pow_succ]; omega

def pl_V3_3 : Nat → Option (List Nat × List Nat) := (fun k => bif Nat.beq k 3 then some ([1000003, 0, 3, 4], []) else bif Nat.beq k 7 then some ([1000007, 0, 3, 4, 5, 6], []) else none)
set_option maxRecDepth 100000 in
set_option maxHeartbeats 1000000 in
theorem refDutySet_ok (l : List Fnd) (hl : (l.length : Int) ≤ 1000000000) : ICalls Try.prog 47 [.list 3 (fnds l) none] [] (Done (gi (setN l)) []) := by
  generalize hR : setN l = R
  refine ICalls.of_body Try.func47 rfl Try.call47 rfl (Nat.le_of_ble_eq_true rfl) pl_V3_3 rfl ?_
  repeat' ((conv => whnf); first
    | refine Br.yes rfl ?_
    | refine Br.no rfl ?_
    | refine Wr.fit (pow_fit2 (show j < 62 by omega) rfl) ?_
    | (refine Elem.mapK (by assumption) ?_)
    | (refine Elem.mapN (i := i) (by omega) (fun x hx => ?_))
    | (refine ILoop.ov 1000003 (fun ((i, z) : Nat × Int) => [(4, gi i), (3, gi z)]) (fun ((i, z) : Nat × Int) => []) (fun ((i, z) : Nat × Int) => i ≤ l.length ∧ z = ((setN (l.take i) : Nat) : Int)) (fun ((i, z) : Nat × Int) => l.length - i) ((0, 0)) (by exact rfl) ?_; (conv => whnf); refine Start.mk rfl ?_ ?_; (try dsimp only); rotate_left; rintro ⟨i, z⟩ ⟨hi, rfl⟩)
    | (refine Again.mk ⟨((i + 1, _)), rfl, ?_, ?_⟩ <;> try dsimp only)
    | (refine ILoop.ov 1000007 (fun ((j, z, p) : Nat × Int × Int) => [(6, gi j), (3, gi z), (5, gi p)]) (fun ((j, z, p) : Nat × Int × Int) => []) (fun ((j, z, p) : Nat × Int × Int) => j ≤ 16 ∧ p = ((2 ^ j : Nat) : Int) ∧ z = ((markB (setN (l.take i)) (clAt l i) j : Nat) : Int)) (fun ((j, z, p) : Nat × Int × Int) => 16 - j) ((0, ((setN (l.take i) : Nat) : Int), 1)) (by exact rfl) ?_; (conv => whnf); refine Start.mk rfl ?_ ?_; (try dsimp only); rotate_left; rintro ⟨j, z, p⟩ ⟨hj, rfl, rfl⟩)
    | (refine Again.mk ⟨((j + 1, _, _)), rfl, ?_, ?_⟩ <;> try dsimp only)
    | refine Br.yes (beq_self_eq_true _) ?_
    | refine Br.not ?_
    | refine Br.yes (decide_eq_true (by assumption)) ?_
    | refine Br.no (decide_eq_false (by assumption)) ?_
    | refine Br.yes (beq_iff_eq.2 (by assumption)) ?_
    | refine Br.no (beq_eq_false_iff_ne.2 (by assumption)) ?_
    | refine Br.yes (bne_iff_ne.2 (by assumption)) ?_
    | (refine Br.dec (fun h => ?_) (fun h => ?_) <;> try dsimp only at h)
    | (refine Br.beqI (fun h => ?_) (fun h => ?_) <;> try dsimp only at h)
    | (refine Br.bneI (fun h => ?_) (fun h => ?_) <;> try dsimp only at h)
    | refine Br.mk (fun h => ?_) (fun h => ?_)
    | refine Need.mk (app_need (by first | (simp only [List.length_append, List.length_map, List.length_nil, List.length_cons, List.nil_append, Nat.zero_add, Nat.add_zero]; done) | (simp only [List.length_append, List.length_map, List.length_nil, List.length_cons, List.nil_append, Nat.zero_add, Nat.add_zero]; omega) | omega) (Nat.le_of_ble_eq_true rfl) (by first | (simp only [List.length_append, List.length_map, List.length_nil, List.length_cons, List.nil_append, Nat.zero_add, Nat.add_zero]; done) | (simp only [List.length_append, List.length_map, List.length_nil, List.length_cons, List.nil_append, Nat.zero_add, Nat.add_zero]; omega) | omega)) ?_
    | refine Need.mk (app_need0 (Nat.le_of_ble_eq_true rfl) (by first | (simp only [List.length_append, List.length_map, List.length_nil, List.length_cons, List.nil_append, Nat.zero_add, Nat.add_zero]; done) | (simp only [List.length_append, List.length_map, List.length_nil, List.length_cons, List.nil_append, Nat.zero_add, Nat.add_zero]; omega) | omega)) ?_
    | refine Need.mk (by first | kernel_rfl | exact ⟨of_decide_eq_true rfl, of_decide_eq_true rfl⟩ | omega) ?_
    | refine Len.mk ⟨_, by simp only [List.length_cons, List.length_nil, Nat.reduceAdd, Int.cast_ofNat_Int]; rfl, ?_⟩
    | refine Wr.lit _ (by simp only [Int.reduceAdd, Int.reduceSub, Int.reduceMul]; rfl) (by decide) ?_
    | refine Wr.fit (by omega) ?_
    | refine Wr.fit (by dsimp only; omega) ?_
    | refine Elem.mk ⟨_, ⟨of_decide_eq_true rfl, rfl⟩, ?_⟩
    | refine Len.map ?_
    | refine Len.dropM ?_
    | refine Elem.dropM ?_
    | refine Len.takeM ?_
    | refine Elem.takeM ?_
    | refine Elem.mapK (by assumption) ?_
    | refine Elem.mapI (by omega) (by assumption) ?_
    | refine Elem.mapN (by omega) (fun x hx => ?_)
    | refine Elem.map (by omega) (by omega) (fun x hx => ?_)
    | refine (refOr16_ok (markB (setN (l.take i)) (clAt l i) j) (2 ^ j) (markB_lt (by omega) (setN_lt _)) (pow16 (by omega))).use ⟨rfl, ?_⟩
    | refine CallX.mk ⟨_, _, (refOr16_ok (markB (setN (l.take i)) (clAt l i) j) (2 ^ j) (markB_lt (by omega) (setN_lt _)) (pow16 (by omega))).x, rfl, ?_⟩
    | refine Done.mk ⟨rfl, rfl⟩
    | refine Done.mk ⟨congrArg gb ?_, rfl⟩
    | refine Done.mk ⟨?_, rfl⟩
    | refine Done.mk ⟨?_, ?_⟩)
  all_goals first
    | omega
    | exact ⟨by omega, pow_dbl j, congrArg Int.ofNat (markB_hit ((clAt_of hx).trans h))⟩
    | exact ⟨by omega, pow_dbl j, congrArg Int.ofNat (markB_miss (fun e => h ((clAt_of hx).symm.trans e)))⟩
    | exact ⟨by omega, set_round (by omega) hj h⟩
    | exact ⟨by omega, rfl, by rw [markB_0]⟩
    | (rw [List.take_of_length_le (by omega), hR]; done)
    | exact ⟨by omega, rfl⟩

set_option maxRecDepth 100000 in
set_option maxHeartbeats 1000000 in
theorem dutySets_ok (l : List Fnd) : ICalls Try.prog 12 [.list 3 (fnds l) none] [] (Done (gb true) []) := by
  by_cases hl : (l.length : Int) ≤ 60
  case neg =>
    refine ICalls.of_body Try.func12 rfl Try.call12 rfl (Nat.le_of_ble_eq_true rfl) (fun _ => none) rfl ?_
    repeat' ((conv => whnf); first
      | refine Br.yes rfl ?_
      | refine Br.no rfl ?_
      | refine Br.yes (beq_self_eq_true _) ?_
      | refine Br.not ?_
      | refine Br.yes (decide_eq_true (by assumption)) ?_
      | refine Br.no (decide_eq_false (by assumption)) ?_
      | refine Br.yes (beq_iff_eq.2 (by assumption)) ?_
      | refine Br.no (beq_eq_false_iff_ne.2 (by assumption)) ?_
      | refine Br.yes (bne_iff_ne.2 (by assumption)) ?_
      | (refine Br.dec (fun h => ?_) (fun h => ?_) <;> try dsimp only at h)
      | (refine Br.beqI (fun h => ?_) (fun h => ?_) <;> try dsimp only at h)
      | (refine Br.bneI (fun h => ?_) (fun h => ?_) <;> try dsimp only at h)
      | refine Br.mk (fun h => ?_) (fun h => ?_)
      | refine Need.mk (app_need (by first | (simp only [List.length_append, List.length_map, List.length_nil, List.length_cons, List.nil_append, Nat.zero_add, Nat.add_zero]; done) | (simp only [List.length_append, List.length_map, List.length_nil, List.length_cons, List.nil_append, Nat.zero_add, Nat.add_zero]; omega) | omega) (Nat.le_of_ble_eq_true rfl) (by first | (simp only [List.length_append, List.length_map, List.length_nil, List.length_cons, List.nil_append, Nat.zero_add, Nat.add_zero]; done) | (simp only [List.length_append, List.length_map, List.length_nil, List.length_cons, List.nil_append, Nat.zero_add, Nat.add_zero]; omega) | omega)) ?_
      | refine Need.mk (app_need0 (Nat.le_of_ble_eq_true rfl) (by first | (simp only [List.length_append, List.length_map, List.length_nil, List.length_cons, List.nil_append, Nat.zero_add, Nat.add_zero]; done) | (simp only [List.length_append, List.length_map, List.length_nil, List.length_cons, List.nil_append, Nat.zero_add, Nat.add_zero]; omega) | omega)) ?_
      | refine Need.mk (by first | kernel_rfl | exact ⟨of_decide_eq_true rfl, of_decide_eq_true rfl⟩ | omega) ?_
      | refine Len.mk ⟨_, by simp only [List.length_cons, List.length_nil, Nat.reduceAdd, Int.cast_ofNat_Int]; rfl, ?_⟩
      | refine Wr.lit _ (by simp only [Int.reduceAdd, Int.reduceSub, Int.reduceMul]; rfl) (by decide) ?_
      | refine Wr.fit (by omega) ?_
      | refine Wr.fit (by dsimp only; omega) ?_
      | refine Elem.mk ⟨_, ⟨of_decide_eq_true rfl, rfl⟩, ?_⟩
      | refine Len.map ?_
      | refine Len.dropM ?_
      | refine Elem.dropM ?_
      | refine Len.takeM ?_
      | refine Elem.takeM ?_
      | refine Elem.mapK (by assumption) ?_
      | refine Elem.mapI (by omega) (by assumption) ?_
      | refine Elem.mapN (by omega) (fun x hx => ?_)
      | refine Elem.map (by omega) (by omega) (fun x hx => ?_)
      | refine (alive16_ok).use ⟨rfl, ?_⟩
      | refine CallX.mk ⟨_, _, (alive16_ok).x, rfl, ?_⟩
      | refine Done.mk ⟨rfl, rfl⟩
      | refine Done.mk ⟨congrArg gb ?_, rfl⟩
      | refine Done.mk ⟨?_, rfl⟩
      | refine Done.mk ⟨?_, ?_⟩)
    all_goals omega
  case pos =>
    have h1 := dutySet_ok l (by omega)
    have h2 := refDutySet_ok l (by omega)
    refine ICalls.of_body Try.func12 rfl Try.call12 rfl (Nat.le_of_ble_eq_true rfl) (fun _ => none) rfl ?_
    repeat' ((conv => whnf); first
      | refine Br.yes rfl ?_
      | refine Br.no rfl ?_
      | refine Br.yes (beq_self_eq_true _) ?_
      | refine Br.not ?_
      | refine Br.yes (decide_eq_true (by assumption)) ?_
      | refine Br.no (decide_eq_false (by assumption)) ?_
      | refine Br.yes (beq_iff_eq.2 (by assumption)) ?_
      | refine Br.no (beq_eq_false_iff_ne.2 (by assumption)) ?_
      | refine Br.yes (bne_iff_ne.2 (by assumption)) ?_
      | (refine Br.dec (fun h => ?_) (fun h => ?_) <;> try dsimp only at h)
      | (refine Br.beqI (fun h => ?_) (fun h => ?_) <;> try dsimp only at h)
      | (refine Br.bneI (fun h => ?_) (fun h => ?_) <;> try dsimp only at h)
      | refine Br.mk (fun h => ?_) (fun h => ?_)
      | refine Need.mk (app_need (by first | (simp only [List.length_append, List.length_map, List.length_nil, List.length_cons, List.nil_append, Nat.zero_add, Nat.add_zero]; done) | (simp only [List.length_append, List.length_map, List.length_nil, List.length_cons, List.nil_append, Nat.zero_add, Nat.add_zero]; omega) | omega) (Nat.le_of_ble_eq_true rfl) (by first | (simp only [List.length_append, List.length_map, List.length_nil, List.length_cons, List.nil_append, Nat.zero_add, Nat.add_zero]; done) | (simp only [List.length_append, List.length_map, List.length_nil, List.length_cons, List.nil_append, Nat.zero_add, Nat.add_zero]; omega) | omega)) ?_
      | refine Need.mk (app_need0 (Nat.le_of_ble_eq_true rfl) (by first | (simp only [List.length_append, List.length_map, List.length_nil, List.length_cons, List.nil_append, Nat.zero_add, Nat.add_zero]; done) | (simp only [List.length_append, List.length_map, List.length_nil, List.length_cons, List.nil_append, Nat.zero_add, Nat.add_zero]; omega) | omega)) ?_
      | refine Need.mk (by first | kernel_rfl | exact ⟨of_decide_eq_true rfl, of_decide_eq_true rfl⟩ | omega) ?_
      | refine Len.mk ⟨_, by simp only [List.length_cons, List.length_nil, Nat.reduceAdd, Int.cast_ofNat_Int]; rfl, ?_⟩
      | refine Wr.lit _ (by simp only [Int.reduceAdd, Int.reduceSub, Int.reduceMul]; rfl) (by decide) ?_
      | refine Wr.fit (by omega) ?_
      | refine Wr.fit (by dsimp only; omega) ?_
      | refine Elem.mk ⟨_, ⟨of_decide_eq_true rfl, rfl⟩, ?_⟩
      | refine Len.map ?_
      | refine Len.dropM ?_
      | refine Elem.dropM ?_
      | refine Len.takeM ?_
      | refine Elem.takeM ?_
      | refine Elem.mapK (by assumption) ?_
      | refine Elem.mapI (by omega) (by assumption) ?_
      | refine Elem.mapN (by omega) (fun x hx => ?_)
      | refine Elem.map (by omega) (by omega) (fun x hx => ?_)
      | refine (h1).use ⟨rfl, ?_⟩
      | refine (h2).use ⟨rfl, ?_⟩
      | refine (alive16_ok).use ⟨rfl, ?_⟩
      | refine CallX.mk ⟨_, _, (h1).x, rfl, ?_⟩
      | refine CallX.mk ⟨_, _, (h2).x, rfl, ?_⟩
      | refine CallX.mk ⟨_, _, (alive16_ok).x, rfl, ?_⟩
      | refine Done.mk ⟨rfl, rfl⟩
      | refine Done.mk ⟨congrArg gb ?_, rfl⟩
      | refine Done.mk ⟨?_, rfl⟩
      | refine Done.mk ⟨?_, ?_⟩)
    all_goals first | omega | simp_all

def fndTy : Ty := .agg [.int, .int, .int]
theorem fnd_wt (gs : List GV) (h : WTs [.int, .int, .int] gs) : ∃ s : Fnd, gs = s.c ∧ True := by
  obtain ⟨a, r, rfl, ha, h⟩ := WTs.int h
  obtain ⟨b, r, rfl, hb, h⟩ := WTs.int h
  obtain ⟨c, r, rfl, hc, h⟩ := WTs.int h
  cases WTs.nil h
  exact ⟨⟨a, b, c⟩, rfl, trivial⟩
theorem el_fnd (x : GV) (h : ElOk fndTy x) : ∃ s : Fnd, x = s.g ∧ True := el_agg fnd_wt x h

theorem dutySets_law (g0 : GV) (h0 : ArgOk (.list fndTy) g0) :
    ICalls Try.prog 12 [g0] [] (Done (gb true) []) := by
  obtain ⟨l, rfl, _⟩ := list_of el_fnd h0
  exact dutySets_ok l

end Go.Hl
