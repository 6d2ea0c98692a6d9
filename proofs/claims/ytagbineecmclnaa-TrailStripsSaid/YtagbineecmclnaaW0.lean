/- Contracts of functions, bundle W0; proved for whatever the arguments' types allow, as each theorem says. -/
import Derived.Test.YtagbineecmclnaaV1

/- Clauses, in a set, and noted.  -/
set_option linter.unusedVariables false
set_option linter.unusedSimpArgs false
namespace Go.Hl
open Go.Gh Go.Proofs

set_option maxRecDepth 100000 in
theorem clauseIs_ok (c : Int) : ICalls Try.prog 58 [gi c] [] (Done (gb (decide (0 ≤ c) && decide (c < 16))) []) := by
  refine ICalls.of_body Try.func58 rfl Try.call58 rfl (Nat.le_of_ble_eq_true rfl) (fun _ => none) rfl ?_
  repeat' ((conv => whnf); first
    | refine Br.yes rfl ?_
    | refine Br.no rfl ?_
    | refine Br.yes (beq_self_eq_true _) ?_
    | refine Br.not ?_
    | refine Br.yes (decide_eq_true (by assumption)) ?_
    | refine Br.no (decide_eq_false (by assumption)) ?_
    | refine Br.yes (beq_iff_eq.2 (by assumption)) ?_
    | refine Br.no (beq_eq_false_iff_ne.2 (by assumption)) ?_
    | refine Br.yes (bne_iff_ne.2 (by assumption)) ?_
    | (refine Br.dec (fun h => ?_) (fun h => ?_) <;> try dsimp only at h)
    | (refine Br.beqI (fun h => ?_) (fun h => ?_) <;> try dsimp only at h)
    | (refine Br.bneI (fun h => ?_) (fun h => ?_) <;> try dsimp only at h)
    | refine Br.mk (fun h => ?_) (fun h => ?_)
    | refine Need.mk (app_need (by first | (simp only [List.length_append, List.length_map, List.length_nil, List.length_cons, List.nil_append, Nat.zero_add, Nat.add_zero]; done) | (simp only [List.length_append, List.length_map, List.length_nil, List.length_cons, List.nil_append, Nat.zero_add, Nat.add_zero]; omega) | omega) (Nat.le_of_ble_eq_true rfl) (by first | (simp only [List.length_append, List.length_map, List.length_nil, List.length_cons, List.nil_append, Nat.zero_add, Nat.add_zero]; done) | (simp only [List.length_append, List.length_map, List.length_nil, List.length_cons, List.nil_append, Nat.zero_add, Nat.add_zero]; omega) | omega)) ?_
    | refine Need.mk (app_need0 (Nat.le_of_ble_eq_true rfl) (by first | (simp only [List.length_append, List.length_map, List.length_nil, List.length_cons, List.nil_append, Nat.zero_add, Nat.add_zero]; done) | (simp only [List.length_append, List.length_map, List.length_nil, List.length_cons, List.nil_append, Nat.zero_add, Nat.add_zero]; omega) | omega)) ?_
    | refine Need.mk (by first | kernel_rfl | exact ⟨of_decide_eq_true rfl, of_decide_eq_true rfl⟩ | omega) ?_
    | refine Len.mk ⟨_, by simp only [List.length_cons, List.length_nil, Nat.reduceAdd, Int.cast_ofNat_Int]; rfl, ?_⟩
    | refine Wr.lit _ (by simp only [Int.reduceAdd, Int.reduceSub, Int.reduceMul]; rfl) (by decide) ?_
    | refine Wr.fit (by omega) ?_
    | refine Wr.fit (by dsimp only; omega) ?_
    | refine Elem.mk ⟨_, ⟨of_decide_eq_true rfl, rfl⟩, ?_⟩
    | refine Len.map ?_
    | refine Len.dropM ?_
    | refine Elem.dropM ?_
    | refine Len.takeM ?_
    | refine Elem.takeM ?_
    | refine Elem.mapK (by assumption) ?_
    | refine Elem.mapI (by omega) (by assumption) ?_
    | refine Elem.mapN (by omega) (fun x hx => ?_)
    | refine Elem.map (by omega) (by omega) (fun x hx => ?_)
    | refine Done.mk ⟨rfl, rfl⟩
    | refine Done.mk ⟨congrArg gb ?_, rfl⟩
    | refine Done.mk ⟨?_, rfl⟩
    | refine Done.mk ⟨?_, ?_⟩)
  all_goals simp [*]
theorem or_cast {a b : Nat} (ha : a < 2 ^ 62) (hb : b < 2 ^ 62) : IntKind.i64.wrap ((BitVec.ofInt 64 (a : Int) ||| BitVec.ofInt 64 (b : Int)).toNat : Int) = ((a ||| b : Nat) : Int) := by
  have h : a ||| b < 2 ^ 62 := Nat.or_lt_two_pow ha hb
  have e1 : (BitVec.ofInt 64 (a : Int) ||| BitVec.ofInt 64 (b : Int)).toNat = a ||| b := by
    rw [BitVec.toNat_or, BitVec.toNat_ofInt, BitVec.toNat_ofInt]
    have h1 : ((a : Int) % ((2 ^ 64 : Nat) : Int)).toNat = a := by omega
    have h2 : ((b : Int) % ((2 ^ 64 : Nat) : Int)).toNat = b := by omega
    rw [h1, h2]
  rw [e1, IntKind.wrap_i64]
  omega
def markN (s : Nat) (c : Int) : Nat := if 0 ≤ c ∧ c < 16 then s ||| 2 ^ c.toNat else s
theorem markN_lt {s : Nat} {c : Int} (hs : s < 65536) : markN s c < 65536 := by
  unfold markN
  split
  · rename_i h
    have : 2 ^ c.toNat < 2 ^ 16 := Nat.pow_lt_pow_right (by omega) (by omega)
    exact Nat.or_lt_two_pow (n := 16) hs this
  · exact hs
theorem set_or {z c : Int} {s : Nat} (hz : z = (s : Int)) (hs : s < 65536) (hc : 0 ≤ c ∧ c < 16) :
    IntKind.i64.wrap ((BitVec.ofInt 64 z ||| BitVec.ofInt 64 (IntKind.i64.wrap (1 * 2 ^ (min c.toNat 64)))).toNat : Int) = ((markN s c : Nat) : Int) := by
  have h2 : 2 ^ c.toNat < 2 ^ 16 := Nat.pow_lt_pow_right (by omega) (by omega)
  have e1 : IntKind.i64.wrap (1 * 2 ^ (min c.toNat 64)) = ((2 ^ c.toNat : Nat) : Int) := by
    rw [show min c.toNat 64 = c.toNat by omega, IntKind.wrap_i64]
    have : (1 * 2 ^ c.toNat : Int) = ((2 ^ c.toNat : Nat) : Int) := by push_cast; omega
    rw [this]
    generalize 2 ^ c.toNat = p at *
    omega
  rw [e1, hz]
  rw [or_cast (by omega) (by omega), markN, if_pos hc]

theorem fdiv_nat (s c : Nat) (hc : c < 16) : (s : Int).fdiv (2 ^ (min (c : Int).toNat 64)) = ((s / 2 ^ c : Nat) : Int) := by
  rw [Int.toNat_natCast, show min c 64 = c by omega]
  rw [Int.fdiv_eq_ediv_of_nonneg _ (Int.le_of_lt (Int.pow_pos (by omega)))]
  push_cast
  rfl
theorem and_bitF (s c : Nat) (hs : s < 65536) (hc : c < 16) :
    (IntKind.i64.wrap ((BitVec.ofInt 64 ((s : Int).fdiv (2 ^ (min (c : Int).toNat 64))) &&& BitVec.ofInt 64 1).toNat : Int) = 1) ↔ s.testBit c = true := by
  rw [fdiv_nat s c hc]
  have hq : s / 2 ^ c < 65536 := Nat.lt_of_le_of_lt (Nat.div_le_self _ _) hs
  rw [Nat.testBit_eq_decide_div_mod_eq]
  generalize s / 2 ^ c = q at *
  rw [BitVec.toNat_and, BitVec.toNat_ofInt, BitVec.toNat_ofInt]
  have h1 : ((q : Int) % ((2 ^ 64 : Nat) : Int)).toNat = q := by omega
  have h2 : ((1 : Int) % ((2 ^ 64 : Nat) : Int)).toNat = 1 := by omega
  rw [h1, h2, Nat.and_one_is_mod, IntKind.wrap_i64]
  simp only [decide_eq_true_eq]
  omega

set_option maxRecDepth 100000 in
theorem clauseIn_ok (s c : Nat) (hs : s < 65536) (hc : c < 16) : ICalls Try.prog 39 [gi s, gi c] [] (Done (gb (s.testBit c)) []) := by
  have h := (clauseIs_ok c).to (congrArg gb (show (decide ((0 : Int) ≤ (c : Int)) && decide ((c : Int) < 16)) = true by simp; omega))
  have hb := and_bitF s c hs hc
  refine ICalls.of_body Try.func39 rfl Try.call39 rfl (Nat.le_of_ble_eq_true rfl) (fun _ => none) rfl ?_
  repeat' ((conv => whnf); first
    | refine Br.yes rfl ?_
    | refine Br.no rfl ?_
    | refine Br.yes (beq_self_eq_true _) ?_
    | refine Br.not ?_
    | refine Br.yes (decide_eq_true (by assumption)) ?_
    | refine Br.no (decide_eq_false (by assumption)) ?_
    | refine Br.yes (beq_iff_eq.2 (by assumption)) ?_
    | refine Br.no (beq_eq_false_iff_ne.2 (by assumption)) ?_
    | refine Br.yes (bne_iff_ne.2 (by assumption)) ?_
    | (refine Br.dec (fun h => ?_) (fun h => ?_) <;> try dsimp only at h)
    | (refine Br.beqI (fun h => ?_) (fun h => ?_) <;> try dsimp only at h)
    | (refine Br.bneI (fun h => ?_) (fun h => ?_) <;> try dsimp only at h)
    | refine Br.mk (fun h => ?_) (fun h => ?_)
    | refine Need.mk (app_need (by first | (simp only [List.length_append, List.length_map, List.length_nil, List.length_cons, List.nil_append, Nat.zero_add, Nat.add_zero]; done) | (simp only [List.length_append, List.length_map, List.length_nil, List.length_cons, List.nil_append, Nat.zero_add, Nat.add_zero]; omega) | omega) (Nat.le_of_ble_eq_true rfl) (by first | (simp only [List.length_append, List.length_map, List.length_nil, List.length_cons, List.nil_append, Nat.zero_add, Nat.add_zero]; done) | (simp only [List.length_append, List.length_map, List.length_nil, List.length_cons, List.nil_append, Nat.zero_add, Nat.add_zero]; omega) | omega)) ?_
    | refine Need.mk (app_need0 (Nat.le_of_ble_eq_true rfl) (by first | (simp only [List.length_append, List.length_map, List.length_nil, List.length_cons, List.nil_append, Nat.zero_add, Nat.add_zero]; done) | (simp only [List.length_append, List.length_map, List.length_nil, List.length_cons, List.nil_append, Nat.zero_add, Nat.add_zero]; omega) | omega)) ?_
    | refine Need.mk (by first | kernel_rfl | exact ⟨of_decide_eq_true rfl, of_decide_eq_true rfl⟩ | omega) ?_
    | refine Len.mk ⟨_, by simp only [List.length_cons, List.length_nil, Nat.reduceAdd, Int.cast_ofNat_Int]; rfl, ?_⟩
    | refine Wr.lit _ (by simp only [Int.reduceAdd, Int.reduceSub, Int.reduceMul]; rfl) (by decide) ?_
    | refine Wr.fit (by omega) ?_
    | refine Wr.fit (by dsimp only; omega) ?_
    | refine Elem.mk ⟨_, ⟨of_decide_eq_true rfl, rfl⟩, ?_⟩
    | refine Len.map ?_
    | refine Len.dropM ?_
    | refine Elem.dropM ?_
    | refine Len.takeM ?_
    | refine Elem.takeM ?_
    | refine Elem.mapK (by assumption) ?_
    | refine Elem.mapI (by omega) (by assumption) ?_
    | refine Elem.mapN (by omega) (fun x hx => ?_)
    | refine Elem.map (by omega) (by omega) (fun x hx => ?_)
    | refine (h).use ⟨rfl, ?_⟩
    | refine CallX.mk ⟨_, _, (h).x, rfl, ?_⟩
    | refine Done.mk ⟨rfl, rfl⟩
    | refine Done.mk ⟨congrArg gb ?_, rfl⟩
    | refine Done.mk ⟨?_, rfl⟩
    | refine Done.mk ⟨?_, ?_⟩)
  all_goals exact Bool.eq_iff_iff.2 (beq_iff_eq.trans hb)

def nS (s c : Nat) : Nat := if s.testBit c then s else s ||| 2 ^ c
def nO (s c : Nat) (f : Fnd) (out : List Fnd) : List Fnd := if s.testBit c then out else out ++ [f]
def nV (s c v : Nat) : Nat := if s.testBit c then v else v + 1
theorem nO_len {s c : Nat} {f : Fnd} {out : List Fnd} : (nO s c f out).length ≤ out.length + 1 := by unfold nO; split <;> simp
theorem set_orN {s c : Nat} (hs : s < 65536) (hc : c < 16) :
    IntKind.i64.wrap ((BitVec.ofInt 64 (s : Int) ||| BitVec.ofInt 64 (IntKind.i64.wrap (1 * 2 ^ (min (c : Int).toNat 64)))).toNat : Int) = ((s ||| 2 ^ c : Nat) : Int) := by
  rw [set_or (s := s) (c := (c : Int)) rfl (by omega) (by omega), markN, if_pos (by omega), Int.toNat_natCast]

theorem note_cells {z : Int} {s' : Nat} {e : Nat} (h : z = (s' : Int)) (out : List Fnd) (f : Fnd) (v : Nat) :
    [GB.cells [GV.v (.int .i64 z)], GB.cells [GV.ms 3 2 (v + 1) ((fnds out).length + [f.g].length)], GB.mvec e 3 (fnds out ++ [f.g]) (v + 1)] = [GB.cells [gi s'], GB.cells [GV.ms 3 2 (v + 1) (out ++ [f]).length], GB.mvec e 3 (fnds (out ++ [f])) (v + 1)] := by
  rw [h, fnds_app, fnds_len]
  simp


/-- What is noted: the clauses as a number, the findings, how often they were laid anew. -/
structure NS where
  s : Nat
  out : List Fnd
  v : Nat
/-- The findings are of the clauses that are noted, each once. -/
structure NInv16 (x : NS) : Prop where
  bits : ∀ c : Nat, x.s.testBit c = true ↔ ∃ f, f ∈ x.out ∧ f.Clause = (c : Int)
  pw : x.out.Pairwise fun f g => f.Clause ≠ g.Clause
theorem NInv16.note {x : NS} (h : NInv16 x) (c : Nat) (a t : Int) : NInv16 ⟨nS x.s c, nO x.s c ⟨c, a, t⟩ x.out, nV x.s c x.v⟩ := by
  unfold nS nO nV
  cases hb : x.s.testBit c with
  | true => simp only [if_true]; exact ⟨h.bits, h.pw⟩
  | false =>
    simp only [Bool.false_eq_true, if_false]
    refine ⟨fun d => ?_, ?_⟩
    · simp only
      rw [Nat.testBit_or, Bool.or_eq_true, h.bits d, Nat.testBit_two_pow]
      simp only [decide_eq_true_eq]
      constructor
      · rintro (⟨f, h1, h2⟩ | e)
        · exact ⟨f, List.mem_append_left _ h1, h2⟩
        · exact ⟨⟨c, a, t⟩, List.mem_append_right _ (List.mem_singleton.2 rfl), by simp only; omega⟩
      · rintro ⟨f, h1, h2⟩
        rcases List.mem_append.1 h1 with h1 | h1
        · exact .inl ⟨f, h1, h2⟩
        · right
          cases List.mem_singleton.1 h1
          simp only at h2; omega
    · simp only
      rw [List.pairwise_append]
      refine ⟨h.pw, List.pairwise_singleton .., fun f hf g hg e => ?_⟩
      cases List.mem_singleton.1 hg
      have : x.s.testBit c = true := (h.bits c).2 ⟨f, hf, e⟩
      rw [hb] at this; cases this
theorem NInv16.nodup {x : NS} (h : NInv16 x) : x.out.Nodup := h.pw.imp fun hab e => hab (by rw [e])
theorem NInv16.start : NInv16 ⟨0, [], 0⟩ := ⟨fun c => by simp, List.Pairwise.nil⟩

end Go.Hl
