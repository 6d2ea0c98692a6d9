/- Contracts of functions, bundle T11; proved for whatever the arguments' types allow, as each theorem says. -/
import Derived.Test.YtagbineecmclnaaT9

/- Chapter 20: driving and work alone.  -/
set_option linter.unusedVariables false
set_option linter.unusedSimpArgs false
namespace Go.Hl
open Go.Gh Go.Proofs

/-- One more number behind others: of one sign with the last one, it is put to that one. -/
def addN (out : List Int) (n : Int) : List Int := match out.getLast? with
  | none => [n]
  | some x => if decide (0 < x) = decide (0 < n) then out.dropLast ++ [x + n] else out ++ [n]
def dOf (k : Int) : Int := if k = 3 then 1 else if k = 2 then -1 else 0
/-- Records of driving and work. -/
def recN (out : List Int) (r : Rec) : List Int := if r.Kind = 0 ∨ r.Kind = 1 then out else addN out (if r.Kind = 2 then 0 - (r.To - r.From) else r.To - r.From)
def strip (R : List Rec) (out : List Int) : List Int := R.foldl recN out
/-- Minute by minute. -/
def minN (out : List Int) (k : Int) : List Int := if dOf k = 0 then out else addN out (dOf k)
def stripM (ks : List Int) (out : List Int) : List Int := ks.foldl minN out

theorem addN_nil (n : Int) : addN [] n = [n] := rfl
theorem addN_snoc (o : List Int) (x n : Int) : addN (o ++ [x]) n = if decide (0 < x) = decide (0 < n) then o ++ [x + n] else (o ++ [x]) ++ [n] := by
  unfold addN
  rw [List.getLast?_append, List.getLast?_singleton]
  simp
theorem addN_add (out : List Int) (a b : Int) (h : decide (0 < a) = decide (0 < b)) (ha : a ≠ 0) (hb : b ≠ 0) : addN (addN out a) b = addN out (a + b) := by
  have hab : decide (0 < a) = decide (0 < a + b) := by
    by_cases h1 : 0 < a
    · have h2 : 0 < b := by simpa [h1] using h.symm
      simp [h1]; omega
    · have h2 : ¬ 0 < b := by simpa [h1] using h.symm
      simp [h1]; omega
  rcases List.eq_nil_or_concat out with rfl | ⟨o, x, rfl⟩
  · rw [addN_nil, addN_nil, show [a] = [] ++ [a] from rfl, addN_snoc, if_pos h]; rfl
  · rw [List.concat_eq_append, addN_snoc, addN_snoc]
    by_cases h1 : decide (0 < x) = decide (0 < a)
    · have h2 : decide (0 < x + a) = decide (0 < b) := by
        by_cases h3 : 0 < a
        · have h4 : 0 < x := by simpa [h3] using h1
          have h5 : 0 < b := by simpa [h3] using h.symm
          simp [h5]; omega
        · have h4 : ¬ 0 < x := by simpa [h3] using h1
          have h5 : ¬ 0 < b := by simpa [h3] using h.symm
          simp [h5]; omega
      rw [if_pos h1, if_pos (h1.trans hab), addN_snoc, if_pos h2, Int.add_assoc]
    · rw [if_neg h1, if_neg (fun e => h1 (e.trans hab.symm)), addN_snoc, if_pos h]
theorem minN_rep {k : Int} (hk : dOf k ≠ 0) : ∀ (n : Nat) (out : List Int), (List.replicate (n + 1) k).foldl minN out = addN out ((n + 1 : Nat) * dOf k)
  | 0, out => by simp [minN, hk]
  | n + 1, out => by
    have hd : dOf k = 1 ∨ dOf k = -1 := by
      unfold dOf at *; split
      · exact .inl rfl
      · split
        · exact .inr rfl
        · rename_i a b; rw [if_neg a, if_neg b] at hk; exact absurd rfl hk
    rw [List.replicate_succ, List.foldl_cons, minN_rep hk n, minN, if_neg hk]
    rcases hd with hd | hd
    · rw [hd, addN_add _ _ _ (by first | (simp; done) | (simp; omega)) (by decide) (by omega)]
      congr 1; omega
    · rw [hd, addN_add _ _ _ (by first | (simp; done) | (simp; omega)) (by decide) (by omega)]
      congr 1; omega
theorem minN_none {k : Int} (hk : dOf k = 0) : ∀ (n : Nat) (out : List Int), (List.replicate n k).foldl minN out = out
  | 0, _ => rfl
  | n + 1, out => by rw [List.replicate_succ, List.foldl_cons, minN, if_pos hk]; exact minN_none hk n out
theorem strip_min : ∀ (R : List Rec) (a : Int) (out : List Int), Chain a R → strip R out = stripM (kindsOf R) out
  | [], _, _, _ => rfl
  | r :: R, a, out, ⟨c1, c2, c3⟩ => by
    have hi := recErr_inv c2
    have e : kindsOf (r :: R) = List.replicate (r.To - r.From).toNat r.Kind ++ kindsOf R := rfl
    show strip R (recN out r) = _
    rw [strip_min R r.To _ c3, e]
    unfold stripM
    rw [List.foldl_append]
    congr 1
    unfold recN
    by_cases h1 : r.Kind = 0 ∨ r.Kind = 1
    · rw [if_pos h1, minN_none (by unfold dOf; rw [if_neg (by omega), if_neg (by omega)])]
    · rw [if_neg h1]
      obtain ⟨n, hn⟩ : ∃ n : Nat, (r.To - r.From).toNat = n + 1 := ⟨(r.To - r.From).toNat - 1, by omega⟩
      by_cases h2 : r.Kind = 2
      · have hd : dOf r.Kind = -1 := by unfold dOf; rw [if_neg (by omega), if_pos h2]
        rw [if_pos h2, hn, minN_rep (by rw [hd]; decide), hd]
        congr 1; omega
      · have hd : dOf r.Kind = 1 := by unfold dOf; rw [if_pos (by omega)]
        rw [if_neg h2, hn, minN_rep (by rw [hd]; decide), hd]
        congr 1; omega

end Go.Hl

/- Chapter 20: driving and work alone, in the program.  -/
set_option linter.unusedVariables false
set_option linter.unusedSimpArgs false
namespace Go.Hl
open Go.Gh Go.Proofs

def stripT (R : List Rec) : List Int := if (recsErr 0 none R).2 = 0 then strip R [] else []
theorem last_of {out : List Int} {x : Int} (h : out[((out.length : Int) - 1).toNat]? = some x) : ∃ o, out = o ++ [x] := by
  rcases List.eq_nil_or_concat out with rfl | ⟨o, y, rfl⟩
  · simp at h
  · have e : (((o.concat y).length : Int) - 1).toNat = o.length := by simp
    rw [e] at h
    simp at h
    subst h
    exact ⟨o, List.concat_eq_append⟩
/-- So many numbers, none too great. -/
structure SB (B : Int) (out : List Int) (i : Nat) : Prop where
  len : out.length ≤ i
  all : ∀ x, x ∈ out → -(B * i) ≤ x ∧ x ≤ B * i
theorem SB.more {B : Int} {out : List Int} {i : Nat} (h : SB B out i) (hB : 0 ≤ B) : SB B out (i + 1) :=
  ⟨by have := h.len; omega, fun x hx => by have := h.all x hx; rw [show ((i + 1 : Nat) : Int) = i + 1 by omega, Int.mul_add]; omega⟩
theorem SB.start {B : Int} : SB B [] 0 := ⟨Nat.le_refl _, fun x hx => by cases hx⟩
theorem SB.app {B n : Int} {out : List Int} {i : Nat} (h : SB B out i) (hB : 0 ≤ B) (hn : -B ≤ n ∧ n ≤ B) : SB B (out ++ [n]) (i + 1) := by
  refine ⟨by have := h.len; simp; omega, fun x hx => ?_⟩
  have hi : 0 ≤ B * (i : Int) := Int.mul_nonneg hB (by omega)
  rw [show ((i + 1 : Nat) : Int) = i + 1 by omega, Int.mul_add]
  rcases List.mem_append.1 hx with hx | hx
  · have := h.all x hx; omega
  · rw [List.mem_singleton.1 hx]; omega
theorem SB.set {B n x : Int} {o : List Int} {i : Nat} (h : SB B (o ++ [x]) i) (hB : 0 ≤ B) (hn : -B ≤ n ∧ n ≤ B) : SB B (o ++ [x + n]) (i + 1) := by
  refine ⟨by have := h.len; simp at *; omega, fun y hy => ?_⟩
  rw [show ((i + 1 : Nat) : Int) = i + 1 by omega, Int.mul_add]
  rcases List.mem_append.1 hy with hy | hy
  · have := h.all y (List.mem_append_left _ hy); omega
  · rw [List.mem_singleton.1 hy]
    have := h.all x (List.mem_append_right _ (List.mem_singleton.2 rfl)); omega
theorem add_first {B n : Int} {out : List Int} {i : Nat} (h : SB B out i) (hB : 0 ≤ B) (hn : -B ≤ n ∧ n ≤ B) (h0 : ¬ 0 ≤ (out.length : Int) - 1) :
    (ints out ++ [gi n] = ints (addN out n) ∧ (ints out).length + [gi n].length = (addN out n).length) ∧ SB B (addN out n) (i + 1) := by
  have e : out = [] := List.length_eq_zero_iff.1 (by omega)
  subst e
  exact ⟨⟨rfl, rfl⟩, h.app hB hn⟩
theorem add_other {B n x : Int} {out : List Int} {i : Nat} (h : SB B out i) (hB : 0 ≤ B) (hn : -B ≤ n ∧ n ≤ B) (hx : out[((out.length : Int) - 1).toNat]? = some x) (h0 : ¬ decide (0 < x) = decide (0 < n)) :
    (ints out ++ [gi n] = ints (addN out n) ∧ (ints out).length + [gi n].length = (addN out n).length) ∧ SB B (addN out n) (i + 1) := by
  obtain ⟨o, rfl⟩ := last_of hx
  rw [addN_snoc, if_neg h0]
  exact ⟨⟨by simp [ints], by simp [ints]⟩, h.app hB hn⟩
theorem add_same {B n x : Int} {out : List Int} {i : Nat} (h : SB B out i) (hB : 0 ≤ B) (hn : -B ≤ n ∧ n ≤ B) (hx : out[((out.length : Int) - 1).toNat]? = some x) (h0 : decide (0 < x) = decide (0 < n)) :
    ((ints out).set ((out.length : Int) - 1).toNat (gi (x + n)) = ints (addN out n) ∧ out.length = (addN out n).length) ∧ SB B (addN out n) (i + 1) := by
  obtain ⟨o, rfl⟩ := last_of hx
  rw [addN_snoc, if_pos h0]
  refine ⟨⟨?_, by simp⟩, h.set hB hn⟩
  have e : (((o ++ [x]).length : Int) - 1).toNat = o.length := by simp
  rw [e]
  simp [ints, List.map_append, List.set_append]
theorem st_next {R : List Rec} {i : Nat} {q : Rec} {out W : List Int} (hx : R[i]? = some q) (h : strip (R.drop i) out = W) : strip (R.drop (i + 1)) (recN out q) = W := by
  rw [drop_of_get hx] at h; exact h
theorem st_end {R : List Rec} {i : Nat} {out W : List Int} (hi : ¬ (i : Int) < R.length) (h : strip (R.drop i) out = W) : out = W := by
  rw [List.drop_eq_nil_of_le (by omega)] at h; exact h

def pl_T12_1 : Nat → Option (List Nat × List Nat) := (fun k => bif Nat.beq k 6 then some ([1000006, 6, 19, 20, 21], [106, 164]) else none)
def pl_T12_2 : Nat → Option (List Nat × List Nat) := (fun k => bif Nat.beq k 6 then some ([1000006, 6, 19, 20, 21, 5000006, 6000002], [106, 164]) else bif Nat.beq k 5000006 then some ([], []) else bif Nat.beq k 6000002 then some ([], []) else none)
set_option maxRecDepth 100000 in
set_option maxHeartbeats 4000000 in
theorem strip_ok (R : List Rec) (hl : (R.length : Int) ≤ 1000) : ICalls Try.prog 26 [.list 3 (recs R) none] [] (Done (.tup [.list 1 (ints (stripT R)) none, gi (recsErr 0 none R).2]) []) := by
  have h1 := recCheck_ok R (by omega)
  unfold pairG at h1
  unfold stripT
  by_cases he : (recsErr 0 none R).2 = 0
  case neg =>
    rw [if_neg he]
    generalize recsErr 0 none R = w at *
    obtain ⟨w1, w2⟩ := w
    refine ICalls.of_body Try.func26 rfl Try.call26 rfl (Nat.le_of_ble_eq_true rfl) pl_T12_1 rfl ?_
    repeat' ((conv => whnf); first
      | refine Br.yes rfl ?_
      | refine Br.no rfl ?_
      | refine Br.yes (beq_self_eq_true _) ?_
      | refine Br.not ?_
      | refine Br.yes (decide_eq_true (by assumption)) ?_
      | refine Br.no (decide_eq_false (by assumption)) ?_
      | refine Br.yes (beq_iff_eq.2 (by assumption)) ?_
      | refine Br.no (beq_eq_false_iff_ne.2 (by assumption)) ?_
      | refine Br.yes (bne_iff_ne.2 (by assumption)) ?_
      | (refine Br.dec (fun h => ?_) (fun h => ?_) <;> try dsimp only at h)
      | (refine Br.beqI (fun h => ?_) (fun h => ?_) <;> try dsimp only at h)
      | (refine Br.bneI (fun h => ?_) (fun h => ?_) <;> try dsimp only at h)
      | refine Br.mk (fun h => ?_) (fun h => ?_)
      | refine Need.mk (app_need (by first | (simp only [List.length_append, List.length_map, List.length_nil, List.length_cons, List.nil_append, Nat.zero_add, Nat.add_zero]; done) | (simp only [List.length_append, List.length_map, List.length_nil, List.length_cons, List.nil_append, Nat.zero_add, Nat.add_zero]; omega) | omega) (Nat.le_of_ble_eq_true rfl) (by first | (simp only [List.length_append, List.length_map, List.length_nil, List.length_cons, List.nil_append, Nat.zero_add, Nat.add_zero]; done) | (simp only [List.length_append, List.length_map, List.length_nil, List.length_cons, List.nil_append, Nat.zero_add, Nat.add_zero]; omega) | omega)) ?_
      | refine Need.mk (app_need0 (Nat.le_of_ble_eq_true rfl) (by first | (simp only [List.length_append, List.length_map, List.length_nil, List.length_cons, List.nil_append, Nat.zero_add, Nat.add_zero]; done) | (simp only [List.length_append, List.length_map, List.length_nil, List.length_cons, List.nil_append, Nat.zero_add, Nat.add_zero]; omega) | omega)) ?_
      | refine Need.mk (app_needM rfl (Nat.le_of_ble_eq_true rfl) (by first | (simp only [List.length_append, List.length_map, List.length_nil, List.length_cons, List.nil_append, Nat.zero_add, Nat.add_zero]; done) | (simp only [List.length_append, List.length_map, List.length_nil, List.length_cons, List.nil_append, Nat.zero_add, Nat.add_zero]; omega) | omega)) ?_
      | refine Need.mk (zeros_need (by omega) (Nat.le_of_ble_eq_true rfl) (by omega)) ?_
      | refine Need.mk (by first | kernel_rfl | exact ⟨of_decide_eq_true rfl, of_decide_eq_true rfl⟩ | omega) ?_
      | refine Len.mk ⟨_, by simp only [List.length_cons, List.length_nil, Nat.reduceAdd, Int.cast_ofNat_Int]; rfl, ?_⟩
      | refine Wr.lit _ (by simp only [Int.reduceAdd, Int.reduceSub, Int.reduceMul]; rfl) (by decide) ?_
      | refine Wr.fit (by omega) ?_
      | refine Wr.fit (by dsimp only; omega) ?_
      | refine Elem.mk ⟨_, ⟨of_decide_eq_true rfl, rfl⟩, ?_⟩
      | refine Len.map ?_
      | refine Len.dropM ?_
      | refine Elem.dropM ?_
      | refine Len.takeM ?_
      | refine Elem.takeM ?_
      | refine Elem.mapK (by assumption) ?_
      | refine Elem.mapI (by omega) (by assumption) ?_
      | refine Elem.mapN (by omega) (fun x hx => ?_)
      | refine Elem.map (by omega) (by omega) (fun x hx => ?_)
      | refine (h1).use ⟨rfl, ?_⟩
      | refine CallX.mk ⟨_, _, (h1).x, rfl, ?_⟩
      | refine Done.mk ⟨rfl, rfl⟩
      | refine Done.mk ⟨congrArg gb ?_, rfl⟩
      | refine Done.mk ⟨?_, rfl⟩
      | refine Done.mk ⟨?_, ?_⟩)
    all_goals first | omega | rfl
  case pos =>
    rw [if_pos he, he]
    have hc := chain_first he
    have hq : ∀ (i : Nat) (q : Rec), R[i]? = some q → recErr q = 0 := fun i q hx => chain_all R _ hc q (List.mem_of_getElem? hx)
    generalize recsErr 0 none R = w at *
    obtain ⟨w1, w2⟩ := w
    simp only at he h1
    subst he
    clear hc
    generalize hW : strip R [] = W
    refine ICalls.of_body Try.func26 rfl Try.call26 rfl (Nat.le_of_ble_eq_true rfl) pl_T12_2 rfl ?_
    repeat' ((conv => whnf); first
      | refine Br.yes rfl ?_
      | refine Br.no rfl ?_
      | (refine Elem.mapK (by assumption) ?_)
      | (refine Elem.mapN (by omega) (fun q hx => ?_); have hqi := recErr_inv (hq i q hx))
      | (refine Elem.map (by omega) (by omega) (fun x hx2 => ?_); have hxb := hb.all x (List.mem_of_getElem? hx2))
      | (refine ILoop.ov 1000006 (fun ((i, out, g, n, v) : Nat × List Int × List GV × Nat × Nat) => [(21, gi i), (6, .ms 1 106 v n)]) (fun ((i, out, g, n, v) : Nat × List Int × List GV × Nat × Nat) => [(106, .mvec 3 1 g v)]) (fun ((i, out, g, n, v) : Nat × List Int × List GV × Nat × Nat) => i ≤ R.length ∧ (g = ints out ∧ n = out.length) ∧ SB 40320 out i ∧ strip (R.drop i) out = W) (fun ((i, out, g, n, v) : Nat × List Int × List GV × Nat × Nat) => R.length - i) ((0, [], [], 0, 0)) (by exact rfl) ?_; (conv => whnf); refine Start.mk rfl ?_ ?_; (try dsimp only); rotate_left; rintro ⟨i, out, g, n, v⟩ ⟨hi, ⟨rfl, rfl⟩, hb, hw⟩; (have hbl := hb.len))
      | (refine Again.mk ⟨((i + 1, recN out q, _, _, _)), rfl, ?_, ?_⟩ <;> try dsimp only)
      | refine Br.yes (beq_self_eq_true _) ?_
      | refine Br.not ?_
      | refine Br.yes (decide_eq_true (by assumption)) ?_
      | refine Br.no (decide_eq_false (by assumption)) ?_
      | refine Br.yes (beq_iff_eq.2 (by assumption)) ?_
      | refine Br.no (beq_eq_false_iff_ne.2 (by assumption)) ?_
      | refine Br.yes (bne_iff_ne.2 (by assumption)) ?_
      | (refine Br.dec (fun h => ?_) (fun h => ?_) <;> try dsimp only at h)
      | (refine Br.beqI (fun h => ?_) (fun h => ?_) <;> try dsimp only at h)
      | (refine Br.bneI (fun h => ?_) (fun h => ?_) <;> try dsimp only at h)
      | refine Br.mk (fun h => ?_) (fun h => ?_)
      | refine Need.mk (app_need (by first | (simp only [List.length_append, List.length_map, List.length_nil, List.length_cons, List.nil_append, Nat.zero_add, Nat.add_zero]; done) | (simp only [List.length_append, List.length_map, List.length_nil, List.length_cons, List.nil_append, Nat.zero_add, Nat.add_zero]; omega) | omega) (Nat.le_of_ble_eq_true rfl) (by first | (simp only [List.length_append, List.length_map, List.length_nil, List.length_cons, List.nil_append, Nat.zero_add, Nat.add_zero]; done) | (simp only [List.length_append, List.length_map, List.length_nil, List.length_cons, List.nil_append, Nat.zero_add, Nat.add_zero]; omega) | omega)) ?_
      | refine Need.mk (app_need0 (Nat.le_of_ble_eq_true rfl) (by first | (simp only [List.length_append, List.length_map, List.length_nil, List.length_cons, List.nil_append, Nat.zero_add, Nat.add_zero]; done) | (simp only [List.length_append, List.length_map, List.length_nil, List.length_cons, List.nil_append, Nat.zero_add, Nat.add_zero]; omega) | omega)) ?_
      | refine Need.mk (app_needM rfl (Nat.le_of_ble_eq_true rfl) (by first | (simp only [List.length_append, List.length_map, List.length_nil, List.length_cons, List.nil_append, Nat.zero_add, Nat.add_zero]; done) | (simp only [List.length_append, List.length_map, List.length_nil, List.length_cons, List.nil_append, Nat.zero_add, Nat.add_zero]; omega) | omega)) ?_
      | refine Need.mk (zeros_need (by omega) (Nat.le_of_ble_eq_true rfl) (by omega)) ?_
      | refine Need.mk (by first | kernel_rfl | exact ⟨of_decide_eq_true rfl, of_decide_eq_true rfl⟩ | omega) ?_
      | refine Len.mk ⟨_, by simp only [List.length_cons, List.length_nil, Nat.reduceAdd, Int.cast_ofNat_Int]; rfl, ?_⟩
      | refine Wr.lit _ (by simp only [Int.reduceAdd, Int.reduceSub, Int.reduceMul]; rfl) (by decide) ?_
      | refine Wr.fit (by omega) ?_
      | refine Wr.fit (by dsimp only; omega) ?_
      | refine Elem.mk ⟨_, ⟨of_decide_eq_true rfl, rfl⟩, ?_⟩
      | refine Len.map ?_
      | refine Len.dropM ?_
      | refine Elem.dropM ?_
      | refine Len.takeM ?_
      | refine Elem.takeM ?_
      | refine Elem.mapK (by assumption) ?_
      | refine Elem.mapI (by omega) (by assumption) ?_
      | refine Elem.mapN (by omega) (fun x hx => ?_)
      | refine Elem.map (by omega) (by omega) (fun x hx => ?_)
      | refine (h1).use ⟨rfl, ?_⟩
      | refine CallX.mk ⟨_, _, (h1).x, rfl, ?_⟩
      | refine Done.mk ⟨rfl, rfl⟩
      | refine Done.mk ⟨congrArg gb ?_, rfl⟩
      | refine Done.mk ⟨?_, rfl⟩
      | refine Done.mk ⟨?_, ?_⟩)
    all_goals first
      | omega
      | exact ⟨by omega, ⟨rfl, rfl⟩, SB.start, hW⟩
      | (rw [← st_end (by assumption) hw]; rfl)
      | (have hw2 := st_next hx hw
         first
         | (rw [show recN out q = out from if_pos (by omega)] at *
            exact ⟨by omega, ⟨rfl, rfl⟩, hb.more (by decide), hw2⟩)
         | (rw [show recN out q = addN out (0 - (q.To - q.From)) by unfold recN; rw [if_neg (by omega), if_pos (by assumption)]] at *
            first
            | (have := add_first hb (by decide) (n := 0 - (q.To - q.From)) (by omega) (by assumption); exact ⟨by omega, this.1, this.2, hw2⟩)
            | (have := add_other hb (by decide) (n := 0 - (q.To - q.From)) (by omega) hx2 (by assumption); exact ⟨by omega, this.1, this.2, hw2⟩)
            | (rename_i x1 e1 b1 x2 e2 b2; obtain rfl := Option.some.inj (e1.symm.trans hx2); obtain rfl := Option.some.inj (e2.symm.trans hx2); have := add_same hb (by decide) (n := 0 - (q.To - q.From)) (by omega) hx2 (by assumption); exact ⟨by omega, this.1, this.2, hw2⟩))
         | (rw [show recN out q = addN out (q.To - q.From) by unfold recN; rw [if_neg (by omega), if_neg (by assumption)]] at *
            first
            | (have := add_first hb (by decide) (n := q.To - q.From) (by omega) (by assumption); exact ⟨by omega, this.1, this.2, hw2⟩)
            | (have := add_other hb (by decide) (n := q.To - q.From) (by omega) hx2 (by assumption); exact ⟨by omega, this.1, this.2, hw2⟩)
            | (rename_i x1 e1 b1 x2 e2 b2; obtain rfl := Option.some.inj (e1.symm.trans hx2); obtain rfl := Option.some.inj (e2.symm.trans hx2); have := add_same hb (by decide) (n := q.To - q.From) (by omega) hx2 (by assumption); exact ⟨by omega, this.1, this.2, hw2⟩)))

end Go.Hl
