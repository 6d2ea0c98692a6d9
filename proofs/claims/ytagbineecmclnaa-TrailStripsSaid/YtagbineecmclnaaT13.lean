/- Contracts of functions, bundle T13; proved for whatever the arguments' types allow, as each theorem says. -/
import Derived.Test.YtagbineecmclnaaT11
import Derived.Test.YtagbineecmclnaaT8

/- Chapter 20: the reference's driving and work; numbers that are the same.  -/
set_option linter.unusedVariables false
set_option linter.unusedSimpArgs false
namespace Go.Hl
open Go.Gh Go.Proofs

theorem minN_3 {out : List Int} {q : Int} (h : q = 3) : minN out q = addN out 1 := by subst h; simp [minN, dOf]
theorem minN_2 {out : List Int} {q : Int} (h : q = 2) : minN out q = addN out (-1) := by subst h; simp [minN, dOf]
theorem minN_0 {out : List Int} {q : Int} (h : ¬ q = 3) (h2 : ¬ q = 2) : minN out q = out := by simp [minN, dOf, h, h2]
theorem sm_next {R : List Int} {i : Nat} {q : Int} {out W : List Int} (hx : R[i]? = some q) (h : stripM (R.drop i) out = W) : stripM (R.drop (i + 1)) (minN out q) = W := by
  rw [drop_of_get hx] at h; exact h
theorem sm_end {R : List Int} {i : Nat} {out W : List Int} (hi : ¬ (i : Int) < R.length) (h : stripM (R.drop i) out = W) : out = W := by
  rw [List.drop_eq_nil_of_le (by omega)] at h; exact h

def pl_T13_1 : Nat → Option (List Nat × List Nat) := (fun k => bif Nat.beq k 4 then some ([1000004, 3, 4, 5, 5000004, 6000002], [104, 157]) else bif Nat.beq k 5000004 then some ([], []) else bif Nat.beq k 6000002 then some ([], []) else none)
set_option maxRecDepth 100000 in
set_option maxHeartbeats 4000000 in
theorem refStrip_ok (R : List Rec) (hl : (R.length : Int) ≤ 1000) (he : (recsErr 0 none R).2 = 0) : ICalls Try.prog 30 [.list 3 (recs R) none] [] (Done (.list 1 (ints (stripT R)) none) []) := by
  have hc := chain_first he
  have hbeg : beginOf R ≤ 40320 ∧ 0 ≤ beginOf R := by
    cases R with
    | nil => exact ⟨by decide, Int.le_refl _⟩
    | cons r t => have := recErr_inv hc.2.1; exact ⟨by show r.From ≤ 40320; omega, by show 0 ≤ r.From; omega⟩
  have hlen := chain_len R (beginOf R) hc hbeg.1
  have hall := chain_all R _ hc
  have h2 := refKinds_ok R (by omega) (fun r hr => by have := recErr_inv (hall r hr); omega) (by omega)
  unfold stripT
  rw [if_pos he, strip_min R _ [] hc]
  generalize kindsOf R = ks at *
  generalize hW : stripM ks [] = W
  clear he hc hall
  refine ICalls.of_body Try.func30 rfl Try.call30 rfl (Nat.le_of_ble_eq_true rfl) pl_T13_1 rfl ?_
  repeat' ((conv => whnf); first
    | refine Br.yes rfl ?_
    | refine Br.no rfl ?_
    | (refine Elem.mapK (by assumption) ?_)
    | (refine Elem.mapN (by omega) (fun q hx => ?_))
    | (refine Elem.map (by omega) (by omega) (fun x hx2 => ?_); have hxb := hb.all x (List.mem_of_getElem? hx2))
    | (refine ILoop.ov 1000004 (fun ((i, out, g, n, v) : Nat × List Int × List GV × Nat × Nat) => [(5, gi i), (4, .ms 1 104 v n)]) (fun ((i, out, g, n, v) : Nat × List Int × List GV × Nat × Nat) => [(104, .mvec 3 1 g v)]) (fun ((i, out, g, n, v) : Nat × List Int × List GV × Nat × Nat) => i ≤ ks.length ∧ (g = ints out ∧ n = out.length) ∧ SB 1 out i ∧ stripM (ks.drop i) out = W) (fun ((i, out, g, n, v) : Nat × List Int × List GV × Nat × Nat) => ks.length - i) ((0, [], [], 0, 0)) (by exact rfl) ?_; (conv => whnf); refine Start.mk rfl ?_ ?_; (try dsimp only); rotate_left; rintro ⟨i, out, g, n, v⟩ ⟨hi, ⟨rfl, rfl⟩, hb, hw⟩; (have hbl := hb.len))
    | (refine Again.mk ⟨((i + 1, minN out q, _, _, _)), rfl, ?_, ?_⟩ <;> try dsimp only)
    | refine Br.yes (beq_self_eq_true _) ?_
    | refine Br.not ?_
    | refine Br.yes (decide_eq_true (by assumption)) ?_
    | refine Br.no (decide_eq_false (by assumption)) ?_
    | refine Br.yes (beq_iff_eq.2 (by assumption)) ?_
    | refine Br.no (beq_eq_false_iff_ne.2 (by assumption)) ?_
    | refine Br.yes (bne_iff_ne.2 (by assumption)) ?_
    | (refine Br.dec (fun h => ?_) (fun h => ?_) <;> try dsimp only at h)
    | (refine Br.beqI (fun h => ?_) (fun h => ?_) <;> try dsimp only at h)
    | (refine Br.bneI (fun h => ?_) (fun h => ?_) <;> try dsimp only at h)
    | refine Br.mk (fun h => ?_) (fun h => ?_)
    | refine Need.mk (app_need (by first | (simp only [List.length_append, List.length_map, List.length_nil, List.length_cons, List.nil_append, Nat.zero_add, Nat.add_zero]; done) | (simp only [List.length_append, List.length_map, List.length_nil, List.length_cons, List.nil_append, Nat.zero_add, Nat.add_zero]; omega) | omega) (Nat.le_of_ble_eq_true rfl) (by first | (simp only [List.length_append, List.length_map, List.length_nil, List.length_cons, List.nil_append, Nat.zero_add, Nat.add_zero]; done) | (simp only [List.length_append, List.length_map, List.length_nil, List.length_cons, List.nil_append, Nat.zero_add, Nat.add_zero]; omega) | omega)) ?_
    | refine Need.mk (app_need0 (Nat.le_of_ble_eq_true rfl) (by first | (simp only [List.length_append, List.length_map, List.length_nil, List.length_cons, List.nil_append, Nat.zero_add, Nat.add_zero]; done) | (simp only [List.length_append, List.length_map, List.length_nil, List.length_cons, List.nil_append, Nat.zero_add, Nat.add_zero]; omega) | omega)) ?_
    | refine Need.mk (app_needM rfl (Nat.le_of_ble_eq_true rfl) (by first | (simp only [List.length_append, List.length_map, List.length_nil, List.length_cons, List.nil_append, Nat.zero_add, Nat.add_zero]; done) | (simp only [List.length_append, List.length_map, List.length_nil, List.length_cons, List.nil_append, Nat.zero_add, Nat.add_zero]; omega) | omega)) ?_
    | refine Need.mk (zeros_need (by omega) (Nat.le_of_ble_eq_true rfl) (by omega)) ?_
    | refine Need.mk (by first | kernel_rfl | exact ⟨of_decide_eq_true rfl, of_decide_eq_true rfl⟩ | omega) ?_
    | refine Len.mk ⟨_, by simp only [List.length_cons, List.length_nil, Nat.reduceAdd, Int.cast_ofNat_Int]; rfl, ?_⟩
    | refine Wr.lit _ (by simp only [Int.reduceAdd, Int.reduceSub, Int.reduceMul]; rfl) (by decide) ?_
    | refine Wr.fit (by omega) ?_
    | refine Wr.fit (by dsimp only; omega) ?_
    | refine Elem.mk ⟨_, ⟨of_decide_eq_true rfl, rfl⟩, ?_⟩
    | refine Len.map ?_
    | refine Len.dropM ?_
    | refine Elem.dropM ?_
    | refine Len.takeM ?_
    | refine Elem.takeM ?_
    | refine Elem.mapK (by assumption) ?_
    | refine Elem.mapI (by omega) (by assumption) ?_
    | refine Elem.mapN (by omega) (fun x hx => ?_)
    | refine Elem.map (by omega) (by omega) (fun x hx => ?_)
    | refine (h2).use ⟨rfl, ?_⟩
    | refine CallX.mk ⟨_, _, (h2).x, rfl, ?_⟩
    | refine Done.mk ⟨rfl, rfl⟩
    | refine Done.mk ⟨congrArg gb ?_, rfl⟩
    | refine Done.mk ⟨?_, rfl⟩
    | refine Done.mk ⟨?_, ?_⟩)
  all_goals first
    | omega
    | exact ⟨by omega, ⟨rfl, rfl⟩, SB.start, hW⟩
    | (rw [← sm_end (by assumption) hw]; rfl)
    | (have hw2 := sm_next hx hw
       first
       | (rw [show minN out q = out from minN_0 (by omega) (by omega)] at *
          exact ⟨by omega, ⟨rfl, rfl⟩, hb.more (by decide), hw2⟩)
       | (rw [show minN out q = addN out (1) from minN_3 (by omega)] at *
          first
          | (have := add_first hb (by decide) (n := 1) (by omega) (by omega); exact ⟨by omega, this.1, this.2, hw2⟩)
          | (have := add_other hb (by decide) (n := 1) (by omega) hx2 (by assumption); exact ⟨by omega, this.1, this.2, hw2⟩)
          | (rename_i x1 e1 b1 x2 e2 b2; obtain rfl := Option.some.inj (e1.symm.trans hx2); obtain rfl := Option.some.inj (e2.symm.trans hx2); have := add_same hb (by decide) (n := 1) (by omega) hx2 (by assumption); exact ⟨by omega, this.1, this.2, hw2⟩))
       | (rw [show minN out q = addN out (-1) from minN_2 (by omega)] at *
          first
          | (have := add_first hb (by decide) (n := -1) (by omega) (by omega); exact ⟨by omega, this.1, this.2, hw2⟩)
          | (have := add_other hb (by decide) (n := -1) (by omega) hx2 (by assumption); exact ⟨by omega, this.1, this.2, hw2⟩)
          | (rename_i x1 e1 b1 x2 e2 b2; obtain rfl := Option.some.inj (e1.symm.trans hx2); obtain rfl := Option.some.inj (e2.symm.trans hx2); have := add_same hb (by decide) (n := -1) (by omega) hx2 (by assumption); exact ⟨by omega, this.1, this.2, hw2⟩)))


end Go.Hl

/- Chapter 20: TrailVisits.  -/
set_option linter.unusedVariables false
set_option linter.unusedSimpArgs false
namespace Go.Hl
open Go.Gh Go.Proofs

theorem addN_len (out : List Int) (n : Int) : (addN out n).length ≤ out.length + 1 := by
  rcases List.eq_nil_or_concat out with rfl | ⟨o, x, rfl⟩
  · simp [addN]
  · rw [List.concat_eq_append, addN_snoc]
    split <;> simp
theorem recN_len (out : List Int) (r : Rec) : (recN out r).length ≤ out.length + 1 := by
  unfold recN
  split
  · omega
  · exact addN_len _ _
theorem strip_len : ∀ (R : List Rec) (out : List Int), (strip R out).length ≤ out.length + R.length
  | [], out => by show out.length ≤ _; omega
  | r :: R, out => by
    have h1 := strip_len R (recN out r)
    have h2 := recN_len out r
    show (strip R (recN out r)).length ≤ _
    rw [List.length_cons]; omega
theorem stripT_len (R : List Rec) : (stripT R).length ≤ R.length := by
  unfold stripT
  split
  · have := strip_len R []; simpa using this
  · simp
theorem vm_len (l : List Task) (s : Spot) (m : Int) (p : List Vis × Int) : (vm l s m p).1.length ≤ p.1.length + 1 := by
  unfold vm putV
  repeat' split
  all_goals simp
theorem rvN_len {l : List Task} : ∀ (ks : List Int) (s : Spot) (m : Int) (p : List Vis × Int), (rvN l ks s m p).1.length ≤ p.1.length + ks.length
  | [], _, _, p => by show p.1.length ≤ _; omega
  | k :: t, s, m, p => by
    have h1 := rvN_len (l := l) t (minuteS l s m k).1 (m + 1) (if k = 2 then vm l s m p else p)
    have h2 := vm_len l s m p
    rw [rvN, List.length_cons]
    split at h1 <;> rename_i hk
    · rw [if_pos hk]; omega
    · rw [if_neg hk]; omega
theorem visT_eq {l : List Task} {s : Spot} {R : List Rec} (h : chk20 l s R = 0) : visT l s R = (rvN l (kindsOf R) s (beginOf R) ([], -1)).1 := by
  unfold visT
  rw [if_pos h]
  obtain ⟨hs, hr⟩ := chk_0 h
  have := vis_rv (l := l) R s ⟨[], 0, -1⟩ (beginOf R) (chain_first hr) hs
  exact congrArg Prod.fst this
theorem visT_len {l : List Task} {s : Spot} {R : List Rec} : ((visT l s R).length : Int) ≤ 40320 := by
  by_cases h : chk20 l s R = 0
  · rw [visT_eq h]
    obtain ⟨hs, hr⟩ := chk_0 h
    have hc := chain_first hr
    have hbeg : beginOf R ≤ 40320 ∧ 0 ≤ beginOf R := by
      cases R with
      | nil => exact ⟨by decide, Int.le_refl _⟩
      | cons r t => have := recErr_inv hc.2.1; exact ⟨by show r.From ≤ 40320; omega, by show 0 ≤ r.From; omega⟩
    have h1 := chain_len R (beginOf R) hc hbeg.1
    have h2 := rvN_len (l := l) (kindsOf R) s (beginOf R) ([], -1)
    simp only [List.length_nil] at h2
    omega
  · unfold visT; rw [if_neg h]; decide

def pl_T14_1 : Nat → Option (List Nat × List Nat) := (fun k => bif Nat.beq k 4 then some ([1000004, 0, 1, 5], []) else none)
set_option maxRecDepth 100000 in
set_option maxHeartbeats 1000000 in
theorem sameInt_self (a : List Int) (ha : (a.length : Int) ≤ 1000000000) : ICalls Try.prog 29 [.list 1 (ints a) none, .list 1 (ints a) none] [] (Done (gb true) []) := by
  refine ICalls.of_body Try.func29 rfl Try.call29 rfl (Nat.le_of_ble_eq_true rfl) pl_T14_1 rfl ?_
  repeat' ((conv => whnf); first
    | refine Br.yes rfl ?_
    | refine Br.no rfl ?_
    | (refine Elem.mapK (by assumption) ?_)
    | (refine Elem.mapN (by omega) (fun q hx => ?_))
    | (refine ILoop.ov 1000004 (fun (i : Nat) => [(5, gi i)]) (fun (i : Nat) => []) (fun (i : Nat) => i ≤ a.length) (fun (i : Nat) => a.length - i) (0) (by exact rfl) ?_; (conv => whnf); refine Start.mk rfl ?_ ?_; (try dsimp only); rotate_left; rintro i hi)
    | (refine Again.mk ⟨(i + 1), rfl, ?_, ?_⟩ <;> try dsimp only)
    | refine Br.yes (beq_self_eq_true _) ?_
    | refine Br.not ?_
    | refine Br.yes (decide_eq_true (by assumption)) ?_
    | refine Br.no (decide_eq_false (by assumption)) ?_
    | refine Br.yes (beq_iff_eq.2 (by assumption)) ?_
    | refine Br.no (beq_eq_false_iff_ne.2 (by assumption)) ?_
    | refine Br.yes (bne_iff_ne.2 (by assumption)) ?_
    | (refine Br.dec (fun h => ?_) (fun h => ?_) <;> try dsimp only at h)
    | (refine Br.beqI (fun h => ?_) (fun h => ?_) <;> try dsimp only at h)
    | (refine Br.bneI (fun h => ?_) (fun h => ?_) <;> try dsimp only at h)
    | refine Br.mk (fun h => ?_) (fun h => ?_)
    | refine Need.mk (app_need (by first | (simp only [List.length_append, List.length_map, List.length_nil, List.length_cons, List.nil_append, Nat.zero_add, Nat.add_zero]; done) | (simp only [List.length_append, List.length_map, List.length_nil, List.length_cons, List.nil_append, Nat.zero_add, Nat.add_zero]; omega) | omega) (Nat.le_of_ble_eq_true rfl) (by first | (simp only [List.length_append, List.length_map, List.length_nil, List.length_cons, List.nil_append, Nat.zero_add, Nat.add_zero]; done) | (simp only [List.length_append, List.length_map, List.length_nil, List.length_cons, List.nil_append, Nat.zero_add, Nat.add_zero]; omega) | omega)) ?_
    | refine Need.mk (app_need0 (Nat.le_of_ble_eq_true rfl) (by first | (simp only [List.length_append, List.length_map, List.length_nil, List.length_cons, List.nil_append, Nat.zero_add, Nat.add_zero]; done) | (simp only [List.length_append, List.length_map, List.length_nil, List.length_cons, List.nil_append, Nat.zero_add, Nat.add_zero]; omega) | omega)) ?_
    | refine Need.mk (by first | kernel_rfl | exact ⟨of_decide_eq_true rfl, of_decide_eq_true rfl⟩ | omega) ?_
    | refine Len.mk ⟨_, by simp only [List.length_cons, List.length_nil, Nat.reduceAdd, Int.cast_ofNat_Int]; rfl, ?_⟩
    | refine Wr.lit _ (by simp only [Int.reduceAdd, Int.reduceSub, Int.reduceMul]; rfl) (by decide) ?_
    | refine Wr.fit (by omega) ?_
    | refine Wr.fit (by dsimp only; omega) ?_
    | refine Elem.mk ⟨_, ⟨of_decide_eq_true rfl, rfl⟩, ?_⟩
    | refine Len.map ?_
    | refine Len.dropM ?_
    | refine Elem.dropM ?_
    | refine Len.takeM ?_
    | refine Elem.takeM ?_
    | refine Elem.mapK (by assumption) ?_
    | refine Elem.mapI (by omega) (by assumption) ?_
    | refine Elem.mapN (by omega) (fun x hx => ?_)
    | refine Elem.map (by omega) (by omega) (fun x hx => ?_)
    | refine Done.mk ⟨rfl, rfl⟩
    | refine Done.mk ⟨congrArg gb ?_, rfl⟩
    | refine Done.mk ⟨?_, rfl⟩
    | refine Done.mk ⟨?_, ?_⟩)
  all_goals first
    | omega
    | rfl
    | (simp at *; done)

def pl_T14_2 : Nat → Option (List Nat × List Nat) := (fun k => bif Nat.beq k 17 then some ([1000017, 7, 14, 90, 91], []) else none)
def pl_T14_3 : Nat → Option (List Nat × List Nat) := (fun k => bif Nat.beq k 17 then some ([1000017, 7, 14, 90, 91], []) else none)
def pl_T14_4 : Nat → Option (List Nat × List Nat) := (fun k => bif Nat.beq k 17 then some ([1000017, 7, 14, 90, 91], []) else none)
def pl_T14_5 : Nat → Option (List Nat × List Nat) := (fun k => bif Nat.beq k 17 then some ([1000017, 7, 14, 90, 91], []) else none)
set_option maxRecDepth 100000 in
set_option maxHeartbeats 4000000 in
theorem trailVisits_ok (l : List Task) (s : Spot) (R : List Rec) : ICalls Try.prog 6 [.list 3 (tasks l) none, s.g, .list 3 (recs R) none] [] (Done (gb true) []) := by
  by_cases hb : light20 l R = true
  case neg =>
    refine ICalls.of_body Try.func6 rfl Try.call6 rfl (Nat.le_of_ble_eq_true rfl) pl_T14_2 rfl ?_
    repeat' ((conv => whnf); first
      | refine Br.yes rfl ?_
      | refine Br.no rfl ?_
      | refine Br.yes (beq_self_eq_true _) ?_
      | refine Br.not ?_
      | refine Br.yes (decide_eq_true (by assumption)) ?_
      | refine Br.no (decide_eq_false (by assumption)) ?_
      | refine Br.yes (beq_iff_eq.2 (by assumption)) ?_
      | refine Br.no (beq_eq_false_iff_ne.2 (by assumption)) ?_
      | refine Br.yes (bne_iff_ne.2 (by assumption)) ?_
      | (refine Br.dec (fun h => ?_) (fun h => ?_) <;> try dsimp only at h)
      | (refine Br.beqI (fun h => ?_) (fun h => ?_) <;> try dsimp only at h)
      | (refine Br.bneI (fun h => ?_) (fun h => ?_) <;> try dsimp only at h)
      | refine Br.mk (fun h => ?_) (fun h => ?_)
      | refine Need.mk (app_need (by first | (simp only [List.length_append, List.length_map, List.length_nil, List.length_cons, List.nil_append, Nat.zero_add, Nat.add_zero]; done) | (simp only [List.length_append, List.length_map, List.length_nil, List.length_cons, List.nil_append, Nat.zero_add, Nat.add_zero]; omega) | omega) (Nat.le_of_ble_eq_true rfl) (by first | (simp only [List.length_append, List.length_map, List.length_nil, List.length_cons, List.nil_append, Nat.zero_add, Nat.add_zero]; done) | (simp only [List.length_append, List.length_map, List.length_nil, List.length_cons, List.nil_append, Nat.zero_add, Nat.add_zero]; omega) | omega)) ?_
      | refine Need.mk (app_need0 (Nat.le_of_ble_eq_true rfl) (by first | (simp only [List.length_append, List.length_map, List.length_nil, List.length_cons, List.nil_append, Nat.zero_add, Nat.add_zero]; done) | (simp only [List.length_append, List.length_map, List.length_nil, List.length_cons, List.nil_append, Nat.zero_add, Nat.add_zero]; omega) | omega)) ?_
      | refine Need.mk (by first | kernel_rfl | exact ⟨of_decide_eq_true rfl, of_decide_eq_true rfl⟩ | omega) ?_
      | refine Len.mk ⟨_, by simp only [List.length_cons, List.length_nil, Nat.reduceAdd, Int.cast_ofNat_Int]; rfl, ?_⟩
      | refine Wr.lit _ (by simp only [Int.reduceAdd, Int.reduceSub, Int.reduceMul]; rfl) (by decide) ?_
      | refine Wr.fit (by omega) ?_
      | refine Wr.fit (by dsimp only; omega) ?_
      | refine Elem.mk ⟨_, ⟨of_decide_eq_true rfl, rfl⟩, ?_⟩
      | refine Len.map ?_
      | refine Len.dropM ?_
      | refine Elem.dropM ?_
      | refine Len.takeM ?_
      | refine Elem.takeM ?_
      | refine Elem.mapK (by assumption) ?_
      | refine Elem.mapI (by omega) (by assumption) ?_
      | refine Elem.mapN (by omega) (fun x hx => ?_)
      | refine Elem.map (by omega) (by omega) (fun x hx => ?_)
      | refine ((light20_ok l R).to (congrArg gb (Bool.eq_false_iff.2 hb))).use ⟨rfl, ?_⟩
      | refine (alive20_ok).use ⟨rfl, ?_⟩
      | refine CallX.mk ⟨_, _, ((light20_ok l R).to (congrArg gb (Bool.eq_false_iff.2 hb))).x, rfl, ?_⟩
      | refine CallX.mk ⟨_, _, (alive20_ok).x, rfl, ?_⟩
      | refine Done.mk ⟨rfl, rfl⟩
      | refine Done.mk ⟨congrArg gb ?_, rfl⟩
      | refine Done.mk ⟨?_, rfl⟩
      | refine Done.mk ⟨?_, ?_⟩)
  case pos =>
    have hlen := light20_len hb
    have h0 := (light20_ok l R).to (congrArg gb hb)
    have h1 := visits_ok l s R (by omega)
    have h2 := strip_ok R (by omega)
    have h3 := refRecs_ok R (by omega)
    unfold pairG at h3
    have h4 := refTrailCheck_ok l s R (by omega)
    by_cases he : chk20 l s R = 0
    case neg =>
      have hv : visT l s R = [] := if_neg he
      rw [hv] at h1
      by_cases hr : (recsErr 0 none R).2 = 0
      case neg =>
        have hs : stripT R = [] := if_neg hr
        rw [hs] at h2
        generalize chk20 l s R = e at *
        generalize recsErr 0 none R = w at *
        obtain ⟨w1, w2⟩ := w
        clear hb hv hs
        refine ICalls.of_body Try.func6 rfl Try.call6 rfl (Nat.le_of_ble_eq_true rfl) pl_T14_3 rfl ?_
        repeat' ((conv => whnf); first
          | refine Br.yes rfl ?_
          | refine Br.no rfl ?_
          | refine Br.yes (beq_self_eq_true _) ?_
          | refine Br.not ?_
          | refine Br.yes (decide_eq_true (by assumption)) ?_
          | refine Br.no (decide_eq_false (by assumption)) ?_
          | refine Br.yes (beq_iff_eq.2 (by assumption)) ?_
          | refine Br.no (beq_eq_false_iff_ne.2 (by assumption)) ?_
          | refine Br.yes (bne_iff_ne.2 (by assumption)) ?_
          | (refine Br.dec (fun h => ?_) (fun h => ?_) <;> try dsimp only at h)
          | (refine Br.beqI (fun h => ?_) (fun h => ?_) <;> try dsimp only at h)
          | (refine Br.bneI (fun h => ?_) (fun h => ?_) <;> try dsimp only at h)
          | refine Br.mk (fun h => ?_) (fun h => ?_)
          | refine Need.mk (app_need (by first | (simp only [List.length_append, List.length_map, List.length_nil, List.length_cons, List.nil_append, Nat.zero_add, Nat.add_zero]; done) | (simp only [List.length_append, List.length_map, List.length_nil, List.length_cons, List.nil_append, Nat.zero_add, Nat.add_zero]; omega) | omega) (Nat.le_of_ble_eq_true rfl) (by first | (simp only [List.length_append, List.length_map, List.length_nil, List.length_cons, List.nil_append, Nat.zero_add, Nat.add_zero]; done) | (simp only [List.length_append, List.length_map, List.length_nil, List.length_cons, List.nil_append, Nat.zero_add, Nat.add_zero]; omega) | omega)) ?_
          | refine Need.mk (app_need0 (Nat.le_of_ble_eq_true rfl) (by first | (simp only [List.length_append, List.length_map, List.length_nil, List.length_cons, List.nil_append, Nat.zero_add, Nat.add_zero]; done) | (simp only [List.length_append, List.length_map, List.length_nil, List.length_cons, List.nil_append, Nat.zero_add, Nat.add_zero]; omega) | omega)) ?_
          | refine Need.mk (by first | kernel_rfl | exact ⟨of_decide_eq_true rfl, of_decide_eq_true rfl⟩ | omega) ?_
          | refine Len.mk ⟨_, by simp only [List.length_cons, List.length_nil, Nat.reduceAdd, Int.cast_ofNat_Int]; rfl, ?_⟩
          | refine Wr.lit _ (by simp only [Int.reduceAdd, Int.reduceSub, Int.reduceMul]; rfl) (by decide) ?_
          | refine Wr.fit (by omega) ?_
          | refine Wr.fit (by dsimp only; omega) ?_
          | refine Elem.mk ⟨_, ⟨of_decide_eq_true rfl, rfl⟩, ?_⟩
          | refine Len.map ?_
          | refine Len.dropM ?_
          | refine Elem.dropM ?_
          | refine Len.takeM ?_
          | refine Elem.takeM ?_
          | refine Elem.mapK (by assumption) ?_
          | refine Elem.mapI (by omega) (by assumption) ?_
          | refine Elem.mapN (by omega) (fun x hx => ?_)
          | refine Elem.map (by omega) (by omega) (fun x hx => ?_)
          | refine (h0).use ⟨rfl, ?_⟩
          | refine (h1).use ⟨rfl, ?_⟩
          | refine (h2).use ⟨rfl, ?_⟩
          | refine (h3).use ⟨rfl, ?_⟩
          | refine (h4).use ⟨rfl, ?_⟩
          | refine (alive20_ok).use ⟨rfl, ?_⟩
          | refine CallX.mk ⟨_, _, (h0).x, rfl, ?_⟩
          | refine CallX.mk ⟨_, _, (h1).x, rfl, ?_⟩
          | refine CallX.mk ⟨_, _, (h2).x, rfl, ?_⟩
          | refine CallX.mk ⟨_, _, (h3).x, rfl, ?_⟩
          | refine CallX.mk ⟨_, _, (h4).x, rfl, ?_⟩
          | refine CallX.mk ⟨_, _, (alive20_ok).x, rfl, ?_⟩
          | refine Done.mk ⟨rfl, rfl⟩
          | refine Done.mk ⟨congrArg gb ?_, rfl⟩
          | refine Done.mk ⟨?_, rfl⟩
          | refine Done.mk ⟨?_, ?_⟩)
        all_goals first
          | omega
          | (simp at h; done)
          | (simp_all; done)
      case pos =>
        have h5 := refStrip_ok R (by omega) hr
        have h6 := sameInt_self (stripT R) (by have := stripT_len R; omega)
        generalize chk20 l s R = e at *
        generalize recsErr 0 none R = w at *
        generalize stripT R = Z at *
        obtain ⟨w1, w2⟩ := w
        simp only at hr h2 h3
        subst hr
        clear hb hv
        refine ICalls.of_body Try.func6 rfl Try.call6 rfl (Nat.le_of_ble_eq_true rfl) pl_T14_4 rfl ?_
        repeat' ((conv => whnf); first
          | refine Br.yes rfl ?_
          | refine Br.no rfl ?_
          | refine Br.yes (beq_self_eq_true _) ?_
          | refine Br.not ?_
          | refine Br.yes (decide_eq_true (by assumption)) ?_
          | refine Br.no (decide_eq_false (by assumption)) ?_
          | refine Br.yes (beq_iff_eq.2 (by assumption)) ?_
          | refine Br.no (beq_eq_false_iff_ne.2 (by assumption)) ?_
          | refine Br.yes (bne_iff_ne.2 (by assumption)) ?_
          | (refine Br.dec (fun h => ?_) (fun h => ?_) <;> try dsimp only at h)
          | (refine Br.beqI (fun h => ?_) (fun h => ?_) <;> try dsimp only at h)
          | (refine Br.bneI (fun h => ?_) (fun h => ?_) <;> try dsimp only at h)
          | refine Br.mk (fun h => ?_) (fun h => ?_)
          | refine Need.mk (app_need (by first | (simp only [List.length_append, List.length_map, List.length_nil, List.length_cons, List.nil_append, Nat.zero_add, Nat.add_zero]; done) | (simp only [List.length_append, List.length_map, List.length_nil, List.length_cons, List.nil_append, Nat.zero_add, Nat.add_zero]; omega) | omega) (Nat.le_of_ble_eq_true rfl) (by first | (simp only [List.length_append, List.length_map, List.length_nil, List.length_cons, List.nil_append, Nat.zero_add, Nat.add_zero]; done) | (simp only [List.length_append, List.length_map, List.length_nil, List.length_cons, List.nil_append, Nat.zero_add, Nat.add_zero]; omega) | omega)) ?_
          | refine Need.mk (app_need0 (Nat.le_of_ble_eq_true rfl) (by first | (simp only [List.length_append, List.length_map, List.length_nil, List.length_cons, List.nil_append, Nat.zero_add, Nat.add_zero]; done) | (simp only [List.length_append, List.length_map, List.length_nil, List.length_cons, List.nil_append, Nat.zero_add, Nat.add_zero]; omega) | omega)) ?_
          | refine Need.mk (by first | kernel_rfl | exact ⟨of_decide_eq_true rfl, of_decide_eq_true rfl⟩ | omega) ?_
          | refine Len.mk ⟨_, by simp only [List.length_cons, List.length_nil, Nat.reduceAdd, Int.cast_ofNat_Int]; rfl, ?_⟩
          | refine Wr.lit _ (by simp only [Int.reduceAdd, Int.reduceSub, Int.reduceMul]; rfl) (by decide) ?_
          | refine Wr.fit (by omega) ?_
          | refine Wr.fit (by dsimp only; omega) ?_
          | refine Elem.mk ⟨_, ⟨of_decide_eq_true rfl, rfl⟩, ?_⟩
          | refine Len.map ?_
          | refine Len.dropM ?_
          | refine Elem.dropM ?_
          | refine Len.takeM ?_
          | refine Elem.takeM ?_
          | refine Elem.mapK (by assumption) ?_
          | refine Elem.mapI (by omega) (by assumption) ?_
          | refine Elem.mapN (by omega) (fun x hx => ?_)
          | refine Elem.map (by omega) (by omega) (fun x hx => ?_)
          | refine (h0).use ⟨rfl, ?_⟩
          | refine (h1).use ⟨rfl, ?_⟩
          | refine (h2).use ⟨rfl, ?_⟩
          | refine (h3).use ⟨rfl, ?_⟩
          | refine (h4).use ⟨rfl, ?_⟩
          | refine (h5).use ⟨rfl, ?_⟩
          | refine (h6).use ⟨rfl, ?_⟩
          | refine (alive20_ok).use ⟨rfl, ?_⟩
          | refine CallX.mk ⟨_, _, (h0).x, rfl, ?_⟩
          | refine CallX.mk ⟨_, _, (h1).x, rfl, ?_⟩
          | refine CallX.mk ⟨_, _, (h2).x, rfl, ?_⟩
          | refine CallX.mk ⟨_, _, (h3).x, rfl, ?_⟩
          | refine CallX.mk ⟨_, _, (h4).x, rfl, ?_⟩
          | refine CallX.mk ⟨_, _, (h5).x, rfl, ?_⟩
          | refine CallX.mk ⟨_, _, (h6).x, rfl, ?_⟩
          | refine CallX.mk ⟨_, _, (alive20_ok).x, rfl, ?_⟩
          | refine Done.mk ⟨rfl, rfl⟩
          | refine Done.mk ⟨congrArg gb ?_, rfl⟩
          | refine Done.mk ⟨?_, rfl⟩
          | refine Done.mk ⟨?_, ?_⟩)
        all_goals first
          | omega
          | (simp at h; done)
          | (simp_all; done)
    case pos =>
      have hr := (chk_0 he).2
      have h5 := refStrip_ok R (by omega) hr
      have h6 := sameInt_self (stripT R) (by have := stripT_len R; omega)
      have h7 := refVisits_ok l s R (by omega) he
      have hvl := visT_len (l := l) (s := s) (R := R)
      rw [← visT_eq he] at h7
      rw [he] at h1 h4
      generalize visT l s R = V at *
      generalize recsErr 0 none R = w at *
      generalize stripT R = Z at *
      obtain ⟨w1, w2⟩ := w
      simp only at hr h2 h3
      subst hr
      clear hb he
      refine ICalls.of_body Try.func6 rfl Try.call6 rfl (Nat.le_of_ble_eq_true rfl) pl_T14_5 rfl ?_
      repeat' ((conv => whnf); first
        | refine Br.yes rfl ?_
        | refine Br.no rfl ?_
        | refine Need.mk (EqRun.flat (by kernel_rfl) rfl) ?_
        | (refine Elem.mapK (by assumption) ?_)
        | (refine Elem.mapN (by omega) (fun q hx => ?_))
        | (refine ILoop.ov 1000017 (fun (i : Nat) => [(91, gi i)]) (fun (i : Nat) => []) (fun (i : Nat) => i ≤ V.length) (fun (i : Nat) => V.length - i) (0) (by exact rfl) ?_; (conv => whnf); refine Start.mk rfl ?_ ?_; (try dsimp only); rotate_left; rintro i hi)
        | (refine Again.mk ⟨(i + 1), rfl, ?_, ?_⟩ <;> try dsimp only)
        | refine Br.yes (beq_self_eq_true _) ?_
        | refine Br.not ?_
        | refine Br.yes (decide_eq_true (by assumption)) ?_
        | refine Br.no (decide_eq_false (by assumption)) ?_
        | refine Br.yes (beq_iff_eq.2 (by assumption)) ?_
        | refine Br.no (beq_eq_false_iff_ne.2 (by assumption)) ?_
        | refine Br.yes (bne_iff_ne.2 (by assumption)) ?_
        | (refine Br.dec (fun h => ?_) (fun h => ?_) <;> try dsimp only at h)
        | (refine Br.beqI (fun h => ?_) (fun h => ?_) <;> try dsimp only at h)
        | (refine Br.bneI (fun h => ?_) (fun h => ?_) <;> try dsimp only at h)
        | refine Br.mk (fun h => ?_) (fun h => ?_)
        | refine Need.mk (app_need (by first | (simp only [List.length_append, List.length_map, List.length_nil, List.length_cons, List.nil_append, Nat.zero_add, Nat.add_zero]; done) | (simp only [List.length_append, List.length_map, List.length_nil, List.length_cons, List.nil_append, Nat.zero_add, Nat.add_zero]; omega) | omega) (Nat.le_of_ble_eq_true rfl) (by first | (simp only [List.length_append, List.length_map, List.length_nil, List.length_cons, List.nil_append, Nat.zero_add, Nat.add_zero]; done) | (simp only [List.length_append, List.length_map, List.length_nil, List.length_cons, List.nil_append, Nat.zero_add, Nat.add_zero]; omega) | omega)) ?_
        | refine Need.mk (app_need0 (Nat.le_of_ble_eq_true rfl) (by first | (simp only [List.length_append, List.length_map, List.length_nil, List.length_cons, List.nil_append, Nat.zero_add, Nat.add_zero]; done) | (simp only [List.length_append, List.length_map, List.length_nil, List.length_cons, List.nil_append, Nat.zero_add, Nat.add_zero]; omega) | omega)) ?_
        | refine Need.mk (by first | kernel_rfl | exact ⟨of_decide_eq_true rfl, of_decide_eq_true rfl⟩ | omega) ?_
        | refine Len.mk ⟨_, by simp only [List.length_cons, List.length_nil, Nat.reduceAdd, Int.cast_ofNat_Int]; rfl, ?_⟩
        | refine Wr.lit _ (by simp only [Int.reduceAdd, Int.reduceSub, Int.reduceMul]; rfl) (by decide) ?_
        | refine Wr.fit (by omega) ?_
        | refine Wr.fit (by dsimp only; omega) ?_
        | refine Elem.mk ⟨_, ⟨of_decide_eq_true rfl, rfl⟩, ?_⟩
        | refine Len.map ?_
        | refine Len.dropM ?_
        | refine Elem.dropM ?_
        | refine Len.takeM ?_
        | refine Elem.takeM ?_
        | refine Elem.mapK (by assumption) ?_
        | refine Elem.mapI (by omega) (by assumption) ?_
        | refine Elem.mapN (by omega) (fun x hx => ?_)
        | refine Elem.map (by omega) (by omega) (fun x hx => ?_)
        | refine (h0).use ⟨rfl, ?_⟩
        | refine (h1).use ⟨rfl, ?_⟩
        | refine (h2).use ⟨rfl, ?_⟩
        | refine (h3).use ⟨rfl, ?_⟩
        | refine (h4).use ⟨rfl, ?_⟩
        | refine (h5).use ⟨rfl, ?_⟩
        | refine (h6).use ⟨rfl, ?_⟩
        | refine (h7).use ⟨rfl, ?_⟩
        | refine (alive20_ok).use ⟨rfl, ?_⟩
        | refine CallX.mk ⟨_, _, (h0).x, rfl, ?_⟩
        | refine CallX.mk ⟨_, _, (h1).x, rfl, ?_⟩
        | refine CallX.mk ⟨_, _, (h2).x, rfl, ?_⟩
        | refine CallX.mk ⟨_, _, (h3).x, rfl, ?_⟩
        | refine CallX.mk ⟨_, _, (h4).x, rfl, ?_⟩
        | refine CallX.mk ⟨_, _, (h5).x, rfl, ?_⟩
        | refine CallX.mk ⟨_, _, (h6).x, rfl, ?_⟩
        | refine CallX.mk ⟨_, _, (h7).x, rfl, ?_⟩
        | refine CallX.mk ⟨_, _, (alive20_ok).x, rfl, ?_⟩
        | refine Done.mk ⟨rfl, rfl⟩
        | refine Done.mk ⟨congrArg gb ?_, rfl⟩
        | refine Done.mk ⟨?_, rfl⟩
        | refine Done.mk ⟨?_, ?_⟩)
      all_goals first
        | omega
        | (simp at h; done)
        | (simp_all; done)

theorem trailVisits_law (g0 : GV) (h0 : ArgOk (.list taskTy) g0) (g1 : GV) (h1 : ArgOk spotTy g1) (g2 : GV) (h2 : ArgOk (.list recTy) g2) :
    ICalls Try.prog 6 [g0, g1, g2] [] (Done (gb true) []) := by
  obtain ⟨l, rfl, _⟩ := list_of el_task h0
  obtain ⟨s, rfl, hs⟩ := spot_of h1
  obtain ⟨r, rfl, _⟩ := list_of el_rec h2
  exact trailVisits_ok l s r

end Go.Hl
