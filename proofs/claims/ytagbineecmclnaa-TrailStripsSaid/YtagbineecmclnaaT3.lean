/- Contracts of functions, bundle T3; proved for whatever the arguments' types allow, as each theorem says. -/
import Derived.Test.YtagbineecmclnaaT1
import Derived.Test.YtagbineecmclnaaF0

/- Chapter 20: a timeline audited minute by minute.  -/
set_option linter.unusedVariables false
set_option linter.unusedSimpArgs false
namespace Go.Hl
open Go.Gh Go.Proofs

/-- Minutes of any kinds, one by one: the spot behind them, and which of them breaks each clause first. -/
def ov20 (l : List Task) : List Int → Spot → Int → F4 → Spot × F4
  | [], s, _, f => (s, f)
  | k :: t, s, m, f => ov20 l t (minuteS l s m k).1 (m + 1) (f.upd (minuteS l s m k).2 m)
def fl1 (c a : Int) : List Fnd := if 0 ≤ a then [⟨c, a, a + 1⟩] else []
/-- The findings from a clause on. -/
def flN (f : F4) : Nat → List Fnd
  | 0 => fl1 10 f.a ++ (fl1 11 f.b ++ (fl1 12 f.c ++ fl1 13 f.d))
  | 1 => fl1 11 f.b ++ (fl1 12 f.c ++ fl1 13 f.d)
  | 2 => fl1 12 f.c ++ fl1 13 f.d
  | 3 => fl1 13 f.d
  | _ => []
def lastM (r : List Rec) : Int := if r = [] then 0 else endOf r - 1
def refT (l : List Task) (s : Spot) (r : List Rec) : Spot × List Fnd :=
  if chk20 l s r = 0 then
    ((ov20 l (kindsOf r) s (beginOf r) ⟨-1, -1, -1, -1⟩).1,
      flN (ov20 l (kindsOf r) s (beginOf r) ⟨-1, -1, -1, -1⟩).2 0 ++ (if (ov20 l (kindsOf r) s (beginOf r) ⟨-1, -1, -1, -1⟩).1.Task < l.length then [⟨14, lastM r, lastM r + 1⟩] else []))
  else (zeroSpot, [])

structure F4.In (f : F4) (B : Int) : Prop where
  a : -1 ≤ f.a ∧ f.a ≤ B
  b : -1 ≤ f.b ∧ f.b ≤ B
  c : -1 ≤ f.c ∧ f.c ≤ B
  d : -1 ≤ f.d ∧ f.d ≤ B
theorem sel_in {p b : Bool} {f m B : Int} (hf : -1 ≤ f ∧ f ≤ B) (hm : 0 ≤ m ∧ m ≤ B) : -1 ≤ sel p b f m ∧ sel p b f m ≤ B := by unfold sel; split <;> omega
theorem F4.In.upd {f : F4} {B m : Int} (h : f.In B) (b : B4) (hm : 0 ≤ m ∧ m ≤ B) : (f.upd b m).In B := ⟨sel_in h.a hm, sel_in h.b hm, sel_in h.c hm, sel_in h.d hm⟩
theorem ov_next {l : List Task} {ks : List Int} {i : Nat} {k m : Int} {s : Spot} {f f' : F4} {R : Spot × F4} (hx : ks[i]? = some k) (hr : ov20 l (ks.drop i) s m f = R) (hf : f.upd (minuteS l s m k).2 m = f') :
    ov20 l (ks.drop (i + 1)) (minuteS l s m k).1 (m + 1) f' = R := by
  rw [drop_of_get hx, ov20, hf] at hr; exact hr
theorem ov_end {l : List Task} {ks : List Int} {i : Nat} {m : Int} {s : Spot} {f : F4} {R : Spot × F4} (hi : ¬ (i : Int) < ks.length) (hr : ov20 l (ks.drop i) s m f = R) : (s, f) = R := by
  rw [List.drop_eq_nil_of_le (by omega), ov20] at hr; exact hr

structure RT (l : List Task) (at0 : Int) (i : Nat) (s : Spot) (f : F4) : Prop where
  s : fitsS l s = true
  f : f.In 40320

theorem fnds_snoc (out : List Fnd) (f : Fnd) : fnds out ++ [.agg [gi f.Clause, gi f.From, gi f.To]] = fnds (out ++ [f]) ∧ (fnds out).length + [GV.agg [gi f.Clause, gi f.From, gi f.To]].length = (out ++ [f]).length :=
  ⟨by simp [Fnd.g, Fnd.c], by simp⟩
theorem fl_yes {c a : Int} (h : 0 ≤ a) (r : List Fnd) (out R : List Fnd) (hr : out ++ (fl1 c a ++ r) = R) : (out ++ [⟨c, a, a + 1⟩]) ++ r = R := by
  rw [← hr, fl1, if_pos h]; simp
theorem fl_no {c a : Int} (h : ¬ 0 ≤ a) (r : List Fnd) (out R : List Fnd) (hr : out ++ (fl1 c a ++ r) = R) : out ++ r = R := by
  rw [← hr, fl1, if_neg h]; simp

/-- What is noted so far. -/
def FL (F : F4) (W : Spot × F4) (j : Nat) (g : List GV) : Prop := ∃ out, g = fnds out ∧ out.length ≤ j ∧ out ++ flN F j = flN W.2 0
theorem FL.len {F : F4} {W : Spot × F4} {j : Nat} {g : List GV} (h : FL F W j g) : g.length ≤ j := by
  obtain ⟨out, rfl, h1, _⟩ := h; simpa using h1
theorem FL.yes {F : F4} {W : Spot × F4} {j : Nat} {c a : Int} {g : List GV} (h : FL F W j g) (ha : 0 ≤ a) (hF : flN F j = fl1 c a ++ flN F (j + 1)) : FL F W (j + 1) (g ++ [.agg [gi c, gi a, gi (a + 1)]]) := by
  obtain ⟨out, rfl, h1, h2⟩ := h
  rw [hF] at h2
  exact ⟨out ++ [⟨c, a, a + 1⟩], (fnds_snoc out ⟨c, a, a + 1⟩).1, by simp; omega, fl_yes ha _ _ _ h2⟩
theorem FL.no {F : F4} {W : Spot × F4} {j : Nat} {c a : Int} {g : List GV} (h : FL F W j g) (ha : ¬ 0 ≤ a) (hF : flN F j = fl1 c a ++ flN F (j + 1)) : FL F W (j + 1) g := by
  obtain ⟨out, rfl, h1, h2⟩ := h
  rw [hF] at h2
  exact ⟨out, rfl, by omega, fl_no ha _ _ _ h2⟩
theorem rt_no {l : List Task} {ks : List Int} {i : Nat} {m e : Int} {s : Spot} {F : F4} {W : Spot × F4} {R : List Rec} {g : List GV} (hi : ¬ (i : Int) < ks.length) (hr : ov20 l (ks.drop i) s m F = W) (hfl : FL F W 4 g) (ht : ¬ s.Task < l.length) :
    GV.tup [s.g, .list 3 g none, gi 0] = .tup [(W.1, flN W.2 0 ++ (if W.1.Task < l.length then [⟨14, if R = [] then 0 else e - 1, (if R = [] then 0 else e - 1) + 1⟩] else [])).1.g, .list 3 (fnds (W.1, flN W.2 0 ++ (if W.1.Task < l.length then [⟨14, if R = [] then 0 else e - 1, (if R = [] then 0 else e - 1) + 1⟩] else [])).2) none, gi 0] := by
  obtain ⟨out, rfl, _, h2⟩ := hfl
  rw [← h2, ← ov_end hi hr]
  show GV.tup _ = GV.tup [s.g, .list 3 (fnds ((out ++ []) ++ (if s.Task < l.length then _ else []))) none, gi 0]
  rw [if_neg ht, List.append_nil, List.append_nil]
theorem rt_yes {l : List Task} {ks : List Int} {i : Nat} {m e n : Int} {s : Spot} {F : F4} {W : Spot × F4} {R : List Rec} {g : List GV} (hi : ¬ (i : Int) < ks.length) (hr : ov20 l (ks.drop i) s m F = W) (hfl : FL F W 4 g) (ht : s.Task < l.length) (hn : (if R = [] then 0 else e - 1) = n) :
    GV.tup [s.g, .list 3 (g ++ [.agg [gi 14, gi n, gi (n + 1)]]) none, gi 0] = .tup [(W.1, flN W.2 0 ++ (if W.1.Task < l.length then [⟨14, if R = [] then 0 else e - 1, (if R = [] then 0 else e - 1) + 1⟩] else [])).1.g, .list 3 (fnds (W.1, flN W.2 0 ++ (if W.1.Task < l.length then [⟨14, if R = [] then 0 else e - 1, (if R = [] then 0 else e - 1) + 1⟩] else [])).2) none, gi 0] := by
  obtain ⟨out, rfl, _, h2⟩ := hfl
  rw [← h2, ← ov_end hi hr, hn]
  show GV.tup _ = GV.tup [s.g, .list 3 (fnds ((out ++ []) ++ (if s.Task < l.length then _ else []))) none, gi 0]
  rw [if_pos ht, List.append_nil]
  have h := (fnds_snoc out ⟨14, n, n + 1⟩).1
  simp only at h
  rw [← h]

def pl_T3_1 : Nat → Option (List Nat × List Nat) := (fun k => bif Nat.beq k 8 then some ([1000008, 0, 2, 4, 6, 10, 11, 12, 13], [104, 106]) else bif Nat.beq k 12 then some ([1000012, 0, 2, 4, 6, 10, 11, 12, 13, 14, 15, 16], [104, 106, 114, 115]) else bif Nat.beq k 19 then some ([1000019, 0, 2, 4, 6, 12, 17, 18], [104, 106, 117, 196, 214]) else none)
def pl_T3_2 : Nat → Option (List Nat × List Nat) := (fun k => bif Nat.beq k 8 then some ([1000008, 0, 2, 4, 6, 10, 11, 12, 13, 5000032], [104, 106, 132]) else bif Nat.beq k 12 then some ([1000012, 0, 2, 4, 6, 10, 11, 12, 13, 14, 15, 16, 5000032], [104, 106, 114, 115, 132]) else bif Nat.beq k 19 then some ([1000019, 0, 2, 4, 6, 12, 17, 18, 5000032], [104, 106, 117, 132, 196, 214]) else bif Nat.beq k 5000032 then some ([], []) else none)
set_option maxRecDepth 100000 in
set_option maxHeartbeats 4000000 in
theorem refTrail_ok (l : List Task) (s0 : Spot) (R : List Rec) (hl : (R.length : Int) ≤ 1000) : ICalls Try.prog 23 [.list 3 (tasks l) none, s0.g, .list 3 (recs R) none] [] (Done (.tup [(refT l s0 R).1.g, .list 3 (fnds (refT l s0 R).2) none, gi (chk20 l s0 R)]) []) := by
  have h1 := refTrailCheck_ok l s0 R (by omega)
  unfold refT
  by_cases he : chk20 l s0 R = 0
  case neg =>
    rw [if_neg he]
    generalize chk20 l s0 R = e at *
    refine ICalls.of_body Try.func23 rfl Try.call23 rfl (Nat.le_of_ble_eq_true rfl) pl_T3_1 rfl ?_
    repeat' ((conv => whnf); first
      | refine Br.yes rfl ?_
      | refine Br.no rfl ?_
      | refine Br.yes (beq_self_eq_true _) ?_
      | refine Br.not ?_
      | refine Br.yes (decide_eq_true (by assumption)) ?_
      | refine Br.no (decide_eq_false (by assumption)) ?_
      | refine Br.yes (beq_iff_eq.2 (by assumption)) ?_
      | refine Br.no (beq_eq_false_iff_ne.2 (by assumption)) ?_
      | refine Br.yes (bne_iff_ne.2 (by assumption)) ?_
      | (refine Br.dec (fun h => ?_) (fun h => ?_) <;> try dsimp only at h)
      | (refine Br.beqI (fun h => ?_) (fun h => ?_) <;> try dsimp only at h)
      | (refine Br.bneI (fun h => ?_) (fun h => ?_) <;> try dsimp only at h)
      | refine Br.mk (fun h => ?_) (fun h => ?_)
      | refine Need.mk (app_need (by first | (simp only [List.length_append, List.length_map, List.length_nil, List.length_cons, List.nil_append, Nat.zero_add, Nat.add_zero]; done) | (simp only [List.length_append, List.length_map, List.length_nil, List.length_cons, List.nil_append, Nat.zero_add, Nat.add_zero]; omega) | omega) (Nat.le_of_ble_eq_true rfl) (by first | (simp only [List.length_append, List.length_map, List.length_nil, List.length_cons, List.nil_append, Nat.zero_add, Nat.add_zero]; done) | (simp only [List.length_append, List.length_map, List.length_nil, List.length_cons, List.nil_append, Nat.zero_add, Nat.add_zero]; omega) | omega)) ?_
      | refine Need.mk (app_need0 (Nat.le_of_ble_eq_true rfl) (by first | (simp only [List.length_append, List.length_map, List.length_nil, List.length_cons, List.nil_append, Nat.zero_add, Nat.add_zero]; done) | (simp only [List.length_append, List.length_map, List.length_nil, List.length_cons, List.nil_append, Nat.zero_add, Nat.add_zero]; omega) | omega)) ?_
      | refine Need.mk (app_needM rfl (Nat.le_of_ble_eq_true rfl) (by first | (simp only [List.length_append, List.length_map, List.length_nil, List.length_cons, List.nil_append, Nat.zero_add, Nat.add_zero]; done) | (simp only [List.length_append, List.length_map, List.length_nil, List.length_cons, List.nil_append, Nat.zero_add, Nat.add_zero]; omega) | omega)) ?_
      | refine Need.mk (zeros_need (by omega) (Nat.le_of_ble_eq_true rfl) (by omega)) ?_
      | refine Need.mk (by first | kernel_rfl | exact ⟨of_decide_eq_true rfl, of_decide_eq_true rfl⟩ | omega) ?_
      | refine Len.mk ⟨_, by simp only [List.length_cons, List.length_nil, Nat.reduceAdd, Int.cast_ofNat_Int]; rfl, ?_⟩
      | refine Wr.lit _ (by simp only [Int.reduceAdd, Int.reduceSub, Int.reduceMul]; rfl) (by decide) ?_
      | refine Wr.fit (by omega) ?_
      | refine Wr.fit (by dsimp only; omega) ?_
      | refine Elem.mk ⟨_, ⟨of_decide_eq_true rfl, rfl⟩, ?_⟩
      | refine Len.map ?_
      | refine Len.dropM ?_
      | refine Elem.dropM ?_
      | refine Len.takeM ?_
      | refine Elem.takeM ?_
      | refine Elem.mapK (by assumption) ?_
      | refine Elem.mapI (by omega) (by assumption) ?_
      | refine Elem.mapN (by omega) (fun x hx => ?_)
      | refine Elem.map (by omega) (by omega) (fun x hx => ?_)
      | refine (h1).use ⟨rfl, ?_⟩
      | refine CallX.mk ⟨_, _, (h1).x, rfl, ?_⟩
      | refine Done.mk ⟨rfl, rfl⟩
      | refine Done.mk ⟨congrArg gb ?_, rfl⟩
      | refine Done.mk ⟨?_, rfl⟩
      | refine Done.mk ⟨?_, ?_⟩)
    all_goals first | omega | rfl
  case pos =>
    rw [if_pos he, he]
    rw [he] at h1
    obtain ⟨hs0, hrs⟩ := chk_0 he
    obtain ⟨ht, hf0⟩ := check_fits hs0
    have hc := chain_first hrs
    have hbeg : 0 ≤ beginOf R ∧ beginOf R ≤ 40320 := by
      cases R with
      | nil => exact ⟨Int.le_refl _, by decide⟩
      | cons r t => have := recErr_inv hc.2.1; exact ⟨by show 0 ≤ r.From; omega, by show r.From ≤ 40320; omega⟩
    have hlen := chain_len R (beginOf R) hc hbeg.2
    have hall := chain_all R _ hc
    have h2 := refKinds_ok R (by omega) (fun r hr => by have := recErr_inv (hall r hr); omega) (by omega)
    have h3 := refBegin_ok R
    have h4 := refEnd_ok R (by omega)
    have hend : R ≠ [] → 0 ≤ endOf R ∧ endOf R ≤ 40320 := by
      intro _
      unfold endOf
      cases hg : R.getLast? with
      | none => simp
      | some r => have := recErr_inv (hall r (List.mem_of_getLast? hg)); simp only; omega
    have hne : R ≠ [] ↔ 0 < (R.length : Int) := by cases R <;> simp <;> omega
    have hend2 : 0 < (R.length : Int) → 0 ≤ endOf R ∧ endOf R ≤ 40320 := fun h => hend (hne.2 h)
    have hif : ∀ e : Int, (0 < (R.length : Int) → (if R = [] then 0 else e - 1) = e - 1) ∧ (¬ 0 < (R.length : Int) → (if R = [] then 0 else e - 1) = 0) := fun e => ⟨fun h => if_neg (hne.2 h), fun h => if_pos (Classical.byContradiction fun h2 => h (hne.1 h2))⟩
    clear hend hne
    unfold lastM
    generalize kindsOf R = ks at *
    generalize beginOf R = at0 at *
    generalize endOf R = E at *
    generalize hW : ov20 l ks s0 at0 ⟨-1, -1, -1, -1⟩ = W
    clear he hc hall hrs
    refine ICalls.of_body Try.func23 rfl Try.call23 rfl (Nat.le_of_ble_eq_true rfl) pl_T3_2 rfl ?_
    repeat' ((conv => whnf); first
      | refine Br.yes rfl ?_
      | refine Br.no rfl ?_
      | (refine Elem.mapN (by omega) (fun k hx => ?_))
      | (refine Need.mk (app_needM rfl (Nat.le_of_ble_eq_true rfl) (by rw [fnds_len]; simp only [List.length_cons, List.length_nil]; omega)) ?_)
      | (refine ILoop.ov 1000008 (fun ((i, s, f0, f1, f2, f3, v) : Nat × Spot × Int × Int × Int × Int × Nat) => [(13, gi i), (12, .ms 1 132 v 4)]) (fun ((i, s, f0, f1, f2, f3, v) : Nat × Spot × Int × Int × Int × Int × Nat) => [(104, .cells (s.c)), (132, .mvec 3 1 [gi f0, gi f1, gi f2, gi f3] v)]) (fun ((i, s, f0, f1, f2, f3, v) : Nat × Spot × Int × Int × Int × Int × Nat) => i ≤ ks.length ∧ fitsS l s = true ∧ (⟨f0, f1, f2, f3⟩ : F4).In 40320 ∧ ov20 l (ks.drop i) s (at0 + i) ⟨f0, f1, f2, f3⟩ = W) (fun ((i, s, f0, f1, f2, f3, v) : Nat × Spot × Int × Int × Int × Int × Nat) => ks.length - i) ((0, s0, -1, -1, -1, -1, 0)) (by exact rfl) ?_; (conv => whnf); refine Start.mk rfl ?_ ?_; (try dsimp only); rotate_left; rintro ⟨i, s, f0, f1, f2, f3, v⟩ ⟨hi, hs', hf, hr⟩; (have hfa := hf.a; have hfb := hf.b; have hfc := hf.c; have hfd := hf.d; dsimp only at hfa hfb hfc hfd))
      | (refine Again.mk ⟨((i + 1, (minuteS l s (at0 + i) k).1, _, _, _, _, _)), rfl, ?_, ?_⟩ <;> try dsimp only)
      | (refine ILoop.ov 1000012 (fun ((c, g0, g1, g2, g3, v2) : Int × Int × Int × Int × Int × Nat) => [(16, gi c), (12, .ms 1 132 v2 4)]) (fun ((c, g0, g1, g2, g3, v2) : Int × Int × Int × Int × Int × Nat) => [(132, .mvec 3 1 [gi g0, gi g1, gi g2, gi g3] v2)]) (fun ((c, g0, g1, g2, g3, v2) : Int × Int × Int × Int × Int × Nat) => (0 ≤ c ∧ c ≤ 4) ∧ g0 = sel (decide (0 < c)) (minuteS l s (at0 + i) k).2.b0 f0 (at0 + i) ∧ g1 = sel (decide (1 < c)) (minuteS l s (at0 + i) k).2.b1 f1 (at0 + i) ∧ g2 = sel (decide (2 < c)) (minuteS l s (at0 + i) k).2.b2 f2 (at0 + i) ∧ g3 = sel (decide (3 < c)) (minuteS l s (at0 + i) k).2.b3 f3 (at0 + i)) (fun ((c, g0, g1, g2, g3, v2) : Int × Int × Int × Int × Int × Nat) => (4 - c).toNat) ((0, f0, f1, f2, f3, v)) (by exact rfl) ?_; (conv => whnf); refine Start.mk rfl ?_ ?_; (try dsimp only); rotate_left; rintro ⟨c, g0, g1, g2, g3, v2⟩ ⟨h4', q0, q1, q2, q3⟩; (rcases (show c = 0 ∨ c = 1 ∨ c = 2 ∨ c = 3 ∨ c = 4 by omega) with rfl | rfl | rfl | rfl | rfl))
      | (refine Again.mk ⟨((_, _, _, _, _, _)), rfl, ?_, ?_⟩ <;> try dsimp only)
      | (refine ILoop.ov 1000019 (fun ((g, j, n) : List GV × Nat × Nat) => [(18, gi j), (17, .list 3 g (some 117))]) (fun ((g, j, n) : List GV × Nat × Nat) => [(117, .vec 80 n)]) (fun ((g, j, n) : List GV × Nat × Nat) => (j ≤ 4 ∧ n = g.length ∧ n ≤ 4) ∧ FL ⟨f0, f1, f2, f3⟩ W j g) (fun ((g, j, n) : List GV × Nat × Nat) => 4 - j) (([], 0, 0)) (by exact rfl) ?_; (conv => whnf); refine Start.mk rfl ?_ ?_; (try dsimp only); rotate_left; rintro ⟨g, j, n⟩ ⟨⟨hj, hn, hn4⟩, hfl⟩; (have hn5 := hfl.len; rcases (show j = 0 ∨ j = 1 ∨ j = 2 ∨ j = 3 ∨ j = 4 by omega) with rfl | rfl | rfl | rfl | rfl))
      | (refine Again.mk ⟨((_, _, _)), rfl, ?_, ?_⟩ <;> try dsimp only)
      | refine Br.yes (beq_self_eq_true _) ?_
      | refine Br.not ?_
      | refine Br.yes (decide_eq_true (by assumption)) ?_
      | refine Br.no (decide_eq_false (by assumption)) ?_
      | refine Br.yes (beq_iff_eq.2 (by assumption)) ?_
      | refine Br.no (beq_eq_false_iff_ne.2 (by assumption)) ?_
      | refine Br.yes (bne_iff_ne.2 (by assumption)) ?_
      | (refine Br.dec (fun h => ?_) (fun h => ?_) <;> try dsimp only at h)
      | (refine Br.beqI (fun h => ?_) (fun h => ?_) <;> try dsimp only at h)
      | (refine Br.bneI (fun h => ?_) (fun h => ?_) <;> try dsimp only at h)
      | refine Br.mk (fun h => ?_) (fun h => ?_)
      | refine Need.mk (app_need (by first | (simp only [List.length_append, List.length_map, List.length_nil, List.length_cons, List.nil_append, Nat.zero_add, Nat.add_zero]; done) | (simp only [List.length_append, List.length_map, List.length_nil, List.length_cons, List.nil_append, Nat.zero_add, Nat.add_zero]; omega) | omega) (Nat.le_of_ble_eq_true rfl) (by first | (simp only [List.length_append, List.length_map, List.length_nil, List.length_cons, List.nil_append, Nat.zero_add, Nat.add_zero]; done) | (simp only [List.length_append, List.length_map, List.length_nil, List.length_cons, List.nil_append, Nat.zero_add, Nat.add_zero]; omega) | omega)) ?_
      | refine Need.mk (app_need0 (Nat.le_of_ble_eq_true rfl) (by first | (simp only [List.length_append, List.length_map, List.length_nil, List.length_cons, List.nil_append, Nat.zero_add, Nat.add_zero]; done) | (simp only [List.length_append, List.length_map, List.length_nil, List.length_cons, List.nil_append, Nat.zero_add, Nat.add_zero]; omega) | omega)) ?_
      | refine Need.mk (app_needM rfl (Nat.le_of_ble_eq_true rfl) (by first | (simp only [List.length_append, List.length_map, List.length_nil, List.length_cons, List.nil_append, Nat.zero_add, Nat.add_zero]; done) | (simp only [List.length_append, List.length_map, List.length_nil, List.length_cons, List.nil_append, Nat.zero_add, Nat.add_zero]; omega) | omega)) ?_
      | refine Need.mk (zeros_need (by omega) (Nat.le_of_ble_eq_true rfl) (by omega)) ?_
      | refine Need.mk (by first | kernel_rfl | exact ⟨of_decide_eq_true rfl, of_decide_eq_true rfl⟩ | omega) ?_
      | refine Len.mk ⟨_, by simp only [List.length_cons, List.length_nil, Nat.reduceAdd, Int.cast_ofNat_Int]; rfl, ?_⟩
      | refine Wr.lit _ (by simp only [Int.reduceAdd, Int.reduceSub, Int.reduceMul]; rfl) (by decide) ?_
      | refine Wr.fit (by omega) ?_
      | refine Wr.fit (by dsimp only; omega) ?_
      | refine Elem.mk ⟨_, ⟨of_decide_eq_true rfl, rfl⟩, ?_⟩
      | refine Len.map ?_
      | refine Len.dropM ?_
      | refine Elem.dropM ?_
      | refine Len.takeM ?_
      | refine Elem.takeM ?_
      | refine Elem.mapK (by assumption) ?_
      | refine Elem.mapI (by omega) (by assumption) ?_
      | refine Elem.mapN (by omega) (fun x hx => ?_)
      | refine Elem.map (by omega) (by omega) (fun x hx => ?_)
      | refine (h1).use ⟨rfl, ?_⟩
      | refine (h2).use ⟨rfl, ?_⟩
      | refine (h3).use ⟨rfl, ?_⟩
      | refine (h4).use ⟨rfl, ?_⟩
      | refine (refStep19_ok l s (at0 + i) k (errCheck_of ht hs')).use ⟨rfl, ?_⟩
      | refine CallX.mk ⟨_, _, (h1).x, rfl, ?_⟩
      | refine CallX.mk ⟨_, _, (h2).x, rfl, ?_⟩
      | refine CallX.mk ⟨_, _, (h3).x, rfl, ?_⟩
      | refine CallX.mk ⟨_, _, (h4).x, rfl, ?_⟩
      | refine CallX.mk ⟨_, _, (refStep19_ok l s (at0 + i) k (errCheck_of ht hs')).x, rfl, ?_⟩
      | refine Done.mk ⟨rfl, rfl⟩
      | refine Done.mk ⟨congrArg gb ?_, rfl⟩
      | refine Done.mk ⟨?_, rfl⟩
      | refine Done.mk ⟨?_, ?_⟩)
    all_goals first
      | omega
      | (refine ⟨by omega, ?_, ?_, ?_, ?_⟩ <;> (clear hr; subst q0 q1 q2 q3; first | (simp_all [sel]; done) | (simp_all [sel]; omega)))
      | (refine ⟨by omega, ?_, ?_, ?_, ?_⟩ <;> simp [sel]; done)
      | (have e : (⟨g0, g1, g2, g3⟩ : F4) = F4.upd ⟨f0, f1, f2, f3⟩ (minuteS l s (at0 + i) k).2 (at0 + i) := by
           subst q0 q1 q2 q3; simp [F4.upd, sel]
         rw [e]
         refine ⟨by omega, (minuteS_left (tasksErr_ok ht).2 hs' (at0 + i) k).1, hf.upd _ (by omega), ?_⟩
         rw [show at0 + ((i + 1 : Nat) : Int) = at0 + i + 1 by omega]
         exact ov_next hx hr rfl)
      | exact ⟨by omega, hf0, ⟨by decide, by decide, by decide, by decide⟩, by simpa using hW⟩
      | exact ⟨by decide, [], rfl, by decide, by rw [← congrArg Prod.snd (ov_end (by assumption) hr)]; rfl⟩
      | exact ⟨⟨by omega, by simp only [List.length_append, List.length_cons, List.length_nil]; omega, by simp only [List.length_cons, List.length_nil]; omega⟩, hfl.yes (by assumption) (by first | rfl | simp [flN])⟩
      | exact ⟨⟨by omega, by omega, by omega⟩, hfl.no (by assumption) (by first | rfl)⟩
      | exact ⟨⟨by omega, by omega, by omega⟩, hfl.no (c := 13) (by assumption) (by simp [flN])⟩
      | exact rt_no (by assumption) hr hfl (by assumption)
      | exact rt_yes (by assumption) hr hfl (by assumption) ((hif _).1 (by assumption))
      | exact rt_yes (by assumption) hr hfl (by assumption) ((hif _).2 (by assumption))

end Go.Hl

/- Chapter 20: minute by minute or record by record, the same is found: plain Lean.  -/
set_option linter.unusedVariables false
set_option linter.unusedSimpArgs false
namespace Go.Hl
open Go.Gh Go.Proofs

/-! ### Findings that rise by clause -/
theorem sorted_strict {x : NS} (h : NInv16 x) : (sortF x.out).Pairwise fun f g => f.Clause < g.Clause := by
  have hs : (sortF x.out).Pairwise fun f g => f.Clause ≠ g.Clause := (List.mergeSort_perm _ _).pairwise_iff (fun h => Ne.symm h) |>.2 h.pw
  have hle : (sortF x.out).Pairwise fun f g => (!(Go.Proofs.ltOf ordF) g f) = true := by
    apply List.pairwise_mergeSort
    · intro a b c h1 h2
      have := ordF_swo.ntrans c b a
      simp only [Bool.not_eq_true'] at *
      exact this h2 h1
    · intro a b
      simp only [Bool.or_eq_true, Bool.not_eq_true']
      cases h1 : Go.Proofs.ltOf ordF b a with
      | false => exact .inl rfl
      | true =>
        right
        cases h2 : Go.Proofs.ltOf ordF a b with
        | false => rfl
        | true =>
          have := ordF_swo.trans a b a h2 h1
          rw [ordF_swo.irrefl] at this; cases this
  refine (hs.and hle).imp ?_
  rintro a b ⟨h1, h2⟩
  simp only [Bool.not_eq_true'] at h2
  rw [ordF_lt] at h2
  simp only [decide_eq_false_iff_not] at h2
  omega
theorem strict_ext : ∀ (l k : List Fnd), l.Pairwise (fun f g => f.Clause < g.Clause) → k.Pairwise (fun f g => f.Clause < g.Clause) → (∀ g, g ∈ l ↔ g ∈ k) → l = k
  | [], [], _, _, _ => rfl
  | [], y :: k, _, _, h => by cases (h y).2 (List.mem_cons_self ..)
  | x :: l, [], _, _, h => by cases (h x).1 (List.mem_cons_self ..)
  | x :: l, y :: k, hl, hk, h => by
    obtain ⟨l1, l2⟩ := List.pairwise_cons.1 hl
    obtain ⟨k1, k2⟩ := List.pairwise_cons.1 hk
    have hxy : x = y := by
      rcases List.mem_cons.1 ((h x).1 (List.mem_cons_self ..)) with e | e
      · exact e
      · rcases List.mem_cons.1 ((h y).2 (List.mem_cons_self ..)) with e2 | e2
        · exact e2.symm
        · have := k1 _ e; have := l1 _ e2; omega
    subst hxy
    congr 1
    refine strict_ext l k l2 k2 fun g => ⟨fun hg => ?_, fun hg => ?_⟩
    · rcases List.mem_cons.1 ((h g).1 (List.mem_cons_of_mem _ hg)) with e | e
      · subst e; have := l1 _ hg; omega
      · exact e
    · rcases List.mem_cons.1 ((h g).2 (List.mem_cons_of_mem _ hg)) with e | e
      · subst e; have := k1 _ hg; omega
      · exact e

/-! ### What is noted, by clause -/
def MemG (x : NS) (G : Nat → Int) : Prop := ∀ g, g ∈ x.out ↔ ∃ c : Nat, 0 ≤ G c ∧ g = ⟨c, G c, G c + 1⟩
def setG (G : Nat → Int) (c : Nat) (a : Int) : Nat → Int := fun d => if d = c ∧ G c < 0 then a else G d
theorem memG_bit {x : NS} {G : Nat → Int} (h : NInv16 x) (hm : MemG x G) (c : Nat) : x.s.testBit c = true ↔ 0 ≤ G c := by
  rw [h.bits c]
  constructor
  · rintro ⟨f, h1, h2⟩
    obtain ⟨d, h3, rfl⟩ := (hm f).1 h1
    simp only at h2
    have : d = c := by omega
    subst this; exact h3
  · intro h1
    exact ⟨_, (hm _).2 ⟨c, h1, rfl⟩, rfl⟩
theorem memG_tN {x : NS} {G : Nat → Int} (h : NInv16 x) (hm : MemG x G) (c : Nat) (a : Int) : MemG (tN c a x) (setG G c a) := by
  intro g
  unfold tN setG
  split
  · rename_i ha
    simp only
    unfold nO
    split
    · rename_i hb
      have hG := (memG_bit h hm c).1 hb
      rw [hm g]
      constructor
      · rintro ⟨d, h1, h2⟩; exact ⟨d, by rw [if_neg (by omega)]; exact h1, by rw [if_neg (by omega)]; exact h2⟩
      · rintro ⟨d, h1, h2⟩
        rw [if_neg (by omega)] at h1 h2
        exact ⟨d, h1, h2⟩
    · rename_i hb
      have hG : ¬ 0 ≤ G c := fun e => hb ((memG_bit h hm c).2 e)
      rw [List.mem_append, List.mem_singleton, hm g]
      constructor
      · rintro (⟨d, h1, h2⟩ | h2)
        · have : d ≠ c := fun e => hG (by rw [← e]; exact h1)
          exact ⟨d, by rw [if_neg (by omega)]; exact h1, by rw [if_neg (by omega)]; exact h2⟩
        · exact ⟨c, by rw [if_pos ⟨rfl, by omega⟩]; exact ha, by rw [if_pos ⟨rfl, by omega⟩]; exact h2⟩
      · rintro ⟨d, h1, h2⟩
        by_cases hd : d = c
        · subst hd
          rw [if_pos ⟨rfl, by omega⟩] at h2
          exact .inr h2
        · rw [if_neg (by omega)] at h1 h2
          exact .inl ⟨d, h1, h2⟩
  · rename_i ha
    rw [hm g]
    constructor
    · rintro ⟨d, h1, h2⟩
      by_cases hd : d = c ∧ G c < 0
      · obtain ⟨rfl, h3⟩ := hd; omega
      · exact ⟨d, by rw [if_neg hd]; exact h1, by rw [if_neg hd]; exact h2⟩
    · rintro ⟨d, h1, h2⟩
      by_cases hd : d = c ∧ G c < 0
      · rw [if_pos hd] at h1; omega
      · rw [if_neg hd] at h1 h2
        exact ⟨d, h1, h2⟩

def GF (f : F4) (d : Nat) : Int := if d = 10 then f.a else if d = 11 then f.b else if d = 12 then f.c else if d = 13 then f.d else -1
def cmb (F f : Int) : Int := if F < 0 then f else F
def F4.cmb (F f : F4) : F4 := ⟨Hl.cmb F.a f.a, Hl.cmb F.b f.b, Hl.cmb F.c f.c, Hl.cmb F.d f.d⟩
theorem memG_four {x : NS} {F f : F4} (h : NInv16 x) (hm : MemG x (GF F)) : MemG (four f x) (GF (F.cmb f)) := by
  have h1 := memG_tN h hm 10 f.a
  have i1 := h.tN 10 f.a
  have h2 := memG_tN i1 h1 11 f.b
  have i2 := i1.tN 11 f.b
  have h3 := memG_tN i2 h2 12 f.c
  have i3 := i2.tN 12 f.c
  have h4 := memG_tN i3 h3 13 f.d
  have e : setG (setG (setG (setG (GF F) 10 f.a) 11 f.b) 12 f.c) 13 f.d = GF (F.cmb f) := by
    funext d
    unfold setG GF F4.cmb Hl.cmb
    by_cases e0 : d = 10
    · subst e0; simp
    · by_cases e1 : d = 11
      · subst e1; simp
      · by_cases e2 : d = 12
        · subst e2; simp
        · by_cases e3 : d = 13
          · subst e3; simp
          · simp [e0, e1, e2, e3]
  rw [e] at h4
  exact h4

theorem upd_cmb {b : Bool} {F g m : Int} (hm : 0 ≤ m) : cmb (sel true b F m) g = cmb F (cmb (sel true b (-1) m) g) := by
  unfold cmb sel
  cases b
  · simp
  · by_cases h : F < 0
    · simp [h]
      try omega
    · simp [h]
def F4.Lo (f : F4) : Prop := -1 ≤ f.a ∧ -1 ≤ f.b ∧ -1 ≤ f.c ∧ -1 ≤ f.d
theorem sel_lo {b : Bool} {f m : Int} (hf : -1 ≤ f) (hm : 0 ≤ m) : -1 ≤ sel true b f m := by unfold sel; split <;> omega
theorem F4.Lo.upd {f : F4} (h : f.Lo) (b : B4) {m : Int} (hm : 0 ≤ m) : (f.upd b m).Lo := ⟨sel_lo h.1 hm, sel_lo h.2.1 hm, sel_lo h.2.2.1 hm, sel_lo h.2.2.2 hm⟩
theorem cmb_none {F : Int} (h : -1 ≤ F) : cmb F (-1) = F := by unfold cmb; split <;> omega
theorem cmb_lo {F f : Int} (h : -1 ≤ F) (h2 : -1 ≤ f) : -1 ≤ cmb F f := by unfold cmb; split <;> omega
theorem lo_none : F4.Lo ⟨-1, -1, -1, -1⟩ := ⟨by decide, by decide, by decide, by decide⟩
theorem overN_lo {l : List Task} {k : Int} : ∀ (n : Nat) (s : Spot) (m : Int) (F : F4), 0 ≤ m → F.Lo → (overN l k n s m F).2.Lo
  | 0, s, m, F, _, h => h
  | n + 1, s, m, F, hm, h => by rw [overN]; exact overN_lo n _ _ _ (by omega) (h.upd _ hm)
theorem overN_cmb {l : List Task} {k : Int} : ∀ (n : Nat) (s : Spot) (m : Int) (F : F4), 0 ≤ m → F.Lo → overN l k n s m F = ((overN l k n s m ⟨-1, -1, -1, -1⟩).1, F.cmb (overN l k n s m ⟨-1, -1, -1, -1⟩).2)
  | 0, s, m, F, _, h => by
    obtain ⟨a, b, c, d⟩ := F
    obtain ⟨h1, h2, h3, h4⟩ := h
    rw [overN, overN]
    unfold F4.cmb
    simp only at *
    rw [cmb_none h1, cmb_none h2, cmb_none h3, cmb_none h4]
  | n + 1, s, m, F, hm, h => by
    rw [overN, overN]
    rw [overN_cmb n _ (m + 1) (F.upd _ m) (by omega) (h.upd _ hm), overN_cmb n _ (m + 1) (F4.upd ⟨-1, -1, -1, -1⟩ _ m) (by omega) (lo_none.upd _ hm)]
    simp only
    congr 1
    unfold F4.cmb F4.upd
    simp only [F4.mk.injEq]
    exact ⟨upd_cmb hm, upd_cmb hm, upd_cmb hm, upd_cmb hm⟩
theorem ov20_rep {l : List Task} {k : Int} {r : List Int} : ∀ (n : Nat) (s : Spot) (m : Int) (F : F4), ov20 l (List.replicate n k ++ r) s m F = ov20 l r (overN l k n s m F).1 (m + n) (overN l k n s m F).2
  | 0, s, m, F => by simp [overN]
  | n + 1, s, m, F => by
    rw [List.replicate_succ, List.cons_append, ov20, ov20_rep n, overN]
    congr 1
    omega

/-- Record by record. -/
theorem tAll_ov {l : List Task} : ∀ (R : List Rec) (w : TS) (F : F4) (a : Int), Chain a R → errCheck l w.s = 0 → NInv16 w.x → MemG w.x (GF F) → F.Lo →
    (tAll l R w).s = (ov20 l (kindsOf R) w.s a F).1 ∧ NInv16 (tAll l R w).x ∧ MemG (tAll l R w).x (GF (ov20 l (kindsOf R) w.s a F).2) ∧ (ov20 l (kindsOf R) w.s a F).2.Lo
  | [], w, F, a, _, _, hn, hm, hl => ⟨rfl, hn, hm, hl⟩
  | r :: R, w, F, a, ⟨c1, c2, c3⟩, hs, hn, hm, hl => by
    have hi := recErr_inv c2
    have e : kindsOf (r :: R) = List.replicate (r.To - r.From).toNat r.Kind ++ kindsOf R := rfl
    have ho : overAll l w.s r = overN l r.Kind (r.To - r.From).toNat w.s r.From ⟨-1, -1, -1, -1⟩ := if_pos (overErr_0 hs c2)
    have hc := overN_cmb (l := l) (k := r.Kind) (r.To - r.From).toNat w.s r.From F (by omega) hl
    have hlo := overN_lo (l := l) (k := r.Kind) (r.To - r.From).toNat w.s r.From F (by omega) hl
    rw [e, ov20_rep, ← c1, show r.From + (((r.To - r.From).toNat : Nat) : Int) = r.To by omega]
    rw [hc] at hlo ⊢
    rw [← ho] at hlo ⊢
    have hk := overAll_ok hs c2
    exact tAll_ov R (tRec l r w) (F.cmb (overAll l w.s r).2) r.To c3 hk.1 ((((hn.tN 10 _).tN 11 _).tN 12 _).tN 13 _) (memG_four hn hm) hlo
theorem tAll_la {l : List Task} : ∀ (R : List Rec) (w : TS), (tAll l R w).la = if R = [] then w.la else endOf R - 1
  | [], w => rfl
  | [r], w => rfl
  | r :: q :: R, w => by
    show (tAll l (q :: R) (tRec l r w)).la = _
    rw [tAll_la (q :: R), if_neg (by simp), if_neg (by simp)]
    unfold endOf
    rw [List.getLast?_cons_cons]

theorem fl1_mem {c a : Int} {g : Fnd} : g ∈ fl1 c a ↔ 0 ≤ a ∧ g = ⟨c, a, a + 1⟩ := by
  unfold fl1
  split
  · rename_i h; simp [h]
  · rename_i h; simp [h]
theorem flN_mem {f : F4} {g : Fnd} : g ∈ flN f 0 ↔ ∃ c : Nat, 0 ≤ GF f c ∧ g = ⟨c, GF f c, GF f c + 1⟩ := by
  show g ∈ fl1 10 f.a ++ (fl1 11 f.b ++ (fl1 12 f.c ++ fl1 13 f.d)) ↔ _
  rw [List.mem_append, List.mem_append, List.mem_append, fl1_mem, fl1_mem, fl1_mem, fl1_mem]
  constructor
  · rintro (h | h | h | h)
    · exact ⟨10, h.1, h.2⟩
    · exact ⟨11, h.1, h.2⟩
    · exact ⟨12, h.1, h.2⟩
    · exact ⟨13, h.1, h.2⟩
  · rintro ⟨c, h1, h2⟩
    unfold GF at h1 h2
    by_cases e0 : c = 10
    · subst e0; left; exact ⟨h1, h2⟩
    · by_cases e1 : c = 11
      · subst e1; right; left; exact ⟨h1, h2⟩
      · by_cases e2 : c = 12
        · subst e2; right; right; left; exact ⟨h1, h2⟩
        · by_cases e3 : c = 13
          · subst e3; right; right; right; exact ⟨h1, h2⟩
          · simp [e0, e1, e2, e3] at h1
theorem fl1_cl {c a : Int} {g : Fnd} (h : g ∈ fl1 c a) : g.Clause = c := by rw [(fl1_mem.1 h).2]
theorem fl1_pw {c a : Int} : (fl1 c a).Pairwise fun f g => f.Clause < g.Clause := by unfold fl1; split <;> simp
theorem flN_pw (f : F4) (t : List Fnd) (ht : t.Pairwise fun f g => f.Clause < g.Clause) (hc : ∀ g, g ∈ t → 13 < g.Clause) : (flN f 0 ++ t).Pairwise fun f g => f.Clause < g.Clause := by
  show (fl1 10 f.a ++ (fl1 11 f.b ++ (fl1 12 f.c ++ fl1 13 f.d)) ++ t).Pairwise _
  have h3 : (fl1 13 f.d ++ t).Pairwise fun f g => f.Clause < g.Clause := List.pairwise_append.2 ⟨fl1_pw, ht, fun a ha b hb => by rw [fl1_cl ha]; exact hc b hb⟩
  have h2 : (fl1 12 f.c ++ (fl1 13 f.d ++ t)).Pairwise fun f g => f.Clause < g.Clause := List.pairwise_append.2 ⟨fl1_pw, h3, fun a ha b hb => by
    rw [fl1_cl ha]
    rcases List.mem_append.1 hb with hb | hb
    · rw [fl1_cl hb]; decide
    · have := hc b hb; omega⟩
  have h1 : (fl1 11 f.b ++ (fl1 12 f.c ++ (fl1 13 f.d ++ t))).Pairwise fun f g => f.Clause < g.Clause := List.pairwise_append.2 ⟨fl1_pw, h2, fun a ha b hb => by
    rw [fl1_cl ha]
    rcases List.mem_append.1 hb with hb | hb
    · rw [fl1_cl hb]; decide
    rcases List.mem_append.1 hb with hb | hb
    · rw [fl1_cl hb]; decide
    · have := hc b hb; omega⟩
  have h0 : (fl1 10 f.a ++ (fl1 11 f.b ++ (fl1 12 f.c ++ (fl1 13 f.d ++ t)))).Pairwise fun f g => f.Clause < g.Clause := List.pairwise_append.2 ⟨fl1_pw, h1, fun a ha b hb => by
    rw [fl1_cl ha]
    rcases List.mem_append.1 hb with hb | hb
    · rw [fl1_cl hb]; decide
    rcases List.mem_append.1 hb with hb | hb
    · rw [fl1_cl hb]; decide
    rcases List.mem_append.1 hb with hb | hb
    · rw [fl1_cl hb]; decide
    · have := hc b hb; omega⟩
  simpa only [List.append_assoc] using h0

theorem endOf_pos {R : List Rec} {a : Int} (h : Chain a R) (hn : R ≠ []) : 0 ≤ endOf R - 1 := by
  unfold endOf
  cases hg : R.getLast? with
  | none => exact absurd (List.getLast?_eq_none_iff.1 hg) hn
  | some r =>
    have := recErr_inv (chain_all R a h r (List.mem_of_getLast? hg))
    simp only; omega
theorem aud_ref (l : List Task) (s : Spot) (R : List Rec) : audT l s R = refT l s R := by
  unfold audT refT
  by_cases he : chk20 l s R = 0
  case neg => rw [if_neg he, if_neg he]
  case pos =>
    rw [if_pos he, if_pos he]
    obtain ⟨hs, hr⟩ := chk_0 he
    have hc := chain_first hr
    have h0 : MemG (tStart s).x (GF ⟨-1, -1, -1, -1⟩) := by
      intro g
      constructor
      · intro h; cases h
      · rintro ⟨c, h1, _⟩
        exfalso; revert h1
        unfold GF
        repeat' split
        all_goals (intro h1; (try simp only at h1); omega)
    obtain ⟨t1, t2, t3, t4⟩ := tAll_ov (l := l) R (tStart s) ⟨-1, -1, -1, -1⟩ (beginOf R) hc hs .start h0 lo_none
    have hla := tAll_la (l := l) R (tStart s)
    have hls : (tStart s).s = s := rfl
    rw [hls] at t1 t3 t4
    have hla2 : (tAll l R (tStart s)).la = lastM R := hla
    have hpos : 0 ≤ lastM R := by
      unfold lastM
      split
      · omega
      · rename_i hn; exact endOf_pos hc hn
    generalize ov20 l (kindsOf R) s (beginOf R) ⟨-1, -1, -1, -1⟩ = W at *
    generalize tAll l R (tStart s) = w at *
    refine Prod.ext t1 ?_
    show sortF (tEnd l w).out = _
    unfold tEnd
    rw [t1]
    split
    · rename_i hlt
      have i5 := t2.tN 14 w.la
      have m5 := memG_tN t2 t3 14 w.la
      refine strict_ext _ _ (sorted_strict i5) (flN_pw _ _ (List.pairwise_singleton ..) (fun g hg => by cases List.mem_singleton.1 hg; show (13 : Int) < 14; decide)) fun g => ?_
      rw [sortF_mem, m5 g, List.mem_append, flN_mem, List.mem_singleton, hla2]
      unfold setG
      constructor
      · rintro ⟨c, h1, h2⟩
        by_cases hd : c = 14
        · subst hd
          rw [if_pos ⟨rfl, by unfold GF; simp⟩] at h2
          exact .inr h2
        · rw [if_neg (by omega)] at h1 h2
          exact .inl ⟨c, h1, h2⟩
      · rintro (⟨c, h1, h2⟩ | h2)
        · have hd : c ≠ 14 := by rintro rfl; unfold GF at h1; simp at h1
          exact ⟨c, by rw [if_neg (by omega)]; exact h1, by rw [if_neg (by omega)]; exact h2⟩
        · exact ⟨14, by rw [if_pos ⟨rfl, by unfold GF; simp⟩]; exact hpos, by rw [if_pos ⟨rfl, by unfold GF; simp⟩]; exact h2⟩
    · rename_i hlt
      rw [List.append_nil]
      refine strict_ext _ _ (sorted_strict t2) (by have := flN_pw W.2 [] List.Pairwise.nil (fun g hg => by cases hg); rwa [List.append_nil] at this) fun g => ?_
      rw [sortF_mem, t3 g, flN_mem]

end Go.Hl
