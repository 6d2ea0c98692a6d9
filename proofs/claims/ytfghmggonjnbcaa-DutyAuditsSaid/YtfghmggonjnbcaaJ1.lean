/- Contracts of functions, bundle J1; proved for whatever the arguments' types allow, as each theorem says. -/
import Derived.Test.YtfghmggonjnbcaaH9
import Derived.Test.YtfghmggonjnbcaaH1

/- Chapter 16: the reference, looking back: spells of rest, the last one, a break's end, minutes counted.  -/
set_option linter.unusedVariables false
set_option linter.unusedSimpArgs false
namespace Go.Hl
open Go.Gh Go.Proofs

/-- The last spell goes on to a minute. -/
def extL (l : List Span) (t : Int) : List Span := match l.getLast? with
  | none => l
  | some s => l.dropLast ++ [⟨s.From, t⟩]
/-- The spells of rest that ended up to a minute. -/
def restsF (ks : List Int) : Nat → List Span
  | 0 => []
  | m + 1 => if ks[m]? = some 0 then (if 0 < m ∧ ks[m - 1]? = some 0 then extL (restsF ks m) (m + 1) else restsF ks m ++ [⟨m, m + 1⟩]) else restsF ks m
theorem extL_snoc (l : List Span) (s : Span) (t : Int) : extL (l ++ [s]) t = l ++ [⟨s.From, t⟩] := by
  unfold extL
  rw [List.getLast?_append, List.getLast?_singleton]
  simp
theorem restsF_ne {ks : List Int} {m : Nat} (h : ks[m]? = some 0) : restsF ks (m + 1) ≠ [] := by
  induction m with
  | zero => rw [restsF, if_pos h, if_neg (by omega)]; simp
  | succ m ih =>
    rw [restsF, if_pos h]
    split
    · rename_i h2
      have hne := ih (by simpa using h2.2)
      obtain ⟨l, s, e⟩ : ∃ l s, restsF ks (m + 1) = l ++ [s] := by
        rcases List.eq_nil_or_concat (restsF ks (m + 1)) with e | ⟨l, s, e⟩
        · exact absurd e hne
        · exact ⟨l, s, by rw [e, List.concat_eq_append]⟩
      rw [e, extL_snoc]; simp
    · simp
theorem extL_len {l : List Span} {t : Int} : (extL l t).length = l.length := by
  rcases List.eq_nil_or_concat l with rfl | ⟨k, s, rfl⟩
  · rfl
  · rw [List.concat_eq_append, extL_snoc]; simp
theorem ext_set {l : List Span} {x : Span} {t : Int} (h : l[((l.length : Int) - 1).toNat]? = some x) : (spans l).set ((l.length : Int) - 1).toNat (.agg [gi x.From, gi t]) = spans (extL l t) ∧ l.length = (extL l t).length := by
  refine ⟨?_, extL_len.symm⟩
  rcases List.eq_nil_or_concat l with rfl | ⟨k, s, rfl⟩
  · simp at h
  · have e : (((k.concat s).length : Int) - 1).toNat = k.length := by simp
    rw [e] at h ⊢
    simp at h
    subst h
    rw [List.concat_eq_append, extL_snoc]
    simp [spans, Span.g, Span.c, List.map_append, List.set_append]
theorem restsF_len (ks : List Int) : ∀ m, (restsF ks m).length ≤ m
  | 0 => Nat.le_refl _
  | m + 1 => by
    have ih := restsF_len ks m
    rw [restsF]
    split
    · split
      · rw [extL_len]; omega
      · simp; omega
    · omega
theorem rests_app {ks : List Int} {i : Nat} {k : Int} (hx : ks[i]? = some k) (h0 : k = 0) (h1 : ¬ (0 < i ∧ ks[i - 1]? = some 0)) : spans (restsF ks i) ++ [.agg [gi i, gi (i + 1)]] = spans (restsF ks (i + 1)) ∧ (restsF ks i).length + 1 = (restsF ks (i + 1)).length := by
  subst h0
  rw [restsF, if_pos hx, if_neg h1]
  exact ⟨by simp [spans, Span.g, Span.c], by simp⟩
theorem rests_skip {ks : List Int} {i : Nat} {k : Int} (hx : ks[i]? = some k) (h0 : ¬ k = 0) : restsF ks i = restsF ks (i + 1) := by
  rw [restsF, if_neg (by rw [hx]; simpa using h0)]

theorem rests_pos {ks : List Int} {i : Nat} {q : Int} (hq : ks[((i : Int) - 1).toNat]? = some q) : q = 0 → 0 < (i : Int) → 0 < ((restsF ks i).length : Int) := by
  rintro rfl hi
  have h := restsF_ne (ks := ks) (m := i - 1) (by rw [← hq]; congr 1; omega)
  rw [show i - 1 + 1 = i by omega] at h
  have := List.length_pos_iff.2 h
  omega
theorem rests_ext {ks : List Int} {i : Nat} {q k : Int} (hx : ks[i]? = some k) (h0 : k = 0) (hq : ks[((i : Int) - 1).toNat]? = some q) (h1 : q = 0) (hi : 0 < (i : Int)) : restsF ks (i + 1) = extL (restsF ks i) (i + 1) := by
  subst h0 h1
  rw [restsF, if_pos hx, if_pos ⟨by omega, by rw [← hq]; congr 1; omega⟩]

def pl_J1_1 : Nat → Option (List Nat × List Nat) := (fun k => bif Nat.beq k 3 then some ([1000003, 0, 1, 5, 6, 5000005, 6000004], [105, 141]) else bif Nat.beq k 5000005 then some ([], []) else bif Nat.beq k 6000004 then some ([], []) else none)
set_option maxRecDepth 100000 in
set_option maxHeartbeats 4000000 in
theorem rests_ok (ks : List Int) (m : Nat) (hm : m ≤ ks.length) (hl : (ks.length : Int) ≤ 1000000) : ICalls Try.prog 35 [.list 1 (ints ks) none, gi m] [] (Done (.list 2 (spans (restsF ks m)) none) []) := by
  refine ICalls.of_body Try.func35 rfl Try.call35 rfl (Nat.le_of_ble_eq_true rfl) pl_J1_1 rfl ?_
  repeat' ((conv => whnf); first
    | refine Br.yes rfl ?_
    | refine Br.no rfl ?_
    | (refine Elem.mapK (by assumption) ?_)
    | (refine Elem.mapI (by omega) (by assumption) ?_)
    | (refine Elem.mapN (by omega) (fun k hx => ?_))
    | (refine Elem.map (by omega) (by omega) (fun q hq => ?_); have hqp := rests_pos (i := i) hq)
    | (refine ILoop.ov 1000003 (fun ((i, g, n, v) : Nat × List GV × Nat × Nat) => [(6, gi i), (5, .ms 2 105 v n)]) (fun ((i, g, n, v) : Nat × List GV × Nat × Nat) => [(105, .mvec 70 2 g v)]) (fun ((i, g, n, v) : Nat × List GV × Nat × Nat) => i ≤ m ∧ (g = spans (restsF ks i) ∧ n = (restsF ks i).length)) (fun ((i, g, n, v) : Nat × List GV × Nat × Nat) => m - i) ((0, [], 0, 0)) (by exact rfl) ?_; (conv => whnf); refine Start.mk rfl ?_ ?_; (try dsimp only); rotate_left; rintro ⟨i, g, n, v⟩ ⟨hi, rfl, rfl⟩; (have hrl := restsF_len ks i))
    | (refine Again.mk ⟨((i + 1, _, _, _)), rfl, ?_, ?_⟩ <;> try dsimp only)
    | refine Br.yes (beq_self_eq_true _) ?_
    | refine Br.not ?_
    | refine Br.yes (decide_eq_true (by assumption)) ?_
    | refine Br.no (decide_eq_false (by assumption)) ?_
    | refine Br.yes (beq_iff_eq.2 (by assumption)) ?_
    | refine Br.no (beq_eq_false_iff_ne.2 (by assumption)) ?_
    | refine Br.yes (bne_iff_ne.2 (by assumption)) ?_
    | (refine Br.dec (fun h => ?_) (fun h => ?_) <;> try dsimp only at h)
    | (refine Br.beqI (fun h => ?_) (fun h => ?_) <;> try dsimp only at h)
    | (refine Br.bneI (fun h => ?_) (fun h => ?_) <;> try dsimp only at h)
    | refine Br.mk (fun h => ?_) (fun h => ?_)
    | refine Need.mk (app_need (by first | (simp only [List.length_append, List.length_map, List.length_nil, List.length_cons, List.nil_append, Nat.zero_add, Nat.add_zero]; done) | (simp only [List.length_append, List.length_map, List.length_nil, List.length_cons, List.nil_append, Nat.zero_add, Nat.add_zero]; omega) | omega) (Nat.le_of_ble_eq_true rfl) (by first | (simp only [List.length_append, List.length_map, List.length_nil, List.length_cons, List.nil_append, Nat.zero_add, Nat.add_zero]; done) | (simp only [List.length_append, List.length_map, List.length_nil, List.length_cons, List.nil_append, Nat.zero_add, Nat.add_zero]; omega) | omega)) ?_
    | refine Need.mk (app_need0 (Nat.le_of_ble_eq_true rfl) (by first | (simp only [List.length_append, List.length_map, List.length_nil, List.length_cons, List.nil_append, Nat.zero_add, Nat.add_zero]; done) | (simp only [List.length_append, List.length_map, List.length_nil, List.length_cons, List.nil_append, Nat.zero_add, Nat.add_zero]; omega) | omega)) ?_
    | refine Need.mk (app_needM rfl (Nat.le_of_ble_eq_true rfl) (by first | (simp only [List.length_append, List.length_map, List.length_nil, List.length_cons, List.nil_append, Nat.zero_add, Nat.add_zero]; done) | (simp only [List.length_append, List.length_map, List.length_nil, List.length_cons, List.nil_append, Nat.zero_add, Nat.add_zero]; omega) | omega)) ?_
    | refine Need.mk (zeros_need (by omega) (Nat.le_of_ble_eq_true rfl) (by omega)) ?_
    | refine Need.mk (by first | kernel_rfl | exact ⟨of_decide_eq_true rfl, of_decide_eq_true rfl⟩ | omega) ?_
    | refine Len.mk ⟨_, by simp only [List.length_cons, List.length_nil, Nat.reduceAdd, Int.cast_ofNat_Int]; rfl, ?_⟩
    | refine Wr.lit _ (by simp only [Int.reduceAdd, Int.reduceSub, Int.reduceMul]; rfl) (by decide) ?_
    | refine Wr.fit (by omega) ?_
    | refine Wr.fit (by dsimp only; omega) ?_
    | refine Elem.mk ⟨_, ⟨of_decide_eq_true rfl, rfl⟩, ?_⟩
    | refine Len.map ?_
    | refine Len.dropM ?_
    | refine Elem.dropM ?_
    | refine Len.takeM ?_
    | refine Elem.takeM ?_
    | refine Elem.mapK (by assumption) ?_
    | refine Elem.mapI (by omega) (by assumption) ?_
    | refine Elem.mapN (by omega) (fun x hx => ?_)
    | refine Elem.map (by omega) (by omega) (fun x hx => ?_)
    | refine Done.mk ⟨rfl, rfl⟩
    | refine Done.mk ⟨congrArg gb ?_, rfl⟩
    | refine Done.mk ⟨?_, rfl⟩
    | refine Done.mk ⟨?_, ?_⟩)
  all_goals first
    | omega
    | exact ⟨by omega, rfl, rfl⟩
    | (rw [← rests_skip hx (by assumption)]; exact ⟨by omega, rfl, rfl⟩)
    | (have h9 := rests_app hx (by assumption) (fun e => by omega); exact ⟨by omega, h9.1, by rw [← h9.2]; simp⟩)
    | (have h9 := rests_app hx (by assumption) (fun e => by have e2 := e.2; rw [show i - 1 = ((i : Int) - 1).toNat by omega, hq] at e2; exact absurd (Option.some.inj e2) (by assumption)); exact ⟨by omega, h9.1, by rw [← h9.2]; simp⟩)
    | (have h8 := rests_ext (by assumption : ks[i]? = some k) (by assumption) hq h (by assumption)
       have h9 := ext_set (t := (i : Int) + 1) hx
       exact ⟨by omega, by rw [h8]; exact h9.1, by rw [h8]; exact h9.2⟩)
    | (have e : i = m := by omega
       subst e; rfl)

/-- The end of the last spell that is so long, up to a minute. -/
def lastF (long m : Int) : List Span → Int → Int
  | [], at0 => at0
  | s :: t, at0 => lastF long m t (if long ≤ s.To - s.From ∧ s.To ≤ m then s.To else at0)
theorem last_yes {long m at0 W : Int} {l : List Span} {i : Nat} {s : Span} (hx : l[i]? = some s) (h : lastF long m (l.drop i) at0 = W) (h1 : long ≤ s.To - s.From) (h2 : s.To ≤ m) : lastF long m (l.drop (i + 1)) s.To = W := by
  rw [drop_of_get hx, lastF, if_pos ⟨h1, h2⟩] at h; exact h
theorem last_no {long m at0 W : Int} {l : List Span} {i : Nat} {s : Span} (hx : l[i]? = some s) (h : lastF long m (l.drop i) at0 = W) (h1 : ¬ (long ≤ s.To - s.From ∧ s.To ≤ m)) : lastF long m (l.drop (i + 1)) at0 = W := by
  rw [drop_of_get hx, lastF, if_neg h1] at h; exact h
theorem last_end {long m at0 W : Int} {l : List Span} {i : Nat} (hi : ¬ (i : Int) < l.length) (h : lastF long m (l.drop i) at0 = W) : at0 = W := by
  rw [List.drop_eq_nil_of_le (by omega), lastF] at h; exact h
/-- Spells that lie within the first minutes. -/
def Near (l : List Span) : Prop := ∀ s, s ∈ l → 0 ≤ s.From ∧ s.From ≤ s.To ∧ s.To ≤ 1000000
def pl_J1_2 : Nat → Option (List Nat × List Nat) := (fun k => bif Nat.beq k 3 then some ([1000003, 0, 1, 2, 7, 8], []) else none)
set_option maxRecDepth 100000 in
set_option maxHeartbeats 4000000 in
theorem last16_ok (l : List Span) (long m : Int) (hl : (l.length : Int) ≤ 1000000) (hn : Near l) : ICalls Try.prog 36 [.list 2 (spans l) none, gi long, gi m] [] (Done (gi (lastF long m l 0)) []) := by
  generalize hW : lastF long m l 0 = W
  refine ICalls.of_body Try.func36 rfl Try.call36 rfl (Nat.le_of_ble_eq_true rfl) pl_J1_2 rfl ?_
  repeat' ((conv => whnf); first
    | refine Br.yes rfl ?_
    | refine Br.no rfl ?_
    | (refine Elem.mapK (by assumption) ?_)
    | (refine Elem.mapN (by omega) (fun s hx => ?_); have hs := hn s (List.mem_of_getElem? hx))
    | (refine ILoop.ov 1000003 (fun ((i, a) : Nat × Int) => [(8, gi i), (7, gi a)]) (fun ((i, a) : Nat × Int) => []) (fun ((i, a) : Nat × Int) => i ≤ l.length ∧ lastF long m (l.drop i) a = W) (fun ((i, a) : Nat × Int) => l.length - i) ((0, 0)) (by exact rfl) ?_; (conv => whnf); refine Start.mk rfl ?_ ?_; (try dsimp only); rotate_left; rintro ⟨i, a⟩ ⟨hi, hr⟩)
    | (refine Again.mk ⟨((i + 1, s.To)), rfl, ?_, ?_⟩ <;> try dsimp only)
    | (refine Again.mk ⟨((i + 1, a)), rfl, ?_, ?_⟩ <;> try dsimp only)
    | refine Br.yes (beq_self_eq_true _) ?_
    | refine Br.not ?_
    | refine Br.yes (decide_eq_true (by assumption)) ?_
    | refine Br.no (decide_eq_false (by assumption)) ?_
    | refine Br.yes (beq_iff_eq.2 (by assumption)) ?_
    | refine Br.no (beq_eq_false_iff_ne.2 (by assumption)) ?_
    | refine Br.yes (bne_iff_ne.2 (by assumption)) ?_
    | (refine Br.dec (fun h => ?_) (fun h => ?_) <;> try dsimp only at h)
    | (refine Br.beqI (fun h => ?_) (fun h => ?_) <;> try dsimp only at h)
    | (refine Br.bneI (fun h => ?_) (fun h => ?_) <;> try dsimp only at h)
    | refine Br.mk (fun h => ?_) (fun h => ?_)
    | refine Need.mk (by first | kernel_rfl | exact ⟨of_decide_eq_true rfl, of_decide_eq_true rfl⟩ | omega) ?_
    | refine Len.mk ⟨_, by simp only [List.length_cons, List.length_nil, Nat.reduceAdd, Int.cast_ofNat_Int]; rfl, ?_⟩
    | refine Wr.lit _ (by simp only [Int.reduceAdd, Int.reduceSub, Int.reduceMul]; rfl) (by decide) ?_
    | refine Wr.fit (by omega) ?_
    | refine Wr.fit (by dsimp only; omega) ?_
    | refine Elem.mk ⟨_, ⟨of_decide_eq_true rfl, rfl⟩, ?_⟩
    | refine Len.map ?_
    | refine Len.dropM ?_
    | refine Elem.dropM ?_
    | refine Len.takeM ?_
    | refine Elem.takeM ?_
    | refine Elem.mapK (by assumption) ?_
    | refine Elem.mapI (by omega) (by assumption) ?_
    | refine Elem.mapN (by omega) (fun x hx => ?_)
    | refine Elem.map (by omega) (by omega) (fun x hx => ?_)
    | refine Done.mk ⟨rfl, rfl⟩
    | refine Done.mk ⟨congrArg gb ?_, rfl⟩
    | refine Done.mk ⟨?_, rfl⟩
    | refine Done.mk ⟨?_, ?_⟩)
  all_goals first
    | omega
    | exact ⟨by omega, last_yes hx hr (by assumption) (by assumption)⟩
    | exact ⟨by omega, last_no hx hr (by omega)⟩
    | exact congrArg gi (last_end (by assumption) hr)
    | exact ⟨by omega, hW⟩

/-- The last break's end. -/
def beF (b : Book) : List Span → Int → Bool → Int
  | [], at0, _ => at0
  | s :: t, at0, first => if b.Break ≤ s.To - s.From ∨ (first = true ∧ b.Second ≤ s.To - s.From) then beF b t s.To false else if b.First ≤ s.To - s.From then beF b t at0 true else beF b t at0 first
def pl_J1_3 : Nat → Option (List Nat × List Nat) := (fun k => bif Nat.beq k 4 then some ([1000004, 1, 2, 5, 6, 7], [102]) else none)
set_option maxRecDepth 100000 in
set_option maxHeartbeats 4000000 in
theorem breakEnd_ok (b : Book) (l : List Span) (hl : (l.length : Int) ≤ 1000000) (hn : Near l) : ICalls Try.prog 38 [b.g, .list 2 (spans l) none] [] (Done (gi (beF b l 0 false)) []) := by
  generalize hW : beF b l 0 false = W
  refine ICalls.of_body Try.func38 rfl Try.call38 rfl (Nat.le_of_ble_eq_true rfl) pl_J1_3 rfl ?_
  repeat' ((conv => whnf); first
    | refine Br.yes rfl ?_
    | refine Br.no rfl ?_
    | (refine Elem.mapK (by assumption) ?_)
    | (refine Elem.mapN (by omega) (fun s hx => ?_); have hs := hn s (List.mem_of_getElem? hx))
    | (refine ILoop.ov 1000004 (fun ((i, a, f) : Nat × Int × Bool) => [(7, gi i), (5, gi a), (6, gb f)]) (fun ((i, a, f) : Nat × Int × Bool) => []) (fun ((i, a, f) : Nat × Int × Bool) => i ≤ l.length ∧ beF b (l.drop i) a f = W) (fun ((i, a, f) : Nat × Int × Bool) => l.length - i) ((0, 0, false)) (by exact rfl) ?_; (conv => whnf); refine Start.mk rfl ?_ ?_; (try dsimp only); rotate_left; rintro ⟨i, a, f⟩ ⟨hi, hr⟩)
    | (refine Again.mk ⟨((i + 1, s.To, false)), rfl, ?_, ?_⟩ <;> try dsimp only)
    | (refine Again.mk ⟨((i + 1, a, true)), rfl, ?_, ?_⟩ <;> try dsimp only)
    | (refine Again.mk ⟨((i + 1, a, false)), rfl, ?_, ?_⟩ <;> try dsimp only)
    | (refine Again.mk ⟨((i + 1, a, f)), rfl, ?_, ?_⟩ <;> try dsimp only)
    | refine Br.yes (beq_self_eq_true _) ?_
    | refine Br.not ?_
    | refine Br.yes (decide_eq_true (by assumption)) ?_
    | refine Br.no (decide_eq_false (by assumption)) ?_
    | refine Br.yes (beq_iff_eq.2 (by assumption)) ?_
    | refine Br.no (beq_eq_false_iff_ne.2 (by assumption)) ?_
    | refine Br.yes (bne_iff_ne.2 (by assumption)) ?_
    | (refine Br.dec (fun h => ?_) (fun h => ?_) <;> try dsimp only at h)
    | (refine Br.beqI (fun h => ?_) (fun h => ?_) <;> try dsimp only at h)
    | (refine Br.bneI (fun h => ?_) (fun h => ?_) <;> try dsimp only at h)
    | refine Br.mk (fun h => ?_) (fun h => ?_)
    | refine Need.mk (by first | kernel_rfl | exact ⟨of_decide_eq_true rfl, of_decide_eq_true rfl⟩ | omega) ?_
    | refine Len.mk ⟨_, by simp only [List.length_cons, List.length_nil, Nat.reduceAdd, Int.cast_ofNat_Int]; rfl, ?_⟩
    | refine Wr.lit _ (by simp only [Int.reduceAdd, Int.reduceSub, Int.reduceMul]; rfl) (by decide) ?_
    | refine Wr.fit (by omega) ?_
    | refine Wr.fit (by dsimp only; omega) ?_
    | refine Elem.mk ⟨_, ⟨of_decide_eq_true rfl, rfl⟩, ?_⟩
    | refine Len.map ?_
    | refine Len.dropM ?_
    | refine Elem.dropM ?_
    | refine Len.takeM ?_
    | refine Elem.takeM ?_
    | refine Elem.mapK (by assumption) ?_
    | refine Elem.mapI (by omega) (by assumption) ?_
    | refine Elem.mapN (by omega) (fun x hx => ?_)
    | refine Elem.map (by omega) (by omega) (fun x hx => ?_)
    | refine Done.mk ⟨rfl, rfl⟩
    | refine Done.mk ⟨congrArg gb ?_, rfl⟩
    | refine Done.mk ⟨?_, rfl⟩
    | refine Done.mk ⟨?_, ?_⟩)
  all_goals first
    | omega
    | exact ⟨by omega, hW⟩
    | (rw [List.drop_eq_nil_of_le (by omega), beF] at hr; rw [hr])
    | (rw [drop_of_get hx, beF] at hr
       refine ⟨by omega, ?_⟩
       first
       | (rw [if_pos (.inl (by assumption))] at hr; exact hr)
       | (rw [if_pos (.inr ⟨by assumption, by assumption⟩)] at hr; exact hr)
       | (rw [if_neg (by simp_all), if_pos (by assumption)] at hr; exact hr)
       | (rw [if_neg (by simp_all), if_neg (by assumption)] at hr; first | exact hr | (simp_all; done)))

/-- How many minutes of one of two kinds there are. -/
def cK (ks : List Int) (one two : Int) : Nat → Int → Int
  | 0, _ => 0
  | n + 1, i => (if 0 ≤ i ∧ (ks[i.toNat]? = some one ∨ ks[i.toNat]? = some two) then 1 else 0) + cK ks one two n (i + 1)
def countK (ks : List Int) (one two fro to : Int) : Int := cK ks one two (to + 1 - fro).toNat fro
theorem cK_step {ks : List Int} {one two i to n W : Int} (h : i ≤ to) (hr : n + cK ks one two (to + 1 - i).toNat i = W) : n + (if 0 ≤ i ∧ (ks[i.toNat]? = some one ∨ ks[i.toNat]? = some two) then 1 else 0) + cK ks one two (to + 1 - (i + 1)).toNat (i + 1) = W := by
  rw [show (to + 1 - i).toNat = (to + 1 - (i + 1)).toNat + 1 by omega, cK] at hr; omega
theorem cK_not {ks : List Int} {one two i k : Int} (hx : ks[i.toNat]? = some k) (h1 : ¬ k = one) (h2 : ¬ k = two) : ¬ (0 ≤ i ∧ (ks[i.toNat]? = some one ∨ ks[i.toNat]? = some two)) := by
  rintro ⟨_, e | e⟩
  · exact h1 (Option.some.inj (hx.symm.trans e))
  · exact h2 (Option.some.inj (hx.symm.trans e))
theorem cK_end {ks : List Int} {one two i to n W : Int} (h : ¬ i ≤ to) (hr : n + cK ks one two (to + 1 - i).toNat i = W) : n = W := by
  rw [show (to + 1 - i).toNat = 0 by omega, cK] at hr; omega
def pl_J1_4 : Nat → Option (List Nat × List Nat) := (fun k => bif Nat.beq k 3 then some ([1000003, 0, 1, 2, 4, 11, 12], []) else none)
set_option maxRecDepth 100000 in
set_option maxHeartbeats 4000000 in
theorem count16_ok (ks : List Int) (one two fro to : Int) (hl : (ks.length : Int) ≤ 1000000) (hf : -1000000 ≤ fro) (ht : to < ks.length) : ICalls Try.prog 37 [.list 1 (ints ks) none, gi one, gi two, gi fro, gi to] [] (Done (gi (countK ks one two fro to)) []) := by
  generalize hW : countK ks one two fro to = W
  unfold countK at hW
  refine ICalls.of_body Try.func37 rfl Try.call37 rfl (Nat.le_of_ble_eq_true rfl) pl_J1_4 rfl ?_
  repeat' ((conv => whnf); first
    | refine Br.yes rfl ?_
    | refine Br.no rfl ?_
    | (refine Elem.mapI (by omega) (by assumption) ?_)
    | (refine Elem.map (by omega) (by omega) (fun k hx => ?_))
    | (refine ILoop.ov 1000003 (fun ((i, n) : Int × Int) => [(12, gi i), (11, gi n)]) (fun ((i, n) : Int × Int) => []) (fun ((i, n) : Int × Int) => fro ≤ i ∧ (0 ≤ n ∧ n ≤ i - fro) ∧ n + cK ks one two (to + 1 - i).toNat i = W) (fun ((i, n) : Int × Int) => (to + 1 - i).toNat) ((fro, 0)) (by exact rfl) ?_; (conv => whnf); refine Start.mk rfl ?_ ?_; (try dsimp only); rotate_left; rintro ⟨i, n⟩ ⟨hi, hnn, hr⟩)
    | (refine Again.mk ⟨((i + 1, n + 1)), rfl, ?_, ?_⟩ <;> try dsimp only)
    | (refine Again.mk ⟨((i + 1, n)), rfl, ?_, ?_⟩ <;> try dsimp only)
    | refine Br.yes (beq_self_eq_true _) ?_
    | refine Br.not ?_
    | refine Br.yes (decide_eq_true (by assumption)) ?_
    | refine Br.no (decide_eq_false (by assumption)) ?_
    | refine Br.yes (beq_iff_eq.2 (by assumption)) ?_
    | refine Br.no (beq_eq_false_iff_ne.2 (by assumption)) ?_
    | refine Br.yes (bne_iff_ne.2 (by assumption)) ?_
    | (refine Br.dec (fun h => ?_) (fun h => ?_) <;> try dsimp only at h)
    | (refine Br.beqI (fun h => ?_) (fun h => ?_) <;> try dsimp only at h)
    | (refine Br.bneI (fun h => ?_) (fun h => ?_) <;> try dsimp only at h)
    | refine Br.mk (fun h => ?_) (fun h => ?_)
    | refine Need.mk (by first | kernel_rfl | exact ⟨of_decide_eq_true rfl, of_decide_eq_true rfl⟩ | omega) ?_
    | refine Len.mk ⟨_, by simp only [List.length_cons, List.length_nil, Nat.reduceAdd, Int.cast_ofNat_Int]; rfl, ?_⟩
    | refine Wr.lit _ (by simp only [Int.reduceAdd, Int.reduceSub, Int.reduceMul]; rfl) (by decide) ?_
    | refine Wr.fit (by omega) ?_
    | refine Wr.fit (by dsimp only; omega) ?_
    | refine Elem.mk ⟨_, ⟨of_decide_eq_true rfl, rfl⟩, ?_⟩
    | refine Len.map ?_
    | refine Len.dropM ?_
    | refine Elem.dropM ?_
    | refine Len.takeM ?_
    | refine Elem.takeM ?_
    | refine Elem.mapK (by assumption) ?_
    | refine Elem.mapI (by omega) (by assumption) ?_
    | refine Elem.mapN (by omega) (fun x hx => ?_)
    | refine Elem.map (by omega) (by omega) (fun x hx => ?_)
    | refine Done.mk ⟨rfl, rfl⟩
    | refine Done.mk ⟨congrArg gb ?_, rfl⟩
    | refine Done.mk ⟨?_, rfl⟩
    | refine Done.mk ⟨?_, ?_⟩)
  all_goals first
    | omega
    | exact congrArg gi (cK_end (by assumption) hr)
    | exact ⟨by omega, by omega, by rw [← hW]; omega⟩
    | (have hr2 := cK_step (by assumption) hr
       refine ⟨by omega, by omega, ?_⟩
       first
       | (rw [if_pos ⟨by assumption, .inl (hx.trans (congrArg some (by assumption)))⟩] at hr2; exact hr2)
       | (rw [if_pos ⟨by assumption, .inr (hx.trans (congrArg some (by assumption)))⟩] at hr2; exact hr2)
       | (rw [if_neg (cK_not hx (by assumption) (by assumption)), Int.add_zero] at hr2; exact hr2)
       | (rw [if_neg (fun e => by omega), Int.add_zero] at hr2; exact hr2))

end Go.Hl

/- Chapter 16: the reference, looking back: a reduced rest; days that are too long.  -/
set_option linter.unusedVariables false
set_option linter.unusedSimpArgs false
namespace Go.Hl
open Go.Gh Go.Proofs

theorem lastF_range {long m : Int} : ∀ (l : List Span) (a : Int), Near l → 0 ≤ a ∧ a ≤ 1000000 → 0 ≤ lastF long m l a ∧ lastF long m l a ≤ 1000000
  | [], a, _, h => h
  | s :: t, a, hn, h => by
    have hs := hn s (List.mem_cons_self ..)
    rw [lastF]
    refine lastF_range t _ (fun x hx => hn x (List.mem_cons_of_mem _ hx)) ?_
    split <;> omega
/-- Another rest, that is a part, since a minute. -/
def partB (b : Book) (dawn : Int) (x : Span) : Bool := decide (dawn ≤ x.From) && (decide (b.Part ≤ x.To - x.From) && decide (x.To - x.From < b.Reduced))
def anyK (b : Book) (dawn : Int) (l : List Span) : Nat → Nat → Bool
  | 0, _ => false
  | n + 1, i => (match l[i]? with | some x => partB b dawn x | none => false) || anyK b dawn l n (i + 1)
def redF (b : Book) (l : List Span) (k : Nat) : Bool := match l[k]? with
  | none => false
  | some s =>
    if s.To - s.From < b.Reduced ∨ b.Short ≤ s.To - s.From then false
    else if anyK b (lastF b.Reduced s.From l 0) l k 0 = true then false
    else decide ((if lastF b.Reduced s.From l 0 + b.Round < s.To then lastF b.Reduced s.From l 0 + b.Round else s.To) - s.From < b.Regular)
theorem partB_yes {b : Book} {dawn : Int} {x : Span} (h1 : dawn ≤ x.From) (h2 : b.Part ≤ x.To - x.From) (h3 : x.To - x.From < b.Reduced) : partB b dawn x = true := by
  unfold partB; rw [decide_eq_true h1, decide_eq_true h2, decide_eq_true h3]; rfl
theorem partB_no {b : Book} {dawn : Int} {x : Span} (h : ¬ (dawn ≤ x.From ∧ b.Part ≤ x.To - x.From ∧ x.To - x.From < b.Reduced)) : partB b dawn x = false := by
  cases hb : partB b dawn x with
  | false => rfl
  | true =>
    unfold partB at hb
    simp only [Bool.and_eq_true, decide_eq_true_eq] at hb
    exact absurd hb h
theorem anyK_yes {b : Book} {dawn : Int} {l : List Span} {k i : Nat} {x : Span} {W : Bool} (hx : l[i]? = some x) (hi : (i : Int) < k) (hr : anyK b dawn l (k - i) i = W) (h : partB b dawn x = true) : W = true := by
  rw [show k - i = (k - (i + 1)) + 1 by omega, anyK, hx] at hr
  simp only [h, Bool.true_or] at hr
  exact hr.symm
theorem anyK_no {b : Book} {dawn : Int} {l : List Span} {k i : Nat} {x : Span} {W : Bool} (hx : l[i]? = some x) (hi : (i : Int) < k) (hr : anyK b dawn l (k - i) i = W) (h : partB b dawn x = false) : anyK b dawn l (k - (i + 1)) (i + 1) = W := by
  rw [show k - i = (k - (i + 1)) + 1 by omega, anyK, hx] at hr
  simpa only [h, Bool.false_or] using hr
theorem anyK_end {b : Book} {dawn : Int} {l : List Span} {k i : Nat} {W : Bool} (hi : ¬ (i : Int) < k) (hr : anyK b dawn l (k - i) i = W) : W = false := by
  rw [show k - i = 0 by omega, anyK] at hr; exact hr.symm

def pl_J2_1 : Nat → Option (List Nat × List Nat) := (fun k => bif Nat.beq k 6 then some ([1000006, 1, 2, 3, 8, 9], [103]) else none)
set_option maxRecDepth 100000 in
set_option maxHeartbeats 4000000 in
theorem reduced16_ok (b : Book) (l : List Span) (k : Nat) (s : Span) (hk : l[k]? = some s) (hl : (l.length : Int) ≤ 1000000) (hn : Near l) (hR : 0 ≤ b.Round ∧ b.Round ≤ 1000000) : ICalls Try.prog 40 [b.g, .list 2 (spans l) none, gi k] [] (Done (gb (redF b l k)) []) := by
  have hkl := (List.getElem?_eq_some_iff.1 hk).1
  have hs0 := hn s (List.mem_of_getElem? hk)
  have h1 := last16_ok l b.Reduced s.From hl hn
  have hd := lastF_range (long := b.Reduced) (m := s.From) l 0 hn (by omega)
  unfold redF
  rw [hk]
  simp only
  generalize lastF b.Reduced s.From l 0 = dawn at *
  generalize hW : anyK b dawn l k 0 = W
  refine ICalls.of_body Try.func40 rfl Try.call40 rfl (Nat.le_of_ble_eq_true rfl) pl_J2_1 rfl ?_
  repeat' ((conv => whnf); first
    | refine Br.yes rfl ?_
    | refine Br.no rfl ?_
    | (refine Elem.mapK (by assumption) ?_)
    | (refine Elem.mapN (by omega) (fun x hx => ?_); have hs := hn x (List.mem_of_getElem? hx))
    | (refine ILoop.ov 1000006 (fun (i : Nat) => [(9, gi i)]) (fun (i : Nat) => []) (fun (i : Nat) => i ≤ k ∧ anyK b dawn l (k - i) i = W) (fun (i : Nat) => k - i) (0) (by exact rfl) ?_; (conv => whnf); refine Start.mk rfl ?_ ?_; (try dsimp only); rotate_left; rintro i ⟨hi, hr⟩)
    | (refine Again.mk ⟨(i + 1), rfl, ?_, ?_⟩ <;> try dsimp only)
    | refine Br.yes (beq_self_eq_true _) ?_
    | refine Br.not ?_
    | refine Br.yes (decide_eq_true (by assumption)) ?_
    | refine Br.no (decide_eq_false (by assumption)) ?_
    | refine Br.yes (beq_iff_eq.2 (by assumption)) ?_
    | refine Br.no (beq_eq_false_iff_ne.2 (by assumption)) ?_
    | refine Br.yes (bne_iff_ne.2 (by assumption)) ?_
    | (refine Br.dec (fun h => ?_) (fun h => ?_) <;> try dsimp only at h)
    | (refine Br.beqI (fun h => ?_) (fun h => ?_) <;> try dsimp only at h)
    | (refine Br.bneI (fun h => ?_) (fun h => ?_) <;> try dsimp only at h)
    | refine Br.mk (fun h => ?_) (fun h => ?_)
    | refine Need.mk (by first | kernel_rfl | exact ⟨of_decide_eq_true rfl, of_decide_eq_true rfl⟩ | omega) ?_
    | refine Len.mk ⟨_, by simp only [List.length_cons, List.length_nil, Nat.reduceAdd, Int.cast_ofNat_Int]; rfl, ?_⟩
    | refine Wr.lit _ (by simp only [Int.reduceAdd, Int.reduceSub, Int.reduceMul]; rfl) (by decide) ?_
    | refine Wr.fit (by omega) ?_
    | refine Wr.fit (by dsimp only; omega) ?_
    | refine Elem.mk ⟨_, ⟨of_decide_eq_true rfl, rfl⟩, ?_⟩
    | refine Len.map ?_
    | refine Len.dropM ?_
    | refine Elem.dropM ?_
    | refine Len.takeM ?_
    | refine Elem.takeM ?_
    | refine Elem.mapK (by assumption) ?_
    | refine Elem.mapI (by omega) (by assumption) ?_
    | refine Elem.mapN (by omega) (fun x hx => ?_)
    | refine Elem.map (by omega) (by omega) (fun x hx => ?_)
    | refine (h1).use ⟨rfl, ?_⟩
    | refine CallX.mk ⟨_, _, (h1).x, rfl, ?_⟩
    | refine Done.mk ⟨rfl, rfl⟩
    | refine Done.mk ⟨congrArg gb ?_, rfl⟩
    | refine Done.mk ⟨?_, rfl⟩
    | refine Done.mk ⟨?_, ?_⟩)
  --X
  all_goals first
    | omega
    | exact ⟨by omega, hW⟩
    | exact ⟨by omega, anyK_no hx (by assumption) hr (partB_no (by omega))⟩
    | (rw [if_pos (by omega)])
    | (rw [if_neg (by omega), if_pos (anyK_yes hx (by assumption) hr (partB_yes (by assumption) (by assumption) (by assumption)))])
    | (rw [if_neg (by omega), if_neg (by rw [anyK_end (by assumption) hr]; decide), if_pos (by assumption)])
    | (rw [if_neg (by omega), if_neg (by rw [anyK_end (by assumption) hr]; decide), if_neg (by assumption)])

/-- How many days since a minute have more driving than a day should. -/
def lgF (b : Book) (ks : List Int) (fro m : Int) : List Span → Int → Int → Int
  | [], at0, n => if b.Day < countK ks 3 3 at0 m then n + 1 else n
  | s :: t, at0, n => if s.To ≤ fro ∨ s.To - s.From < b.Reduced then lgF b ks fro m t at0 n
    else lgF b ks fro m t s.To (if b.Day < countK ks 3 3 at0 (s.To - 1) then n + 1 else n)

theorem lg_skip {b : Book} {ks : List Int} {fro m a n W : Int} {l : List Span} {i : Nat} {s : Span} (hx : l[i]? = some s) (h : lgF b ks fro m (l.drop i) a n = W) (h1 : s.To ≤ fro ∨ s.To - s.From < b.Reduced) : lgF b ks fro m (l.drop (i + 1)) a n = W := by
  rw [drop_of_get hx, lgF, if_pos h1] at h; exact h
theorem lg_go {b : Book} {ks : List Int} {fro m a n W : Int} {l : List Span} {i : Nat} {s : Span} (hx : l[i]? = some s) (h : lgF b ks fro m (l.drop i) a n = W) (h1 : ¬ (s.To ≤ fro ∨ s.To - s.From < b.Reduced)) : lgF b ks fro m (l.drop (i + 1)) s.To (if b.Day < countK ks 3 3 a (s.To - 1) then n + 1 else n) = W := by
  rw [drop_of_get hx, lgF, if_neg h1] at h; exact h
theorem lg_end {b : Book} {ks : List Int} {fro m a n W : Int} {l : List Span} {i : Nat} (hi : ¬ (i : Int) < l.length) (h : lgF b ks fro m (l.drop i) a n = W) : (if b.Day < countK ks 3 3 a m then n + 1 else n) = W := by
  rw [List.drop_eq_nil_of_le (by omega), lgF] at h; exact h

def pl_J2_2 : Nat → Option (List Nat × List Nat) := (fun k => bif Nat.beq k 4 then some ([1000004, 1, 2, 3, 4, 5, 11, 12, 13], [105]) else none)
set_option maxRecDepth 100000 in
set_option maxHeartbeats 4000000 in
theorem longers16_ok (b : Book) (ks : List Int) (l : List Span) (fro m : Int) (hk : (ks.length : Int) ≤ 1000000) (hl : (l.length : Int) ≤ 1000000) (hn : Near l) (hin : ∀ s, s ∈ l → s.To ≤ ks.length) (hf : 0 ≤ fro) (hm : 0 ≤ m ∧ m < ks.length) :
    ICalls Try.prog 39 [b.g, .list 1 (ints ks) none, .list 2 (spans l) none, gi fro, gi m] [] (Done (gi (lgF b ks fro m l fro 0)) []) := by
  generalize hW : lgF b ks fro m l fro 0 = W
  refine ICalls.of_body Try.func39 rfl Try.call39 rfl (Nat.le_of_ble_eq_true rfl) pl_J2_2 rfl ?_
  repeat' ((conv => whnf); first
    | refine Br.yes rfl ?_
    | refine Br.no rfl ?_
    | (refine Elem.mapK (by assumption) ?_)
    | (refine Elem.mapN (by omega) (fun s hx => ?_); have hs := hn s (List.mem_of_getElem? hx); have hs2 := hin s (List.mem_of_getElem? hx))
    | (refine ILoop.ov 1000004 (fun ((i, a, n, z) : Nat × Int × Int × Option Int) => [(13, gi i), (12, gi a), (11, gi n)]) (fun ((i, a, n, z) : Nat × Int × Int × Option Int) => []) (fun ((i, a, n, z) : Nat × Int × Int × Option Int) => (i ≤ l.length + 1 ∧ 0 ≤ a ∧ (0 ≤ n ∧ n ≤ i)) ∧ (if i ≤ l.length then lgF b ks fro m (l.drop i) a n = W else n = W)) (fun ((i, a, n, z) : Nat × Int × Int × Option Int) => l.length + 1 - i) ((0, fro, 0, none)) (by exact rfl) ?_; (conv => whnf); refine Start.mk rfl ?_ ?_; (try dsimp only); rotate_left; rintro ⟨i, a, n, z⟩ ⟨hi, hr⟩)
    | (refine Again.mk ⟨((i + 1, s.To, n + 1, none)), rfl, ?_, ?_⟩ <;> try dsimp only)
    | (refine Again.mk ⟨((i + 1, s.To, n, none)), rfl, ?_, ?_⟩ <;> try dsimp only)
    | (refine Again.mk ⟨((i + 1, m + 1, n + 1, none)), rfl, ?_, ?_⟩ <;> try dsimp only)
    | (refine Again.mk ⟨((i + 1, m + 1, n, none)), rfl, ?_, ?_⟩ <;> try dsimp only)
    | (refine Again.mk ⟨((i + 1, a, n, none)), rfl, ?_, ?_⟩ <;> try dsimp only)
    | refine Br.yes (beq_self_eq_true _) ?_
    | refine Br.not ?_
    | refine Br.yes (decide_eq_true (by assumption)) ?_
    | refine Br.no (decide_eq_false (by assumption)) ?_
    | refine Br.yes (beq_iff_eq.2 (by assumption)) ?_
    | refine Br.no (beq_eq_false_iff_ne.2 (by assumption)) ?_
    | refine Br.yes (bne_iff_ne.2 (by assumption)) ?_
    | (refine Br.dec (fun h => ?_) (fun h => ?_) <;> try dsimp only at h)
    | (refine Br.beqI (fun h => ?_) (fun h => ?_) <;> try dsimp only at h)
    | (refine Br.bneI (fun h => ?_) (fun h => ?_) <;> try dsimp only at h)
    | refine Br.mk (fun h => ?_) (fun h => ?_)
    | refine Need.mk (by first | kernel_rfl | exact ⟨of_decide_eq_true rfl, of_decide_eq_true rfl⟩ | omega) ?_
    | refine Len.mk ⟨_, by simp only [List.length_cons, List.length_nil, Nat.reduceAdd, Int.cast_ofNat_Int]; rfl, ?_⟩
    | refine Wr.lit _ (by simp only [Int.reduceAdd, Int.reduceSub, Int.reduceMul]; rfl) (by decide) ?_
    | refine Wr.fit (by omega) ?_
    | refine Wr.fit (by dsimp only; omega) ?_
    | refine Elem.mk ⟨_, ⟨of_decide_eq_true rfl, rfl⟩, ?_⟩
    | refine Len.map ?_
    | refine Len.dropM ?_
    | refine Elem.dropM ?_
    | refine Len.takeM ?_
    | refine Elem.takeM ?_
    | refine Elem.mapK (by assumption) ?_
    | refine Elem.mapI (by omega) (by assumption) ?_
    | refine Elem.mapN (by omega) (fun x hx => ?_)
    | refine Elem.map (by omega) (by omega) (fun x hx => ?_)
    | refine (count16_ok ks 3 3 a (s.To - 1) hk (by omega) (by omega)).use ⟨rfl, ?_⟩
    | refine (count16_ok ks 3 3 a (m + 1 - 1) hk (by omega) (by omega)).use ⟨rfl, ?_⟩
    | refine CallX.mk ⟨_, _, (count16_ok ks 3 3 a (s.To - 1) hk (by omega) (by omega)).x, rfl, ?_⟩
    | refine CallX.mk ⟨_, _, (count16_ok ks 3 3 a (m + 1 - 1) hk (by omega) (by omega)).x, rfl, ?_⟩
    | refine Done.mk ⟨rfl, rfl⟩
    | refine Done.mk ⟨congrArg gb ?_, rfl⟩
    | refine Done.mk ⟨?_, rfl⟩
    | refine Done.mk ⟨?_, ?_⟩)
  all_goals first
    | omega
    | exact ⟨by omega, by rw [if_pos (by omega)]; exact hW⟩
    | (rw [if_neg (by omega)] at hr; rw [hr])
    | (rw [if_pos (by omega)] at hr
       refine ⟨by omega, ?_⟩
       rw [if_pos (by omega)]
       first
       | exact lg_skip hx hr (.inl (by assumption))
       | exact lg_skip hx hr (.inr (by assumption))
       | (have h9 := lg_go hx hr (by omega); rw [if_pos (by assumption)] at h9; exact h9)
       | (have h9 := lg_go hx hr (by omega); rw [if_neg (by assumption)] at h9; exact h9))
    | (rw [if_pos (by omega)] at hr
       refine ⟨by omega, ?_⟩
       rw [if_neg (by omega)]
       have h9 := lg_end (by omega) hr
       rw [show m + 1 - 1 = m by omega] at h
       first
       | (rw [if_pos (by assumption)] at h9; exact h9)
       | (rw [if_neg (by assumption)] at h9; exact h9))

end Go.Hl
