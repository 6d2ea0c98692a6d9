/- Contracts of functions, bundle Y5; proved for whatever the arguments' types allow, as each theorem says. -/
import Derived.Test.YtfbiaihhdbkefaaGreatDoorY3
import Derived.Test.YtfbiaihhdbkefaaGreatDoorH1

/- Chapter 22: VerdictAll, VerdictRising.  -/
set_option linter.unusedVariables false
set_option linter.unusedSimpArgs false
namespace Go.Hl
open Go.Gh Go.Proofs

/-! ### The chapter's example -/
def clearS : GV := .v (.string ⟨#[99, 108, 101, 97, 114, 10]⟩)
def al22 : Case := ⟨Book.europe, [], [], [], ⟨0, 0, 0⟩, [], 0⟩
theorem al22_light : al22.Light := ⟨by decide, by decide, by decide⟩
theorem al22_pass : caseE al22 = 0 ∧ caseF al22 = [] := by
  have h : (decide (caseE al22 = 0) && decide (caseF al22 = [])) = true := by
    rw [case_pass, aud_ref]; decide +kernel
  simpa using h
def pl_Y5_1 : Nat → Option (List Nat × List Nat) := (fun k => bif Nat.beq k 8 then some ([1000008, 6, 22, 23, 24], [106]) else none)
set_option maxRecDepth 100000 in
theorem report_al : ICalls Tryz.prog 13 [al22.g] [] (Done (.tup [clearS, gi 0]) []) := by
  have h1 := vAudit_ok al22 al22_light
  rw [al22_pass.1, al22_pass.2] at h1
  refine ICalls.of_body Tryz.func13 rfl Tryz.call13 rfl (Nat.le_of_ble_eq_true rfl) pl_Y5_1 rfl ?_
  repeat' ((conv => whnf); first
    | refine Br.yes rfl ?_
    | refine Br.no rfl ?_
    | refine Br.yes (beq_self_eq_true _) ?_
    | refine Br.not ?_
    | refine Br.yes (decide_eq_true (by assumption)) ?_
    | refine Br.no (decide_eq_false (by assumption)) ?_
    | refine Br.yes (beq_iff_eq.2 (by assumption)) ?_
    | refine Br.no (beq_eq_false_iff_ne.2 (by assumption)) ?_
    | refine Br.yes (bne_iff_ne.2 (by assumption)) ?_
    | (refine Br.dec (fun h => ?_) (fun h => ?_) <;> try dsimp only at h)
    | (refine Br.beqI (fun h => ?_) (fun h => ?_) <;> try dsimp only at h)
    | (refine Br.bneI (fun h => ?_) (fun h => ?_) <;> try dsimp only at h)
    | refine Br.mk (fun h => ?_) (fun h => ?_)
    | refine Need.mk (by first | kernel_rfl | exact ⟨of_decide_eq_true rfl, of_decide_eq_true rfl⟩ | omega) ?_
    | refine Len.mk ⟨_, by simp only [List.length_cons, List.length_nil, Nat.reduceAdd, Int.cast_ofNat_Int]; rfl, ?_⟩
    | refine Wr.lit _ (by simp only [Int.reduceAdd, Int.reduceSub, Int.reduceMul]; rfl) (by decide) ?_
    | refine Wr.fit (by omega) ?_
    | refine Wr.fit (by dsimp only; omega) ?_
    | refine Elem.mk ⟨_, ⟨of_decide_eq_true rfl, rfl⟩, ?_⟩
    | refine Len.map ?_
    | refine Len.dropM ?_
    | refine Elem.dropM ?_
    | refine Len.takeM ?_
    | refine Elem.takeM ?_
    | refine Elem.mapK (by assumption) ?_
    | refine Elem.mapI (by omega) (by assumption) ?_
    | refine Elem.mapN (by omega) (fun x hx => ?_)
    | refine Elem.map (by omega) (by omega) (fun x hx => ?_)
    | refine (h1).use ⟨rfl, ?_⟩
    | refine CallX.mk ⟨_, _, (h1).x, rfl, ?_⟩
    | refine Done.mk ⟨rfl, rfl⟩
    | refine Done.mk ⟨congrArg gb ?_, rfl⟩
    | refine Done.mk ⟨?_, rfl⟩
    | refine Done.mk ⟨?_, ?_⟩)
theorem al22_sub : SubL [.agg (Book.europe.c ++ [.v (.slice none 0 0), .v (.slice none 0 0), .v (.slice none 0 0), gi 0, gi 0, gi 0, .v (.slice none 0 0), gi 0])] [al22.g] := by
  refine .cons (.agg ?_) .nil
  have happ : ∀ (b : List GV) {xs ys : List GV}, SubL xs ys → SubL (b ++ xs) (b ++ ys) := by
    intro b
    induction b with
    | nil => intro xs ys h; exact h
    | cons x t ih => intro xs ys h; exact .cons (.refl _) (ih h)
  exact happ _ (.cons (.nil 3) (.cons (.nil 3) (.cons (.nil 3) (.cons (.refl _) (.cons (.refl _) (.cons (.refl _) (.cons (.nil 1) (.cons (.refl _) .nil))))))))
set_option maxRecDepth 100000 in
theorem alive22_ok : ICalls Tryz.prog 6 [] [] (Done (gb true) []) := by
  have h1 := report_al.sub al22_sub
  refine ICalls.of_body Tryz.func6 rfl Tryz.call6 rfl (Nat.le_of_ble_eq_true rfl) (fun _ => none) rfl ?_
  repeat' ((conv => whnf); first
    | refine Br.yes rfl ?_
    | refine Br.no rfl ?_
    | refine Br.yes (beq_self_eq_true _) ?_
    | refine Br.not ?_
    | refine Br.yes (decide_eq_true (by assumption)) ?_
    | refine Br.no (decide_eq_false (by assumption)) ?_
    | refine Br.yes (beq_iff_eq.2 (by assumption)) ?_
    | refine Br.no (beq_eq_false_iff_ne.2 (by assumption)) ?_
    | refine Br.yes (bne_iff_ne.2 (by assumption)) ?_
    | (refine Br.dec (fun h => ?_) (fun h => ?_) <;> try dsimp only at h)
    | (refine Br.beqI (fun h => ?_) (fun h => ?_) <;> try dsimp only at h)
    | (refine Br.bneI (fun h => ?_) (fun h => ?_) <;> try dsimp only at h)
    | refine Br.mk (fun h => ?_) (fun h => ?_)
    | refine Need.mk (by first | kernel_rfl | exact ⟨of_decide_eq_true rfl, of_decide_eq_true rfl⟩ | omega) ?_
    | refine Len.mk ⟨_, by simp only [List.length_cons, List.length_nil, Nat.reduceAdd, Int.cast_ofNat_Int]; rfl, ?_⟩
    | refine Wr.lit _ (by simp only [Int.reduceAdd, Int.reduceSub, Int.reduceMul]; rfl) (by decide) ?_
    | refine Wr.fit (by omega) ?_
    | refine Wr.fit (by dsimp only; omega) ?_
    | refine Elem.mk ⟨_, ⟨of_decide_eq_true rfl, rfl⟩, ?_⟩
    | refine Len.map ?_
    | refine Len.dropM ?_
    | refine Elem.dropM ?_
    | refine Len.takeM ?_
    | refine Elem.takeM ?_
    | refine Elem.mapK (by assumption) ?_
    | refine Elem.mapI (by omega) (by assumption) ?_
    | refine Elem.mapN (by omega) (fun x hx => ?_)
    | refine Elem.map (by omega) (by omega) (fun x hx => ?_)
    | refine (europe_ok).use ⟨rfl, ?_⟩
    | refine (h1).use ⟨rfl, ?_⟩
    | refine CallX.mk ⟨_, _, (europe_ok).x, rfl, ?_⟩
    | refine CallX.mk ⟨_, _, (h1).x, rfl, ?_⟩
    | refine Done.mk ⟨rfl, rfl⟩
    | refine Done.mk ⟨congrArg gb ?_, rfl⟩
    | refine Done.mk ⟨?_, rfl⟩
    | refine Done.mk ⟨?_, ?_⟩)

/-! ### Where findings lie -/
def lastTo : List Rec → Int → Int
  | [], e => e
  | r :: t, _ => lastTo t r.To
theorem lastTo_app (a b : List Rec) : ∀ e, lastTo (a ++ b) e = lastTo b (lastTo a e) := by
  induction a with
  | nil => intro e; rfl
  | cons r t ih => intro e; exact ih r.To
theorem lastTo_end : ∀ (l : List Rec) (e : Int), l ≠ [] → lastTo l e = endOf l
  | [], _, h => absurd rfl h
  | [r], _, _ => rfl
  | r :: q :: t, e, _ => by
    show lastTo (q :: t) r.To = _
    rw [lastTo_end (q :: t) r.To (by simp)]
    unfold endOf
    rw [List.getLast?_cons_cons]
theorem lastTo_next {l : List Rec} {i : Nat} {x : Rec} {e E : Int} (hx : l[i]? = some x) (h : lastTo (l.drop i) e = E) : lastTo (l.drop (i + 1)) x.To = E := by
  rw [drop_of_get hx, lastTo] at h; exact h
theorem lastTo_fin {l : List Rec} {i : Nat} {e E : Int} (hi : ¬ (i : Int) < l.length) (h : lastTo (l.drop i) e = E) : e = E := by
  rw [List.drop_eq_nil_of_le (by omega), lastTo] at h; exact h
theorem chain_endK : ∀ (l : List Rec) (a : Int), Chain a l → l ≠ [] → a + ((kindsOf l).length : Int) = endOf l
  | [], _, _, h => absurd rfl h
  | [r], a, ⟨c1, c2, _⟩, _ => by
    have := recErr_inv c2
    show a + (((List.replicate (r.To - r.From).toNat r.Kind ++ []).length : Nat) : Int) = r.To
    simp; omega
  | r :: q :: t, a, ⟨c1, c2, c3⟩, _ => by
    have := recErr_inv c2
    have ih := chain_endK (q :: t) r.To c3 (by simp)
    have e : kindsOf (r :: q :: t) = List.replicate (r.To - r.From).toNat r.Kind ++ kindsOf (q :: t) := rfl
    rw [e, List.length_append, List.length_replicate]
    have e2 : endOf (r :: q :: t) = endOf (q :: t) := by unfold endOf; rw [List.getLast?_cons_cons]
    rw [e2, ← ih]; omega
theorem ov_le {l : List Task} : ∀ (ks : List Int) (s : Spot) (m : Int) (F : F4) (B : Int), F.Le B → m + (ks.length : Int) ≤ B + 1 → (ov20 l ks s m F).2.Le B
  | [], _, _, _, _, h, _ => h
  | k :: t, s, m, F, B, h, hm => by
    rw [List.length_cons] at hm
    rw [ov20]
    exact ov_le t _ (m + 1) _ B (h.upd _ (by omega)) (by omega)
theorem last_one {l : List Rec} {a : Int} (h : Chain a l) : ∀ r, r ∈ l → 1 ≤ r.To := fun r hr => by have := recErr_inv (chain_all l a h r hr); omega
theorem lastTo_pos : ∀ (l : List Rec) (e : Int), 1 ≤ e → (∀ r, r ∈ l → 1 ≤ r.To) → 1 ≤ lastTo l e
  | [], e, h, _ => h
  | r :: t, e, h, hr => lastTo_pos t r.To (hr r (List.mem_cons_self ..)) fun q hq => hr q (List.mem_cons_of_mem _ hq)
theorem ways_range {l : List Task} {s : Spot} {R : List Rec} {f : Fnd} (hf : f ∈ (refT l s R).2) : (0 ≤ f.From ∧ f.From < f.To) ∧ (f.To ≤ 1 ∨ (R ≠ [] ∧ f.To ≤ endOf R)) := by
  unfold refT at hf
  split at hf
  case isFalse => cases hf
  rename_i he
  obtain ⟨hs, hr⟩ := chk_0 he
  have hc := chain_first hr
  have hbeg := begin_range hc
  rcases List.mem_append.1 hf with h | h
  · obtain ⟨c, h1, rfl⟩ := flN_mem.1 h
    have hle := ov_le (l := l) (kindsOf R) s (beginOf R) ⟨-1, -1, -1, -1⟩ (beginOf R + ((kindsOf R).length : Int) - 1) ⟨by simp only; omega, by simp only; omega, by simp only; omega, by simp only; omega⟩ (by omega)
    have hG : GF (ov20 l (kindsOf R) s (beginOf R) ⟨-1, -1, -1, -1⟩).2 c ≤ beginOf R + ((kindsOf R).length : Int) - 1 := by
      obtain ⟨a1, a2, a3, a4⟩ := hle
      unfold GF
      repeat' split
      all_goals omega
    refine ⟨⟨h1, by simp only; omega⟩, .inr ?_⟩
    have hne : R ≠ [] := by
      intro hR
      have hk : ((kindsOf R).length : Int) = 0 := by rw [hR]; rfl
      have hb0 : beginOf R = 0 := by rw [hR]; rfl
      omega
    have := chain_endK R _ hc hne
    exact ⟨hne, by simp only; omega⟩
  · split at h
    case isFalse => cases h
    rw [List.mem_singleton.1 h]
    unfold lastM
    by_cases hR : R = []
    · rw [if_pos hR]; exact ⟨by simp only; omega, .inl (by simp only; omega)⟩
    · rw [if_neg hR]
      have := endOf_pos hc hR
      exact ⟨⟨this, by simp only; omega⟩, .inr ⟨hR, by simp only; omega⟩⟩
theorem sortF_strict {l : List Fnd} (h : l.Pairwise fun f g => f.Clause < g.Clause) : sortF l = l := by
  refine strict_ext _ _ ?_ h fun g => sortF_mem
  have hs : (sortF l).Pairwise fun f g => f.Clause ≠ g.Clause := (List.mergeSort_perm _ _).pairwise_iff (fun h => Ne.symm h) |>.2 (h.imp fun h => by omega)
  have hle : (sortF l).Pairwise fun f g => (!(Go.Proofs.ltOf ordF) g f) = true := by
    apply List.pairwise_mergeSort
    · intro a b c h1 h2
      have := ordF_swo.ntrans c b a
      simp only [Bool.not_eq_true'] at *
      exact this h2 h1
    · intro a b
      simp only [Bool.or_eq_true, Bool.not_eq_true']
      cases h1 : Go.Proofs.ltOf ordF b a with
      | false => exact .inl rfl
      | true =>
        right
        cases h2 : Go.Proofs.ltOf ordF a b with
        | false => rfl
        | true =>
          have := ordF_swo.trans a b a h2 h1
          rw [ordF_swo.irrefl] at this; cases this
  refine (hs.and hle).imp ?_
  rintro a b ⟨h1, h2⟩
  simp only [Bool.not_eq_true'] at h2
  rw [ordF_lt] at h2
  simp only [decide_eq_false_iff_not] at h2
  omega
/-- What is found of a case rises, and lies within. -/
theorem case_range {c : Case} (he : caseE c = 0) {f : Fnd} (hf : f ∈ caseF c) : (0 ≤ f.Clause ∧ f.Clause < 16) ∧ (0 ≤ f.From ∧ f.From < f.To) ∧ f.To ≤ lastTo c.whole 1 := by
  unfold caseF at hf
  rw [if_pos he, sortF_strict (case_strict c)] at hf
  refine ⟨case_cl hf, ?_⟩
  have hd : dutyErr c.Book c.whole = 0 := by
    unfold caseE at he
    by_cases h1 : caseErr c = 0
    · rw [if_neg (by omega)] at he
      by_cases h2 : dutyErr c.Book c.whole = 0
      · exact h2
      · rw [if_pos h2] at he; exact he
    · rw [if_pos h1] at he; exact absurd he h1
  obtain ⟨_, _, _, hch⟩ := dutyErr_0 hd
  have hpos := lastTo_pos c.whole 1 (Int.le_refl _) (last_one hch)
  have hpl : c.Plan ≠ [] → lastTo c.whole 1 = endOf c.Plan := by
    intro hp
    unfold Case.whole
    rw [lastTo_app, lastTo_end _ _ hp]
  have hend : endOf c.whole ≤ lastTo c.whole 1 := by
    by_cases hw : c.whole = []
    · rw [hw]; decide
    · rw [lastTo_end _ _ hw]; exact Int.le_refl _
  unfold caseL at hf
  rcases List.mem_append.1 hf with h | h
  · have := audit_range hd h
    exact ⟨this.1, by omega⟩
  rcases List.mem_append.1 h with h | h
  · rw [aud_ref] at h
    have := ways_range h
    refine ⟨this.1, ?_⟩
    rcases this.2 with h | ⟨h1, h2⟩
    · omega
    · rw [hpl h1]; exact h2
  · unfold loadF at h
    split at h
    · cases h
    rw [List.mem_singleton.1 h]
    unfold planAt
    by_cases hs : spanOk c.Plan = true
    · rw [if_pos hs]
      unfold spanOk at hs
      simp only [Bool.and_eq_true, decide_eq_true_eq] at hs
      have hne : c.Plan ≠ [] := by intro e; rw [e] at hs; exact hs.2 rfl
      have hc := chain_first hs.1
      have hb := begin_range hc
      have hk := chain_endK c.Plan _ hc hne
      have hlen : 1 ≤ ((kindsOf c.Plan).length : Int) := by
        cases hp : c.Plan with
        | nil => exact absurd hp hne
        | cons r t =>
          rw [hp] at hc
          have := recErr_inv hc.2.1
          have e : kindsOf (r :: t) = List.replicate (r.To - r.From).toNat r.Kind ++ kindsOf t := rfl
          rw [e, List.length_append, List.length_replicate]; omega
      rw [hpl hne]
      exact ⟨⟨hb.1, by simp only; omega⟩, by simp only; omega⟩
    · rw [if_neg hs]
      exact ⟨by simp only; omega, by simp only; omega⟩
theorem case_lt {c : Case} : (caseF c).Pairwise fun f g => f.Clause < g.Clause := by
  unfold caseF
  split
  · rw [sortF_strict (case_strict c)]; exact case_strict c
  · exact List.Pairwise.nil
theorem caseF_len (c : Case) : ((caseF c).length : Int) ≤ 16 := by
  unfold caseF
  split
  · rw [sortF_strict (case_strict c)]; exact case_len c
  · decide

/-! ### The laws -/
set_option maxRecDepth 100000 in
set_option maxHeartbeats 4000000 in
theorem verdictAll_ok (c : Case) : ICalls Tryz.prog 3 [c.g] [] (Done (gb true) []) := by
  have h0 := light_ok c.Tasks
  by_cases hl : c.Light
  case neg =>
    have hn : 60 < (c.Past.length : Int) ∨ 60 < (c.Plan.length : Int) ∨ 100 < (c.Loads.length : Int) := by
      by_cases a : (c.Past.length : Int) ≤ 60
      · by_cases b : (c.Plan.length : Int) ≤ 60
        · by_cases d : (c.Loads.length : Int) ≤ 100
          · exact absurd ⟨a, b, d⟩ hl
          · omega
        · omega
      · omega
    generalize lightB c.Tasks = lb at *
    cases lb <;>
    {
    refine ICalls.of_body Tryz.func3 rfl Tryz.call3 rfl (Nat.le_of_ble_eq_true rfl) (fun _ => none) rfl ?_
    repeat' ((conv => whnf); first
      | refine Br.yes rfl ?_
      | refine Br.no rfl ?_
      | refine Br.yes (beq_self_eq_true _) ?_
      | refine Br.not ?_
      | refine Br.yes (decide_eq_true (by assumption)) ?_
      | refine Br.no (decide_eq_false (by assumption)) ?_
      | refine Br.yes (beq_iff_eq.2 (by assumption)) ?_
      | refine Br.no (beq_eq_false_iff_ne.2 (by assumption)) ?_
      | refine Br.yes (bne_iff_ne.2 (by assumption)) ?_
      | (refine Br.dec (fun h => ?_) (fun h => ?_) <;> try dsimp only at h)
      | (refine Br.beqI (fun h => ?_) (fun h => ?_) <;> try dsimp only at h)
      | (refine Br.bneI (fun h => ?_) (fun h => ?_) <;> try dsimp only at h)
      | refine Br.mk (fun h => ?_) (fun h => ?_)
      | refine Need.mk (by first | kernel_rfl | exact ⟨of_decide_eq_true rfl, of_decide_eq_true rfl⟩ | omega) ?_
      | refine Len.mk ⟨_, by simp only [List.length_cons, List.length_nil, Nat.reduceAdd, Int.cast_ofNat_Int]; rfl, ?_⟩
      | refine Wr.lit _ (by simp only [Int.reduceAdd, Int.reduceSub, Int.reduceMul]; rfl) (by decide) ?_
      | refine Wr.fit (by omega) ?_
      | refine Wr.fit (by dsimp only; omega) ?_
      | refine Elem.mk ⟨_, ⟨of_decide_eq_true rfl, rfl⟩, ?_⟩
      | refine Len.map ?_
      | refine Len.dropM ?_
      | refine Elem.dropM ?_
      | refine Len.takeM ?_
      | refine Elem.takeM ?_
      | refine Elem.mapK (by assumption) ?_
      | refine Elem.mapI (by omega) (by assumption) ?_
      | refine Elem.mapN (by omega) (fun x hx => ?_)
      | refine Elem.map (by omega) (by omega) (fun x hx => ?_)
      | refine (h0).use ⟨rfl, ?_⟩
      | refine (alive22_ok).use ⟨rfl, ?_⟩
      | refine CallX.mk ⟨_, _, (h0).x, rfl, ?_⟩
      | refine CallX.mk ⟨_, _, (alive22_ok).x, rfl, ?_⟩
      | refine Done.mk ⟨rfl, rfl⟩
      | refine Done.mk ⟨congrArg gb ?_, rfl⟩
      | refine Done.mk ⟨?_, rfl⟩
      | refine Done.mk ⟨?_, ?_⟩)
    all_goals omega
    }
  case pos =>
    have hw := whole_len hl
    have h1 := refWhole_ok c hl
    have h2 := accepts_ok c.Book c.whole (by omega)
    have h3 := follows_ok c.Tasks c.Spot c.Plan (by have := hl.plan; omega)
    have h4 := fits21_ok c.Room c.Loads (by have := hl.loads; omega)
    have h5 := passes_ok c hl
    rw [case_pass] at h5
    generalize accB c.Book c.whole = b1 at *
    generalize (decide (chk20 c.Tasks c.Spot c.Plan = 0) && decide ((audT c.Tasks c.Spot c.Plan).2 = [])) = b2 at *
    generalize fitsL c.Room c.Loads = b3 at *
    generalize lightB c.Tasks = lb at *
    generalize c.whole = w at *
    have hl1 := hl.past
    have hl2 := hl.plan
    have hl3 := hl.loads
    clear hl hw
    cases lb
    case false =>
      refine ICalls.of_body Tryz.func3 rfl Tryz.call3 rfl (Nat.le_of_ble_eq_true rfl) (fun _ => none) rfl ?_
      repeat' ((conv => whnf); first
        | refine Br.yes rfl ?_
        | refine Br.no rfl ?_
        | refine Br.yes (beq_self_eq_true _) ?_
        | refine Br.not ?_
        | refine Br.yes (decide_eq_true (by assumption)) ?_
        | refine Br.no (decide_eq_false (by assumption)) ?_
        | refine Br.yes (beq_iff_eq.2 (by assumption)) ?_
        | refine Br.no (beq_eq_false_iff_ne.2 (by assumption)) ?_
        | refine Br.yes (bne_iff_ne.2 (by assumption)) ?_
        | (refine Br.dec (fun h => ?_) (fun h => ?_) <;> try dsimp only at h)
        | (refine Br.beqI (fun h => ?_) (fun h => ?_) <;> try dsimp only at h)
        | (refine Br.bneI (fun h => ?_) (fun h => ?_) <;> try dsimp only at h)
        | refine Br.mk (fun h => ?_) (fun h => ?_)
        | refine Need.mk (by first | kernel_rfl | exact ⟨of_decide_eq_true rfl, of_decide_eq_true rfl⟩ | omega) ?_
        | refine Len.mk ⟨_, by simp only [List.length_cons, List.length_nil, Nat.reduceAdd, Int.cast_ofNat_Int]; rfl, ?_⟩
        | refine Wr.lit _ (by simp only [Int.reduceAdd, Int.reduceSub, Int.reduceMul]; rfl) (by decide) ?_
        | refine Wr.fit (by omega) ?_
        | refine Wr.fit (by dsimp only; omega) ?_
        | refine Elem.mk ⟨_, ⟨of_decide_eq_true rfl, rfl⟩, ?_⟩
        | refine Len.map ?_
        | refine Len.dropM ?_
        | refine Elem.dropM ?_
        | refine Len.takeM ?_
        | refine Elem.takeM ?_
        | refine Elem.mapK (by assumption) ?_
        | refine Elem.mapI (by omega) (by assumption) ?_
        | refine Elem.mapN (by omega) (fun x hx => ?_)
        | refine Elem.map (by omega) (by omega) (fun x hx => ?_)
        | refine (h0).use ⟨rfl, ?_⟩
        | refine (alive22_ok).use ⟨rfl, ?_⟩
        | refine CallX.mk ⟨_, _, (h0).x, rfl, ?_⟩
        | refine CallX.mk ⟨_, _, (alive22_ok).x, rfl, ?_⟩
        | refine Done.mk ⟨rfl, rfl⟩
        | refine Done.mk ⟨congrArg gb ?_, rfl⟩
        | refine Done.mk ⟨?_, rfl⟩
        | refine Done.mk ⟨?_, ?_⟩)
      all_goals omega
    case true =>
      cases b1 <;> cases b2 <;> cases b3 <;>
      {
      refine ICalls.of_body Tryz.func3 rfl Tryz.call3 rfl (Nat.le_of_ble_eq_true rfl) (fun _ => none) rfl ?_
      repeat' ((conv => whnf); first
        | refine Br.yes rfl ?_
        | refine Br.no rfl ?_
        | refine Br.yes (beq_self_eq_true _) ?_
        | refine Br.not ?_
        | refine Br.yes (decide_eq_true (by assumption)) ?_
        | refine Br.no (decide_eq_false (by assumption)) ?_
        | refine Br.yes (beq_iff_eq.2 (by assumption)) ?_
        | refine Br.no (beq_eq_false_iff_ne.2 (by assumption)) ?_
        | refine Br.yes (bne_iff_ne.2 (by assumption)) ?_
        | (refine Br.dec (fun h => ?_) (fun h => ?_) <;> try dsimp only at h)
        | (refine Br.beqI (fun h => ?_) (fun h => ?_) <;> try dsimp only at h)
        | (refine Br.bneI (fun h => ?_) (fun h => ?_) <;> try dsimp only at h)
        | refine Br.mk (fun h => ?_) (fun h => ?_)
        | refine Need.mk (by first | kernel_rfl | exact ⟨of_decide_eq_true rfl, of_decide_eq_true rfl⟩ | omega) ?_
        | refine Len.mk ⟨_, by simp only [List.length_cons, List.length_nil, Nat.reduceAdd, Int.cast_ofNat_Int]; rfl, ?_⟩
        | refine Wr.lit _ (by simp only [Int.reduceAdd, Int.reduceSub, Int.reduceMul]; rfl) (by decide) ?_
        | refine Wr.fit (by omega) ?_
        | refine Wr.fit (by dsimp only; omega) ?_
        | refine Elem.mk ⟨_, ⟨of_decide_eq_true rfl, rfl⟩, ?_⟩
        | refine Len.map ?_
        | refine Len.dropM ?_
        | refine Elem.dropM ?_
        | refine Len.takeM ?_
        | refine Elem.takeM ?_
        | refine Elem.mapK (by assumption) ?_
        | refine Elem.mapI (by omega) (by assumption) ?_
        | refine Elem.mapN (by omega) (fun x hx => ?_)
        | refine Elem.map (by omega) (by omega) (fun x hx => ?_)
        | refine (h0).use ⟨rfl, ?_⟩
        | refine (h1).use ⟨rfl, ?_⟩
        | refine (h2).use ⟨rfl, ?_⟩
        | refine (h3).use ⟨rfl, ?_⟩
        | refine (h4).use ⟨rfl, ?_⟩
        | refine (h5).use ⟨rfl, ?_⟩
        | refine (alive22_ok).use ⟨rfl, ?_⟩
        | refine CallX.mk ⟨_, _, (h0).x, rfl, ?_⟩
        | refine CallX.mk ⟨_, _, (h1).x, rfl, ?_⟩
        | refine CallX.mk ⟨_, _, (h2).x, rfl, ?_⟩
        | refine CallX.mk ⟨_, _, (h3).x, rfl, ?_⟩
        | refine CallX.mk ⟨_, _, (h4).x, rfl, ?_⟩
        | refine CallX.mk ⟨_, _, (h5).x, rfl, ?_⟩
        | refine CallX.mk ⟨_, _, (alive22_ok).x, rfl, ?_⟩
        | refine Done.mk ⟨rfl, rfl⟩
        | refine Done.mk ⟨congrArg gb ?_, rfl⟩
        | refine Done.mk ⟨?_, rfl⟩
        | refine Done.mk ⟨?_, ?_⟩)
      all_goals omega
      }

def pl_Y5_2 : Nat → Option (List Nat × List Nat) := (fun k => bif Nat.beq k 8 then some ([1000008, 3, 5, 52, 53, 54], []) else bif Nat.beq k 13 then some ([1000013, 3, 5, 61, 62, 63], []) else none)
def pl_Y5_3 : Nat → Option (List Nat × List Nat) := (fun k => bif Nat.beq k 8 then some ([1000008, 3, 5, 52, 53, 54], []) else bif Nat.beq k 13 then some ([1000013, 3, 5, 61, 62, 63], []) else none)
def pl_Y5_4 : Nat → Option (List Nat × List Nat) := (fun k => bif Nat.beq k 8 then some ([1000008, 3, 5, 52, 53, 54], []) else bif Nat.beq k 13 then some ([1000013, 3, 5, 61, 62, 63], []) else none)
def pl_Y5_5 : Nat → Option (List Nat × List Nat) := (fun k => bif Nat.beq k 8 then some ([1000008, 3, 5, 52, 53, 54], []) else bif Nat.beq k 13 then some ([1000013, 3, 5, 61, 62, 63], []) else none)
set_option maxRecDepth 100000 in
set_option maxHeartbeats 4000000 in
theorem verdictRising_ok (c : Case) : ICalls Tryz.prog 4 [c.g] [] (Done (gb true) []) := by
  have h0 := light_ok c.Tasks
  by_cases hl : c.Light
  case neg =>
    have hn : 60 < (c.Past.length : Int) ∨ 60 < (c.Plan.length : Int) ∨ 100 < (c.Loads.length : Int) := by
      by_cases a : (c.Past.length : Int) ≤ 60
      · by_cases b : (c.Plan.length : Int) ≤ 60
        · by_cases d : (c.Loads.length : Int) ≤ 100
          · exact absurd ⟨a, b, d⟩ hl
          · omega
        · omega
      · omega
    generalize lightB c.Tasks = lb at *
    cases lb <;>
    {
    refine ICalls.of_body Tryz.func4 rfl Tryz.call4 rfl (Nat.le_of_ble_eq_true rfl) pl_Y5_2 rfl ?_
    repeat' ((conv => whnf); first
      | refine Br.yes rfl ?_
      | refine Br.no rfl ?_
      | refine Br.yes (beq_self_eq_true _) ?_
      | refine Br.not ?_
      | refine Br.yes (decide_eq_true (by assumption)) ?_
      | refine Br.no (decide_eq_false (by assumption)) ?_
      | refine Br.yes (beq_iff_eq.2 (by assumption)) ?_
      | refine Br.no (beq_eq_false_iff_ne.2 (by assumption)) ?_
      | refine Br.yes (bne_iff_ne.2 (by assumption)) ?_
      | (refine Br.dec (fun h => ?_) (fun h => ?_) <;> try dsimp only at h)
      | (refine Br.beqI (fun h => ?_) (fun h => ?_) <;> try dsimp only at h)
      | (refine Br.bneI (fun h => ?_) (fun h => ?_) <;> try dsimp only at h)
      | refine Br.mk (fun h => ?_) (fun h => ?_)
      | refine Need.mk (by first | kernel_rfl | exact ⟨of_decide_eq_true rfl, of_decide_eq_true rfl⟩ | omega) ?_
      | refine Len.mk ⟨_, by simp only [List.length_cons, List.length_nil, Nat.reduceAdd, Int.cast_ofNat_Int]; rfl, ?_⟩
      | refine Wr.lit _ (by simp only [Int.reduceAdd, Int.reduceSub, Int.reduceMul]; rfl) (by decide) ?_
      | refine Wr.fit (by omega) ?_
      | refine Wr.fit (by dsimp only; omega) ?_
      | refine Elem.mk ⟨_, ⟨of_decide_eq_true rfl, rfl⟩, ?_⟩
      | refine Len.map ?_
      | refine Len.dropM ?_
      | refine Elem.dropM ?_
      | refine Len.takeM ?_
      | refine Elem.takeM ?_
      | refine Elem.mapK (by assumption) ?_
      | refine Elem.mapI (by omega) (by assumption) ?_
      | refine Elem.mapN (by omega) (fun x hx => ?_)
      | refine Elem.map (by omega) (by omega) (fun x hx => ?_)
      | refine (h0).use ⟨rfl, ?_⟩
      | refine (alive22_ok).use ⟨rfl, ?_⟩
      | refine CallX.mk ⟨_, _, (h0).x, rfl, ?_⟩
      | refine CallX.mk ⟨_, _, (alive22_ok).x, rfl, ?_⟩
      | refine Done.mk ⟨rfl, rfl⟩
      | refine Done.mk ⟨congrArg gb ?_, rfl⟩
      | refine Done.mk ⟨?_, rfl⟩
      | refine Done.mk ⟨?_, ?_⟩)
    all_goals omega
    }
  case pos =>
    have hw := whole_len hl
    have h1 := refWhole_ok c hl
    have h2 := vAudit_ok c hl
    have h5 := passes_ok c hl
    have hl1 := hl.past
    have hl2 := hl.plan
    have hl3 := hl.loads
    generalize lightB c.Tasks = lb at *
    cases lb
    case false =>
      refine ICalls.of_body Tryz.func4 rfl Tryz.call4 rfl (Nat.le_of_ble_eq_true rfl) pl_Y5_3 rfl ?_
      repeat' ((conv => whnf); first
        | refine Br.yes rfl ?_
        | refine Br.no rfl ?_
        | refine Br.yes (beq_self_eq_true _) ?_
        | refine Br.not ?_
        | refine Br.yes (decide_eq_true (by assumption)) ?_
        | refine Br.no (decide_eq_false (by assumption)) ?_
        | refine Br.yes (beq_iff_eq.2 (by assumption)) ?_
        | refine Br.no (beq_eq_false_iff_ne.2 (by assumption)) ?_
        | refine Br.yes (bne_iff_ne.2 (by assumption)) ?_
        | (refine Br.dec (fun h => ?_) (fun h => ?_) <;> try dsimp only at h)
        | (refine Br.beqI (fun h => ?_) (fun h => ?_) <;> try dsimp only at h)
        | (refine Br.bneI (fun h => ?_) (fun h => ?_) <;> try dsimp only at h)
        | refine Br.mk (fun h => ?_) (fun h => ?_)
        | refine Need.mk (by first | kernel_rfl | exact ⟨of_decide_eq_true rfl, of_decide_eq_true rfl⟩ | omega) ?_
        | refine Len.mk ⟨_, by simp only [List.length_cons, List.length_nil, Nat.reduceAdd, Int.cast_ofNat_Int]; rfl, ?_⟩
        | refine Wr.lit _ (by simp only [Int.reduceAdd, Int.reduceSub, Int.reduceMul]; rfl) (by decide) ?_
        | refine Wr.fit (by omega) ?_
        | refine Wr.fit (by dsimp only; omega) ?_
        | refine Elem.mk ⟨_, ⟨of_decide_eq_true rfl, rfl⟩, ?_⟩
        | refine Len.map ?_
        | refine Len.dropM ?_
        | refine Elem.dropM ?_
        | refine Len.takeM ?_
        | refine Elem.takeM ?_
        | refine Elem.mapK (by assumption) ?_
        | refine Elem.mapI (by omega) (by assumption) ?_
        | refine Elem.mapN (by omega) (fun x hx => ?_)
        | refine Elem.map (by omega) (by omega) (fun x hx => ?_)
        | refine (h0).use ⟨rfl, ?_⟩
        | refine (alive22_ok).use ⟨rfl, ?_⟩
        | refine CallX.mk ⟨_, _, (h0).x, rfl, ?_⟩
        | refine CallX.mk ⟨_, _, (alive22_ok).x, rfl, ?_⟩
        | refine Done.mk ⟨rfl, rfl⟩
        | refine Done.mk ⟨congrArg gb ?_, rfl⟩
        | refine Done.mk ⟨?_, rfl⟩
        | refine Done.mk ⟨?_, ?_⟩)
      all_goals omega
    case true =>
    by_cases he : caseE c = 0
    case neg =>
      have hF : caseF c = [] := if_neg he
      rw [hF] at h2
      rw [decide_eq_false he, Bool.false_and] at h5
      generalize caseE c = e at *
      clear hl hw
      refine ICalls.of_body Tryz.func4 rfl Tryz.call4 rfl (Nat.le_of_ble_eq_true rfl) pl_Y5_4 rfl ?_
      repeat' ((conv => whnf); first
        | refine Br.yes rfl ?_
        | refine Br.no rfl ?_
        | refine Br.yes (beq_self_eq_true _) ?_
        | refine Br.not ?_
        | refine Br.yes (decide_eq_true (by assumption)) ?_
        | refine Br.no (decide_eq_false (by assumption)) ?_
        | refine Br.yes (beq_iff_eq.2 (by assumption)) ?_
        | refine Br.no (beq_eq_false_iff_ne.2 (by assumption)) ?_
        | refine Br.yes (bne_iff_ne.2 (by assumption)) ?_
        | (refine Br.dec (fun h => ?_) (fun h => ?_) <;> try dsimp only at h)
        | (refine Br.beqI (fun h => ?_) (fun h => ?_) <;> try dsimp only at h)
        | (refine Br.bneI (fun h => ?_) (fun h => ?_) <;> try dsimp only at h)
        | refine Br.mk (fun h => ?_) (fun h => ?_)
        | refine Need.mk (by first | kernel_rfl | exact ⟨of_decide_eq_true rfl, of_decide_eq_true rfl⟩ | omega) ?_
        | refine Len.mk ⟨_, by simp only [List.length_cons, List.length_nil, Nat.reduceAdd, Int.cast_ofNat_Int]; rfl, ?_⟩
        | refine Wr.lit _ (by simp only [Int.reduceAdd, Int.reduceSub, Int.reduceMul]; rfl) (by decide) ?_
        | refine Wr.fit (by omega) ?_
        | refine Wr.fit (by dsimp only; omega) ?_
        | refine Elem.mk ⟨_, ⟨of_decide_eq_true rfl, rfl⟩, ?_⟩
        | refine Len.map ?_
        | refine Len.dropM ?_
        | refine Elem.dropM ?_
        | refine Len.takeM ?_
        | refine Elem.takeM ?_
        | refine Elem.mapK (by assumption) ?_
        | refine Elem.mapI (by omega) (by assumption) ?_
        | refine Elem.mapN (by omega) (fun x hx => ?_)
        | refine Elem.map (by omega) (by omega) (fun x hx => ?_)
        | refine (h0).use ⟨rfl, ?_⟩
        | refine (h2).use ⟨rfl, ?_⟩
        | refine (h5).use ⟨rfl, ?_⟩
        | refine (alive22_ok).use ⟨rfl, ?_⟩
        | refine CallX.mk ⟨_, _, (h0).x, rfl, ?_⟩
        | refine CallX.mk ⟨_, _, (h2).x, rfl, ?_⟩
        | refine CallX.mk ⟨_, _, (h5).x, rfl, ?_⟩
        | refine CallX.mk ⟨_, _, (alive22_ok).x, rfl, ?_⟩
        | refine Done.mk ⟨rfl, rfl⟩
        | refine Done.mk ⟨congrArg gb ?_, rfl⟩
        | refine Done.mk ⟨?_, rfl⟩
        | refine Done.mk ⟨?_, ?_⟩)
      all_goals first | omega | rfl
    case pos =>
      have hr := fun f hf => case_range he (f := f) hf
      have hlt := case_lt (c := c)
      have hfl := caseF_len c
      have hpw : ∀ (i : Nat) (u f : Fnd), (caseF c)[((i : Int) - 1).toNat]? = some u → (caseF c)[i]? = some f → 0 < (i : Int) → u.Clause < f.Clause := by
        intro i u v hu hv hi
        obtain ⟨h1, rfl⟩ := List.getElem?_eq_some_iff.1 hu
        obtain ⟨h2, rfl⟩ := List.getElem?_eq_some_iff.1 hv
        exact List.pairwise_iff_getElem.1 hlt _ _ h1 h2 (by omega)
      rw [he] at h2
      generalize caseF c = F at *
      generalize hE : lastTo c.whole 1 = E at *
      generalize c.whole = w at *
      clear hl he h5 hlt
      refine ICalls.of_body Tryz.func4 rfl Tryz.call4 rfl (Nat.le_of_ble_eq_true rfl) pl_Y5_5 rfl ?_
      repeat' ((conv => whnf); first
        | refine Br.yes rfl ?_
        | refine Br.no rfl ?_
        | (refine Elem.mapK (by assumption) ?_)
        | (refine Elem.mapI (by omega) (by assumption) ?_)
        | (refine Elem.mapN (by omega) (fun f hx => ?_); have hf := hr f (List.mem_of_getElem? hx))
        | (refine Elem.mapN (by omega) (fun r hx => ?_))
        | (refine Elem.map (by omega) (by omega) (fun u hu => ?_); have huf := hpw i u f hu hx (by omega))
        | (refine ILoop.ov 1000013 (fun (i : Nat) => [(63, gi i)]) (fun (i : Nat) => []) (fun (i : Nat) => i ≤ F.length) (fun (i : Nat) => F.length - i) (0) (by exact rfl) ?_; (conv => whnf); refine Start.mk rfl ?_ ?_; (try dsimp only); rotate_left; rintro i hi)
        | (refine Again.mk ⟨(i + 1), rfl, ?_, ?_⟩ <;> try dsimp only)
        | (refine ILoop.ov 1000008 (fun ((i, e) : Nat × Int) => [(54, gi i), (5, gi e)]) (fun ((i, e) : Nat × Int) => []) (fun ((i, e) : Nat × Int) => i ≤ w.length ∧ lastTo (w.drop i) e = E) (fun ((i, e) : Nat × Int) => w.length - i) ((0, 1)) (by exact rfl) ?_; (conv => whnf); refine Start.mk rfl ?_ ?_; (try dsimp only); rotate_left; rintro ⟨i, e⟩ ⟨hi, hq⟩; (have hfin := fun h => lastTo_fin (l := w) (i := i) (e := e) (E := E) h hq))
        | (refine Again.mk ⟨((i + 1, r.To)), rfl, ?_, ?_⟩ <;> try dsimp only)
        | refine Br.yes (beq_self_eq_true _) ?_
        | refine Br.not ?_
        | refine Br.yes (decide_eq_true (by assumption)) ?_
        | refine Br.no (decide_eq_false (by assumption)) ?_
        | refine Br.yes (beq_iff_eq.2 (by assumption)) ?_
        | refine Br.no (beq_eq_false_iff_ne.2 (by assumption)) ?_
        | refine Br.yes (bne_iff_ne.2 (by assumption)) ?_
        | (refine Br.dec (fun h => ?_) (fun h => ?_) <;> try dsimp only at h)
        | (refine Br.beqI (fun h => ?_) (fun h => ?_) <;> try dsimp only at h)
        | (refine Br.bneI (fun h => ?_) (fun h => ?_) <;> try dsimp only at h)
        | refine Br.mk (fun h => ?_) (fun h => ?_)
        | refine Need.mk (by first | kernel_rfl | exact ⟨of_decide_eq_true rfl, of_decide_eq_true rfl⟩ | omega) ?_
        | refine Len.mk ⟨_, by simp only [List.length_cons, List.length_nil, Nat.reduceAdd, Int.cast_ofNat_Int]; rfl, ?_⟩
        | refine Wr.lit _ (by simp only [Int.reduceAdd, Int.reduceSub, Int.reduceMul]; rfl) (by decide) ?_
        | refine Wr.fit (by omega) ?_
        | refine Wr.fit (by dsimp only; omega) ?_
        | refine Elem.mk ⟨_, ⟨of_decide_eq_true rfl, rfl⟩, ?_⟩
        | refine Len.map ?_
        | refine Len.dropM ?_
        | refine Elem.dropM ?_
        | refine Len.takeM ?_
        | refine Elem.takeM ?_
        | refine Elem.mapK (by assumption) ?_
        | refine Elem.mapI (by omega) (by assumption) ?_
        | refine Elem.mapN (by omega) (fun x hx => ?_)
        | refine Elem.map (by omega) (by omega) (fun x hx => ?_)
        | refine (h0).use ⟨rfl, ?_⟩
        | refine (h1).use ⟨rfl, ?_⟩
        | refine (h2).use ⟨rfl, ?_⟩
        | refine (alive22_ok).use ⟨rfl, ?_⟩
        | refine CallX.mk ⟨_, _, (h0).x, rfl, ?_⟩
        | refine CallX.mk ⟨_, _, (h1).x, rfl, ?_⟩
        | refine CallX.mk ⟨_, _, (h2).x, rfl, ?_⟩
        | refine CallX.mk ⟨_, _, (alive22_ok).x, rfl, ?_⟩
        | refine Done.mk ⟨rfl, rfl⟩
        | refine Done.mk ⟨congrArg gb ?_, rfl⟩
        | refine Done.mk ⟨?_, rfl⟩
        | refine Done.mk ⟨?_, ?_⟩)
      all_goals first
        | omega
        | exact ⟨by omega, lastTo_next hx hq⟩
        | exact ⟨by omega, hE⟩

theorem case_of {g : GV} (h : ArgOk (.agg [bookTy, .list recTy, .list recTy, .list taskTy, spotTy, .list .int, .int]) g) : ∃ c : Case, g = c.g := by
  obtain ⟨cs, rfl, hw⟩ := h.1 rfl
  obtain ⟨a, r, rfl, ha, hr⟩ := hw
  obtain ⟨x, rfl, hx⟩ := book_wt ha
  obtain ⟨p, r, rfl, _, hr⟩ := WTs.list el_rec hr
  obtain ⟨q, r, rfl, _, hr⟩ := WTs.list el_rec hr
  obtain ⟨t, r, rfl, _, hr⟩ := WTs.list el_task hr
  obtain ⟨sc, r2, rfl, hs, hr2⟩ := WTs.agg hr
  obtain ⟨s, rfl, _⟩ := spot_wt sc hs
  obtain ⟨ld, r3, rfl, _, hr3⟩ := WTs.list el_int hr2
  obtain ⟨n, r4, rfl, _, hr4⟩ := WTs.int hr3
  cases WTs.nil hr4
  exact ⟨⟨x, p, q, t, s, ld, n⟩, rfl⟩
theorem verdictAll_law (g0 : GV) (h0 : ArgOk (.agg [bookTy, .list recTy, .list recTy, .list taskTy, spotTy, .list .int, .int]) g0) :
    ICalls Tryz.prog 3 [g0] [] (Done (gb true) []) := by
  obtain ⟨c, rfl⟩ := case_of h0
  exact verdictAll_ok c
theorem verdictRising_law (g0 : GV) (h0 : ArgOk (.agg [bookTy, .list recTy, .list recTy, .list taskTy, spotTy, .list .int, .int]) g0) :
    ICalls Tryz.prog 4 [g0] [] (Done (gb true) []) := by
  obtain ⟨c, rfl⟩ := case_of h0
  exact verdictRising_ok c

end Go.Hl
