/- Ghost values and walks, bundle Gh11c; proved for whatever the arguments' types allow, as each theorem says. -/
import Derived.Test.YtoofplbjpkgdgaaGh11b

/- A statement whose order is open, the end: one walk in the order of the text serves every order. -/
set_option linter.unusedVariables false
set_option linter.unusedSimpArgs false
namespace Go.Gh

theorem heapApart_ok {a b : Nat} {da db : Bool} (h : heapApart a b da db = true) :
    (¬ (a = 3 ∧ (b = 1 ∨ b = 3)) ∧ ¬ (b = 3 ∧ a = 1) ∧ ¬ (a = 4 ∧ b = 4)) ∧ (a = 5 → b = 0) ∧ (b = 5 → a = 0) ∧ ((a = 2 ∨ a = 4) → (b = 2 ∨ b = 4) → da = true ∧ db = true) := by
  unfold heapApart at h
  have e : ∀ x y : Nat, Nat.beq x y = decide (x = y) := fun x y => by
    cases hb : Nat.beq x y with
    | true => simp [Nat.eq_of_beq_eq_true hb]
    | false =>
      have : x ≠ y := fun e => by subst e; simp at hb
      simp [this]
  have e2 : ∀ x y : Nat, Nat.ble x y = decide (x ≤ y) := fun x y => by
    cases hb : Nat.ble x y with
    | true => simp [Nat.le_of_ble_eq_true hb]
    | false =>
      have : ¬ x ≤ y := fun hle => by rw [Nat.ble_eq_true_of_le hle] at hb; cases hb
      simp [this]
  simp only [e, e2, Bool.and_eq_true, Bool.not_eq_true', Bool.or_eq_false_iff, Bool.and_eq_false_iff, decide_eq_false_iff_not, Bool.or_eq_true, Bool.or_eq_false_iff] at h
  refine ⟨⟨?_, ?_, ?_⟩, ?_, ?_, ?_⟩
  · rintro ⟨h1, h2⟩; omega
  · rintro ⟨h1, h2⟩; omega
  · rintro ⟨h1, h2⟩; omega
  · intro h1; omega
  · intro h1; omega
  · intro h1 h2
    rcases h.2 with ⟨h3, h4⟩ | h3
    · exact ⟨h3, h4⟩
    · omega

section
variable {P : Program} {N : Nat} {all : List Oper} {ms : List Nat} {wl : List (Nat × Nat)}

theorem gStep_data {i : Nat} {o : Oper} {s s1 : GS} (h : gStep P N all ms wl i o s s1) :
    ∃ x hp1, s1 = putG s o.dst x hp1 ∧
      ((∃ u rk, St (hcls (pcOf ms i 0 all) o) (forbA all ms wl i) (100 + o.dst.getD 0) s.hp u rk ∧ hp1 = updH s.hp u ∧ (∀ k q, wGet wl i = some k → hcls (pcOf ms i 0 all) o = 3 → rk = some q → q = k) ∧
          ∀ s' : GS, (∀ y, y ∈ o.op.operands → gev s'.env y = gev s.env y) → wantedG all s'.env o = wantedG all s.env o → (∀ k, rk = some k → s'.hp k = s.hp k) → gStep P N all ms wl i o s' (putG s' o.dst x (updH s'.hp u))) ∨
       (hcls (pcOf ms i 0 all) o = 5 ∧ ∀ s' : GS, (∀ y, y ∈ o.op.operands → gev s'.env y = gev s.env y) → wantedG all s'.env o = wantedG all s.env o → s'.hp = s.hp → gStep P N all ms wl i o s' (putG s' o.dst x hp1)) ∨
       (isCall o = true ∧ badOf ms i 0 all = false ∧ (rdOf ms i 0 all = true → hp1 = s.hp) ∧ (∀ k, (forbA all ms wl i).elem k = true → hp1 k = s.hp k) ∧
          (∀ s' : GS, (∀ y, y ∈ o.op.operands → gev s'.env y = gev s.env y) → wantedG all s'.env o = wantedG all s.env o → s'.hp = s.hp → gStep P N all ms wl i o s' (putG s' o.dst x hp1)) ∧
          (∀ (s' : GS) (k : Nat) (b : GB), (∀ y, y ∈ o.op.operands → gev s'.env y = gev s.env y) → wantedG all s'.env o = wantedG all s.env o → (forbA all ms wl i).elem k = true → s'.hp = setH s.hp k b → gStep P N all ms wl i o s' (putG s' o.dst x (setH hp1 k b))) ∧
          (∀ (s' : GS) (k : Nat) (b : GB), (∀ y, y ∈ o.op.operands → gev s'.env y = gev s.env y) → wantedG all s'.env o = wantedG all s.env o → (forbA all ms wl i).elem k = true → s.hp = setH s'.hp k b → s'.hp k = none →
            ∃ hp'', hp1 = setH hp'' k b ∧ hp'' k = none ∧ gStep P N all ms wl i o s' (putG s' o.dst x hp'')))) := by
  obtain ⟨hd, ⟨hw, x, hp', h1, rfl⟩ | ⟨hw, rfl⟩⟩ := h
  · refine ⟨x, hp', rfl, ?_⟩
    rcases gEff_touch h1 with ⟨u, rk, h2, h3, h3', h4⟩ | ⟨h2, h3⟩ | ⟨h2, h3⟩
    · exact .inl ⟨u, rk, h2, h3, fun k q e1 e2 e3 => (by have := h3' k e1 e2; rw [e3] at this; exact Option.some.inj this), fun s' h5 h6 h7 => ⟨hd, .inl ⟨by rw [h6]; exact hw, x, _, h4 s' h5 h7, rfl⟩⟩⟩
    · exact .inr (.inl ⟨h2, fun s' h5 h6 h7 => ⟨hd, .inl ⟨by rw [h6]; exact hw, x, _, h3 s' h5 h7, rfl⟩⟩⟩)
    · refine .inr (.inr ⟨h2, h3.hbad, h3.hrd, h3.out, fun s' h5 h6 h7 => ⟨hd, .inl ⟨by rw [h6]; exact hw, x, _, h3.same s' h5 h7, rfl⟩⟩, fun s' k b h5 h6 h7 h8 => ⟨hd, .inl ⟨by rw [h6]; exact hw, x, _, h3.more s' k b h5 h7 h8, rfl⟩⟩, fun s' k b h5 h6 h7 h8 h9 => ?_⟩)
      obtain ⟨hp'', g1, g2, g3⟩ := h3.less s' k b h5 h7 h8 h9
      exact ⟨hp'', g1, g2, ⟨hd, .inl ⟨by rw [h6]; exact hw, x, _, g3, rfl⟩⟩⟩
  · exact ⟨.tup [], s.hp, rfl, .inl ⟨none, none, .free rfl, rfl, fun k q _ _ e => (by cases e), fun s' _ h6 _ => ⟨hd, .inr ⟨by rw [h6]; exact hw, rfl⟩⟩⟩⟩

theorem unord_ok {ms : List Nat} {i j : Nat} (hij : i ≠ j) (h1 : (ms.getD j 0).testBit i = false) (h2 : (ms.getD i 0).testBit j = false) : unord ms i j = true := by
  unfold unord
  have : Nat.beq i j = false := by
    cases hb : Nat.beq i j with
    | true => exact absurd (Nat.eq_of_beq_eq_true hb) hij
    | false => rfl
  rw [this, h1, h2]; rfl

theorem badOf_false {ms : List Nat} {j : Nat} : ∀ {l : List Oper} {k i : Nat} {oi : Oper}, badOf ms j k l = false → l[i]? = some oi → unord ms (k + i) j = true → isCall oi = false ∧ hcls true oi ≠ 3 ∧ hcls true oi ≠ 4
  | [], _, _, _, _, h, _ => by simp at h
  | o :: r, k, i, oi, hb, h, hu => by
    unfold badOf at hb
    simp only [Bool.or_eq_false_iff] at hb
    cases i with
    | zero =>
      simp at h; subst h
      have h1 := hb.1
      rw [Nat.add_zero] at hu
      rw [hu] at h1
      simp only [Bool.true_and, Bool.or_eq_false_iff] at h1
      refine ⟨h1.1, fun e => ?_, fun e => ?_⟩
      · rw [e] at h1; cases h1.2.1
      · rw [e] at h1; cases h1.2.2
    | succ i => exact badOf_false hb.2 (by simpa using h) (by rw [show k + 1 + i = k + (i + 1) by omega]; exact hu)

theorem rdOf_true {ms : List Nat} {j : Nat} : ∀ {l : List Oper} {k i : Nat} {oi : Oper}, l[i]? = some oi → unord ms (k + i) j = true → hcls true oi = 1 → rdOf ms j k l = true
  | [], _, _, _, h, _, _ => by simp at h
  | o :: r, k, i, oi, h, hu, hc => by
    unfold rdOf
    cases i with
    | zero =>
      simp at h; subst h
      rw [Nat.add_zero] at hu
      rw [hu, hc]; rfl
    | succ i => rw [rdOf_true (l := r) (k := k + 1) (i := i) (by simpa using h) (by rw [show k + 1 + i = k + (i + 1) by omega]; exact hu) hc]; simp

theorem hcls_app4 {o : Oper} (h : isApp o = true) : hcls true o = 4 := by
  obtain ⟨dst, op, type, pos, after, guard⟩ := o
  cases op <;> try (cases h; done)
  rename_i c
  obtain ⟨callee, args, ts⟩ := c
  cases callee <;> try (cases h; done)
  rename_i b
  cases b <;> first | rfl | (cases h; done)

theorem forbOf_mem {ms : List Nat} {j : Nat} : ∀ {l : List Oper} {k i : Nat} {oi : Oper}, l[i]? = some oi → makes oi = true → unord ms (k + i) j = true → (100 + oi.dst.getD 0) ∈ forbOf ms j k l
  | [], k, i, oi, h, _, _ => by simp at h
  | o :: r, k, i, oi, h, hm, hu => by
    unfold forbOf
    cases i with
    | zero =>
      simp at h; subst h
      rw [Nat.add_zero] at hu
      rw [hm, hu]
      exact List.mem_cons_self ..
    | succ i =>
      have := forbOf_mem (ms := ms) (j := j) (l := r) (k := k + 1) (i := i) (by simpa using h) hm (by rw [show k + 1 + i = k + (i + 1) by omega]; exact hu)
      rw [Bool.cond_eq_ite]
      split
      · exact List.mem_cons_of_mem _ this
      · exact this

theorem hcls_makes {pc : Bool} {o : Oper} (h : hcls pc o = 2 ∨ hcls pc o = 4) : makes o = true := by
  have : hcls true o = hcls pc o := by
    cases hic : isCall o with
    | true =>
      rw [hcls_call pc hic] at h
      cases pc <;> simp at h
    | false =>
      refine (hcls_same hic ?_).symm
      rintro ⟨rfl, ha⟩
      rw [hcls_app ha] at h
      simp at h
  unfold makes
  rw [this]
  rcases h with h | h <;> rw [h] <;> rfl

theorem cond_mem {α : Type} {b : Bool} {x y : List α} {a : α} (h : a ∈ x ∧ a ∈ y) : a ∈ (bif b then x else y) := by cases b <;> first | exact h.1 | exact h.2

theorem forbW_mem {i j k : Nat} : ∀ {wl : List (Nat × Nat)}, wGet wl i = some k → unord ms i j = true → k ∈ forbW ms j wl
  | [], h, _ => by cases h
  | (i', k') :: r, h, hu => by
    unfold wGet at h
    unfold forbW
    cases hb : Nat.beq i' i with
    | true =>
      rw [hb] at h
      cases h
      have := Nat.eq_of_beq_eq_true hb
      subst this
      rw [hu]; exact List.mem_cons_self ..
    | false =>
      rw [hb] at h
      have := forbW_mem (wl := r) h hu
      rw [Bool.cond_eq_ite]
      split
      · exact List.mem_cons_of_mem _ this
      · exact this

theorem weak_ok (c : Nat) (w : Option Nat) : (weak c w.isSome = c ∧ (c = 3 → w = none)) ∨ (c = 3 ∧ weak c w.isSome = 6 ∧ ∃ k, w = some k) := by
  unfold weak
  cases w with
  | none => left; simp
  | some k =>
    by_cases h : c = 3
    · subst h; right; exact ⟨rfl, rfl, k, rfl⟩
    · left
      have : Nat.beq c 3 = false := by
        cases hb : Nat.beq c 3 with
        | true => exact absurd (Nat.eq_of_beq_eq_true hb) h
        | false => rfl
      rw [this]; exact ⟨rfl, fun e => (h e).elim⟩

theorem weakApart {a b : Nat} {wa wb : Option Nat} {da db : Bool} (h : heapApart (weak a wa.isSome) (weak b wb.isSome) da db = true) :
    (a = 3 → (b = 1 ∨ b = 3) → wa ≠ none ∨ (b = 3 ∧ wb ≠ none)) ∧ (b = 3 → a = 1 → wb ≠ none) ∧ ¬ (a = 4 ∧ b = 4) ∧ (a = 5 → b = 0) ∧ (b = 5 → a = 0) ∧ ((a = 2 ∨ a = 4) → (b = 2 ∨ b = 4) → da = true ∧ db = true) := by
  have hA := weak_ok a wa
  have hB := weak_ok b wb
  generalize weak a wa.isSome = a' at *
  generalize weak b wb.isSome = b' at *
  obtain ⟨⟨c1, c1', c1''⟩, c2, c3, c4⟩ := heapApart_ok h
  rcases hA with ⟨rfl, h2⟩ | ⟨rfl, rfl, ka, h3⟩
  · rcases hB with ⟨rfl, g2⟩ | ⟨rfl, rfl, kb, g3⟩
    · exact ⟨fun e1 e2 => (c1 ⟨e1, e2⟩).elim, fun e1 e2 => (c1' ⟨e1, e2⟩).elim, c1'', c2, c3, c4⟩
    · exact ⟨fun e1 e2 => .inr ⟨rfl, by simp [g3]⟩, fun e1 e2 => by simp [g3], by omega, by omega, by omega, by omega⟩
  · rcases hB with ⟨rfl, g2⟩ | ⟨rfl, rfl, kb, g3⟩
    · exact ⟨fun e1 e2 => .inl (by simp [h3]), fun e1 e2 => by omega, by omega, by omega, by omega, by omega⟩
    · exact ⟨fun e1 e2 => .inl (by simp [h3]), fun e1 e2 => by omega, by omega, by omega, by omega, by omega⟩

theorem gStep_comm {i j : Nat} {oi oj : Oper} {s s1 s2 : GS} (hoi : all[i]? = some oi) (hij : i ≠ j) (hap : apartG all ms wl i j oi oj = true) (hbit : (ms.getD j 0).testBit i = false) (hbit' : (ms.getD i 0).testBit j = false) (hoj : all[j]? = some oj)
    (h1 : gStep P N all ms wl i oi s s1) (h2 : gStep P N all ms wl j oj s1 s2) : ∃ s1', gStep P N all ms wl j oj s s1' ∧ gStep P N all ms wl i oi s1' s2 := by
  simp only [apartG, Bool.and_eq_true] at hap
  obtain ⟨d1, d2, d3⟩ := Oper.apart_spec hap.1
  obtain ⟨k1, k2, k3, c2, c3, c4⟩ := weakApart hap.2
  obtain ⟨x, hp1, rfl, hi⟩ := gStep_data h1
  obtain ⟨y, hp2, rfl, hj⟩ := gStep_data h2
  have ej : ∀ (hp : Nat → Option GB), ∀ q, q ∈ oj.op.operands → gev s.env q = gev (putG s oi.dst x hp).env q := fun hp q hq => (gev_put fun d hd e => by
    subst e; exact d1 d hd (mem_looksAt hq)).symm
  have wj : ∀ (hp : Nat → Option GB), wantedG all s.env oj = wantedG all (putG s oi.dst x hp).env oj := fun hp => (wantedG_put d1).symm
  have ei : ∀ (hp : Nat → Option GB), ∀ q, q ∈ oi.op.operands → gev (putG s oj.dst y hp).env q = gev s.env q := fun hp q hq => gev_put fun d hd e => by
    subst e; exact d3 d hd (mem_looksAt hq)
  have wi : ∀ (hp : Nat → Option GB), wantedG all (putG s oj.dst y hp).env oi = wantedG all s.env oi := fun hp => wantedG_put d3
  have php : ∀ (s : GS) (d : Option Tmp) (x : GV) (hp : Nat → Option GB), (putG s d x hp).hp = hp := fun s d x hp => by cases d <;> rfl
  have huij : unord ms (0 + i) j = true := by rw [Nat.zero_add]; exact unord_ok hij hbit hbit'
  have huji : unord ms (0 + j) i = true := by rw [Nat.zero_add]; exact unord_ok (Ne.symm hij) hbit' hbit
  -- a call that comes to keys, and an operation that is no call
  have low : ∀ (pc : Bool) (o : Oper) (own : Nat) (f : List Nat) (hp : Nat → Option GB) (u : Option (Nat × GB)) (rk : Option Nat), isCall o = false → hcls true o ≠ 3 → hcls true o ≠ 4 → St (hcls pc o) f own hp u rk →
      (u = none ∧ (rk = none ∨ hcls true o = 1)) ∨ (hcls true o = 2 ∧ ∃ b, u = some (own, b) ∧ rk = some own ∧ hp own = none) := by
    intro pc o own f hp u rk hc h3 h4 h
    rw [hcls_same hc (fun ⟨_, ha⟩ => h4 (hcls_app4 ha))] at h
    cases h with
    | free h => exact .inl ⟨h, .inl rfl⟩
    | cells k cs hk hb hf h =>
      rcases h with ⟨h, hu⟩ | ⟨h, _⟩
      · exact .inl ⟨hu, .inr h⟩
      · exact (h3 h).elim
    | new k hk ho hc h =>
      subst ho
      rcases hc with hc | hc
      · obtain ⟨b, hb⟩ := h; exact .inr ⟨hc, b, hb, rfl, hk⟩
      · exact (h4 hc).elim
    | vec k e n hk hf hc h => exact (h4 hc).elim
  rcases hi with ⟨ui, rki, sti, rfl, kwi, gi⟩ | ⟨ci5, gi⟩ | ⟨ci, bi, ri, oi', si, mi, li⟩
  · rcases hj with ⟨uj, rkj, stj, rfl, kwj, gj⟩ | ⟨cj5, gj⟩ | ⟨cj, bj, rj, oj', sj, mj, lj⟩
    · rw [php] at stj
      have hne : ∀ k, rki = some k → rkj = some k → (ui ≠ none ∨ uj ≠ none) → False := by
        intro k e1 e2 hu
        subst e1; subst e2
        refine St.apart sti stj hu (fun hc => ?_) (fun hc1 hc2 e => ?_) ⟨fun e1 e2 => ?_, fun e1 e2 => ?_⟩ k3
        rotate_left 2
        · rcases k1 e1 e2 with h3 | ⟨h3, h4⟩
          · obtain ⟨ki, h2⟩ := Option.ne_none_iff_exists'.1 h3
            have := kwi ki k h2 e1 rfl
            subst this
            exact .inr (List.elem_iff.2 (List.mem_append_left _ (forbW_mem h2 (by rw [Nat.zero_add] at huij; exact huij))))
          · obtain ⟨kj, h2⟩ := Option.ne_none_iff_exists'.1 h4
            have := kwj kj k h2 h3 rfl
            subst this
            exact .inl (List.elem_iff.2 (List.mem_append_left _ (forbW_mem h2 (by rw [Nat.zero_add] at huji; exact huji))))
        · obtain ⟨kj, h2⟩ := Option.ne_none_iff_exists'.1 (k2 e1 e2)
          have := kwj kj k h2 e1 rfl
          subst this
          exact .inl (List.elem_iff.2 (List.mem_append_left _ (forbW_mem h2 (by rw [Nat.zero_add] at huji; exact huji))))
        · exact List.elem_iff.2 (List.mem_append_right _ <| forbOf_mem (k := 0) (i := i) hoi (hcls_makes hc) huij)
        · obtain ⟨s1, s2⟩ := c4 hc1 hc2
          cases hdi : oi.dst with
          | none => rw [hdi] at s1; cases s1
          | some di =>
            cases hdj : oj.dst with
            | none => rw [hdj] at s2; cases s2
            | some dj =>
              rw [hdi, hdj] at e
              simp at e
              exact d2 di hdi (by rw [hdj, e])
      refine ⟨_, gj s (ej _) (wj _) (fun k hk => ?_), ?_⟩
      · rw [php]
        cases ui with
        | none => rfl
        | some p =>
          obtain ⟨k', b⟩ := p
          have := sti.key rfl
          show s.hp k = setH s.hp k' b k
          rw [setH_eq, if_neg]
          intro e; subst e
          exact hne _ this hk (.inl (by simp))
      · have := gi (putG s oj.dst y (updH s.hp uj)) (ei _) (wi _) (fun k hk => by
          rw [php]
          cases uj with
          | none => rfl
          | some p =>
            obtain ⟨k', b⟩ := p
            have h3 := stj.key rfl
            show setH s.hp k' b k = s.hp k
            rw [setH_eq, if_neg]
            intro e; subst e
            exact hne _ hk h3 (.inr (by simp)))
        rw [php] at this
        rw [php]
        rw [putG_comm (h3 := updH s.hp uj) (h4 := updH (updH s.hp uj) ui) d2 (updH_comm (fun k1 b1 k2 b2 e1 e2 e => by
          subst e
          exact hne _ (sti.key e1) (stj.key e2) (.inl (by rw [e1]; simp))))]
        exact this
    · have hi0 := c3 cj5
      have hui : ui = none := by
        cases sti with
        | free h => exact h
        | cells _ _ _ _ _ h => rcases h with ⟨h, _⟩ | ⟨h, _⟩ <;> omega
        | new _ _ _ h _ => omega
        | vec _ _ _ _ _ h _ => omega
      subst hui
      have hrk : ∀ k, rki = some k → False := by
        intro k hk
        subst hk
        cases sti with
        | cells _ _ _ _ _ h => rcases h with ⟨h, _⟩ | ⟨h, _⟩ <;> omega
        | new _ _ _ h _ => omega
        | vec _ _ _ _ _ h _ => omega
      refine ⟨_, gj s (ej _) (wj _) (by rw [php]; rfl), ?_⟩
      have := gi (putG s oj.dst y hp2) (ei _) (wi _) (fun k hk => (hrk k hk).elim)
      rw [php] at this
      rw [putG_comm (h3 := hp2) (h4 := hp2) d2 rfl]
      exact this
    · -- j is the call
      obtain ⟨n1, n3, n4⟩ := badOf_false bj hoi huij
      rcases low _ _ _ _ _ _ _ n1 n3 n4 sti with ⟨rfl, hr⟩ | ⟨g2, b, rfl, rfl, hn⟩
      · refine ⟨_, sj s (ej _) (wj _) (by rw [php]; rfl), ?_⟩
        have := gi (putG s oj.dst y hp2) (ei _) (wi _) (fun k hk => by
          rw [php]
          rcases hr with hr | hr
          · rw [hr] at hk; cases hk
          · have := rj (rdOf_true hoi huij hr)
            rw [php] at this
            rw [this]; rfl)
        rw [php] at this
        rw [putG_comm (h3 := hp2) (h4 := hp2) d2 rfl]
        exact this
      · have hf : (forbA all ms wl j).elem (100 + oi.dst.getD 0) = true := List.elem_iff.2 (List.mem_append_right _ <| forbOf_mem (k := 0) (i := i) hoi (by unfold makes; rw [g2]; rfl) huij)
        obtain ⟨hp'', e1, e2, g⟩ := lj s (100 + oi.dst.getD 0) b (ej _) (wj _) hf (by rw [php]; rfl) hn
        refine ⟨_, g, ?_⟩
        have := gi (putG s oj.dst y hp'') (ei _) (wi _) (fun k hk => by cases hk; rw [php, e2, hn])
        rw [php] at this
        rw [e1, putG_comm (h3 := hp'') (h4 := setH hp'' (100 + oi.dst.getD 0) b) d2 rfl]
        exact this
  · have hj0 := c2 ci5
    rcases hj with ⟨uj, rkj, stj, rfl, kwj, gj⟩ | ⟨cj5, gj⟩ | ⟨cj, bj, rj, oj', sj, mj, lj⟩
    · have huj : uj = none := by
        cases stj with
        | free h => exact h
        | cells _ _ _ _ _ h => rcases h with ⟨h, _⟩ | ⟨h, _⟩ <;> omega
        | new _ _ _ h _ => omega
        | vec _ _ _ _ _ h _ => omega
      subst huj
      have hrk : ∀ k, rkj = some k → False := by
        intro k hk
        subst hk
        cases stj with
        | cells _ _ _ _ _ h => rcases h with ⟨h, _⟩ | ⟨h, _⟩ <;> omega
        | new _ _ _ h _ => omega
        | vec _ _ _ _ _ h _ => omega
      refine ⟨_, gj s (ej _) (wj _) (fun k hk => (hrk k hk).elim), ?_⟩
      have := gi (putG s oj.dst y (updH s.hp none)) (ei _) (wi _) (by rw [php]; rfl)
      rw [php]
      rw [putG_comm (h2 := updH hp1 none) (h3 := updH s.hp none) (h4 := hp1) d2 rfl]
      exact this
    · omega
    · have := (badOf_false bj hoi huij).1
      have hc : hcls (pcOf ms i 0 all) oi = hcls true oi := hcls_same this fun ⟨_, ha⟩ => (badOf_false bj hoi huij).2.2 (hcls_app4 ha)
      rw [ci5] at hc
      obtain ⟨dst, op, type, pos, after, guard⟩ := oi
      cases op <;> simp [hcls] at hc
      case buildSlice t len parts => rw [Bool.cond_eq_ite] at hc; split at hc <;> cases hc
      rename_i c
      obtain ⟨callee, args, ts⟩ := c
      cases callee <;> simp [hcls, isCall] at hc this
      rename_i b
      cases b <;> simp at hc
  · -- i is the call
    rcases hj with ⟨uj, rkj, stj, rfl, kwj, gj⟩ | ⟨cj5, gj⟩ | ⟨cj, bj, rj, oj', sj, mj, lj⟩
    · obtain ⟨n1, n3, n4⟩ := badOf_false bi hoj huji
      rw [php] at stj
      rcases low _ _ _ _ _ _ _ n1 n3 n4 stj with ⟨rfl, hr⟩ | ⟨g2, b, rfl, rfl, hn⟩
      · refine ⟨_, gj s (ej _) (wj _) (fun k hk => ?_), ?_⟩
        · rw [php]
          rcases hr with hr | hr
          · rw [hr] at hk; cases hk
          · rw [ri (rdOf_true hoj huji hr)]
        · have := si (putG s oj.dst y (updH s.hp none)) (ei _) (wi _) (by rw [php]; rfl)
          rw [php]
          rw [putG_comm (h2 := updH hp1 none) (h3 := updH s.hp none) (h4 := hp1) d2 rfl]
          exact this
      · have hf : (forbA all ms wl i).elem (100 + oj.dst.getD 0) = true := List.elem_iff.2 (List.mem_append_right _ <| forbOf_mem (k := 0) (i := j) hoj (by unfold makes; rw [g2]; rfl) huji)
        refine ⟨_, gj s (ej _) (wj _) (fun k hk => by cases hk; rw [php, oi' _ hf]), ?_⟩
        have := mi (putG s oj.dst y (updH s.hp (some (100 + oj.dst.getD 0, b)))) (100 + oj.dst.getD 0) b (ei _) (wi _) hf (by rw [php]; rfl)
        rw [php]
        rw [putG_comm (h2 := updH hp1 (some (100 + oj.dst.getD 0, b))) (h3 := updH s.hp (some (100 + oj.dst.getD 0, b))) (h4 := setH hp1 (100 + oj.dst.getD 0) b) d2 rfl]
        exact this
    · have := (badOf_false bi hoj huji).1
      have hc : hcls (pcOf ms j 0 all) oj = hcls true oj := hcls_same this fun ⟨_, ha⟩ => (badOf_false bi hoj huji).2.2 (hcls_app4 ha)
      rw [cj5] at hc
      obtain ⟨dst, op, type, pos, after, guard⟩ := oj
      cases op <;> simp [hcls] at hc
      case buildSlice t len parts => rw [Bool.cond_eq_ite] at hc; split at hc <;> cases hc
      rename_i c
      obtain ⟨callee, args, ts⟩ := c
      cases callee <;> simp [hcls, isCall] at hc this
      rename_i b
      cases b <;> simp at hc
    · rw [(badOf_false bi hoj huji).1] at cj; cases cj

/-! ### Whatever order is picked -/
def gAny (P : Program) (N : Nat) (ops : Array Oper) (ms : List Nat) (wl : List (Nat × Nat)) (K : GS → Prop) : Nat → Array Bool → GS → Prop
  | 0, listed, s => Region.ready .any ops listed = [] ∧ K s
  | fuel + 1, listed, s => (Region.ready .any ops listed = [] → K s) ∧
    ∀ i, i ∈ Region.ready .any ops listed → ∃ o s', ops[i]? = some o ∧ gStep P N ops.toList ms wl i o s s' ∧ gAny P N ops ms wl K fuel (listed.setIfInBounds i true) s'

/-- What has been taken has had all that it waits for. -/
def Down (ops : Array Oper) (listed : Array Bool) : Prop :=
  listed.size = ops.size ∧ ∀ (j : Nat) (o : Oper), ops[j]? = some o → listed.getD j false = true → ∀ e, e ∈ o.after → Region.binds .any e = true → listed.getD e.on false = true

theorem Down.set {ops : Array Oper} {listed : Array Bool} (h : Down ops listed) {i : Nat} (hi : i ∈ Region.ready .any ops listed) : Down ops (listed.setIfInBounds i true) := by
  refine ⟨by simpa using h.1, fun j o ho hj e he hb => ?_⟩
  obtain ⟨h0, oi, hoi, hall⟩ := mem_ready.1 hi
  refine getD_set_true ?_
  by_cases hji : j = i
  · subst hji
    rw [ho] at hoi; cases hoi
    exact hall e he hb
  · rw [getD_set_ne false (Ne.symm hji)] at hj
    exact h.2 j o ho hj e he hb

theorem unlisted {ops : Array Oper} {listed : Array Bool} {j : Nat} (h : listed.getD j true = false) : listed.getD j false = false := by
  rw [Array.getD_eq_getD_getElem?] at *
  cases hh : listed[j]? with
  | none => rfl
  | some b => rw [hh] at h; simpa using h

theorem gAny_first {ops : Array Oper} {K : GS → Prop} {i : Nat} {oi : Oper} (hoi : ops[i]? = some oi) :
    ∀ (fuel : Nat) (listed : Array Bool) (s s1 : GS), Down ops listed →
      (∀ (j : Nat) (oj : Oper), ops[j]? = some oj → j ≠ i → listed.getD j true = false → Anc ops.toList j i ∨ ((ms.getD j 0).testBit i = false ∧ apartG ops.toList ms wl i j oi oj = true ∧ (ms.getD i 0).testBit j = false)) →
      i ∈ Region.ready .any ops listed → gStep P N ops.toList ms wl i oi s s1 → gAny P N ops ms wl K fuel (listed.setIfInBounds i true) s1 → gAny P N ops ms wl K (fuel + 1) listed s := by
  intro fuel
  induction fuel with
  | zero =>
    intro listed s s1 hd _ hr hy H
    refine ⟨fun h => (by rw [h] at hr; cases hr), fun j hj => ?_⟩
    by_cases hji : j = i
    · subst hji; exact ⟨oi, s1, hoi, hy, H⟩
    · have := ready_mono hj hji
      rw [H.1] at this
      cases this
  | succ fuel ih =>
    intro listed s s1 hd hfree hr hy H
    refine ⟨fun h => (by rw [h] at hr; cases hr), fun j hj => ?_⟩
    by_cases hji : j = i
    · subst hji; exact ⟨oi, s1, hoi, hy, H⟩
    · obtain ⟨oj, s2, hoj, h1, h2⟩ := H.2 j (ready_mono hj hji)
      obtain ⟨hjun, oj', hoj', hall⟩ := mem_ready.1 hj
      rw [hoj] at hoj'; cases hoj'
      have hap : (ms.getD j 0).testBit i = false ∧ apartG ops.toList ms wl i j oi oj = true ∧ (ms.getD i 0).testBit j = false := by
        rcases hfree j oj hoj hji hjun with h | h
        · have := h.listed hd.2 (fun o ho e he hb => by rw [hoj] at ho; cases ho; exact hall e he hb)
          have h0 := unlisted (ops := ops) (mem_ready.1 hr).1
          rw [h0] at this; cases this
        · exact h
      obtain ⟨s1', g1, g2⟩ := gStep_comm (by simpa using hoi) (Ne.symm hji) hap.2.1 hap.1 hap.2.2 (by simpa using hoj) hy h1
      refine ⟨oj, s1', hoj, g1, ih (listed.setIfInBounds j true) s1' s2 (hd.set hj) (fun k ok hk hki hun => ?_) (ready_mono hr (Ne.symm hji)) g2 ?_⟩
      · refine hfree k ok hk hki ?_
        by_cases hjk : j = k
        · subst hjk; exact hjun
        · rw [getD_set_ne true hjk] at hun; exact hun
      · rw [Array.setIfInBounds_comm _ _ hji]
        exact h2

theorem anc_lt {l : List Oper} {ms : List Nat} {wl : List (Nat × Nat)} (hok : rowsOk l ms wl 0 l = true) {j i : Nat} (h : Anc l j i) : i < j := by
  induction h with
  | one o e h he hb hi =>
    subst hi
    have := (rowsOk_ok hok _ o h).1 e he hb
    omega
  | more o e h he hb hi ih =>
    have := (rowsOk_ok hok _ o h).1 e he hb
    omega

theorem gAny_lex {ops : Array Oper} {K : GS → Prop} (hok : rowsOk ops.toList (masks ops.toList) wl 0 ops.toList = true) :
    ∀ (l : List Oper) (k : Nat) (listed : Array Bool) (s : GS), (∀ j, l[j]? = ops[k + j]?) → k + l.length = ops.size → listed.size = ops.size → (∀ j, j < ops.size → listed[j]? = some (decide (j < k))) →
      goDr P N ops.toList (masks ops.toList) wl k l s K → gAny P N ops (masks ops.toList) wl K l.length listed s
  | [], k, listed, s, hl, hk, hsz, hli, h => by
    refine ⟨?_, h⟩
    apply List.eq_nil_iff_forall_not_mem.2
    intro j hj
    obtain ⟨h0, o, ho, _⟩ := mem_ready.1 hj
    have hlt := (Array.getElem?_eq_some_iff.1 ho).1
    rw [Array.getD_eq_getD_getElem?, hli j hlt] at h0
    simp at hk h0; omega
  | o :: l, k, listed, s, hl, hk, hsz, hli, h => by
    have h0 : ops[k]? = some o := by simpa using (hl 0).symm
    have hklt := (Array.getElem?_eq_some_iff.1 h0).1
    obtain ⟨s', h1, h2⟩ := goDr_step h
    have hrow := rowsOk_ok hok k o (by simpa using h0)
    simp only [Nat.zero_add] at hrow
    have hd : Down ops listed := by
      refine ⟨hsz, fun j oj hoj hj e he hb => ?_⟩
      have hjlt := (Array.getElem?_eq_some_iff.1 hoj).1
      rw [Array.getD_eq_getD_getElem?, hli j hjlt] at hj
      simp at hj
      have := (rowsOk_ok hok j oj (by simpa using hoj)).1 e he hb
      rw [Array.getD_eq_getD_getElem?, hli e.on (by omega)]
      simp; omega
    have hready : k ∈ Region.ready .any ops listed := by
      refine mem_ready.2 ⟨by rw [Array.getD_eq_getD_getElem?, hli k hklt]; simp, o, h0, fun e he hb => ?_⟩
      have := hrow.1 e he hb
      rw [Array.getD_eq_getD_getElem?, hli e.on (by omega)]
      simp; omega
    refine gAny_first h0 l.length listed s s' hd (fun j oj hoj hne hun => ?_) hready h1 ?_
    · have hjlt := (Array.getElem?_eq_some_iff.1 hoj).1
      rw [Array.getD_eq_getD_getElem?, hli j hjlt] at hun
      simp at hun
      cases hb : ((masks ops.toList).getD j 0).testBit k with
      | true => exact .inl (masks_ok hb)
      | false =>
        rcases rowOk_ok hrow.2 j oj (by simpa using hoj) (by omega) with h3 | h3
        · rw [Nat.zero_add, hb] at h3; cases h3
        · rw [Nat.zero_add] at h3
          refine .inr ⟨rfl, h3, ?_⟩
          cases hb2 : ((masks ops.toList).getD k 0).testBit j with
          | false => rfl
          | true =>
            have := anc_lt hok (masks_ok hb2)
            omega
    · refine gAny_lex hok l (k + 1) _ s' (fun j => ?_) (by simp at hk; omega) (by simpa using hsz) (fun j hj => ?_) h2
      · have := hl (j + 1)
        rw [List.getElem?_cons_succ] at this
        rw [this]; congr 1; omega
      · rw [Array.getElem?_setIfInBounds]
        by_cases hjk : k = j
        · subst hjk; simp [hsz, hklt]
        · rw [if_neg hjk, hli j hj]; simp; omega

end
end Go.Gh
