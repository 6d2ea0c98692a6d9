/- A statement whose order is open, the second half: two operations that keep out of each other's way may change places. -/
import Derived.Test.YtnoghibeanjleaaGh11
set_option linter.unusedVariables false
set_option linter.unusedSimpArgs false
namespace Go.Gh

theorem touch {P : Program} {forb : List Nat} {pc : Bool} {o : Oper} {s : GS} {x : GV} {u : Option (Nat × GB)} (hc : callOf o s.env = none) (h : (opOut P forb o s).eff x u) :
    ∃ rk, St (hcls pc o) forb (100 + o.dst.getD 0) s.hp u rk ∧ ∀ s' : GS, (∀ y, y ∈ o.op.operands → gev s'.env y = gev s.env y) → (∀ k, rk = some k → s'.hp k = s.hp k) → (opOut P forb o s').eff x u := by
  by_cases hq : quietOp P o = true
  · exact ⟨none, .free (quiet_u hq h), fun s' h1 _ => by rw [quiet_same hq h1]; exact h⟩
  obtain ⟨dst, op, type, pos, after, guard⟩ := o
  cases op <;> simp only [quietOp, not_true_eq_false] at hq <;> try (exact absurd rfl hq)
  case assign y =>
    simp only [opOut] at h ⊢
    unfold assignO at h
    split at h
    · rename_i e hx hu hk
      split at h
      · rename_i i hi
        obtain ⟨rfl, rfl⟩ := h
        refine ⟨some (100 + dst.getD 0), .new _ hk rfl (.inl rfl) ⟨_, rfl⟩, fun s' h1 h2 => ?_⟩
        rw [h1 y (by simp [Op.operands]), hx]
        simp only [assignO, hu, h2 _ rfl, hk, hi]
        exact ⟨rfl, rfl⟩
      · exact h.elim
    · exact h.elim
    · rename_i h3 h4
      obtain ⟨rfl, rfl⟩ := h
      refine ⟨none, .free rfl, fun s' h1 _ => ?_⟩
      rw [h1 y (by simp [Op.operands])]
      unfold assignO
      split
      · rename_i e hx hu hk
        cases hk' : s.hp (100 + dst.getD 0) with
        | none => exact (h3 e hx hu hk').elim
        | some b => exact (h4 e b hx hu hk').elim
      · rename_i e b hx hu hk
        cases hk' : s.hp (100 + dst.getD 0) with
        | none => exact (h3 e hx hu hk').elim
        | some b => exact (h4 e b hx hu hk').elim
      · exact ⟨rfl, rfl⟩
  case alloc t =>
    simp only [opOut] at h ⊢
    unfold allocO at h
    split at h
    · rename_i z hk hz
      split at h
      · rename_i cs hcs
        obtain ⟨rfl, rfl⟩ := h
        refine ⟨some (100 + dst.getD 0), .new _ hk rfl (.inl rfl) ⟨_, rfl⟩, fun s' h1 h2 => ?_⟩
        simp only [allocO, h2 _ rfl, hk, hz, hcs]
        exact ⟨rfl, rfl⟩
      · exact h.elim
    · exact h.elim
  case box t y =>
    simp only [opOut] at h ⊢
    unfold boxO at h
    split at h
    · rename_i hk
      cases hs : (gev s.env y).sane with
      | false => rw [hs] at h; exact h.elim
      | true =>
        rw [hs] at h
        obtain ⟨rfl, rfl⟩ := h
        refine ⟨some (100 + dst.getD 0), .new _ hk rfl (.inl rfl) ⟨_, rfl⟩, fun s' h1 h2 => ?_⟩
        rw [h1 y (by simp [Op.operands])]
        simp only [boxO, h2 _ rfl, hk, hs, cond_true]
        exact ⟨rfl, rfl⟩
    · exact h.elim
  case load t y =>
    simp only [opOut] at h ⊢
    have hl := h
    unfold loadO at h
    split at h
    · rename_i ag sz cs off hag hsz hca
      have hu := rowPart_u h
      rcases cellsAt_hang hca with hh | ⟨k, hk, hf, hh⟩
      · refine ⟨none, .free hu, fun s' h1 _ => ?_⟩
        rw [h1 y (by simp [Op.operands])]
        simp only [loadO, hag, hsz, hh]; exact h
      · refine ⟨some k, .cells k cs hk hf (.inl ⟨rfl, hu⟩), fun s' h1 h2 => ?_⟩
        rw [h1 y (by simp [Op.operands])]
        simp only [loadO, hag, hsz, hh _ (h2 k rfl)]; exact h
    · exact h.elim
  case store t y z =>
    simp only [opOut] at h ⊢
    unfold storeO at h
    split at h
    · rename_i k off sz hy hsz
      cases hf : forb.elem k with
      | true => rw [hf] at h; exact h.elim
      | false =>
        rw [hf] at h
        simp only [cond_false] at h
        split at h
        · rename_i cs hk
          rw [Bool.cond_eq_ite] at h
          split at h
          · rename_i hb
            obtain ⟨rfl, rfl⟩ := h
            refine ⟨some k, .cells k cs hk hf (.inr ⟨rfl, _, rfl⟩), fun s' h1 h2 => ?_⟩
            rw [h1 y (by simp [Op.operands]), h1 z (by simp [Op.operands]), hy]
            simp only [storeO, hsz, hf, cond_false, h2 k rfl, hk]
            rw [hb]
            exact ⟨rfl, rfl⟩
          · exact h.elim
        · exact h.elim
    · exact h.elim
  case makeSlice t l c =>
    simp only [opOut] at h ⊢
    have hsame : ∀ s' : GS, (∀ q, q ∈ (Op.makeSlice t l c).operands → gev s'.env q = gev s.env q) → s'.hp (100 + dst.getD 0) = s.hp (100 + dst.getD 0) →
        makeSliceO P (100 + dst.getD 0) s'.hp t (gev s'.env l) (gev s'.env c) = makeSliceO P (100 + dst.getD 0) s.hp t (gev s.env l) (gev s.env c) := by
      intro s' h1 h2
      rw [h1 l (by simp [Op.operands]), h1 c (by simp [Op.operands])]
      unfold makeSliceO
      rw [h2]
    have hh := h
    unfold makeSliceO at h
    split at h
    · split at h
      · rename_i i hi hk
        split at h
        · split at h
          · rw [Bool.cond_eq_ite] at h
            split at h
            · obtain ⟨_, rfl, rfl⟩ := h
              refine ⟨some (100 + dst.getD 0), .new _ hk rfl (.inl rfl) ⟨_, rfl⟩, fun s' h1 h2 => ?_⟩
              rw [hsame s' h1 (h2 _ rfl)]; exact hh
            · exact h.elim
          · exact h.elim
        · exact h.elim
      · exact h.elim
    · exact h.elim
  case call c =>
    obtain ⟨callee, args, ts⟩ := c
    cases callee <;> try (exact absurd rfl hq)
    rename_i b
    cases b <;> try (exact absurd rfl hq)
    have hcls' : hcls pc ⟨dst, .call ⟨.builtin .append, args, ts⟩, type, pos, after, guard⟩ = 4 := rfl
    rw [hcls']
    have hh : (builtinO P (100 + dst.getD 0) forb s.hp .append ts.toList (args.toList.map (gev s.env))).eff x u := h
    have hopd : ∀ q, q ∈ args → q ∈ (Op.call ⟨.builtin .append, args, ts⟩).operands := fun q hq => by simpa [Op.operands, Call.operands] using hq
    have goal' : (∃ rk, St 4 forb (100 + dst.getD 0) s.hp u rk ∧ ∀ hp' : Nat → Option GB, (∀ k, rk = some k → hp' k = s.hp k) → (builtinO P (100 + dst.getD 0) forb hp' .append ts.toList (args.toList.map (gev s.env))).eff x u) := by
      unfold builtinO at hh
      split at hh
      · rename_i t tx gs gx _ hts hgs
        rw [hts, hgs]
        have hh0 := hh
        unfold appendO at hh
        split at hh
        rotate_left
        · exact hh.elim
        rename_i e hu
        split at hh
        rotate_left
        · exact hh.elim
        rename_i i hi
        split at hh
        rotate_left
        · exact hh.elim
        rename_i ys z hys hz
        rw [Bool.cond_eq_ite] at hh
        split at hh
        rotate_left
        · exact hh.elim
        rename_i hb
        split at hh
        · rename_i es xs k
          cases hf : forb.elem k with
          | true => rw [hf] at hh; exact hh.elim
          | false =>
            rw [hf] at hh
            simp only [cond_false] at hh
            split at hh
            rotate_left
            · exact hh.elim
            rename_i e' n hk
            rw [Bool.cond_eq_ite] at hh
            split at hh
            rotate_left
            · exact hh.elim
            rename_i hb2
            obtain ⟨h3, rfl, rfl⟩ := hh
            refine ⟨some k, .vec k e' n hk hf rfl ⟨_, _, rfl⟩, fun hp' h2 => ?_⟩
            have e1 : appendO P (100 + dst.getD 0) forb hp' t tx (.list es xs (some k)) gx = appendO P (100 + dst.getD 0) forb s.hp t tx (.list es xs (some k)) gx := by
              unfold appendO; simp only [h2 k rfl]
            show (appendO P (100 + dst.getD 0) forb hp' t tx (.list es xs (some k)) gx).eff _ _
            rw [e1]; exact hh0
        · split at hh
          rotate_left
          · exact hh.elim
          rename_i hk
          obtain ⟨h3, rfl, rfl⟩ := hh
          refine ⟨some (100 + dst.getD 0), .new _ hk rfl (.inr rfl) ⟨_, rfl⟩, fun hp' h2 => ?_⟩
          have e1 : appendO P (100 + dst.getD 0) forb hp' t tx (.v (.slice none 0 0)) gx = appendO P (100 + dst.getD 0) forb s.hp t tx (.v (.slice none 0 0)) gx := by
            unfold appendO; simp only [h2 _ rfl]
          show (appendO P (100 + dst.getD 0) forb hp' t tx (.v (.slice none 0 0)) gx).eff _ _
          rw [e1]; exact hh0
        · exact hh.elim
      · rename_i h1 _ _; cases h1
      · rename_i h1; cases h1
      · rename_i h1; cases h1
      · exact hh.elim
    obtain ⟨rk, h1, h2⟩ := goal'
    refine ⟨rk, h1, fun s' h3 h4 => ?_⟩
    show (builtinO P (100 + dst.getD 0) forb s'.hp .append ts.toList (args.toList.map (gev s'.env))).eff x u
    rw [gev_map h3 (l := args.toList) (fun q hq => hopd q (by simpa using hq))]
    exact h2 s'.hp h4


/-! ### Two operations change places -/
theorem gev_put {s : GS} {dst : Option Tmp} {x : GV} {hp : Nat → Option GB} {y : Operand} (h : ∀ d, dst = some d → y ≠ .tmp d) : gev (putG s dst x hp).env y = gev s.env y := by
  cases dst with
  | none => rfl
  | some d =>
    cases y with
    | tmp t =>
      show setE s.env d x t = s.env t
      rw [setE_eq, if_neg (fun e => h d rfl (by rw [e]))]
    | const v => rfl
    | global g => rfl
    | func f => rfl

theorem mem_looksAt {ops : Array Oper} {o : Oper} {t : Tmp} (h : Operand.tmp t ∈ o.op.operands) : t ∈ o.looksAt ops := by
  unfold Oper.looksAt
  refine List.mem_append_left _ (List.mem_filterMap.2 ⟨.tmp t, by simpa using h, rfl⟩)

theorem wantedG_put {all : List Oper} {o : Oper} {s : GS} {dst : Option Tmp} {x : GV} {hp : Nat → Option GB} (h : ∀ d, dst = some d → d ∉ o.looksAt all.toArray) : wantedG all (putG s dst x hp).env o = wantedG all s.env o := by
  unfold wantedG
  split
  · rfl
  · rename_i j want hg
    split
    · rename_i oj hoj
      split
      · rename_i d hd
        have : (putG s dst x hp).env d = s.env d := by
          cases dst with
          | none => rfl
          | some d' =>
            show setE s.env d' x d = s.env d
            rw [setE_eq, if_neg]
            intro e
            subst e
            refine h d rfl ?_
            unfold Oper.looksAt
            refine List.mem_append_right _ ?_
            rw [hg]
            simp [hoj, hd]
        rw [this]
      · rfl
    · rfl

theorem putG_comm {s : GS} {d1 d2 : Option Tmp} {x y : GV} {h1 h2 h3 h4 : Nat → Option GB} (hd : ∀ d, d1 = some d → d2 ≠ some d) (hh : h2 = h4) : putG (putG s d1 x h1) d2 y h2 = putG (putG s d2 y h3) d1 x h4 := by
  subst hh
  cases d1 <;> cases d2 <;> simp only [putG]
  rename_i a b
  congr 1
  funext u
  simp only [setE_eq]
  split
  · rename_i e1; subst e1
    rw [if_neg (fun e => hd a rfl (by rw [e]))]
  · rfl

theorem setH_comm {hp : Nat → Option GB} {k1 k2 : Nat} {b1 b2 : GB} (h : k1 ≠ k2) : setH (setH hp k1 b1) k2 b2 = setH (setH hp k2 b2) k1 b1 := by
  funext u
  simp only [setH_eq]
  by_cases h1 : u = k1
  · subst h1; simp [h]
  · simp [h1]

theorem callOf_same {o : Oper} {env env' : Nat → GV} (h : ∀ y, y ∈ o.op.operands → gev env' y = gev env y) : callOf o env' = callOf o env := by
  obtain ⟨dst, op, type, pos, after, guard⟩ := o
  cases op <;> try rfl
  rename_i c
  obtain ⟨callee, args, ts⟩ := c
  cases callee <;> try rfl
  rename_i f
  simp only [Op.operands, Call.operands] at h
  show (match gev env' f with
      | .fn (.func g) first cap => some (some (g, first ++ (args.toList.map (gev env') ++ cap)))
      | _ => some none) = (match gev env f with
      | .fn (.func g) first cap => some (some (g, first ++ (args.toList.map (gev env) ++ cap)))
      | _ => some none)
  rw [h f (by simp), List.map_congr_left fun y hy => h y (by simp; exact .inr (by simpa using hy))]

theorem callX_nil {P : Program} {hp hp' : Nat → Option GB} {f : FuncId} {args : List GV} {x : GV} {h0 : Nat → Option GB} (hk : keysL args = []) (h : callX P hp f args (fun x' h => x' = x ∧ h = h0)) :
    h0 = hp ∧ callX P hp' f args (fun x' h => x' = x ∧ h = hp') := by
  unfold callX at *
  rw [hk] at h ⊢
  simp only [reach, List.map_nil, List.length_nil] at h ⊢
  obtain ⟨v, hs', h1, h2, h3, h4⟩ := h
  refine ⟨?_, v, hs', h1, h2, h3, ?_⟩
  · rw [← h4]; rfl
  · rfl

theorem isCall_of {o : Oper} {env : Nat → GV} {c : Option (FuncId × List GV)} (h : callOf o env = some c) : isCall o = true := by
  obtain ⟨dst, op, type, pos, after, guard⟩ := o
  unfold callOf at h
  cases op <;> simp only at h <;> try (cases h; done)
  rename_i c
  obtain ⟨callee, args, ts⟩ := c
  cases callee <;> simp only at h <;> try (cases h; done)
  rfl

theorem hcls_call {o : Oper} (pc : Bool) (h : isCall o = true) : hcls pc o = if pc then 0 else 5 := by
  obtain ⟨dst, op, type, pos, after, guard⟩ := o
  cases op <;> simp only [isCall, Bool.false_eq_true] at h
  rename_i c
  obtain ⟨callee, args, ts⟩ := c
  cases callee <;> simp only [Bool.false_eq_true] at h
  cases pc <;> rfl

/-- What a step does, told by what it consults. -/
theorem gEff_touch {P : Program} {forb : List Nat} {pc : Bool} {o : Oper} {s : GS} {x : GV} {hp' : Nat → Option GB} (h : gEff P forb pc o s x hp') :
    (∃ u rk, St (hcls pc o) forb (100 + o.dst.getD 0) s.hp u rk ∧ hp' = updH s.hp u ∧
      ∀ s' : GS, (∀ y, y ∈ o.op.operands → gev s'.env y = gev s.env y) → (∀ k, rk = some k → s'.hp k = s.hp k) → gEff P forb pc o s' x (updH s'.hp u)) ∨
    (hcls pc o = 5 ∧ ∀ s' : GS, (∀ y, y ∈ o.op.operands → gev s'.env y = gev s.env y) → s'.hp = s.hp → gEff P forb pc o s' x hp') := by
  have h0 := h
  unfold gEff at h
  split at h
  · rename_i g args hc
    have hic := isCall_of hc
    cases pc with
    | true =>
      left
      obtain ⟨hk, hx⟩ := h
      have hk' : keysL args = [] := hk
      obtain ⟨e1, _⟩ := callX_nil (hp' := s.hp) hk' hx
      refine ⟨none, none, .free rfl, e1, fun s' h1 _ => ?_⟩
      unfold gEff
      rw [callOf_same h1, hc]
      exact ⟨hk, (callX_nil hk' hx).2⟩
    | false =>
      right
      refine ⟨by rw [hcls_call false hic]; rfl, fun s' h1 h2 => ?_⟩
      unfold gEff
      rw [callOf_same h1, hc, h2]
      exact h
  · exact h.elim
  · rename_i hc
    obtain ⟨u, h1, h2⟩ := h
    obtain ⟨rk, h3, h4⟩ := touch (pc := pc) hc h1
    refine .inl ⟨u, rk, h3, h2, fun s' h5 h6 => ?_⟩
    unfold gEff
    rw [callOf_same h5, hc]
    exact ⟨u, h4 s' h5 h6, rfl⟩

theorem updH_comm {hp : Nat → Option GB} {u1 u2 : Option (Nat × GB)} (h : ∀ k1 b1 k2 b2, u1 = some (k1, b1) → u2 = some (k2, b2) → k1 ≠ k2) : updH (updH hp u1) u2 = updH (updH hp u2) u1 := by
  cases u1 with
  | none => rfl
  | some p1 =>
    cases u2 with
    | none => rfl
    | some p2 =>
      obtain ⟨k1, b1⟩ := p1
      obtain ⟨k2, b2⟩ := p2
      exact setH_comm (h k1 b1 k2 b2 rfl rfl)

theorem St.key {cls : Nat} {forb : List Nat} {own : Nat} {hp : Nat → Option GB} {u : Option (Nat × GB)} {rk : Option Nat} (h : St cls forb own hp u rk) {k : Nat} {b : GB} (hu : u = some (k, b)) : rk = some k := by
  subst hu
  cases h with
  | free h => cases h
  | cells k' cs hk hf h =>
    rcases h with ⟨_, h⟩ | ⟨_, cs', h⟩
    · cases h
    · cases h; rfl
  | new k' hk ho hc h => obtain ⟨b', h⟩ := h; cases h; rfl
  | vec k' e n hk hf hc h => obtain ⟨e', n', h⟩ := h; cases h; rfl

/-- Two operations that keep out of each other's way consult no block in common, where one of them writes. -/
theorem St.apart {ci cj : Nat} {fi fj : List Nat} {oi oj : Nat} {hp : Nat → Option GB} {ui uj : Option (Nat × GB)} {k : Nat} (hi : St ci fi oi hp ui (some k)) (hj : St cj fj oj (updH hp ui) uj (some k))
    (hne : ui ≠ none ∨ uj ≠ none) (hfj : ci = 2 ∨ ci = 4 → fj.elem oi = true) (hown : (ci = 2 ∨ ci = 4) → (cj = 2 ∨ cj = 4) → oi ≠ oj)
    (h33 : ¬ (ci = 3 ∧ (cj = 1 ∨ cj = 3)) ∧ ¬ (cj = 3 ∧ ci = 1) ∧ ¬ (ci = 4 ∧ cj = 4)) : False := by
  cases hi with
  | cells _ cs hk hf h =>
    have hk1 : ∃ cs1, updH hp ui k = some (.cells cs1) := by
      rcases h with ⟨_, rfl⟩ | ⟨_, cs', rfl⟩
      · exact ⟨cs, hk⟩
      · exact ⟨cs', by simp [updH, setH_eq]⟩
    obtain ⟨cs1, hk1⟩ := hk1
    cases hj with
    | cells _ cs2 hk2 hf2 h2 =>
      rcases h with ⟨h, rfl⟩ | ⟨h, cs', rfl⟩ <;> rcases h2 with ⟨h2, rfl⟩ | ⟨h2, cs'', rfl⟩
      · simp at hne
      · exact h33.2.1 ⟨h2, h⟩
      · exact h33.1 ⟨h, .inl h2⟩
      · exact h33.1 ⟨h, .inr h2⟩
    | new _ hk2 _ _ _ => rw [hk1] at hk2; cases hk2
    | vec _ _ _ hk2 _ _ _ => rw [hk1] at hk2; cases hk2
  | new _ hk ho hc h =>
    subst ho
    obtain ⟨b, rfl⟩ := h
    cases hj with
    | cells _ _ _ hf2 _ => rw [hfj hc] at hf2; cases hf2
    | new _ _ ho2 hc2 _ => exact hown hc hc2 ho2
    | vec _ _ _ _ hf2 _ _ => rw [hfj hc] at hf2; cases hf2
  | vec _ e n hk hf hc h =>
    obtain ⟨e', n', rfl⟩ := h
    have hk1 : updH hp (some (k, .vec e' n')) k = some (.vec e' n') := by simp [updH, setH_eq]
    cases hj with
    | cells _ _ hk2 _ _ => rw [hk1] at hk2; cases hk2
    | new _ hk2 _ _ _ => rw [hk1] at hk2; cases hk2
    | vec _ _ _ _ _ hc2 _ => exact h33.2.2 ⟨hc, hc2⟩

end Go.Gh
