/- Ghost values and walks, bundle Gh11b; proved for whatever the arguments' types allow, as each theorem says. -/
import Derived.Test.YtoofplbjpkgdgaaGh11

/- A statement whose order is open, the second half: two operations that keep out of each other's way may change places. -/
set_option linter.unusedVariables false
set_option linter.unusedSimpArgs false
namespace Go.Gh

theorem touch {P : Program} {forb : List Nat} {o : Oper} {s : GS} {x : GV} {u : Option (Nat × GB)} (hc : callOf o s.env = none) (hms : isMsApp o s.env = false) (h : (opOutD P forb o s).eff x u) :
    ∃ rk, St (hcls true o) forb (100 + o.dst.getD 0) s.hp u rk ∧ ∀ s' : GS, (∀ y, y ∈ o.op.operands → gev s'.env y = gev s.env y) → (∀ k, rk = some k → s'.hp k = s.hp k) → (opOutD P forb o s').eff x u := by
  by_cases hq : quietOp P o = true
  · exact ⟨none, .free (quiet_u hq h), fun s' h1 _ => by rw [quiet_same hq h1]; exact h⟩
  obtain ⟨dst, op, type, pos, after, guard⟩ := o
  cases op <;> simp only [quietOp, not_true_eq_false] at hq <;> try (exact absurd rfl hq)
  case assign y =>
    simp only [opOutD] at h ⊢
    unfold assignO at h
    split at h
    · rename_i e hx hu hk
      split at h
      · rename_i i hi
        obtain ⟨rfl, rfl⟩ := h
        refine ⟨some (100 + dst.getD 0), .new _ hk rfl (.inl rfl) ⟨_, rfl⟩, fun s' h1 h2 => ?_⟩
        rw [h1 y (by simp [Op.operands]), hx]
        simp only [assignO, hu, h2 _ rfl, hk, hi]
        exact ⟨rfl, rfl⟩
      · exact h.elim
    · exact h.elim
    · rename_i h3 h4
      obtain ⟨rfl, rfl⟩ := h
      refine ⟨none, .free rfl, fun s' h1 _ => ?_⟩
      rw [h1 y (by simp [Op.operands])]
      unfold assignO
      split
      · rename_i e hx hu hk
        cases hk' : s.hp (100 + dst.getD 0) with
        | none => exact (h3 e hx hu hk').elim
        | some b => exact (h4 e b hx hu hk').elim
      · rename_i e b hx hu hk
        cases hk' : s.hp (100 + dst.getD 0) with
        | none => exact (h3 e hx hu hk').elim
        | some b => exact (h4 e b hx hu hk').elim
      · exact ⟨rfl, rfl⟩
  case alloc t =>
    simp only [opOutD] at h ⊢
    unfold allocO at h
    split at h
    · rename_i z hk hz
      split at h
      · rename_i cs hcs
        obtain ⟨rfl, rfl⟩ := h
        refine ⟨some (100 + dst.getD 0), .new _ hk rfl (.inl rfl) ⟨_, rfl⟩, fun s' h1 h2 => ?_⟩
        simp only [allocO, h2 _ rfl, hk, hz, hcs]
        exact ⟨rfl, rfl⟩
      · exact h.elim
    · exact h.elim
  case box t y =>
    simp only [opOutD] at h ⊢
    unfold boxO at h
    split at h
    · rename_i hk
      cases hs : (gev s.env y).sane with
      | false => rw [hs] at h; exact h.elim
      | true =>
        rw [hs] at h
        obtain ⟨rfl, rfl⟩ := h
        refine ⟨some (100 + dst.getD 0), .new _ hk rfl (.inl rfl) ⟨_, rfl⟩, fun s' h1 h2 => ?_⟩
        rw [h1 y (by simp [Op.operands])]
        simp only [boxO, h2 _ rfl, hk, hs, cond_true]
        exact ⟨rfl, rfl⟩
    · exact h.elim
  case load t y =>
    simp only [opOutD] at h ⊢
    have hl := h
    unfold loadO at h
    split at h
    · rename_i k ver i jj hy
      unfold loadM at h
      cases hf : forb.elem k with
      | true => rw [hf] at h; exact h.elim
      | false =>
        rw [hf] at h
        simp only [cond_false] at h
        split at h
        · rename_i ag sz e es xs v hag hsz hk
          have hu : u = none := by obtain ⟨_, _, _, _, h⟩ := h; exact rowPart_u h
          refine ⟨some k, .cells k _ hk rfl hf (.inl ⟨rfl, hu⟩), fun s' h1 h2 => ?_⟩
          rw [h1 y (by simp [Op.operands]), hy]
          simp only [loadO, loadM, hf, cond_false, hag, hsz, h2 k rfl, hk]; exact h
        · exact h.elim
    · rename_i hy
      unfold loadC at h
      split at h
      · rename_i ag sz cs off hag hsz hca
        have hu := rowPart_u h
        have e1 : ∀ hp' : Nat → Option GB, loadO P forb hp' t (gev s.env y) = loadC P forb hp' t (gev s.env y) := by
          intro hp'
          unfold loadO
          split
          · rename_i k ver i jj hyy; exact (hy _ _ _ _ hyy).elim
          · rfl
        rcases cellsAt_hang hca with hh | ⟨k, hk, hf, hh⟩
        · refine ⟨none, .free hu, fun s' h1 _ => ?_⟩
          rw [h1 y (by simp [Op.operands]), e1]
          simp only [loadC, hag, hsz, hh]; exact h
        · refine ⟨some k, .cells k _ hk rfl hf (.inl ⟨rfl, hu⟩), fun s' h1 h2 => ?_⟩
          rw [h1 y (by simp [Op.operands]), e1]
          simp only [loadC, hag, hsz, hh _ (h2 k rfl)]; exact h
      · exact h.elim
  case store t y z =>
    simp only [opOutD] at h ⊢
    unfold storeO at h
    split at h
    · rename_i k ver i jj hy
      have h0 := h
      unfold storeM at h
      cases hf : forb.elem k with
      | true => rw [hf] at h; exact h.elim
      | false =>
        rw [hf] at h
        simp only [cond_false] at h
        split at h
        · rename_i sz e es xs v x' hsz hk hx'
          have hu : ∃ b', u = some (k, b') ∧ b'.isVec = false := by
            rw [Bool.cond_eq_ite] at h
            split at h
            · obtain ⟨_, q, _, _, h⟩ := h
              simp only [Bool.cond_eq_ite] at h
              split at h
              · split at h
                · exact ⟨_, h.2, rfl⟩
                · exact h.elim
              · exact h.elim
            · exact h.elim
          refine ⟨some k, .cells k _ hk rfl hf (.inr ⟨rfl, hu⟩), fun s' h1 h2 => ?_⟩
          rw [h1 y (by simp [Op.operands]), h1 z (by simp [Op.operands]), hy]
          show (storeM P forb s'.hp t k ver i jj (gev s.env z)).eff x u
          have e1 : storeM P forb s'.hp t k ver i jj (gev s.env z) = storeM P forb s.hp t k ver i jj (gev s.env z) := by
            unfold storeM; rw [h2 k rfl]
          rw [e1]; exact h0
        · exact h.elim
    · rename_i hy
      unfold storeC at h
      split at h
      · rename_i k off sz hy2 hsz
        cases hf : forb.elem k with
        | true => rw [hf] at h; exact h.elim
        | false =>
          rw [hf] at h
          simp only [cond_false] at h
          split at h
          · rename_i cs hk
            rw [Bool.cond_eq_ite] at h
            split at h
            · rename_i hb
              obtain ⟨rfl, rfl⟩ := h
              refine ⟨some k, .cells k _ hk rfl hf (.inr ⟨rfl, _, rfl, rfl⟩), fun s' h1 h2 => ?_⟩
              rw [h1 y (by simp [Op.operands]), h1 z (by simp [Op.operands]), hy2]
              simp only [storeO, storeC, hsz, hf, cond_false, h2 k rfl, hk]
              rw [hb]
              exact ⟨rfl, rfl⟩
            · exact h.elim
          · exact h.elim
      · exact h.elim
  case makeSlice t l c =>
    simp only [opOutD] at h ⊢
    have hsame : ∀ s' : GS, (∀ q, q ∈ (Op.makeSlice t l c).operands → gev s'.env q = gev s.env q) → s'.hp (100 + dst.getD 0) = s.hp (100 + dst.getD 0) →
        makeSliceO P (100 + dst.getD 0) s'.hp t (gev s'.env l) (gev s'.env c) = makeSliceO P (100 + dst.getD 0) s.hp t (gev s.env l) (gev s.env c) := by
      intro s' h1 h2
      rw [h1 l (by simp [Op.operands]), h1 c (by simp [Op.operands])]
      unfold makeSliceO
      rw [h2]
    have hh := h
    unfold makeSliceO at h
    split at h
    · split at h
      · rename_i i hi hk
        split at h
        · split at h
          · rw [Bool.cond_eq_ite] at h
            split at h
            · obtain ⟨_, rfl, rfl⟩ := h
              refine ⟨some (100 + dst.getD 0), .new _ hk rfl (.inl rfl) ⟨_, rfl⟩, fun s' h1 h2 => ?_⟩
              rw [hsame s' h1 (h2 _ rfl)]; exact hh
            · exact h.elim
          · exact h.elim
        · exact h.elim
      · exact h.elim
    · exact h.elim
  case buildSlice t len parts =>
    have hz : isZ len parts = true := by cases hz : isZ len parts with
      | true => rfl
      | false => rw [hz] at hq; exact absurd rfl hq
    have hcl : hcls true ⟨dst, .buildSlice t len parts, type, pos, after, guard⟩ = 2 := by unfold hcls; simp only [hz, cond_true]
    rw [hcl]
    simp only [opOutD, hz, cond_true] at h ⊢
    have hh := h
    unfold buildZ at h
    split at h
    · rename_i e hu hk
      split at h
      · rename_i sz hsz
        rw [Bool.cond_eq_ite] at h
        split at h
        · obtain ⟨rfl, rfl⟩ := h
          refine ⟨some (100 + dst.getD 0), .new _ hk rfl (.inl rfl) ⟨_, rfl⟩, fun s' h1 h2 => ?_⟩
          have e1 : buildZ P (100 + dst.getD 0) s'.hp t = buildZ P (100 + dst.getD 0) s.hp t := by unfold buildZ; rw [h2 _ rfl]
          rw [e1]; exact hh
        · exact h.elim
      · exact h.elim
    · exact h.elim
  case call c =>
    obtain ⟨callee, args, ts⟩ := c
    cases callee <;> try (exact absurd rfl hq)
    rename_i b
    cases b <;> try (exact absurd rfl hq)
    have hcls' : hcls true ⟨dst, .call ⟨.builtin .append, args, ts⟩, type, pos, after, guard⟩ = 4 := rfl
    rw [hcls']
    have hh : (builtinD P (100 + dst.getD 0) forb s.hp .append ts.toList (args.toList.map (gev s.env))).eff x u := h
    have hopd : ∀ q, q ∈ args → q ∈ (Op.call ⟨.builtin .append, args, ts⟩).operands := fun q hq => by simpa [Op.operands, Call.operands] using hq
    have goal' : (∃ rk, St 4 forb (100 + dst.getD 0) s.hp u rk ∧ ∀ hp' : Nat → Option GB, (∀ k, rk = some k → hp' k = s.hp k) → (builtinD P (100 + dst.getD 0) forb hp' .append ts.toList (args.toList.map (gev s.env))).eff x u) := by
      unfold builtinD at hh
      split at hh
      · rename_i t tx gs gx _ hts hgs
        rw [hts, hgs]
        have hgs' : ∀ es k ver n, gs ≠ .ms es k ver n := by
          rintro es k ver n rfl
          simp [isMsApp, hgs] at hms
        have eD : ∀ hp', appendD P (100 + dst.getD 0) forb hp' t tx gs gx = appendO P (100 + dst.getD 0) forb hp' t tx gs gx := by
          intro hp'; unfold appendD; split
          · exact absurd rfl (hgs' _ _ _ _)
          · rfl
        rw [eD] at hh
        show ∃ rk, St 4 forb (100 + dst.getD 0) s.hp u rk ∧ ∀ hp' : Nat → Option GB, (∀ k, rk = some k → hp' k = s.hp k) → (appendD P (100 + dst.getD 0) forb hp' t tx gs gx).eff x u
        simp only [eD]
        have hh0 := hh
        unfold appendO at hh
        split at hh
        rotate_left
        · exact hh.elim
        rename_i e hu
        split at hh
        rotate_left
        · exact hh.elim
        rename_i i hi
        split at hh
        rotate_left
        · exact hh.elim
        rename_i ys z hys hz
        rw [Bool.cond_eq_ite] at hh
        split at hh
        rotate_left
        · exact hh.elim
        rename_i hb
        split at hh
        · rename_i es xs k
          cases hf : forb.elem k with
          | true => rw [hf] at hh; exact hh.elim
          | false =>
            rw [hf] at hh
            simp only [cond_false] at hh
            split at hh
            rotate_left
            · exact hh.elim
            rename_i e' n hk
            rw [Bool.cond_eq_ite] at hh
            split at hh
            rotate_left
            · exact hh.elim
            rename_i hb2
            obtain ⟨h3, rfl, rfl⟩ := hh
            refine ⟨some k, .vec k e' n hk hf rfl ⟨_, _, rfl⟩, fun hp' h2 => ?_⟩
            have e1 : appendO P (100 + dst.getD 0) forb hp' t tx (.list es xs (some k)) gx = appendO P (100 + dst.getD 0) forb s.hp t tx (.list es xs (some k)) gx := by
              unfold appendO; simp only [h2 k rfl]
            show (appendO P (100 + dst.getD 0) forb hp' t tx (.list es xs (some k)) gx).eff _ _
            rw [e1]; exact hh0
        · split at hh
          rotate_left
          · exact hh.elim
          rename_i hk
          obtain ⟨h3, rfl, rfl⟩ := hh
          refine ⟨some (100 + dst.getD 0), .new _ hk rfl (.inr rfl) ⟨_, rfl⟩, fun hp' h2 => ?_⟩
          have e1 : appendO P (100 + dst.getD 0) forb hp' t tx (.v (.slice none 0 0)) gx = appendO P (100 + dst.getD 0) forb s.hp t tx (.v (.slice none 0 0)) gx := by
            unfold appendO; simp only [h2 _ rfl]
          show (appendO P (100 + dst.getD 0) forb hp' t tx (.v (.slice none 0 0)) gx).eff _ _
          rw [e1]; exact hh0
        · exact hh.elim
      · rename_i h1 _ _; cases h1
      · rename_i h1; cases h1
      · rename_i h1; cases h1
      · exact hh.elim
    obtain ⟨rk, h1, h2⟩ := goal'
    refine ⟨rk, h1, fun s' h3 h4 => ?_⟩
    show (builtinD P (100 + dst.getD 0) forb s'.hp .append ts.toList (args.toList.map (gev s'.env))).eff x u
    rw [gev_map h3 (l := args.toList) (fun q hq => hopd q (by simpa using hq))]
    exact h2 s'.hp h4


/-! ### Two operations change places -/
theorem gev_put {s : GS} {dst : Option Tmp} {x : GV} {hp : Nat → Option GB} {y : Operand} (h : ∀ d, dst = some d → y ≠ .tmp d) : gev (putG s dst x hp).env y = gev s.env y := by
  cases dst with
  | none => rfl
  | some d =>
    cases y with
    | tmp t =>
      show setE s.env d x t = s.env t
      rw [setE_eq, if_neg (fun e => h d rfl (by rw [e]))]
    | const v => rfl
    | global g => rfl
    | func f => rfl

theorem mem_looksAt {ops : Array Oper} {o : Oper} {t : Tmp} (h : Operand.tmp t ∈ o.op.operands) : t ∈ o.looksAt ops := by
  unfold Oper.looksAt
  refine List.mem_append_left _ (List.mem_filterMap.2 ⟨.tmp t, by simpa using h, rfl⟩)

theorem wantedG_put {all : List Oper} {o : Oper} {s : GS} {dst : Option Tmp} {x : GV} {hp : Nat → Option GB} (h : ∀ d, dst = some d → d ∉ o.looksAt all.toArray) : wantedG all (putG s dst x hp).env o = wantedG all s.env o := by
  unfold wantedG
  split
  · rfl
  · rename_i j want hg
    split
    · rename_i oj hoj
      split
      · rename_i d hd
        have : (putG s dst x hp).env d = s.env d := by
          cases dst with
          | none => rfl
          | some d' =>
            show setE s.env d' x d = s.env d
            rw [setE_eq, if_neg]
            intro e
            subst e
            refine h d rfl ?_
            unfold Oper.looksAt
            refine List.mem_append_right _ ?_
            rw [hg]
            simp [hoj, hd]
        rw [this]
      · rfl
    · rfl

theorem putG_comm {s : GS} {d1 d2 : Option Tmp} {x y : GV} {h1 h2 h3 h4 : Nat → Option GB} (hd : ∀ d, d1 = some d → d2 ≠ some d) (hh : h2 = h4) : putG (putG s d1 x h1) d2 y h2 = putG (putG s d2 y h3) d1 x h4 := by
  subst hh
  cases d1 <;> cases d2 <;> simp only [putG]
  rename_i a b
  congr 1
  funext u
  simp only [setE_eq]
  split
  · rename_i e1; subst e1
    rw [if_neg (fun e => hd a rfl (by rw [e]))]
  · rfl

theorem setH_comm {hp : Nat → Option GB} {k1 k2 : Nat} {b1 b2 : GB} (h : k1 ≠ k2) : setH (setH hp k1 b1) k2 b2 = setH (setH hp k2 b2) k1 b1 := by
  funext u
  simp only [setH_eq]
  by_cases h1 : u = k1
  · subst h1; simp [h]
  · simp [h1]

theorem callOf_same {o : Oper} {env env' : Nat → GV} (h : ∀ y, y ∈ o.op.operands → gev env' y = gev env y) : callOf o env' = callOf o env := by
  obtain ⟨dst, op, type, pos, after, guard⟩ := o
  cases op <;> try rfl
  rename_i c
  obtain ⟨callee, args, ts⟩ := c
  cases callee <;> try rfl
  rename_i f
  simp only [Op.operands, Call.operands] at h
  show (match gev env' f with
      | .fn (.func g) first cap => some (some (g, first ++ (args.toList.map (gev env') ++ cap)))
      | _ => some none) = (match gev env f with
      | .fn (.func g) first cap => some (some (g, first ++ (args.toList.map (gev env) ++ cap)))
      | _ => some none)
  rw [h f (by simp), List.map_congr_left fun y hy => h y (by simp; exact .inr (by simpa using hy))]

theorem callX_nil {P : Program} {hp hp' : Nat → Option GB} {f : FuncId} {args : List GV} {x : GV} {h0 : Nat → Option GB} (hk : keysL args = []) (h : callX P hp f args (fun x' h => x' = x ∧ h = h0)) :
    h0 = hp ∧ callX P hp' f args (fun x' h => x' = x ∧ h = hp') := by
  unfold callX at *
  rw [hk] at h ⊢
  simp only [reach, List.map_nil, List.length_nil] at h ⊢
  obtain ⟨v, hs', h1, h2, h3, h4⟩ := h
  refine ⟨?_, v, hs', h1, h2, h3, ?_⟩
  · rw [← h4]; rfl
  · rfl

theorem isCall_of {o : Oper} {env : Nat → GV} {c : Option (FuncId × List GV)} (h : callOf o env = some c) : isCall o = true := by
  obtain ⟨dst, op, type, pos, after, guard⟩ := o
  unfold callOf at h
  cases op <;> simp only at h <;> try (cases h; done)
  rename_i c
  obtain ⟨callee, args, ts⟩ := c
  cases callee <;> simp only at h <;> try (cases h; done)
  rfl

theorem hcls_call {o : Oper} (pc : Bool) (h : isCall o = true) : hcls pc o = if pc then 0 else 5 := by
  obtain ⟨dst, op, type, pos, after, guard⟩ := o
  cases op <;> simp only [isCall, Bool.false_eq_true] at h
  rename_i c
  obtain ⟨callee, args, ts⟩ := c
  cases callee <;> simp only [Bool.false_eq_true] at h
  cases pc <;> rfl

theorem reach_acc (hp : Nat → Option GB) : ∀ (n : Nat) (todo acc : List Nat) (k : Nat), k ∈ acc → k ∈ reach hp n todo acc
  | 0, _, acc, k, h => by unfold reach; exact h
  | n + 1, [], acc, k, h => by unfold reach; exact h
  | n + 1, x :: todo, acc, k, h => by
    unfold reach
    cases acc.elem x with
    | true => exact reach_acc hp n todo acc k h
    | false =>
      simp only [cond_false]
      split
      · exact reach_acc hp n _ _ k (List.mem_append_left _ h)
      · exact reach_acc hp n _ _ k (List.mem_append_left _ h)
      · exact reach_acc hp n todo acc k h

theorem mentL_mem {hp : Nat → Option GB} {k : Nat} : ∀ {ks : List Nat}, k ∈ ks → k ∈ mentL hp ks ∧ ∀ q, q ∈ keysL (hpCells hp k) → q ∈ mentL hp ks
  | [], h => by cases h
  | x :: r, h => by
    unfold mentL
    rcases List.mem_cons.1 h with rfl | h
    · exact ⟨List.mem_cons_self .., fun q hq => List.mem_cons_of_mem _ (List.mem_append_left _ hq)⟩
    · obtain ⟨h1, h2⟩ := mentL_mem (hp := hp) h
      exact ⟨List.mem_cons_of_mem _ (List.mem_append_right _ h1), fun q hq => List.mem_cons_of_mem _ (List.mem_append_right _ (h2 q hq))⟩

theorem reach_same {hp hp' : Nat → Option GB} {M : List Nat} (hM : ∀ k, k ∈ M → hp' k = hp k) : ∀ (n : Nat) (todo acc : List Nat), (∀ k, k ∈ todo → k ∈ M) →
    (∀ k, k ∈ reach hp n todo acc → ∀ q, q ∈ keysL (hpCells hp k) → q ∈ M) → reach hp' n todo acc = reach hp n todo acc
  | 0, _, acc, _, _ => by unfold reach; rfl
  | n + 1, [], acc, _, _ => by unfold reach; rfl
  | n + 1, x :: todo, acc, h1, h2 => by
    unfold reach at h2 ⊢
    cases he : acc.elem x with
    | true =>
      rw [he] at h2
      exact reach_same hM n todo acc (fun k hk => h1 k (List.mem_cons_of_mem _ hk)) h2
    | false =>
      rw [he] at h2
      simp only [cond_false] at h2 ⊢
      rw [hM x (h1 x (List.mem_cons_self ..))]
      cases hx : hp x with
      | none => rw [hx] at h2; exact reach_same hM n todo acc (fun k hk => h1 k (List.mem_cons_of_mem _ hk)) h2
      | some b =>
        cases b with
        | vec e m => rw [hx] at h2; exact reach_same hM n todo acc (fun k hk => h1 k (List.mem_cons_of_mem _ hk)) h2
        | gone => rw [hx] at h2; exact reach_same hM n todo acc (fun k hk => h1 k (List.mem_cons_of_mem _ hk)) h2
        | mvec e es xs v => rw [hx] at h2; exact reach_same hM n todo _ (fun k hk => h1 k (List.mem_cons_of_mem _ hk)) h2
        | cells cs =>
          rw [hx] at h2
          refine reach_same hM n _ _ (fun k hk => ?_) h2
          rcases List.mem_append.1 hk with hk | hk
          · refine h2 x (reach_acc hp n _ _ x (by simp)) k ?_
            unfold hpCells; rw [hx]; exact hk
          · exact h1 k (List.mem_cons_of_mem _ hk)

/-- A call looks at nothing else than what is named. -/
theorem callX_agree {P : Program} {hp hp' : Nat → Option GB} {f : FuncId} {args : List GV} {x : GV} {h0 : Nat → Option GB} (hM : ∀ k, k ∈ ment hp args → hp' k = hp k) (h : callX P hp f args (fun x' h => x' = x ∧ h = h0)) :
    ment hp' args = ment hp args ∧ ∃ hs'' : List GB, hs''.length = (reach hp 100 (keysL args) []).length ∧ h0 = putAll hp (reach hp 100 (keysL args) []) hs'' ∧ callX P hp' f args (fun x' h => x' = x ∧ h = putAll hp' (reach hp 100 (keysL args) []) hs'') := by
  have hr : reach hp' 100 (keysL args) [] = reach hp 100 (keysL args) [] :=
    reach_same hM 100 _ _ (fun k hk => List.mem_append_left _ hk) fun k hk q hq => List.mem_append_right _ ((mentL_mem hk).2 q hq)
  have hc : ∀ k, k ∈ reach hp 100 (keysL args) [] → hpCells hp' k = hpCells hp k := fun k hk => by
    unfold hpCells; rw [hM k (List.mem_append_right _ (mentL_mem hk).1)]
  have hcb : ∀ k, k ∈ reach hp 100 (keysL args) [] → hpB hp' k = hpB hp k := fun k hk => by
    unfold hpB; rw [hM k (List.mem_append_right _ (mentL_mem hk).1)]
  have hm : ∀ (ks : List Nat), (∀ k, k ∈ ks → hpCells hp' k = hpCells hp k) → mentL hp' ks = mentL hp ks := by
    intro ks
    induction ks with
    | nil => intro _; rfl
    | cons k r ih => intro h; unfold mentL; rw [h k (List.mem_cons_self ..), ih fun q hq => h q (List.mem_cons_of_mem _ hq)]
  refine ⟨by unfold ment; rw [hr, hm _ hc], ?_⟩
  unfold callX at h ⊢
  rw [hr, List.map_congr_left (g := fun k => (hpB hp k).ren (idxOf (reach hp 100 (keysL args) []))) fun k hk => by rw [hcb k hk]]
  obtain ⟨v, hs', h1, h2, h3, h4⟩ := h
  exact ⟨_, by simpa using h2, h4.symm, v, hs', h1, h2, h3, rfl⟩

theorem clearOf_mem {forb : List Nat} {k : Nat} : ∀ {l : List Nat}, clearOf forb l = true → forb.elem k = true → k ∉ l
  | [], _, _, h => by cases h
  | x :: r, h, hk, hm => by
    unfold clearOf at h
    simp only [Bool.and_eq_true, Bool.not_eq_true'] at h
    rcases List.mem_cons.1 hm with rfl | hm
    · rw [hk] at h; cases h.1
    · exact clearOf_mem h.2 hk hm

theorem beq_false {a b : Nat} (h : a ≠ b) : Nat.beq a b = false := by
  cases hb : Nat.beq a b with
  | true => exact absurd (Nat.eq_of_beq_eq_true hb) h
  | false => rfl

theorem putAll_out {hp : Nat → Option GB} {k : Nat} : ∀ {ks : List Nat} {hs : List GB}, k ∉ ks → putAll hp ks hs k = hp k
  | [], _, _ => by unfold putAll; rfl
  | x :: ks, [], _ => by unfold putAll; rfl
  | x :: ks, cs :: hs, h => by
    unfold putAll
    rw [beq_false (fun (e : k = x) => h (by rw [e]; exact List.mem_cons_self ..))]
    exact putAll_out fun h' => h (List.mem_cons_of_mem _ h')

theorem putAll_setH {hp : Nat → Option GB} {k : Nat} {b : GB} : ∀ {ks : List Nat} {hs : List GB}, k ∉ ks → putAll (setH hp k b) ks hs = setH (putAll hp ks hs) k b
  | [], _, _ => by unfold putAll; rfl
  | x :: ks, [], _ => by unfold putAll; rfl
  | x :: ks, cs :: hs, h => by
    have hkx : k ≠ x := fun e => h (by rw [e]; exact List.mem_cons_self ..)
    have ih := putAll_setH (hp := hp) (k := k) (b := b) (ks := ks) (hs := hs) fun h' => h (List.mem_cons_of_mem _ h')
    unfold putAll
    funext u
    rw [ih, setH_eq, setH_eq]
    by_cases hu : u = x
    · subst hu; simp [Ne.symm hkx]
    · rw [beq_false hu]; simp

/-- A call that comes to keys beside operations that only read or make. -/
structure Special (P : Program) (forb : List Nat) (pc bad rd : Bool) (wk : Option Nat) (o : Oper) (s : GS) (x : GV) (hp' : Nat → Option GB) : Prop where
  hbad : bad = false
  hrd : rd = true → hp' = s.hp
  out : ∀ k, forb.elem k = true → hp' k = s.hp k
  same : ∀ s' : GS, (∀ y, y ∈ o.op.operands → gev s'.env y = gev s.env y) → s'.hp = s.hp → gEff P forb pc bad rd wk o s' x hp'
  more : ∀ (s' : GS) (k : Nat) (b : GB), (∀ y, y ∈ o.op.operands → gev s'.env y = gev s.env y) → forb.elem k = true → s'.hp = setH s.hp k b → gEff P forb pc bad rd wk o s' x (setH hp' k b)
  less : ∀ (s' : GS) (k : Nat) (b : GB), (∀ y, y ∈ o.op.operands → gev s'.env y = gev s.env y) → forb.elem k = true → s.hp = setH s'.hp k b → s'.hp k = none → ∃ hp'', hp' = setH hp'' k b ∧ hp'' k = none ∧ gEff P forb pc bad rd wk o s' x hp''

theorem special {P : Program} {forb : List Nat} {pc bad rd : Bool} {wk : Option Nat} {o : Oper} {s : GS} {x : GV} {hp' : Nat → Option GB} {g : FuncId} {args : List GV} (hc : callOf o s.env = some (some (g, args)))
    (hb : bad = false) (hf : clearOf forb (ment s.hp args) = true) (hr : rd = true → hp' = s.hp) (h : callX P s.hp g args (fun x' h => x' = x ∧ h = hp')) : Special P forb pc bad rd wk o s x hp' := by
  have hks : ∀ k, forb.elem k = true → k ∉ reach s.hp 100 (keysL args) [] := fun k hk hm => clearOf_mem hf hk (List.mem_append_right _ (mentL_mem hm).1)
  obtain ⟨_, hs0, _, e0, _⟩ := callX_agree (hp' := s.hp) (fun k _ => rfl) h
  refine ⟨hb, hr, fun k hk => ?_, fun s' h1 h2 => ?_, fun s' k b h1 hk h2 => ?_, fun s' k b h1 hk h2 h3 => ?_⟩
  · rw [e0, putAll_out (hks k hk)]
  · unfold gEff
    rw [callOf_same h1, hc, h2]
    exact ⟨.inr ⟨hb, hf, hr⟩, h⟩
  · have ha : ∀ q, q ∈ ment s.hp args → s'.hp q = s.hp q := fun q hq => by
      rw [h2, setH_eq, if_neg]; intro e; subst e; exact clearOf_mem hf hk hq
    obtain ⟨e1, hs', e2, e3, e4⟩ := callX_agree ha h
    unfold gEff
    rw [callOf_same h1, hc]
    have e5 : putAll s'.hp (reach s.hp 100 (keysL args) []) hs' = setH hp' k b := by rw [h2, putAll_setH (hks k hk), ← e3]
    rw [e5] at e4
    exact ⟨.inr ⟨hb, by rw [e1]; exact hf, fun e => by rw [hr e, h2]⟩, e4⟩
  · have ha : ∀ q, q ∈ ment s.hp args → s'.hp q = s.hp q := fun q hq => by
      rw [h2, setH_eq, if_neg]; intro e; subst e; exact clearOf_mem hf hk hq
    obtain ⟨e1, hs', e2, e3, e4⟩ := callX_agree ha h
    have e5 : hp' = setH (putAll s'.hp (reach s.hp 100 (keysL args) []) hs') k b := by
      have e6 := putAll_setH (hp := s'.hp) (b := b) (hs := hs') (hks k hk)
      rw [← h2] at e6
      rw [e3, e6]
    refine ⟨_, e5, by rw [putAll_out (hks k hk), h3], ?_⟩
    unfold gEff
    rw [callOf_same h1, hc]
    refine ⟨.inr ⟨hb, by rw [e1]; exact hf, fun e => ?_⟩, e4⟩
    have e6 : setH (putAll s'.hp (reach s.hp 100 (keysL args) []) hs') k b = setH s'.hp k b := by rw [← e5, hr e, h2]
    funext q
    by_cases hq : q = k
    · subst hq; rw [putAll_out (hks q hk)]
    · have := congrFun e6 q
      rw [setH_eq, setH_eq, if_neg hq, if_neg hq] at this
      exact this

theorem St.key {cls : Nat} {forb : List Nat} {own : Nat} {hp : Nat → Option GB} {u : Option (Nat × GB)} {rk : Option Nat} (h : St cls forb own hp u rk) {k : Nat} {b : GB} (hu : u = some (k, b)) : rk = some k := by
  subst hu
  cases h with
  | free h => cases h
  | cells k' b0 hk hb hf h =>
    rcases h with ⟨_, h⟩ | ⟨_, b', h, _⟩
    · cases h
    · cases h; rfl
  | new k' hk ho hc h => obtain ⟨b', h⟩ := h; cases h; rfl
  | vec k' e n hk hf hc h => obtain ⟨e', n', h⟩ := h; cases h; rfl

theorem storeO_key {P : Program} {forb : List Nat} {hp : Nat → Option GB} {t : TypeId} {a x y : GV} {u : Option (Nat × GB)} (h : (storeO P forb hp t a x).eff y u) :
    (∃ k off b, a = .ptr k off ∧ u = some (k, b)) ∨ ∃ k ver i j, a = .mptr k ver i j := by
  unfold storeO at h
  split at h
  · exact .inr ⟨_, _, _, _, rfl⟩
  · unfold storeC at h
    split at h
    · rename_i k off sz _ _
      cases hf : forb.elem k with
      | true => rw [hf] at h; exact h.elim
      | false =>
        rw [hf] at h
        simp only [cond_false] at h
        split at h
        · rw [Bool.cond_eq_ite] at h
          split at h
          · obtain ⟨rfl, rfl⟩ := h; exact .inl ⟨k, off, _, rfl, rfl⟩
          · exact h.elim
        · exact h.elim
    · exact h.elim

theorem storeOk_same {wk : Option Nat} {o : Oper} {env env' : Nat → GV} (h : ∀ y, y ∈ o.op.operands → gev env' y = gev env y) : storeOk wk o env' = storeOk wk o env := by
  obtain ⟨dst, op, type, pos, after, guard⟩ := o
  unfold storeOk
  cases wk with
  | none => rfl
  | some k =>
    cases op <;> try rfl
    rename_i t a x
    simp only
    rw [h a (by simp [Op.operands])]

def isApp (o : Oper) : Bool := match o.op with
  | .call c => (match c.callee with
    | .builtin .append => true
    | _ => false)
  | _ => false
theorem isMsApp_app {o : Oper} {env : Nat → GV} (h : isApp o = false) : isMsApp o env = false := by
  obtain ⟨dst, op, type, pos, after, guard⟩ := o
  cases op <;> try rfl
  rename_i c
  obtain ⟨callee, args, ts⟩ := c
  cases callee <;> try rfl
  rename_i b
  cases b <;> first | rfl | (simp [isApp] at h; done)
theorem isMsApp_same {o : Oper} {env env' : Nat → GV} (h : ∀ y, y ∈ o.op.operands → gev env' y = gev env y) : isMsApp o env' = isMsApp o env := by
  obtain ⟨dst, op, type, pos, after, guard⟩ := o
  cases op <;> try rfl
  rename_i c
  obtain ⟨callee, args, ts⟩ := c
  cases callee <;> try rfl
  rename_i b
  cases b <;> try rfl
  unfold isMsApp
  simp only
  have : args.toList.map (gev env') = args.toList.map (gev env) := List.map_congr_left fun y hy => h y (by simpa [Op.operands, Call.operands] using hy)
  rw [this]
theorem msOk_same {pc : Bool} {o : Oper} {env env' : Nat → GV} (h : ∀ y, y ∈ o.op.operands → gev env' y = gev env y) : msOk pc o env' = msOk pc o env := by
  unfold msOk; rw [isMsApp_same h]
theorem app_same {P : Program} {forb : List Nat} {o : Oper} {s s' : GS} (ha : isApp o = true) (h : ∀ y, y ∈ o.op.operands → gev s'.env y = gev s.env y) (hp : s'.hp = s.hp) : opOutD P forb o s' = opOutD P forb o s := by
  obtain ⟨dst, op, type, pos, after, guard⟩ := o
  cases op <;> try (cases ha; done)
  rename_i c
  obtain ⟨callee, args, ts⟩ := c
  cases callee <;> try (cases ha; done)
  rename_i b
  cases b <;> try (cases ha; done)
  have : args.toList.map (gev s'.env) = args.toList.map (gev s.env) := List.map_congr_left fun y hy => h y (by simpa [Op.operands, Call.operands] using hy)
  show builtinD P _ forb s'.hp .append ts.toList (args.toList.map (gev s'.env)) = builtinD P _ forb s.hp .append ts.toList (args.toList.map (gev s.env))
  rw [this, hp]
theorem hcls_app {o : Oper} (h : isApp o = true) : hcls false o = 5 := by
  obtain ⟨dst, op, type, pos, after, guard⟩ := o
  cases op <;> try (cases h; done)
  rename_i c
  obtain ⟨callee, args, ts⟩ := c
  cases callee <;> try (cases h; done)
  rename_i b
  cases b <;> first | rfl | (cases h; done)
theorem hcls_same {pc : Bool} {o : Oper} (h : isCall o = false) (ha : ¬ (pc = false ∧ isApp o = true)) : hcls pc o = hcls true o := by
  obtain ⟨dst, op, type, pos, after, guard⟩ := o
  cases op <;> try rfl
  rename_i c
  obtain ⟨callee, args, ts⟩ := c
  cases callee <;> first | rfl | (simp [isCall] at h; done) | skip
  rename_i b
  cases b <;> try rfl
  cases pc
  · exact absurd ⟨rfl, rfl⟩ ha
  · rfl

/-- What a step does, told by what it consults. -/
theorem gEff_touch {P : Program} {forb : List Nat} {pc bad rd : Bool} {wk : Option Nat} {o : Oper} {s : GS} {x : GV} {hp' : Nat → Option GB} (h : gEff P forb pc bad rd wk o s x hp') :
    (∃ u rk, St (hcls pc o) forb (100 + o.dst.getD 0) s.hp u rk ∧ hp' = updH s.hp u ∧ (∀ k, wk = some k → hcls pc o = 3 → rk = some k) ∧
      ∀ s' : GS, (∀ y, y ∈ o.op.operands → gev s'.env y = gev s.env y) → (∀ k, rk = some k → s'.hp k = s.hp k) → gEff P forb pc bad rd wk o s' x (updH s'.hp u)) ∨
    (hcls pc o = 5 ∧ ∀ s' : GS, (∀ y, y ∈ o.op.operands → gev s'.env y = gev s.env y) → s'.hp = s.hp → gEff P forb pc bad rd wk o s' x hp') ∨
    (isCall o = true ∧ Special P forb pc bad rd wk o s x hp') := by
  have h0 := h
  unfold gEff at h
  split at h
  · rename_i g args hc
    have hic := isCall_of hc
    obtain ⟨hk | ⟨hb, hf, hr⟩, h⟩ := h
    · cases pc with
      | true =>
        left
        have hk' : keysL args = [] := hk
        obtain ⟨e1, _⟩ := callX_nil (hp' := s.hp) hk' h
        refine ⟨none, none, .free rfl, e1, fun k _ h3 => (by rw [hcls_call true hic] at h3; cases h3), fun s' h1 _ => ?_⟩
        unfold gEff
        rw [callOf_same h1, hc]
        exact ⟨.inl hk, (callX_nil hk' h).2⟩
      | false =>
        right; left
        refine ⟨by rw [hcls_call false hic]; rfl, fun s' h1 h2 => ?_⟩
        unfold gEff
        rw [callOf_same h1, hc, h2]
        exact ⟨.inl hk, h⟩
    · exact .inr (.inr ⟨hic, special hc hb hf hr h⟩)
  · exact h.elim
  · rename_i hc
    obtain ⟨⟨hst, hmk⟩, u, h1, h2⟩ := h
    by_cases hap : pc = false ∧ isApp o = true
    · obtain ⟨rfl, ha⟩ := hap
      refine .inr (.inl ⟨hcls_app ha, fun s' h5 h6 => ?_⟩)
      unfold gEff
      rw [callOf_same h5, hc]
      exact ⟨⟨by rw [storeOk_same h5]; exact hst, by rw [msOk_same h5]; exact hmk⟩, u, by rw [app_same ha h5 h6]; exact h1, by rw [h6]; exact h2⟩
    have hms : isMsApp o s.env = false := by
      cases pc with
      | true => unfold msOk at hmk; simpa using hmk
      | false =>
        cases ha : isApp o with
        | true => exact absurd ⟨rfl, ha⟩ hap
        | false => exact isMsApp_app ha
    have hncall : isCall o = false := by
      obtain ⟨dst, op, type, pos, after, guard⟩ := o
      cases op <;> try rfl
      rename_i c
      obtain ⟨callee, args, ts⟩ := c
      cases callee <;> first | rfl | skip
      exfalso; revert hc; unfold callOf; simp only; split <;> simp
    obtain ⟨rk, h3, h4⟩ := touch hc hms h1
    rw [← hcls_same hncall hap] at h3
    refine .inl ⟨u, rk, h3, h2, fun k hwk hcl => ?_, fun s' h5 h6 => ?_⟩
    · subst hwk
      obtain ⟨dst, op, type, pos, after, guard⟩ := o
      cases op <;> simp [hcls] at hcl
      case buildSlice t len parts => rw [Bool.cond_eq_ite] at hcl; split at hcl <;> cases hcl
      case store t a y =>
        rcases storeO_key (show (storeO P forb s.hp t (gev s.env a) (gev s.env y)).eff x u from h1) with ⟨k', off, b, h5, h6⟩ | ⟨k', ver, i, j, h5⟩
        · simp only [storeOk, h5] at hst
          have := Nat.eq_of_beq_eq_true hst
          subst this
          exact h3.key h6
        · simp [storeOk, h5] at hst
      case call c =>
        obtain ⟨callee, args, ts⟩ := c
        cases callee <;> simp at hcl
        case builtin b => cases b <;> first | (simp at hcl; done) | (cases pc <;> simp at hcl)
        case value f => cases pc <;> simp at hcl
    · unfold gEff
      rw [callOf_same h5, hc]
      exact ⟨⟨by rw [storeOk_same h5]; exact hst, by rw [msOk_same h5]; exact hmk⟩, u, h4 s' h5 h6, rfl⟩

theorem updH_comm {hp : Nat → Option GB} {u1 u2 : Option (Nat × GB)} (h : ∀ k1 b1 k2 b2, u1 = some (k1, b1) → u2 = some (k2, b2) → k1 ≠ k2) : updH (updH hp u1) u2 = updH (updH hp u2) u1 := by
  cases u1 with
  | none => rfl
  | some p1 =>
    cases u2 with
    | none => rfl
    | some p2 =>
      obtain ⟨k1, b1⟩ := p1
      obtain ⟨k2, b2⟩ := p2
      exact setH_comm (h k1 b1 k2 b2 rfl rfl)

/-- Two operations that keep out of each other's way consult no block in common, where one of them writes. -/
theorem St.apart {ci cj : Nat} {fi fj : List Nat} {oi oj : Nat} {hp : Nat → Option GB} {ui uj : Option (Nat × GB)} {k : Nat} (hi : St ci fi oi hp ui (some k)) (hj : St cj fj oj (updH hp ui) uj (some k))
    (hne : ui ≠ none ∨ uj ≠ none) (hfj : ci = 2 ∨ ci = 4 → fj.elem oi = true) (hown : (ci = 2 ∨ ci = 4) → (cj = 2 ∨ cj = 4) → oi ≠ oj)
    (h33 : (ci = 3 → (cj = 1 ∨ cj = 3) → fi.elem k = true ∨ fj.elem k = true) ∧ (cj = 3 → ci = 1 → fi.elem k = true ∨ fj.elem k = true)) (h44 : ¬ (ci = 4 ∧ cj = 4)) : False := by
  cases hi with
  | cells _ b0 hk hb0 hf h =>
    have hk1 : ∃ b1, updH hp ui k = some b1 ∧ b1.isVec = false := by
      rcases h with ⟨_, rfl⟩ | ⟨_, b', rfl, hb'⟩
      · exact ⟨b0, hk, hb0⟩
      · exact ⟨b', by simp [updH, setH_eq], hb'⟩
    obtain ⟨b1, hk1, hb1⟩ := hk1
    cases hj with
    | cells _ b2 hk2 hb2 hf2 h2 =>
      rcases h with ⟨h, rfl⟩ | ⟨h, b', rfl, _⟩ <;> rcases h2 with ⟨h2, rfl⟩ | ⟨h2, b'', rfl, _⟩
      · simp at hne
      · rcases h33.2 h2 h with e | e <;> simp_all
      · rcases h33.1 h (.inl h2) with e | e <;> simp_all
      · rcases h33.1 h (.inr h2) with e | e <;> simp_all
    | new _ hk2 _ _ _ => rw [hk1] at hk2; cases hk2
    | vec _ _ _ hk2 _ _ _ => rw [hk1] at hk2; cases hk2; cases hb1
  | new _ hk ho hc h =>
    subst ho
    obtain ⟨b, rfl⟩ := h
    cases hj with
    | cells _ _ _ _ hf2 _ => rw [hfj hc] at hf2; cases hf2
    | new _ _ ho2 hc2 _ => exact hown hc hc2 ho2
    | vec _ _ _ _ hf2 _ _ => rw [hfj hc] at hf2; cases hf2
  | vec _ e n hk hf hc h =>
    obtain ⟨e', n', rfl⟩ := h
    have hk1 : updH hp (some (k, .vec e' n')) k = some (.vec e' n') := by simp [updH, setH_eq]
    cases hj with
    | cells _ _ hk2 hb2 _ _ => rw [hk1] at hk2; cases hk2; cases hb2
    | new _ hk2 _ _ _ => rw [hk1] at hk2; cases hk2
    | vec _ _ _ _ _ hc2 _ => exact h44 ⟨hc, hc2⟩

end Go.Gh
