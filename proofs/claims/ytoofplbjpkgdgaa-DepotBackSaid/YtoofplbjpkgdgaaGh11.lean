/- Ghost values and walks, bundle Gh11; proved for whatever the arguments' types allow, as each theorem says. -/
import Derived.Test.YtoofplbjpkgdgaaGh10

/- A statement whose order is open: one order serves them all. -/
set_option linter.unusedVariables false
set_option linter.unusedSimpArgs false
namespace Go.Gh

/-! ### Which operations wait for which -/
def masksFrom : List Nat → List Oper → List Nat
  | acc, [] => acc
  | acc, o :: r => masksFrom (acc ++ [o.after.toList.foldl (fun s e => bif Region.binds .any e then s ||| 2 ^ e.on ||| acc.getD e.on 0 else s) 0]) r

def masks (ops : List Oper) : List Nat := masksFrom [] ops

/-- j waits for i. -/
inductive Anc (ops : List Oper) : Nat → Nat → Prop
  | one {j i : Nat} (o : Oper) (e : Edge) (h : ops[j]? = some o) (he : e ∈ o.after) (hb : Region.binds .any e = true) (hi : e.on = i) : Anc ops j i
  | more {j i : Nat} (o : Oper) (e : Edge) (h : ops[j]? = some o) (he : e ∈ o.after) (hb : Region.binds .any e = true) (hi : Anc ops e.on i) : Anc ops j i

theorem foldl_mask {acc : List Nat} {ops : List Oper} {j : Nat} {o : Oper} (ho : ops[j]? = some o) (hacc : ∀ k i, (acc.getD k 0).testBit i = true → Anc ops k i) :
    ∀ (l : List Edge) (s : Nat), (∀ e, e ∈ l → e ∈ o.after) → (∀ i, s.testBit i = true → Anc ops j i) → ∀ i, (l.foldl (fun s e => bif Region.binds .any e then s ||| 2 ^ e.on ||| acc.getD e.on 0 else s) s).testBit i = true → Anc ops j i
  | [], s, _, hs, i, hi => hs i hi
  | e :: l, s, hl, hs, i, hi => by
    refine foldl_mask ho hacc l _ (fun e' he' => hl e' (List.mem_cons_of_mem _ he')) (fun i' hi' => ?_) i hi
    cases hb : Region.binds .any e with
    | false => simp only [hb, cond_false] at hi'; exact hs i' hi'
    | true =>
      simp only [hb, cond_true, Nat.testBit_or, Bool.or_eq_true] at hi'
      rcases hi' with (hi' | hi') | hi'
      · exact hs i' hi'
      · rw [Nat.testBit_two_pow] at hi'
        exact .one o e ho (hl e (List.mem_cons_self ..)) hb (by simpa using hi')
      · exact .more o e ho (hl e (List.mem_cons_self ..)) hb (hacc _ _ hi')

theorem masksFrom_ok {ops : List Oper} : ∀ (l : List Oper) (acc : List Nat), (∀ j, l[j]? = ops[acc.length + j]?) → (∀ k i, (acc.getD k 0).testBit i = true → Anc ops k i) → ∀ k i, ((masksFrom acc l).getD k 0).testBit i = true → Anc ops k i
  | [], acc, _, hacc, k, i, h => hacc k i h
  | o :: l, acc, hl, hacc, k, i, h => by
    unfold masksFrom at h
    refine masksFrom_ok l _ (fun j => ?_) (fun k i hk => ?_) k i h
    · have := hl (j + 1)
      rw [List.getElem?_cons_succ] at this
      rw [this]; congr 1; simp; omega
    · by_cases hk' : k < acc.length
      · rw [List.getD_eq_getElem?_getD, List.getElem?_append_left hk', ← List.getD_eq_getElem?_getD] at hk
        exact hacc k i hk
      · by_cases he : k = acc.length
        · subst he
          rw [List.getD_eq_getElem?_getD, List.getElem?_append_right (Nat.le_refl _), Nat.sub_self] at hk
          have ho : ops[acc.length]? = some o := by simpa using (hl 0).symm
          exact foldl_mask ho hacc o.after.toList 0 (fun e he => by simpa using he) (fun i hi => by simp at hi) i hk
        · have : (acc ++ [List.foldl (fun s e => bif Region.binds .any e then s ||| 2 ^ e.on ||| acc.getD e.on 0 else s) 0 o.after.toList])[k]? = none := List.getElem?_eq_none (by simp; omega)
          rw [List.getD_eq_getElem?_getD, this] at hk
          simp at hk

theorem masks_ok {ops : List Oper} {j i : Nat} (h : ((masks ops).getD j 0).testBit i = true) : Anc ops j i :=
  masksFrom_ok ops [] (fun j => by simp) (fun k i hk => by simp at hk) j i h

/-- All that an operation waits for, near or far, has been. -/
theorem Anc.listed {ops : Array Oper} {listed : Array Bool} (hd : ∀ (j : Nat) (o : Oper), ops[j]? = some o → listed.getD j false = true → ∀ e, e ∈ o.after → Region.binds .any e = true → listed.getD e.on false = true)
    {j i : Nat} (h : Anc ops.toList j i) : (∀ o, ops[j]? = some o → ∀ e, e ∈ o.after → Region.binds .any e = true → listed.getD e.on false = true) → listed.getD i false = true := by
  induction h with
  | one o e h he hb hi => intro hr; subst hi; exact hr o (by simpa using h) e he hb
  | more o e h he hb hi ih =>
    intro hr
    refine ih fun o' ho' e' he' hb' => ?_
    exact hd e.on o' ho' (hr o (by simpa using h) e he hb) e' he' hb'

/-! ### Which operations keep out of each other's way -/
def isCall (o : Oper) : Bool := match o.op with
  | .call c => (match c.callee with
    | .value _ => true
    | _ => false)
  | _ => false

/-- What an operation does to memory. 0: nothing; 1: reads a block; 2: makes one; 3: writes one; 4: appends; 5: a call that may do all. -/
def hcls (pc : Bool) (o : Oper) : Nat := match o.op with
  | .load _ _ => 1
  | .alloc _ => 2
  | .box _ _ => 2
  | .makeSlice _ _ _ => 2
  | .buildSlice _ len ps => bif isZ len ps then 2 else 0
  | .assign _ => 2
  | .store _ _ _ => 3
  | .call c => (match c.callee with
    | .builtin .append => bif pc then 4 else 5
    | .value _ => bif pc then 0 else 5
    | _ => 0)
  | _ => 0

def heapApart (a b : Nat) (da db : Bool) : Bool :=
  !((Nat.beq a 3 && (Nat.beq b 1 || Nat.beq b 3)) || (Nat.beq b 3 && Nat.beq a 1) || (Nat.beq a 4 && Nat.beq b 4) || (Nat.beq a 5 && Nat.ble 1 b) || (Nat.beq b 5 && Nat.ble 1 a)) &&
  (da && db || !((Nat.beq a 2 || Nat.beq a 4) && (Nat.beq b 2 || Nat.beq b 4)))

def makes (o : Oper) : Bool := Nat.beq (hcls true o) 2 || Nat.beq (hcls true o) 4

/-- Is some other operation that touches memory, or a call, free to come ahead or behind? -/
def pcOf (ms : List Nat) (j : Nat) : Nat → List Oper → Bool
  | _, [] => false
  | i, o :: r => (!(Nat.beq i j) && (!((ms.getD j 0).testBit i) && (!((ms.getD i 0).testBit j) && (isCall o || Nat.blt 0 (hcls true o))))) || pcOf ms j (i + 1) r

def unord (ms : List Nat) (i j : Nat) : Bool := !(Nat.beq i j) && (!((ms.getD j 0).testBit i) && !((ms.getD i 0).testBit j))

/-- The new blocks of operations that are free to come ahead or behind. -/
def forbOf (ms : List Nat) (j : Nat) : Nat → List Oper → List Nat
  | _, [] => []
  | i, o :: r => bif makes o && unord ms i j then (100 + o.dst.getD 0) :: forbOf ms j (i + 1) r else forbOf ms j (i + 1) r

/-- Is some other operation that writes, or a call, free to come ahead or behind? -/
def badOf (ms : List Nat) (j : Nat) : Nat → List Oper → Bool
  | _, [] => false
  | i, o :: r => (unord ms i j && (isCall o || (Nat.beq (hcls true o) 3 || Nat.beq (hcls true o) 4))) || badOf ms j (i + 1) r
/-- Is some other operation that reads? -/
def rdOf (ms : List Nat) (j : Nat) : Nat → List Oper → Bool
  | _, [] => false
  | i, o :: r => (unord ms i j && Nat.beq (hcls true o) 1) || rdOf ms j (i + 1) r

/-- The block that a store goes to, where its address is known ahead of the statement. -/
def isDst (all : List Oper) (t : Tmp) : Bool := all.any fun o => match o.dst with
  | some d => Nat.beq d t
  | none => false
def isNew (all : List Oper) (t : Tmp) : Bool := all.any fun o => match o.dst, o.op with
  | some d, .alloc _ => Nat.beq d t
  | some d, .box _ _ => Nat.beq d t
  | _, _ => false
def wOf (all : List Oper) (env : Nat → GV) : Nat → List Oper → List (Nat × Nat)
  | _, [] => []
  | i, o :: r => match o.op with
    | .store _ (.tmp t) _ => bif isNew all t then (i, 100 + t) :: wOf all env (i + 1) r else bif isDst all t then wOf all env (i + 1) r else (match env t with
      | .ptr k _ => (i, k) :: wOf all env (i + 1) r
      | _ => wOf all env (i + 1) r)
    | _ => wOf all env (i + 1) r
def wGet : List (Nat × Nat) → Nat → Option Nat
  | [], _ => none
  | (i, k) :: r, j => bif Nat.beq i j then some k else wGet r j
/-- The blocks that stores go to which are free to come ahead or behind. -/
def forbW (ms : List Nat) (j : Nat) : List (Nat × Nat) → List Nat
  | [] => []
  | (i, k) :: r => bif unord ms i j then k :: forbW ms j r else forbW ms j r
def forbA (all : List Oper) (ms : List Nat) (wl : List (Nat × Nat)) (j : Nat) : List Nat := forbW ms j wl ++ forbOf ms j 0 all
/-- The store goes where it was said to go. -/
def storeOk (wk : Option Nat) (o : Oper) (env : Nat → GV) : Bool := match wk, o.op with
  | some k, .store _ a _ => (match gev env a with
    | .ptr k' _ => Nat.beq k' k
    | _ => false)
  | _, _ => true
/-- Something is appended to a slice of the frame's own. -/
def isMsApp (o : Oper) (env : Nat → GV) : Bool := match o.op with
  | .call c => (match c.callee with
    | .builtin .append => (match c.args.toList.map (gev env) with
      | .ms _ _ _ _ :: _ => true
      | _ => false)
    | _ => false)
  | _ => false
/-- Where no other operation that touches memory is free to come ahead or behind. -/
def msOk (pc : Bool) (o : Oper) (env : Nat → GV) : Bool := !(pc && isMsApp o env)
def weak (c : Nat) (w : Bool) : Nat := bif Nat.beq c 3 && w then 6 else c

def apartG (all : List Oper) (ms : List Nat) (wl : List (Nat × Nat)) (i j : Nat) (oi oj : Oper) : Bool :=
  oi.apart all.toArray oj && heapApart (weak (hcls (pcOf ms i 0 all) oi) (wGet wl i).isSome) (weak (hcls (pcOf ms j 0 all) oj) (wGet wl j).isSome) oi.dst.isSome oj.dst.isSome

def rowOk (all : List Oper) (ms : List Nat) (wl : List (Nat × Nat)) (i : Nat) (oi : Oper) : Nat → List Oper → Bool
  | _, [] => true
  | j, oj :: r => (Nat.ble j i || ((ms.getD j 0).testBit i || apartG all ms wl i j oi oj)) && rowOk all ms wl i oi (j + 1) r

def rowsOk (all : List Oper) (ms : List Nat) (wl : List (Nat × Nat)) : Nat → List Oper → Bool
  | _, [] => true
  | i, oi :: r => (oi.after.toList.all fun e => !Region.binds .any e || Nat.blt e.on i) && (rowOk all ms wl i oi 0 all && rowsOk all ms wl (i + 1) r)

def drawOk (all : List Oper) (wl : List (Nat × Nat)) : Bool := rowsOk all (masks all) wl 0 all && Region.noSelect all.toArray

theorem rowOk_ok {all : List Oper} {ms : List Nat} {wl : List (Nat × Nat)} {i : Nat} {oi : Oper} : ∀ {l : List Oper} {k : Nat}, rowOk all ms wl i oi k l = true → ∀ (j : Nat) (oj : Oper), l[j]? = some oj → i < k + j → (ms.getD (k + j) 0).testBit i = true ∨ apartG all ms wl i (k + j) oi oj = true
  | [], k, _, j, oj, h, _ => by simp at h
  | o :: l, k, hh, j, oj, h, hlt => by
    simp only [rowOk, Bool.and_eq_true, Bool.or_eq_true] at hh
    cases j with
    | zero =>
      simp at h; subst h
      rcases hh.1 with h1 | h1 | h1
      · have := Nat.le_of_ble_eq_true h1; omega
      · exact .inl h1
      · exact .inr h1
    | succ j =>
      have := rowOk_ok hh.2 j oj (by simpa using h) (by omega)
      rwa [show k + 1 + j = k + (j + 1) by omega] at this

theorem rowsOk_ok {all : List Oper} {ms : List Nat} {wl : List (Nat × Nat)} : ∀ {l : List Oper} {k : Nat}, rowsOk all ms wl k l = true → ∀ (i : Nat) (oi : Oper), l[i]? = some oi →
    (∀ e, e ∈ oi.after → Region.binds .any e = true → e.on < k + i) ∧ rowOk all ms wl (k + i) oi 0 all = true
  | [], k, _, i, oi, h => by simp at h
  | o :: l, k, hh, i, oi, h => by
    simp only [rowsOk, Bool.and_eq_true] at hh
    cases i with
    | zero =>
      simp at h; subst h
      refine ⟨fun e he hb => ?_, hh.2.1⟩
      have := List.all_eq_true.1 hh.1 e (by simpa using he)
      rw [hb] at this
      simpa using this
    | succ i =>
      have := rowsOk_ok hh.2.2 i oi (by simpa using h)
      rwa [show k + 1 + i = k + (i + 1) by omega] at this

def opDr (P : Program) (forb : List Nat) (pc bad rd : Bool) (wk : Option Nat) (o : Oper) (s : GS) (K : GV → (Nat → Option GB) → Prop) : Prop :=
  match callOf o s.env with
  | some (some (g, args)) => callX P s.hp g args fun v hp' => CallOk forb pc bad rd s.hp args hp' ∧ K v hp'
  | some none => False
  | none => (storeOk wk o s.env = true ∧ msOk pc o s.env = true) ∧ (opOutD P forb o s).wp0 s.hp K

/-! ### One operation, as a step from state to state -/
def gEff (P : Program) (forb : List Nat) (pc bad rd : Bool) (wk : Option Nat) (o : Oper) (s : GS) (x : GV) (hp' : Nat → Option GB) : Prop :=
  match callOf o s.env with
  | some (some (g, args)) => CallOk forb pc bad rd s.hp args hp' ∧ callX P s.hp g args (fun x' h => x' = x ∧ h = hp')
  | some none => False
  | none => (storeOk wk o s.env = true ∧ msOk pc o s.env = true) ∧ ∃ u, (opOutD P forb o s).eff x u ∧ hp' = updH s.hp u

def gStep (P : Program) (N : Nat) (all : List Oper) (ms : List Nat) (wl : List (Nat × Nat)) (i : Nat) (o : Oper) (s s' : GS) : Prop :=
  (∀ d, o.dst = some d → d < N) ∧
  ((wantedG all s.env o = some true ∧ ∃ x hp', gEff P (forbA all ms wl i) (pcOf ms i 0 all) (badOf ms i 0 all) (rdOf ms i 0 all) (wGet wl i) o s x hp' ∧ s' = putG s o.dst x hp') ∨
   (wantedG all s.env o = some false ∧ s' = putG s o.dst (.tup []) s.hp))

def goDr (P : Program) (N : Nat) (all : List Oper) (ms : List Nat) (wl : List (Nat × Nat)) : Nat → List Oper → GS → (GS → Prop) → Prop
  | _, [], s, K => K s
  | i, o :: r, s, K => match wantedG all s.env o with
    | some true => opDr P (forbA all ms wl i) (pcOf ms i 0 all) (badOf ms i 0 all) (rdOf ms i 0 all) (wGet wl i) o s (finK N (isSrc all i) o.dst s.env fun s' => goDr P N all ms wl (i + 1) r s' K)
    | some false => finK N false o.dst s.env (fun s' => goDr P N all ms wl (i + 1) r s' K) (.tup []) s.hp
    | none => False

def goDraw (P : Program) (N : Nat) (all : List Oper) (i : Nat) (l : List Oper) (s : GS) (K : GS → Prop) : Prop := drawOk all (wOf all s.env 0 all) = true ∧ goDr P N all (masks all) (wOf all s.env 0 all) i l s K

theorem goDr_step {P : Program} {N : Nat} {all : List Oper} {ms : List Nat} {wl : List (Nat × Nat)} {i : Nat} {o : Oper} {r : List Oper} {s : GS} {K : GS → Prop} (h : goDr P N all ms wl i (o :: r) s K) :
    ∃ s', gStep P N all ms wl i o s s' ∧ goDr P N all ms wl (i + 1) r s' K := by
  unfold goDr at h
  split at h
  · rename_i hw
    unfold opDr at h
    split at h
    · rename_i g args hc
      obtain ⟨v, hs', h1, h2, hk, h3⟩ := h
      obtain ⟨hd, hK⟩ := finK_put h3
      exact ⟨_, ⟨hd, .inl ⟨hw, _, _, by unfold gEff; rw [hc]; exact ⟨hk, v, hs', h1, h2, rfl, rfl⟩, rfl⟩⟩, hK⟩
    · exact h.elim
    · rename_i hc
      obtain ⟨hst, h⟩ := h
      obtain ⟨x, u, h1, h2⟩ := Out.wp0_eff h
      obtain ⟨hd, hK⟩ := finK_put h2
      exact ⟨_, ⟨hd, .inl ⟨hw, x, _, by unfold gEff; rw [hc]; exact ⟨hst, u, h1, rfl⟩, rfl⟩⟩, hK⟩
  · rename_i hw
    obtain ⟨hd, hK⟩ := finK_put h
    exact ⟨_, ⟨hd, .inr ⟨hw, rfl⟩⟩, hK⟩
  · exact h.elim

/-! ### What an operation hangs on -/
def GB.isVec : GB → Bool
  | .vec _ _ => true
  | _ => false

/-- Which block it consults, and how that block stands. -/
inductive St (cls : Nat) (forb : List Nat) (own : Nat) (hp : Nat → Option GB) (u : Option (Nat × GB)) : Option Nat → Prop
  | free (h : u = none) : St cls forb own hp u none
  | cells (k : Nat) (b : GB) (hk : hp k = some b) (hb : b.isVec = false) (hf : forb.elem k = false) (h : (cls = 1 ∧ u = none) ∨ (cls = 3 ∧ ∃ b', u = some (k, b') ∧ b'.isVec = false)) : St cls forb own hp u (some k)
  | new (k : Nat) (hk : hp k = none) (ho : k = own) (hc : cls = 2 ∨ cls = 4) (h : ∃ b, u = some (k, b)) : St cls forb own hp u (some k)
  | vec (k : Nat) (e : TypeId) (n : Nat) (hk : hp k = some (.vec e n)) (hf : forb.elem k = false) (hc : cls = 4) (h : ∃ e' n', u = some (k, .vec e' n')) : St cls forb own hp u (some k)

theorem cellsAt_hang {forb : List Nat} {hp : Nat → Option GB} {a : GV} {cs : List GV} {off : Nat} (h : cellsAt forb hp a = some (cs, off)) :
    (∀ hp', cellsAt forb hp' a = some (cs, off)) ∨ ∃ k, hp k = some (.cells cs) ∧ forb.elem k = false ∧ ∀ hp', hp' k = hp k → cellsAt forb hp' a = some (cs, off) := by
  unfold cellsAt at h
  split at h
  · rename_i k off'
    cases hf : forb.elem k with
    | true => rw [hf] at h; cases h
    | false =>
      rw [hf] at h
      simp only [cond_false] at h
      split at h
      · rename_i cs' hk
        cases h
        exact .inr ⟨k, hk, hf, fun hp' e => by simp only [cellsAt, hf, cond_false, e, hk]⟩
      · cases h
  · cases h; exact .inl fun hp' => rfl
  · cases h

theorem rowPart_u {ag : Bool} {sz off : Nat} {cs : List GV} {x : GV} {u : Option (Nat × GB)} (h : (rowPart ag sz cs off).eff x u) : u = none := by
  unfold rowPart at h
  cases ag with
  | true =>
    simp only [cond_true] at h
    cases hb : Nat.ble (off + sz) cs.length with
    | false => rw [hb] at h; exact h.elim
    | true => rw [hb] at h; exact h.2
  | false =>
    simp only [cond_false] at h
    split at h
    · exact h.2
    · exact h.elim

theorem pickO_u {c a b x : GV} {u : Option (Nat × GB)} (h : (pickO c a b).eff x u) : u = none := by
  unfold pickO at h
  split at h
  · split at h
    · exact h.2
    · rename_i cb _ _ _
      cases cb <;> exact h.2
  · exact h.elim

theorem shiftO_u {a x : GV} {n : Nat} {u : Option (Nat × GB)} (h : (shiftO a n).eff x u) : u = none := by
  unfold shiftO at h
  split at h
  · exact h.2
  · exact h.2
  · exact h.2
  · exact h.elim

theorem foldO_u {f : GV → GV → Option GV} {l : List GV} {x : GV} {u : Option (Nat × GB)} (h : (foldO f l).eff x u) : u = none := by
  unfold foldO at h
  split at h
  · exact h.elim
  · split at h
    · exact h.2
    · exact h.elim

theorem gev_map {s s' : GS} {l : List Operand} {L : Array Operand} (h : ∀ y, y ∈ L → gev s'.env y = gev s.env y) (hl : ∀ y, y ∈ l → y ∈ L) : l.map (gev s'.env) = l.map (gev s.env) :=
  List.map_congr_left fun y hy => h y (hl y hy)

/-- What consults no block, at all: the value is of the operands alone, and nothing is written. -/
def quietOp (P : Program) (o : Oper) : Bool := match o.op with
  | .assign _ | .alloc _ | .box _ _ | .makeSlice _ _ _ | .load _ _ | .store _ _ _ => false
  | .buildSlice _ len ps => !isZ len ps
  | .call c => (match c.callee with
    | .builtin .append => false
    | _ => true)
  | _ => true

theorem quiet_u {P : Program} {forb : List Nat} {o : Oper} {s : GS} {x : GV} {u : Option (Nat × GB)} (hq : quietOp P o = true) (h : (opOutD P forb o s).eff x u) : u = none := by
  obtain ⟨dst, op, type, pos, after, guard⟩ := o
  cases op <;> simp only [quietOp, Bool.false_eq_true] at hq <;> (unfold opOutD at h; simp only at h) <;> try exact h.elim
  case move y => exact h.2
  case pick c y z =>
    exact pickO_u h
  case build t parts =>
    unfold buildO at h
    split at h
    · cases hb : allSized P _ with
      | false => rw [hb] at h; exact h.elim
      | true =>
        rw [hb] at h
        simp only [cond_true] at h
        split at h
        · split at h
          · exact h.2
          · exact h.elim
        · exact h.elim
    · split at h
      · split at h
        · exact h.2
        · exact h.elim
      · exact h.elim
    · exact h.elim
  case buildSlice t len parts =>
    rw [Bool.not_eq_true'] at hq
    rw [hq] at h
    simp only [cond_false] at h
    unfold buildSliceO at h
    split at h
    · split at h
      · split at h
        · rw [Bool.cond_eq_ite] at h
          split at h
          · exact h.2
          · exact h.elim
        · exact h.elim
      · exact h.elim
    · exact h.elim
  case nilCheck y =>
    unfold nilO at h
    split at h <;> first | exact h.2 | exact h.elim
  case binOp op t y z t2 =>
    unfold binO' at h
    split at h
    · unfold eqlO at h
      split at h
      · exact h.2.2
      · exact h.2.2
      · exact h.elim
    · unfold binO at h
      split at h
      · cases hs : isShift op with
        | true =>
          rw [hs] at h
          simp only [cond_true] at h
          unfold shiftG at h
          split at h
          · exact h.2.2
          · exact h.2.2
          · exact h.elim
        | false =>
          rw [hs] at h
          simp only [cond_false] at h
          split at h
          · cases op <;> simp only [isShift, Bool.true_eq_false] at hs <;> simp only [intO, Out.eff] at h <;> first | exact h.2 | exact h.2.2 | exact h.elim
          · exact h.elim
      all_goals (first | exact h.elim | (split at h <;> first | exact h.2 | exact h.elim) | (unfold nilCmp at h; split at h <;> first | exact h.2 | exact h.elim))
  case unOp op t y =>
    unfold unO at h
    split at h <;> first | exact h.2 | exact h.elim
  case convert t0 t y =>
    split at h
    · unfold convO at h
      split at h <;> first | exact h.2 | exact h.elim
    · exact h.elim
  case makeInterface t y =>
    unfold ifaceO at h
    cases hc : P.concrete t with
    | false => rw [hc] at h; exact h.elim
    | true => rw [hc] at h; exact h.2
  case makeFunc f y z => exact h.2
  case slice t y lo hi mx =>
    unfold sliceO at h
    split at h
    · split at h
      · rw [Bool.cond_eq_ite] at h
        split at h
        · split at h <;> first | exact h.2.2 | exact h.elim
        · exact h.elim
      · exact h.elim
    · exact h.elim
  case fieldAddr t y i =>
    unfold fieldAddrO at h
    split at h
    · split at h
      · split at h
        · exact shiftO_u h
        · exact h.elim
      · exact h.elim
    · exact h.elim
  case field t y i =>
    unfold fieldO at h
    split at h
    · split at h
      · split at h
        · exact rowPart_u h
        · exact h.elim
      · exact h.elim
    · exact h.elim
  case indexAddr t y i =>
    unfold indexAddrO at h
    split at h
    · split at h
      · rw [Bool.cond_eq_ite] at h
        split at h
        · obtain ⟨_, _, _, _, h⟩ := h
          exact h
        · exact h.elim
      · rw [Bool.cond_eq_ite] at h
        split at h
        · exact h.2.2
        · exact h.elim
      · rw [Bool.cond_eq_ite] at h
        split at h
        · exact h.2.2
        · exact h.elim
      · exact h.elim
    · split at h
      · exact shiftO_u h.2
      · exact h.elim
    · exact h.elim
  case index t y i =>
    unfold indexO at h
    split at h
    · split at h
      · exact rowPart_u h.2
      · exact h.elim
    · exact h.2.2
    · exact h.elim
  case extract y i =>
    unfold extractO at h
    split at h
    · split at h <;> first | exact h.2 | exact h.elim
    · exact h.elim
  case call c =>
    obtain ⟨callee, args, ts⟩ := c
    cases callee with
    | value f =>
      simp only [callO] at h
      split at h <;> exact h.elim
    | invoke r m => exact h.elim
    | builtin b =>
      simp only [builtinD] at h
      split at h
      · simp at hq
      · unfold lenO at h
        split at h <;> first | exact h.2 | exact h.elim
      · exact foldO_u h
      · exact foldO_u h
      · exact h.elim

theorem quiet_same {P : Program} {forb : List Nat} {o : Oper} {s s' : GS} (hq : quietOp P o = true) (h : ∀ y, y ∈ o.op.operands → gev s'.env y = gev s.env y) : opOutD P forb o s' = opOutD P forb o s := by
  obtain ⟨dst, op, type, pos, after, guard⟩ := o
  have two : ∀ {a b : Operand}, (∀ y, y ∈ #[a, b] → gev s'.env y = gev s.env y) → gev s'.env a = gev s.env a ∧ gev s'.env b = gev s.env b := fun h => ⟨h _ (by simp), h _ (by simp)⟩
  have one : ∀ {a : Operand}, (∀ y, y ∈ #[a] → gev s'.env y = gev s.env y) → gev s'.env a = gev s.env a := fun h => h _ (by simp)
  have parts : ∀ {ps : Array (Nat × Operand)}, (∀ y, y ∈ (ps.toList.map (·.2)).toArray → gev s'.env y = gev s.env y) → (ps.toList.map fun p => (p.1, gev s'.env p.2)) = ps.toList.map fun p => (p.1, gev s.env p.2) :=
    fun h => List.map_congr_left fun p hp => by rw [h p.2 (by simp only [List.mem_toArray, List.mem_map]; exact ⟨p, hp, rfl⟩)]
  cases op <;> simp only [quietOp, Bool.false_eq_true] at hq <;> simp only [Op.operands] at h <;> unfold opOutD <;> simp only
  case move y => rw [one h]
  case pick c y z => rw [h c (by simp), h y (by simp), h z (by simp)]
  case build t ps => rw [parts h]
  case buildSlice t len ps =>
    rw [Bool.not_eq_true'] at hq
    rw [hq, parts h]; rfl
  case nilCheck y => rw [one h]
  case binOp op t y z t2 => rw [(two h).1, (two h).2]
  case unOp op t y => rw [one h]
  case convert t0 t y => rw [one h]
  case makeInterface t y => rw [one h]
  case makeFunc f y z =>
    rw [gev_map h (l := y.toList) (fun q hq => by simp; exact .inl (by simpa using hq)), gev_map h (l := z.toList) (fun q hq => by simp; exact .inr (by simpa using hq))]
  case slice t y lo hi mx =>
    have ho : ∀ (q : Option Operand), (∀ z, z ∈ q.toArray → z ∈ #[y] ++ lo.toArray ++ hi.toArray ++ mx.toArray) → q.map (gev s'.env) = q.map (gev s.env) := by
      intro q hq
      cases q with
      | none => rfl
      | some q => simp only [Option.map_some]; rw [h q (hq q (by simp))]
    rw [h y (by simp), ho lo (fun z hz => by simp at hz ⊢; simp [hz]), ho hi (fun z hz => by simp at hz ⊢; simp [hz]), ho mx (fun z hz => by simp at hz ⊢; simp [hz])]
  case fieldAddr t y i => rw [one h]
  case field t y i => rw [one h]
  case indexAddr t y i => rw [(two h).1, (two h).2]
  case index t y i => rw [(two h).1, (two h).2]
  case extract y i => rw [one h]
  case call c =>
    obtain ⟨callee, args, ts⟩ := c
    cases callee with
    | value f =>
      simp only [Call.operands] at h
      show callO (gev s'.env f) (List.map (gev s'.env) args.toList) = callO (gev s.env f) (List.map (gev s.env) args.toList)
      rw [h f (by simp), gev_map h (l := args.toList) (fun q hq => by simp; exact .inr (by simpa using hq))]
    | invoke r m => rfl
    | builtin b =>
      simp only [Call.operands] at h
      show builtinD P (100 + dst.getD 0) forb s'.hp b ts.toList (List.map (gev s'.env) args.toList) = builtinD P (100 + dst.getD 0) forb s.hp b ts.toList (List.map (gev s.env) args.toList)
      rw [gev_map h (l := args.toList) (fun q hq => by simpa using hq)]
      unfold builtinD
      split
      · simp at hq
      · rfl
      · rfl
      · rfl
      · rfl

end Go.Gh
