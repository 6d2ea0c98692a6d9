/- Ghost values and walks, bundle Gh10; proved for whatever the arguments' types allow, as each theorem says. -/
import Derived.Test.YtoofplbjpkgdgaaGh9

/- A list of operations in ghost values, and the machine's list. -/
set_option linter.unusedVariables false
set_option linter.unusedSimpArgs false
namespace Go.Gh

def Out.wp0 (hp : Nat → Option GB) : Out → (GV → (Nat → Option GB) → Prop) → Prop
  | .bad, _ => False
  | .val x, K => K x hp
  | .upd x k b, K => K x (setH hp k b)
  | .need c o, K => c ∧ o.wp0 hp K
  | .elem xs i f, K => ∃ x, (0 ≤ i ∧ xs[i.toNat]? = some x) ∧ (f x).wp0 hp K
  | .call _ _, _ => False

theorem Out.wp0_eff {hp : Nat → Option GB} : ∀ {o : Out} {K : GV → (Nat → Option GB) → Prop}, o.wp0 hp K → ∃ x u, o.eff x u ∧ K x (updH hp u)
  | .bad, _, h => h.elim
  | .val x, K, h => ⟨x, none, ⟨rfl, rfl⟩, h⟩
  | .upd x k b, K, h => ⟨x, some (k, b), ⟨rfl, rfl⟩, h⟩
  | .need c o, K, h => by
    obtain ⟨x, u, h1, h2⟩ := Out.wp0_eff (o := o) h.2
    exact ⟨x, u, ⟨h.1, h1⟩, h2⟩
  | .elem xs i f, K, h => by
    obtain ⟨y, ⟨h0, h1⟩, h2⟩ := h
    obtain ⟨x, u, h3, h4⟩ := Out.wp0_eff (o := f y) h2
    exact ⟨x, u, ⟨y, h0, h1, h3⟩, h4⟩
  | .call _ _, _, h => h.elim

theorem VR.skip {w : World} {I : Nat → Nat → Prop} {T : Tab} : VR w I T (.tup []) undef := .tup rfl fun i c r hc => by simp at hc

/-- The function value and the arguments of a call of a Go function. -/
def callOf (o : Oper) (env : Nat → GV) : Option (Option (FuncId × List GV)) := match o.op with
  | .call c => (match c.callee with
    | .value f => (match gev env f with
      | .fn (.func g) first cap => some (some (g, first ++ (c.args.toList.map (gev env) ++ cap)))
      | _ => some none)
    | _ => none)
  | _ => none

/-- The type of the elements of the slice at cell j. -/
def elemAtL (P : Program) (j : Nat) : List Field → Option TypeId
  | [] => none
  | f :: r => bif Nat.beq f.offset j then (match P.underlying f.type with
    | some (.slice e) => some e
    | _ => none) else elemAtL P j r
def elemAt (P : Program) (t : TypeId) (j : Nat) : Option TypeId := match P.underlying t with
  | some (.slice e) => some e
  | some (.struct fs) => elemAtL P j fs.toList
  | _ => none

/-- Cell j of a new block is nil: from now on a slice of the frame's own. -/
def nilK (P : Program) (t : TypeId) (key j : Nat) (K : GV → (Nat → Option GB) → Prop) (x : GV) (hp : Nat → Option GB) : Prop :=
  match hp key, elemAt P t j with
  | some (.cells cs), some e => (match cs[j]?, P.info? e, hp (key + 50000) with
    | some (.v (.slice none 0 0)), some i, none => K x (setH (setH hp key (.cells (cs.set j (.ms i.size (key + 50000) 0 0)))) (key + 50000) (.mvec e i.size [] 0))
    | _, _, _ => False)
  | _, _ => False

/-- What is loaded is frozen. -/
def freezeK (K : GV → (Nat → Option GB) → Prop) (x : GV) (hp : Nat → Option GB) : Prop := match x with
  | .ms es k ver n => (freezeO hp es k ver).wp0 hp K
  | _ => False

def postK (P : Program) (o : Oper) (env : Nat → GV) (K : GV → (Nat → Option GB) → Prop) : GV → (Nat → Option GB) → Prop := match o.op with
  | .alloc t => bif flagG env (5000000 + o.dst.getD 0) then nilK P t (100 + o.dst.getD 0) 0 K else bif flagG env (5100000 + o.dst.getD 0) then nilK P t (100 + o.dst.getD 0) 1 K else bif flagG env (5200000 + o.dst.getD 0) then nilK P t (100 + o.dst.getD 0) 2 K else K
  | .box t _ => bif flagG env (5000000 + o.dst.getD 0) then nilK P t (100 + o.dst.getD 0) 0 K else bif flagG env (5100000 + o.dst.getD 0) then nilK P t (100 + o.dst.getD 0) 1 K else bif flagG env (5200000 + o.dst.getD 0) then nilK P t (100 + o.dst.getD 0) 2 K else K
  | .load _ _ => bif flagG env (6000000 + o.dst.getD 0) then freezeK K else K
  | _ => K

theorem nilK_mono {P : Program} {t : TypeId} {key j : Nat} {K K' : GV → (Nat → Option GB) → Prop} (hk : ∀ x hp, K x hp → K' x hp) {x : GV} {hp : Nat → Option GB} (h : nilK P t key j K x hp) : nilK P t key j K' x hp := by
  unfold nilK at *
  split
  · rename_i cs e h1 h2
    simp only [h1, h2] at h
    split
    · rename_i i h3 h4 h5
      simp only [h3, h4, h5] at h
      exact hk _ _ h
    · rename_i hno
      split at h
      · rename_i i h3 h4 h5; exact hno i h3 h4 h5
      · exact h
  · rename_i hno
    split at h
    · rename_i cs e h1 h2; exact hno cs e h1 h2
    · exact h

theorem Out.wp0_mono' {hp : Nat → Option GB} {K K' : GV → (Nat → Option GB) → Prop} (hk : ∀ x hp, K x hp → K' x hp) : ∀ {o : Out}, o.wp0 hp K → o.wp0 hp K'
  | .bad, h => h.elim
  | .val x, h => hk _ _ h
  | .upd x k b, h => hk _ _ h
  | .need c o, h => ⟨h.1, Out.wp0_mono' hk h.2⟩
  | .elem xs i f, h => by obtain ⟨x, h1, h2⟩ := h; exact ⟨x, h1, Out.wp0_mono' hk h2⟩
  | .call _ _, h => h.elim

theorem freezeK_mono {K K' : GV → (Nat → Option GB) → Prop} (hk : ∀ x hp, K x hp → K' x hp) {x : GV} {hp : Nat → Option GB} (h : freezeK K x hp) : freezeK K' x hp := by
  unfold freezeK at *
  split
  · exact Out.wp0_mono' hk h
  · rename_i hno
    split at h
    · exact absurd rfl (hno _ _ _ _)
    · exact h

theorem postK_mono {P : Program} {o : Oper} {env : Nat → GV} {K K' : GV → (Nat → Option GB) → Prop} (hk : ∀ x hp, K x hp → K' x hp) {x : GV} {hp : Nat → Option GB} (h : postK P o env K x hp) : postK P o env K' x hp := by
  unfold postK at *
  obtain ⟨dst, op, type, pos, after, guard⟩ := o
  cases op <;> try exact hk _ _ h
  case alloc t =>
    simp only at h ⊢
    cases h1 : flagG env (5000000 + dst.getD 0) <;> simp only [h1, cond_true, cond_false] at h ⊢
    · cases h2 : flagG env (5100000 + dst.getD 0) <;> simp only [h2, cond_true, cond_false] at h ⊢
      · cases h3 : flagG env (5200000 + dst.getD 0) <;> simp only [h3, cond_true, cond_false] at h ⊢
        · exact hk _ _ h
        · exact nilK_mono hk h
      · exact nilK_mono hk h
    · exact nilK_mono hk h
  case box t _ =>
    simp only at h ⊢
    cases h1 : flagG env (5000000 + dst.getD 0) <;> simp only [h1, cond_true, cond_false] at h ⊢
    · cases h2 : flagG env (5100000 + dst.getD 0) <;> simp only [h2, cond_true, cond_false] at h ⊢
      · cases h3 : flagG env (5200000 + dst.getD 0) <;> simp only [h3, cond_true, cond_false] at h ⊢
        · exact hk _ _ h
        · exact nilK_mono hk h
      · exact nilK_mono hk h
    · exact nilK_mono hk h
  case load a b =>
    simp only at h ⊢
    cases h1 : flagG env (6000000 + dst.getD 0) <;> simp only [h1, cond_true, cond_false] at h ⊢
    · exact hk _ _ h
    · exact freezeK_mono hk h

def opWp (P : Program) (o : Oper) (s : GS) (K : GV → (Nat → Option GB) → Prop) : Prop :=
  match callOf o s.env with
  | some (some (g, args)) => callWp P s.hp (o.dst.getD 0) g args K
  | some none => False
  | none => (opOut P [] o s).wp0 s.hp (postK P o s.env K)

def nilKeys : List GV → Bool → Prop
  | args, true => keysL args = []
  | _, false => True

/-- All keys that a call may come to, and all that are named there. -/
def mentL (hp : Nat → Option GB) : List Nat → List Nat
  | [] => []
  | k :: r => k :: (keysL (hpCells hp k) ++ mentL hp r)
def ment (hp : Nat → Option GB) (args : List GV) : List Nat := keysL args ++ mentL hp (reach hp 100 (keysL args) [])
def clearOf (forb : List Nat) : List Nat → Bool
  | [] => true
  | k :: r => !(forb.elem k) && clearOf forb r

/-- The call in a region that draws its order: it comes to no key that a free operation makes; it turns nothing, if a free operation reads. -/
def CallOk (forb : List Nat) (pc bad rd : Bool) (hp : Nat → Option GB) (args : List GV) (hp' : Nat → Option GB) : Prop :=
  nilKeys args pc ∨ (bad = false ∧ clearOf forb (ment hp args) = true ∧ (rd = true → hp' = hp))

/-- Is the operation run? -/
def wantedG (all : List Oper) (env : Nat → GV) (o : Oper) : Option Bool :=
  match o.guard with
  | none => some true
  | some (j, want) => match all[j]? with
    | some oj => (match oj.dst with
      | some d => (match env d with
        | .v (.bool b) => some (b == want)
        | .tup [] => some false
        | _ => none)
      | none => none)
    | none => none

def isSrc (all : List Oper) (i : Nat) : Bool := all.any fun o => match o.guard with
  | some (j, _) => Nat.beq j i
  | none => false

/-- The value goes where it belongs; a bool that others hang on parts the way. -/
def finK (N : Nat) (src : Bool) (dst : Option Tmp) (env : Nat → GV) (K : GS → Prop) (x : GV) (hp : Nat → Option GB) : Prop :=
  match dst with
  | none => K ⟨env, hp⟩
  | some d => bif Nat.blt d N then (bif src then (match x with
      | .v (.bool b) => (b = true → K ⟨setE env d (.v (.bool true)), hp⟩) ∧ (b = false → K ⟨setE env d (.v (.bool false)), hp⟩)
      | x => K ⟨setE env d x, hp⟩) else K ⟨setE env d x, hp⟩) else False

def goOps (P : Program) (N : Nat) (all : List Oper) : Nat → List Oper → GS → (GS → Prop) → Prop
  | _, [], s, K => K s
  | i, o :: r, s, K => match wantedG all s.env o with
    | some true => opWp P o s (finK N (isSrc all i) o.dst s.env fun s' => goOps P N all (i + 1) r s' K)
    | some false => finK N false o.dst s.env (fun s' => goOps P N all (i + 1) r s' K) (.tup []) s.hp
    | none => False

def putG (s : GS) (dst : Option Tmp) (x : GV) (hp : Nat → Option GB) : GS := match dst with
  | none => ⟨s.env, hp⟩
  | some d => ⟨setE s.env d x, hp⟩

theorem finK_put {N : Nat} {src : Bool} {dst : Option Tmp} {s : GS} {K : GS → Prop} {x : GV} {hp : Nat → Option GB} (h : finK N src dst s.env K x hp) : (∀ d, dst = some d → d < N) ∧ K (putG s dst x hp) := by
  cases dst with
  | none => exact ⟨fun d h => (by cases h), h⟩
  | some d =>
    simp only [finK] at h
    cases hb : Nat.blt d N with
    | false => rw [hb] at h; exact h.elim
    | true =>
      rw [hb] at h
      have hd : d < N := Nat.le_of_ble_eq_true hb
      refine ⟨fun d' hd' => by cases hd'; exact hd, ?_⟩
      simp only [cond_true] at h
      cases src with
      | false => exact h
      | true =>
        simp only [cond_true] at h
        split at h
        · rename_i b
          cases b
          · exact h.2 rfl
          · exact h.1 rfl
        · exact h

structure Rel (P : Program) (N : Nat) (w : World) (I : Nat → Nat → Prop) (T : Tab) (s : GS) (a : Act) : Prop where
  size : a.tmps.size = N
  nodef : a.defers = []
  env : ∀ t, VR w I T (s.env t) (a.tmps.getD t undef)
  heap : HR P w I T s.hp

section
variable {P : Program} {N : Nat} {w : World} {I : Nat → Nat → Prop} {T : Tab} {s : GS} {a : Act}

theorem Rel.put {w' : World} {I' : Nat → Nat → Prop} {T' : Tab} {dst : Option Tmp} {x : GV} {r : Value} {hp : Nat → Option GB} (h : Rel P N w I T s a) (hd : ∀ d, dst = some d → d < N) (hx : Ext w I T w' I' T') (hv : VR w' I' T' x r) (hh : HR P w' I' T' hp) :
    Rel P N w' I' T' (putG s dst x hp) (a.put dst r) := by
  cases dst with
  | none => exact ⟨h.size, h.nodef, fun t => (h.env t).ext hx, hh⟩
  | some d =>
    have hlt : d < a.tmps.size := by rw [h.size]; exact hd d rfl
    refine ⟨by simpa [Act.put] using h.size, h.nodef, fun t => ?_, hh⟩
    show VR w' I' T' (setE s.env d x t) ((a.tmps.setIfInBounds d r).getD t undef)
    rw [setE_eq]
    by_cases ht : t = d
    · subst ht
      rw [if_pos rfl]
      simp [hlt]; exact hv
    · rw [if_neg ht]
      have : (a.tmps.setIfInBounds d r).getD t undef = a.tmps.getD t undef := by
        simp only [Array.getD_eq_getD_getElem?]
        rw [Array.getElem?_setIfInBounds_ne (Ne.symm ht)]
      rw [this]; exact (h.env t).ext hx

theorem wantedG_ok {ops : Array Oper} {o : Oper} {b : Bool} (h : Rel P N w I T s a) (hw : wantedG ops.toList s.env o = some b) : Region.wanted o (yielded ops a.tmps) = b := by
  unfold wantedG at hw
  unfold Region.wanted
  split at hw
  · rename_i hg; rw [hg]; cases hw; rfl
  · rename_i j want hg
    rw [hg]
    simp only
    split at hw
    · rename_i oj hoj
      split at hw
      · rename_i d hd
        split at hw
        · rename_i c hc
          cases hw
          have hv := h.env d
          rw [hc] at hv
          have hv := hv.v_inv
          have ho : ops[j]? = some oj := by simpa using hoj
          have ht : a.tmps[d]? = some (.bool c) := by
            rw [Array.getD_eq_getD_getElem?] at hv
            cases h' : a.tmps[d]? with
            | none => rw [h'] at hv; cases hv
            | some q => rw [h'] at hv; simp at hv; rw [hv]
          have : yielded ops a.tmps j = some c := by
            unfold yielded
            rw [ho]
            simp [hd, ht]
          rw [this]
          cases c <;> cases want <;> rfl
        · rename_i hc
          cases hw
          have hv := h.env d
          rw [hc] at hv
          have ho : ops[j]? = some oj := by simpa using hoj
          have : yielded ops a.tmps j = none := by
            unfold yielded
            rw [ho]
            simp only [Option.bind_some, hd]
            rw [Array.getD_eq_getD_getElem?] at hv
            cases h' : a.tmps[d]? with
            | none => rfl
            | some q =>
              rw [h'] at hv
              simp only [Option.getD_some] at hv
              cases hv; rfl
          rw [this]; rfl
        · cases hw
      · cases hw
    · cases hw

/-- What the machine is left with behind a step. -/
def QR (P : Program) (N : Nat) (w0 : World) (I0 : Nat → Nat → Prop) (T0 : Tab) (K : GS → Prop) (a : Act) (w : World) : Prop :=
  ∃ I T s, Rel P N w I T s a ∧ Ext w0 I0 T0 w I T ∧ K s

theorem upon_of {o : Oper} {next : Act → World → Prop} {Q : Exit → Act → World → Prop} {res : Result Next} {r : Value} {w' : World} (h : res = .ok (.value r) w' ∨ (res = .ok .skip w' ∧ r = undef)) (hn : next (a.put o.dst r) w') :
    o.upon P a next Q res := by
  rcases h with rfl | ⟨rfl, rfl⟩ <;> exact hn

theorem callOf_none {o : Oper} {env : Nat → GV} (h : callOf o env = some none) : True := trivial

theorem evals_ok (h : Rel P N w I T s a) (l : List Operand) : (l.map a.eval).length = (l.map (gev s.env)).length ∧ ∀ (i : Nat) (c : GV) (r : Value), (l.map (gev s.env))[i]? = some c → (l.map a.eval)[i]? = some r → VR w I T c r := by
  refine ⟨by simp, fun i c r hc hr => ?_⟩
  simp only [List.getElem?_map, Option.map_eq_some_iff] at hc hr
  obtain ⟨q, hq, rfl⟩ := hc
  obtain ⟨q', hq', rfl⟩ := hr
  rw [hq] at hq'; cases hq'
  exact gev_ok h.env q

/-- The machine's call: by which function, with which arguments. -/
theorem callOf_ok {o : Oper} {g : FuncId} {args : List GV} (h : Rel P N w I T s a) (hc : callOf o s.env = some (some (g, args))) :
    ∃ vals : Array Value, (execOp a.eval o).run P w = (callFunc g vals).run P w ∧ vals.size = args.length ∧ ∀ (i : Nat) (c : GV) (r : Value), args[i]? = some c → vals[i]? = some r → VR w I T c r := by
  obtain ⟨dst, op, type, pos, after, guard⟩ := o
  unfold callOf at hc
  cases op <;> simp only at hc <;> try (cases hc; done)
  rename_i c
  obtain ⟨callee, cargs, ts⟩ := c
  cases callee <;> simp only at hc <;> try (cases hc; done)
  rename_i f
  split at hc
  · rename_i g' first cap hf
    cases hc
    have hfv := gev_ok h.env f
    rw [hf] at hfv
    obtain ⟨e1, e2⟩ := evals_ok h cargs.toList
    generalize hrf : a.eval f = rf at hfv
    cases hfv with
    | @fn _ _ _ _ ra rb hla hlb ha hb =>
      refine ⟨ra ++ cargs.map a.eval ++ rb, ?_, ?_, fun i c r hc hr => ?_⟩
      · simp [execOp, resolve, Deferred.ofValue, hrf, invoke]
      · simp [hla, hlb]
      · have hr' : (ra.toList ++ (cargs.toList.map a.eval ++ rb.toList))[i]? = some r := by
          rw [← hr, ← Array.getElem?_toList]; simp
        rw [List.getElem?_append] at hc hr'
        by_cases h1 : i < first.length
        · rw [if_pos h1] at hc; rw [if_pos (by simpa [hla] using h1)] at hr'
          exact ha i c r hc (by simpa using hr')
        · rw [if_neg h1] at hc; rw [if_neg (by simpa [hla] using h1)] at hr'
          simp only [Array.length_toList, hla] at hr'
          rw [List.getElem?_append] at hc hr'
          by_cases h2 : i - first.length < cargs.toList.length
          · rw [if_pos (by simpa using h2)] at hc; rw [if_pos (by simpa using h2)] at hr'
            exact e2 _ c r hc hr'
          · rw [if_neg (by simpa using h2)] at hc; rw [if_neg (by simpa using h2)] at hr'
            simp only [List.length_map] at hc hr'
            exact hb _ c r hc (by simpa using hr')
  · cases hc

theorem nilK_ok {t : TypeId} {key j : Nat} {K : GV → (Nat → Option GB) → Prop} {x : GV} {r : Value} {hp : Nat → Option GB} (hr : HR P w I T hp) (hx : VR w I T x r) (h : nilK P t key j K x hp) :
    ∃ x' hp' I' T', Ext w I T w I' T' ∧ VR w I' T' x' r ∧ HR P w I' T' hp' ∧ K x' hp' := by
  unfold nilK at h
  split at h
  · rename_i cs e h1 h2
    split at h
    · rename_i i h3 h4 h5
      obtain ⟨n, row, ty, a1, a2, a3, a4, a5⟩ := hr.cells key cs h1
      have hkk : key + 50000 ≠ key := by omega
      -- the slice first
      obtain ⟨g1, g2⟩ := hr.setMv (k := key + 50000) (v' := 0) (w' := w) (u' := .slice none 0 0) (xs' := []) (ys' := []) h4 (World.ownsRow_nil w 0 e i.size) (fun x hx => by cases hx) (fun x hx => by cases hx)
        (fun q x j c hx => by simp at hx) rfl rfl rfl (Nat.le_refl _) (.inl ⟨h5, fun b _ => rfl, fun b hb => by cases hb⟩)
      have hT1 : (setT T (key + 50000) (.mvec (.slice none 0 0) i.size 0)) key = some (.blk n) := by rw [setT_eq, if_neg (Ne.symm hkk)]; exact a1
      have hk1 : (setH hp (key + 50000) (.mvec e i.size [] 0)) key = some (.cells cs) := by rw [setH_eq, if_neg (Ne.symm hkk)]; exact h1
      have hjl := (List.getElem?_eq_some_iff.1 h3).1
      obtain ⟨q1, q2⟩ := g2.setBlk (cs' := cs.set j (.ms i.size (key + 50000) 0 0)) (row' := row) hk1 hT1 a2 (by simpa using a3) a4 (fun q c v hc hv => by
        rw [List.getElem?_set] at hc
        by_cases hq : j = q
        · subst hq
          rw [if_pos rfl, if_pos hjl] at hc
          cases hc
          have := (a5 _ _ _ h3 hv).v_inv
          subst this
          exact .ms (by rw [setT_eq, if_pos rfl]) (Nat.le_refl _) ⟨none, 0, rfl, fun h => absurd rfl h⟩ fun _ => rfl
        · rw [if_neg hq] at hc
          exact (a5 _ _ _ hc hv).ext g1)
      rw [setRow_self w n row ty (0, 0) a2] at q1 q2
      refine ⟨x, _, I, _, g1, hx.ext g1, ?_, h⟩
      have : setH (setH hp key (.cells (cs.set j (.ms i.size (key + 50000) 0 0)))) (key + 50000) (.mvec e i.size [] 0) = setH (setH hp (key + 50000) (.mvec e i.size [] 0)) key (.cells (cs.set j (.ms i.size (key + 50000) 0 0))) := by
        funext u
        simp only [setH_eq]
        by_cases e1 : u = key
        · subst e1; rw [if_neg (by omega), if_pos rfl, if_pos rfl]
        · rw [if_neg e1, if_neg e1]
      rw [this]; exact q2
    · exact h.elim
  · exact h.elim

theorem freezeK_ok {K : GV → (Nat → Option GB) → Prop} {x : GV} {r : Value} {hp : Nat → Option GB} (hr : HR P w I T hp) (hx : VR w I T x r) (h : freezeK K x hp) :
    ∃ x' hp' I' T', Ext w I T w I' T' ∧ VR w I' T' x' r ∧ HR P w I' T' hp' ∧ K x' hp' := by
  unfold freezeK at h
  split at h
  · rename_i es k ver n
    unfold freezeO at h
    split at h
    · rename_i e es' xs v hk
      obtain ⟨rfl, h⟩ := h
      cases hx with
      | ms hT hle hs hra =>
        obtain ⟨u0, olds, inf, k1, _⟩ := hr.mvec k _ _ _ _ hk
        rw [k1] at hT; cases hT
        have := hra rfl
        subst this
        obtain ⟨I', T', g1, g2, g3⟩ := hr.freeze hk k1
        exact ⟨_, _, I', T', g1, g3, g2, h⟩
    · exact h.elim
  · exact h.elim

theorem postK_ok {o : Oper} {env : Nat → GV} {K : GV → (Nat → Option GB) → Prop} {x : GV} {r : Value} {hp : Nat → Option GB} (hr : HR P w I T hp) (hx : VR w I T x r) (h : postK P o env K x hp) :
    ∃ x' hp' I' T', Ext w I T w I' T' ∧ VR w I' T' x' r ∧ HR P w I' T' hp' ∧ K x' hp' := by
  unfold postK at h
  obtain ⟨dst, op, type, pos, after, guard⟩ := o
  cases op <;> try exact ⟨x, hp, I, T, .refl _ _ _, hx, hr, h⟩
  case alloc t =>
    simp only at h
    cases h1 : flagG env (5000000 + dst.getD 0) <;> simp only [h1, cond_true, cond_false] at h
    · cases h2 : flagG env (5100000 + dst.getD 0) <;> simp only [h2, cond_true, cond_false] at h
      · cases h3 : flagG env (5200000 + dst.getD 0) <;> simp only [h3, cond_true, cond_false] at h
        · exact ⟨x, hp, I, T, .refl _ _ _, hx, hr, h⟩
        · exact nilK_ok hr hx h
      · exact nilK_ok hr hx h
    · exact nilK_ok hr hx h
  case box t _ =>
    simp only at h
    cases h1 : flagG env (5000000 + dst.getD 0) <;> simp only [h1, cond_true, cond_false] at h
    · cases h2 : flagG env (5100000 + dst.getD 0) <;> simp only [h2, cond_true, cond_false] at h
      · cases h3 : flagG env (5200000 + dst.getD 0) <;> simp only [h3, cond_true, cond_false] at h
        · exact ⟨x, hp, I, T, .refl _ _ _, hx, hr, h⟩
        · exact nilK_ok hr hx h
      · exact nilK_ok hr hx h
    · exact nilK_ok hr hx h
  case load a b =>
    simp only at h
    cases h1 : flagG env (6000000 + dst.getD 0) <;> simp only [h1, cond_true, cond_false] at h
    · exact ⟨x, hp, I, T, .refl _ _ _, hx, hr, h⟩
    · exact freezeK_ok hr hx h

theorem opWp_ok {o : Oper} {w0 : World} {I0 : Nat → Nat → Prop} {T0 : Tab} {src : Bool} {K : GS → Prop} {Q : Exit → Act → World → Prop} (h : Rel P N w I T s a) (hx : Ext w0 I0 T0 w I T)
    (hw : opWp P o s (finK N src o.dst s.env K)) : o.wp P a w (QR P N w0 I0 T0 K) Q := by
  unfold opWp at hw
  split at hw
  · rename_i g args hc
    obtain ⟨vals, e1, e2, e3⟩ := callOf_ok h hc
    unfold callWp at hw
    obtain ⟨r1, r2⟩ := reach_ok s.hp 100 (keysL args) [] (by simp) (fun k hk => by cases hk)
    obtain ⟨c1, c2⟩ := call_ok (R := fun v hs' nk => finK N src o.dst s.env K (v.ren fun j => (reach s.hp 100 (keysL args) [] ++ nk)[j]?) (putAll s.hp (reach s.hp 100 (keysL args) [] ++ nk) (hs'.map (GB.ren fun j => (reach s.hp 100 (keysL args) [] ++ nk)[j]?)))) h.heap _ r1 r2 e2 e3
      (hw.mono fun v hs' ⟨nk, q1, ⟨q2, q3⟩, q4⟩ => ⟨nk, ⟨by rw [List.length_append, q1, newKeys_length]; omega, by rw [q1]; exact newKeys_nodup _ _, freeKeys_ok q2⟩, q4⟩)
    unfold Oper.wp
    rw [e1, c1]
    refine c2.mono ?_
    rintro e w' ⟨v, hs', nk, r, I', T', hR, rfl, hx', hv, hh⟩
    obtain ⟨hd, hK⟩ := finK_put hR
    exact ⟨I', T', _, h.put hd hx' hv hh, hx.trans hx', hK⟩
  · exact hw.elim
  · obtain ⟨x, u, h1, h2⟩ := Out.wp0_eff hw
    obtain ⟨r, w', I', T', h3, h4, h5, h6⟩ := opOut_ok h.heap h.env h1
    obtain ⟨x', hp', I'', T'', q1, q2, q3, q4⟩ := postK_ok h6 h5 h2
    obtain ⟨hd, hK⟩ := finK_put q4
    exact upon_of h3 ⟨I'', T'', _, h.put hd (h4.trans q1) q2 q3, hx.trans (h4.trans q1), hK⟩

theorem goOps_ok {ops : Array Oper} {w0 : World} {I0 : Nat → Nat → Prop} {T0 : Tab} {K : GS → Prop} {Q : Exit → Act → World → Prop} (hQ : ∀ a w, QR P N w0 I0 T0 K a w → Q .normal a w) :
    ∀ (l : List Oper) (i : Nat) (w : World) (I : Nat → Nat → Prop) (T : Tab) (s : GS) (a : Act), (∀ j, l[j]? = ops[i + j]?) → Rel P N w I T s a → Ext w0 I0 T0 w I T → goOps P N ops.toList i l s K →
      wpOps P ops Q ((List.range l.length).map (i + ·)) a w
  | [], i, w, I, T, s, a, _, h, hx, hg => hQ a w ⟨I, T, s, h, hx, hg⟩
  | o :: r, i, w, I, T, s, a, hl, h, hx, hg => by
    have h0 : ops[i]? = some o := by simpa using (hl 0).symm
    have hl' : ∀ j, r[j]? = ops[i + 1 + j]? := fun j => by
      have := hl (j + 1)
      rw [List.getElem?_cons_succ] at this
      rw [this]; congr 1; omega
    have hlist : (List.range (o :: r).length).map (i + ·) = i :: (List.range r.length).map (i + 1 + ·) := by
      rw [List.length_cons, List.range_succ_eq_map, List.map_cons, List.map_map]
      congr 1
      apply List.map_congr_left
      intro j _
      simp [Nat.add_assoc, Nat.add_comm 1]
    rw [hlist, wpOps_cons]
    unfold wpOp
    rw [h0]
    simp only
    unfold goOps at hg
    split at hg
    · rename_i hw
      rw [wantedG_ok h hw, if_pos rfl]
      refine .inl (Oper.wp_mono (K := QR P N w0 I0 T0 fun s' => goOps P N ops.toList (i + 1) r s' K) ?_ (opWp_ok h hx hg))
      rintro a' w' ⟨I', T', s', h1, h2, h3⟩
      exact goOps_ok hQ r (i + 1) w' I' T' s' a' hl' h1 h2 h3
    · rename_i hw
      rw [wantedG_ok h hw]
      simp only [Bool.false_eq_true, if_false]
      obtain ⟨hd, hK⟩ := finK_put hg
      exact goOps_ok hQ r (i + 1) w I T _ _ hl' (h.put hd (.refl _ _ _) VR.skip h.heap) hx hK
    · exact hg.elim

end
end Go.Gh
