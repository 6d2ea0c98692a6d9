/- Ghost values and walks, bundle Gh10; proved for whatever the arguments' types allow, as each theorem says. -/
import Derived.Test.YthpdmbnakkaliaaGh9

/- A list of operations in ghost values, and the machine's list. -/
set_option linter.unusedVariables false
set_option linter.unusedSimpArgs false
namespace Go.Gh

def Out.wp0 (hp : Nat → Option GB) : Out → (GV → (Nat → Option GB) → Prop) → Prop
  | .bad, _ => False
  | .val x, K => K x hp
  | .upd x k b, K => K x (setH hp k b)
  | .need c o, K => c ∧ o.wp0 hp K
  | .elem xs i f, K => ∃ x, (0 ≤ i ∧ xs[i.toNat]? = some x) ∧ (f x).wp0 hp K
  | .call _ _, _ => False

theorem Out.wp0_eff {hp : Nat → Option GB} : ∀ {o : Out} {K : GV → (Nat → Option GB) → Prop}, o.wp0 hp K → ∃ x u, o.eff x u ∧ K x (updH hp u)
  | .bad, _, h => h.elim
  | .val x, K, h => ⟨x, none, ⟨rfl, rfl⟩, h⟩
  | .upd x k b, K, h => ⟨x, some (k, b), ⟨rfl, rfl⟩, h⟩
  | .need c o, K, h => by
    obtain ⟨x, u, h1, h2⟩ := Out.wp0_eff (o := o) h.2
    exact ⟨x, u, ⟨h.1, h1⟩, h2⟩
  | .elem xs i f, K, h => by
    obtain ⟨y, ⟨h0, h1⟩, h2⟩ := h
    obtain ⟨x, u, h3, h4⟩ := Out.wp0_eff (o := f y) h2
    exact ⟨x, u, ⟨y, h0, h1, h3⟩, h4⟩
  | .call _ _, _, h => h.elim

theorem VR.skip {w : World} {I : Nat → Nat → Prop} {T : Tab} : VR w I T (.tup []) undef := .tup rfl fun i c r hc => by simp at hc

/-- The function value and the arguments of a call of a Go function. -/
def callOf (o : Oper) (env : Nat → GV) : Option (Option (FuncId × List GV)) := match o.op with
  | .call c => (match c.callee with
    | .value f => (match gev env f with
      | .fn (.func g) first cap => some (some (g, first ++ (c.args.toList.map (gev env) ++ cap)))
      | _ => some none)
    | _ => none)
  | _ => none

def opWp (P : Program) (o : Oper) (s : GS) (K : GV → (Nat → Option GB) → Prop) : Prop :=
  match callOf o s.env with
  | some (some (g, args)) => callWp P s.hp (o.dst.getD 0) g args K
  | some none => False
  | none => (opOut P [] o s).wp0 s.hp K

def nilKeys : List GV → Bool → Prop
  | args, true => keysL args = []
  | _, false => True

/-- All keys that a call may come to, and all that are named there. -/
def mentL (hp : Nat → Option GB) : List Nat → List Nat
  | [] => []
  | k :: r => k :: (keysL (hpCells hp k) ++ mentL hp r)
def ment (hp : Nat → Option GB) (args : List GV) : List Nat := keysL args ++ mentL hp (reach hp 100 (keysL args) [])
def clearOf (forb : List Nat) : List Nat → Bool
  | [] => true
  | k :: r => !(forb.elem k) && clearOf forb r

/-- The call in a region that draws its order: it comes to no key that a free operation makes; it turns nothing, if a free operation reads. -/
def CallOk (forb : List Nat) (pc bad rd : Bool) (hp : Nat → Option GB) (args : List GV) (hp' : Nat → Option GB) : Prop :=
  nilKeys args pc ∨ (bad = false ∧ clearOf forb (ment hp args) = true ∧ (rd = true → hp' = hp))

/-- Is the operation run? -/
def wantedG (all : List Oper) (env : Nat → GV) (o : Oper) : Option Bool :=
  match o.guard with
  | none => some true
  | some (j, want) => match all[j]? with
    | some oj => (match oj.dst with
      | some d => (match env d with
        | .v (.bool b) => some (b == want)
        | .tup [] => some false
        | _ => none)
      | none => none)
    | none => none

def isSrc (all : List Oper) (i : Nat) : Bool := all.any fun o => match o.guard with
  | some (j, _) => Nat.beq j i
  | none => false

/-- The value goes where it belongs; a bool that others hang on parts the way. -/
def finK (N : Nat) (src : Bool) (dst : Option Tmp) (env : Nat → GV) (K : GS → Prop) (x : GV) (hp : Nat → Option GB) : Prop :=
  match dst with
  | none => K ⟨env, hp⟩
  | some d => bif Nat.blt d N then (bif src then (match x with
      | .v (.bool b) => (b = true → K ⟨setE env d (.v (.bool true)), hp⟩) ∧ (b = false → K ⟨setE env d (.v (.bool false)), hp⟩)
      | x => K ⟨setE env d x, hp⟩) else K ⟨setE env d x, hp⟩) else False

def goOps (P : Program) (N : Nat) (all : List Oper) : Nat → List Oper → GS → (GS → Prop) → Prop
  | _, [], s, K => K s
  | i, o :: r, s, K => match wantedG all s.env o with
    | some true => opWp P o s (finK N (isSrc all i) o.dst s.env fun s' => goOps P N all (i + 1) r s' K)
    | some false => finK N false o.dst s.env (fun s' => goOps P N all (i + 1) r s' K) (.tup []) s.hp
    | none => False

def putG (s : GS) (dst : Option Tmp) (x : GV) (hp : Nat → Option GB) : GS := match dst with
  | none => ⟨s.env, hp⟩
  | some d => ⟨setE s.env d x, hp⟩

theorem finK_put {N : Nat} {src : Bool} {dst : Option Tmp} {s : GS} {K : GS → Prop} {x : GV} {hp : Nat → Option GB} (h : finK N src dst s.env K x hp) : (∀ d, dst = some d → d < N) ∧ K (putG s dst x hp) := by
  cases dst with
  | none => exact ⟨fun d h => (by cases h), h⟩
  | some d =>
    simp only [finK] at h
    cases hb : Nat.blt d N with
    | false => rw [hb] at h; exact h.elim
    | true =>
      rw [hb] at h
      have hd : d < N := Nat.le_of_ble_eq_true hb
      refine ⟨fun d' hd' => by cases hd'; exact hd, ?_⟩
      simp only [cond_true] at h
      cases src with
      | false => exact h
      | true =>
        simp only [cond_true] at h
        split at h
        · rename_i b
          cases b
          · exact h.2 rfl
          · exact h.1 rfl
        · exact h

structure Rel (P : Program) (N : Nat) (w : World) (I : Nat → Nat → Prop) (T : Tab) (s : GS) (a : Act) : Prop where
  size : a.tmps.size = N
  nodef : a.defers = []
  env : ∀ t, VR w I T (s.env t) (a.tmps.getD t undef)
  heap : HR P w I T s.hp

section
variable {P : Program} {N : Nat} {w : World} {I : Nat → Nat → Prop} {T : Tab} {s : GS} {a : Act}

theorem Rel.put {w' : World} {I' : Nat → Nat → Prop} {T' : Tab} {dst : Option Tmp} {x : GV} {r : Value} {hp : Nat → Option GB} (h : Rel P N w I T s a) (hd : ∀ d, dst = some d → d < N) (hx : Ext w I T w' I' T') (hv : VR w' I' T' x r) (hh : HR P w' I' T' hp) :
    Rel P N w' I' T' (putG s dst x hp) (a.put dst r) := by
  cases dst with
  | none => exact ⟨h.size, h.nodef, fun t => (h.env t).ext hx, hh⟩
  | some d =>
    have hlt : d < a.tmps.size := by rw [h.size]; exact hd d rfl
    refine ⟨by simpa [Act.put] using h.size, h.nodef, fun t => ?_, hh⟩
    show VR w' I' T' (setE s.env d x t) ((a.tmps.setIfInBounds d r).getD t undef)
    rw [setE_eq]
    by_cases ht : t = d
    · subst ht
      rw [if_pos rfl]
      simp [hlt]; exact hv
    · rw [if_neg ht]
      have : (a.tmps.setIfInBounds d r).getD t undef = a.tmps.getD t undef := by
        simp only [Array.getD_eq_getD_getElem?]
        rw [Array.getElem?_setIfInBounds_ne (Ne.symm ht)]
      rw [this]; exact (h.env t).ext hx

theorem wantedG_ok {ops : Array Oper} {o : Oper} {b : Bool} (h : Rel P N w I T s a) (hw : wantedG ops.toList s.env o = some b) : Region.wanted o (yielded ops a.tmps) = b := by
  unfold wantedG at hw
  unfold Region.wanted
  split at hw
  · rename_i hg; rw [hg]; cases hw; rfl
  · rename_i j want hg
    rw [hg]
    simp only
    split at hw
    · rename_i oj hoj
      split at hw
      · rename_i d hd
        split at hw
        · rename_i c hc
          cases hw
          have hv := h.env d
          rw [hc] at hv
          have hv := hv.v_inv
          have ho : ops[j]? = some oj := by simpa using hoj
          have ht : a.tmps[d]? = some (.bool c) := by
            rw [Array.getD_eq_getD_getElem?] at hv
            cases h' : a.tmps[d]? with
            | none => rw [h'] at hv; cases hv
            | some q => rw [h'] at hv; simp at hv; rw [hv]
          have : yielded ops a.tmps j = some c := by
            unfold yielded
            rw [ho]
            simp [hd, ht]
          rw [this]
          cases c <;> cases want <;> rfl
        · rename_i hc
          cases hw
          have hv := h.env d
          rw [hc] at hv
          have ho : ops[j]? = some oj := by simpa using hoj
          have : yielded ops a.tmps j = none := by
            unfold yielded
            rw [ho]
            simp only [Option.bind_some, hd]
            rw [Array.getD_eq_getD_getElem?] at hv
            cases h' : a.tmps[d]? with
            | none => rfl
            | some q =>
              rw [h'] at hv
              simp only [Option.getD_some] at hv
              cases hv; rfl
          rw [this]; rfl
        · cases hw
      · cases hw
    · cases hw

/-- What the machine is left with behind a step. -/
def QR (P : Program) (N : Nat) (w0 : World) (I0 : Nat → Nat → Prop) (T0 : Tab) (K : GS → Prop) (a : Act) (w : World) : Prop :=
  ∃ I T s, Rel P N w I T s a ∧ Ext w0 I0 T0 w I T ∧ K s

theorem upon_of {o : Oper} {next : Act → World → Prop} {Q : Exit → Act → World → Prop} {res : Result Next} {r : Value} {w' : World} (h : res = .ok (.value r) w' ∨ (res = .ok .skip w' ∧ r = undef)) (hn : next (a.put o.dst r) w') :
    o.upon P a next Q res := by
  rcases h with rfl | ⟨rfl, rfl⟩ <;> exact hn

theorem callOf_none {o : Oper} {env : Nat → GV} (h : callOf o env = some none) : True := trivial

theorem evals_ok (h : Rel P N w I T s a) (l : List Operand) : (l.map a.eval).length = (l.map (gev s.env)).length ∧ ∀ (i : Nat) (c : GV) (r : Value), (l.map (gev s.env))[i]? = some c → (l.map a.eval)[i]? = some r → VR w I T c r := by
  refine ⟨by simp, fun i c r hc hr => ?_⟩
  simp only [List.getElem?_map, Option.map_eq_some_iff] at hc hr
  obtain ⟨q, hq, rfl⟩ := hc
  obtain ⟨q', hq', rfl⟩ := hr
  rw [hq] at hq'; cases hq'
  exact gev_ok h.env q

/-- The machine's call: by which function, with which arguments. -/
theorem callOf_ok {o : Oper} {g : FuncId} {args : List GV} (h : Rel P N w I T s a) (hc : callOf o s.env = some (some (g, args))) :
    ∃ vals : Array Value, (execOp a.eval o).run P w = (callFunc g vals).run P w ∧ vals.size = args.length ∧ ∀ (i : Nat) (c : GV) (r : Value), args[i]? = some c → vals[i]? = some r → VR w I T c r := by
  obtain ⟨dst, op, type, pos, after, guard⟩ := o
  unfold callOf at hc
  cases op <;> simp only at hc <;> try (cases hc; done)
  rename_i c
  obtain ⟨callee, cargs, ts⟩ := c
  cases callee <;> simp only at hc <;> try (cases hc; done)
  rename_i f
  split at hc
  · rename_i g' first cap hf
    cases hc
    have hfv := gev_ok h.env f
    rw [hf] at hfv
    obtain ⟨e1, e2⟩ := evals_ok h cargs.toList
    generalize hrf : a.eval f = rf at hfv
    cases hfv with
    | @fn _ _ _ _ ra rb hla hlb ha hb =>
      refine ⟨ra ++ cargs.map a.eval ++ rb, ?_, ?_, fun i c r hc hr => ?_⟩
      · simp [execOp, resolve, Deferred.ofValue, hrf, invoke]
      · simp [hla, hlb]
      · have hr' : (ra.toList ++ (cargs.toList.map a.eval ++ rb.toList))[i]? = some r := by
          rw [← hr, ← Array.getElem?_toList]; simp
        rw [List.getElem?_append] at hc hr'
        by_cases h1 : i < first.length
        · rw [if_pos h1] at hc; rw [if_pos (by simpa [hla] using h1)] at hr'
          exact ha i c r hc (by simpa using hr')
        · rw [if_neg h1] at hc; rw [if_neg (by simpa [hla] using h1)] at hr'
          simp only [Array.length_toList, hla] at hr'
          rw [List.getElem?_append] at hc hr'
          by_cases h2 : i - first.length < cargs.toList.length
          · rw [if_pos (by simpa using h2)] at hc; rw [if_pos (by simpa using h2)] at hr'
            exact e2 _ c r hc hr'
          · rw [if_neg (by simpa using h2)] at hc; rw [if_neg (by simpa using h2)] at hr'
            simp only [List.length_map] at hc hr'
            exact hb _ c r hc (by simpa using hr')
  · cases hc

theorem opWp_ok {o : Oper} {w0 : World} {I0 : Nat → Nat → Prop} {T0 : Tab} {src : Bool} {K : GS → Prop} {Q : Exit → Act → World → Prop} (h : Rel P N w I T s a) (hx : Ext w0 I0 T0 w I T)
    (hw : opWp P o s (finK N src o.dst s.env K)) : o.wp P a w (QR P N w0 I0 T0 K) Q := by
  unfold opWp at hw
  split at hw
  · rename_i g args hc
    obtain ⟨vals, e1, e2, e3⟩ := callOf_ok h hc
    unfold callWp at hw
    obtain ⟨r1, r2⟩ := reach_ok s.hp 100 (keysL args) [] (by simp) (fun k hk => by cases hk)
    obtain ⟨c1, c2⟩ := call_ok (R := fun v hs' nk => finK N src o.dst s.env K (v.ren fun j => (reach s.hp 100 (keysL args) [] ++ nk)[j]?) (putAll s.hp (reach s.hp 100 (keysL args) [] ++ nk) (hs'.map (GB.ren fun j => (reach s.hp 100 (keysL args) [] ++ nk)[j]?)))) h.heap _ r1 r2 e2 e3
      (hw.mono fun v hs' ⟨nk, q1, ⟨q2, q3⟩, q4⟩ => ⟨nk, ⟨by rw [List.length_append, q1, newKeys_length]; omega, by rw [q1]; exact newKeys_nodup _ _, freeKeys_ok q2⟩, q4⟩)
    unfold Oper.wp
    rw [e1, c1]
    refine c2.mono ?_
    rintro e w' ⟨v, hs', nk, r, I', T', hR, rfl, hx', hv, hh⟩
    obtain ⟨hd, hK⟩ := finK_put hR
    exact ⟨I', T', _, h.put hd hx' hv hh, hx.trans hx', hK⟩
  · exact hw.elim
  · obtain ⟨x, u, h1, h2⟩ := Out.wp0_eff hw
    obtain ⟨r, w', I', T', h3, h4, h5, h6⟩ := opOut_ok h.heap h.env h1
    obtain ⟨hd, hK⟩ := finK_put h2
    exact upon_of h3 ⟨I', T', _, h.put hd h4 h5 h6, hx.trans h4, hK⟩

theorem goOps_ok {ops : Array Oper} {w0 : World} {I0 : Nat → Nat → Prop} {T0 : Tab} {K : GS → Prop} {Q : Exit → Act → World → Prop} (hQ : ∀ a w, QR P N w0 I0 T0 K a w → Q .normal a w) :
    ∀ (l : List Oper) (i : Nat) (w : World) (I : Nat → Nat → Prop) (T : Tab) (s : GS) (a : Act), (∀ j, l[j]? = ops[i + j]?) → Rel P N w I T s a → Ext w0 I0 T0 w I T → goOps P N ops.toList i l s K →
      wpOps P ops Q ((List.range l.length).map (i + ·)) a w
  | [], i, w, I, T, s, a, _, h, hx, hg => hQ a w ⟨I, T, s, h, hx, hg⟩
  | o :: r, i, w, I, T, s, a, hl, h, hx, hg => by
    have h0 : ops[i]? = some o := by simpa using (hl 0).symm
    have hl' : ∀ j, r[j]? = ops[i + 1 + j]? := fun j => by
      have := hl (j + 1)
      rw [List.getElem?_cons_succ] at this
      rw [this]; congr 1; omega
    have hlist : (List.range (o :: r).length).map (i + ·) = i :: (List.range r.length).map (i + 1 + ·) := by
      rw [List.length_cons, List.range_succ_eq_map, List.map_cons, List.map_map]
      congr 1
      apply List.map_congr_left
      intro j _
      simp [Nat.add_assoc, Nat.add_comm 1]
    rw [hlist, wpOps_cons]
    unfold wpOp
    rw [h0]
    simp only
    unfold goOps at hg
    split at hg
    · rename_i hw
      rw [wantedG_ok h hw, if_pos rfl]
      refine .inl (Oper.wp_mono (K := QR P N w0 I0 T0 fun s' => goOps P N ops.toList (i + 1) r s' K) ?_ (opWp_ok h hx hg))
      rintro a' w' ⟨I', T', s', h1, h2, h3⟩
      exact goOps_ok hQ r (i + 1) w' I' T' s' a' hl' h1 h2 h3
    · rename_i hw
      rw [wantedG_ok h hw]
      simp only [Bool.false_eq_true, if_false]
      obtain ⟨hd, hK⟩ := finK_put hg
      exact goOps_ok hQ r (i + 1) w I T _ _ hl' (h.put hd (.refl _ _ _) VR.skip h.heap) hx hK
    · exact hg.elim

end
end Go.Gh
