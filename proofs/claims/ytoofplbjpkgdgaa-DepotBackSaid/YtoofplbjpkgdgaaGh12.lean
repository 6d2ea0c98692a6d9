/- Ghost values and walks, bundle Gh12; proved for whatever the arguments' types allow, as each theorem says. -/
import Derived.Test.YtoofplbjpkgdgaaGhF
import Derived.Scope
import Derived.LoopN

/- Code in ghost values; loops; a function's contract out of its body. -/
set_option linter.unusedVariables false
set_option linter.unusedSimpArgs false
namespace Go.Gh

def envOf : List (Nat × GV) → Nat → GV
  | [], _ => .dead
  | (t, x) :: r, u => bif Nat.beq u t then x else envOf r u

def hpOf : List (Nat × Option GB) → Nat → Option GB
  | [], _ => none
  | (t, x) :: r, u => bif Nat.beq u t then x else hpOf r u

def keepS (B : List Nat) : Nat → Option Nat := fun k => bif B.elem k then some k else none

/-- Only these slots and blocks are known from here on. -/
def keepG (L B : List Nat) (s : GS) : GS :=
  ⟨envOf (L.map fun t => (t, (s.env t).ren (keepS B))), hpOf (B.map fun k => (k, match s.hp k with
    | some b => some (b.ren (keepS B))
    | none => none))⟩

def allBelow (m : Nat) (B : List Nat) : Bool := match m with
  | 0 => true
  | n + 1 => B.elem n && allBelow n B

def forceE : List (Nat × GV) → (List (Nat × GV) → Prop) → Prop
  | [], K => K []
  | (t, x) :: r, K => force x fun x => forceE r fun r => K ((t, x) :: r)
theorem forceE_eq : ∀ (l : List (Nat × GV)) (K : List (Nat × GV) → Prop), forceE l K = K l
  | [], _ => rfl
  | (t, x) :: r, K => by unfold forceE; rw [force_eq, forceE_eq]
def forceH : List (Nat × Option GB) → (List (Nat × Option GB) → Prop) → Prop
  | [], K => K []
  | (t, x) :: r, K => match x with
    | some b => forceB b fun b => forceH r fun r => K ((t, some b) :: r)
    | none => forceH r fun r => K ((t, none) :: r)
theorem forceH_eq : ∀ (l : List (Nat × Option GB)) (K : List (Nat × Option GB) → Prop), forceH l K = K l
  | [], _ => rfl
  | (t, none) :: r, K => by unfold forceH; simp only [forceH_eq r]
  | (t, some b) :: r, K => by unfold forceH; simp only [forceB_eq, forceH_eq r]

def keepW (m : Nat) (pl : Option (List Nat × List Nat)) (s : GS) (K : GS → Prop) : Prop := match pl with
  | none => K s
  | some (L, B) => bif allBelow m B then (forceE (L.map fun t => (t, (s.env t).ren (keepS B))) fun e => forceH (B.map fun k => (k, match s.hp k with
    | some b => some (b.ren (keepS B))
    | none => none)) fun h => K ⟨envOf e, hpOf h⟩) else False
theorem keepW_eq (m : Nat) (pl : Option (List Nat × List Nat)) (s : GS) (K : GS → Prop) : keepW m pl s K = (match pl with
  | none => K s
  | some (L, B) => bif allBelow m B then K (keepG L B s) else False) := by
  unfold keepW keepG
  simp only [forceE_eq, forceH_eq]

abbrev GQ := Exit → GS → Prop

/-- What follows: the next piece of code. -/
def seqQ (kb : GS → GQ → Prop) (Q : GQ) : GQ := fun e s' => match e with
  | .normal => kb s' Q
  | e => Q e s'
def blockQ (id : Nat) (Q : GQ) : GQ := fun e s' => match e with
  | .exit i => bif Nat.beq i id then Q .normal s' else Q (.exit i) s'
  | e => Q e s'
def scopeQ (Q : GQ) : GQ := fun e s' => match e with
  | .goto _ => False
  | e => Q e s'

/-- The state of which this holds is met. -/
structure Met (M : GS → Prop) (S : GS) : Prop where
  m : M S
def joinQ (m : Nat) (L B : List Nat) (M : GS → Prop) (Q : GQ) : GQ := fun e s' => match e with
  | .normal => keepW m (some (L, B)) s' (Met M)
  | e => Q e s'
/-- Two pieces of code, by what holds of the slots and blocks that are kept between them. -/
structure Join (P : Program) (N : Nat) (pl0 : Nat → Option (List Nat × List Nat)) (c : Code) (m : Nat) (L B : List Nat) (s : GS) (F : GQ → Prop) (G : GS → Prop) (Q : GQ) : Prop where
  ex : ∃ M : GS → Prop, F (joinQ m L B M Q) ∧ ∀ S, M S → G S
theorem Join.at {P : Program} {N : Nat} {pl0 : Nat → Option (List Nat × List Nat)} {c : Code} {m : Nat} {L B : List Nat} {s : GS} {F : GQ → Prop} {G : GS → Prop} {Q : GQ} (S : GS) (h1 : F (joinQ m L B (fun S' => S' = S) Q)) (h2 : G S) : Join P N pl0 c m L B s F G Q := ⟨_, h1, fun S' e => e ▸ h2⟩
theorem Join.by {P : Program} {N : Nat} {pl0 : Nat → Option (List Nat × List Nat)} {c : Code} {m : Nat} {L B : List Nat} {s : GS} {F : GQ → Prop} {G : GS → Prop} {Q : GQ} (M : GS → Prop) (h1 : F (joinQ m L B M Q)) (h2 : ∀ S, M S → G S) : Join P N pl0 c m L B s F G Q := ⟨M, h1, h2⟩

def rounds (m : Nat) (F : GS → GQ → Prop) (pl : Option (List Nat × List Nat)) (Q : GQ) (n : Nat) : GS → Prop :=
  Nat.rec (motive := fun _ => GS → Prop) (fun _ => False) (fun _ ih s => keepW m pl s fun s0 => F s0 (seqQ (fun s' _ => ih s') Q)) n
theorem rounds_zero {m : Nat} {F : GS → GQ → Prop} {pl : Option (List Nat × List Nat)} {Q : GQ} {s : GS} : rounds m F pl Q 0 s = False := rfl
theorem rounds_next {m : Nat} {F : GS → GQ → Prop} {pl : Option (List Nat × List Nat)} {Q : GQ} {n : Nat} {s : GS} : rounds m F pl Q (n + 1) s = keepW m pl s fun s0 => F s0 fun e s' => match e with
    | .normal => rounds m F pl Q n s'
    | e => Q e s' := rfl

@[irreducible] def ILoop (P : Program) (N : Nat) (pl0 : Nat → Option (List Nat × List Nat)) (c : Code) (m : Nat) (F : GS → GQ → Prop) (pl : Option (List Nat × List Nat)) (Q : GQ) (s : GS) : Prop := ∃ n, rounds m F pl Q n s

def firstReg : Code → Nat
  | .region id _ _ => id
  | .seq a _ => firstReg a
  | .block _ c => firstReg c
  | .scope c => firstReg c
  | _ => 1000000

/-- Ahead of a region: the slice in a block's first cell is frozen. -/
def coolF (k j : Nat) (s : GS) (F : GS → Prop) : Prop := match s.hp k with
  | some (.cells cs) => (match (cs[j]? : Option GV) with
    | some (.ms es kk ver n) => (freezeO s.hp es kk ver).wpF s.hp fun x hp => forceL (cs.set j x) fun cs' => F ⟨s.env, setH hp k (.cells cs')⟩
    | _ => False)
  | _ => False
def coolR (pl : Option (List Nat × List Nat)) (s : GS) (F : GS → Prop) : Prop := match pl with
  | some (k :: _, Y) => coolF k (Y.head?.getD 0) s F
  | _ => F s

def iwp (P : Program) (N m : Nat) (pl : Nat → Option (List Nat × List Nat)) (c : Code) : GS → GQ → Prop :=
  Code.rec (motive := fun _ => GS → GQ → Prop)
    (fun s Q => Q .normal s)
    (fun id ops draw s Q => coolR (pl (7000000 + id)) s fun s => bif draw then drF P N ops.toList s (Q .normal) else regF P N ops.toList s (Q .normal))
    (fun a b iha ihb s Q => match pl (2000000 + firstReg b) with
      | none => iha s (seqQ ihb Q)
      | some (L, B) => Join P N pl a m L B s (iha s) (fun S => ihb S Q) Q)
    (fun c _ _ iha ihb s Q => match gev s.env c with
      | .v (.bool t) => Br t (iha s Q) (ihb s Q)
      | _ => False)
    (fun id _ ih s Q => ih s (blockQ id Q))
    (fun c ih s Q => ILoop P N pl c m ih (pl (firstReg c)) Q s)
    (fun _ _ _ _ _ _ _ _ => False)
    (fun id s Q => Q (.exit id) s)
    (fun _ ih s Q => ih s (scopeQ Q))
    (fun _ s Q => Q .normal s)
    (fun _ _ _ => False)
    (fun s Q => Q .ret s)
    (fun _ _ _ => False) c

section
variable {P : Program} {N m : Nat} {pl : Nat → Option (List Nat × List Nat)} {s : GS} {Q : GQ}
theorem iwp_skip : iwp P N m pl .skip s Q = Q .normal s := rfl
theorem iwp_region {id : Nat} {ops : Array Oper} {draw : Bool} : iwp P N m pl (.region id ops draw) s Q = coolR (pl (7000000 + id)) s fun s => bif draw then drF P N ops.toList s (Q .normal) else regF P N ops.toList s (Q .normal) := rfl
theorem iwp_seqE {a b : Code} : iwp P N m pl (.seq a b) s Q = (match pl (2000000 + firstReg b) with
    | none => iwp P N m pl a s fun e s' => match e with
      | .normal => iwp P N m pl b s' Q
      | e => Q e s'
    | some (L, B) => Join P N pl a m L B s (iwp P N m pl a s) (fun S => iwp P N m pl b S Q) Q) := rfl
theorem iwp_cond {c : Operand} {a b : Code} : iwp P N m pl (.cond c a b) s Q = match gev s.env c with
    | .v (.bool t) => Br t (iwp P N m pl a s Q) (iwp P N m pl b s Q)
    | _ => False := rfl
theorem iwp_block {id : Nat} {c : Code} : iwp P N m pl (.block id c) s Q = iwp P N m pl c s fun e s' => match e with
    | .exit i => bif Nat.beq i id then Q .normal s' else Q (.exit i) s'
    | e => Q e s' := rfl
theorem iwp_loop {c : Code} : iwp P N m pl (.loop c) s Q = ILoop P N pl c m (iwp P N m pl c) (pl (firstReg c)) Q s := rfl
theorem iwp_range {f : Operand} {p : Array Tmp} {a b : Code} : iwp P N m pl (.rangeFunc f p a b) s Q = False := rfl
theorem iwp_exit {id : Nat} : iwp P N m pl (.exit id) s Q = Q (.exit id) s := rfl
theorem iwp_scope {c : Code} : iwp P N m pl (.scope c) s Q = iwp P N m pl c s fun e s' => match e with
    | .goto _ => False
    | e => Q e s' := rfl
theorem iwp_label {l : Nat} : iwp P N m pl (.label l) s Q = Q .normal s := rfl
theorem iwp_goto {l : Nat} : iwp P N m pl (.goto l) s Q = False := rfl
theorem iwp_ret : iwp P N m pl .ret s Q = Q .ret s := rfl
theorem iwp_refuse {y : String} : iwp P N m pl (.refuse y) s Q = False := rfl
end

section
variable {P : Program} {N m : Nat} {w : World} {I : Nat → Nat → Prop} {T : Tab} {s : GS} {a : Act}

/-- The blocks of the arguments stay in the table. -/
def Low (m : Nat) (T0 : Tab) : Prop := ∀ k x, T0 k = some x → k < m

theorem envOf_map (L : List Nat) (f : Nat → GV) (u : Nat) : envOf (L.map fun t => (t, f t)) u = if u ∈ L then f u else .dead := by
  induction L with
  | nil => simp [envOf]
  | cons t r ih =>
    simp only [List.map_cons, envOf]
    by_cases h : u = t
    · subst h; simp
    · have hb : Nat.beq u t = false := by
        cases hb : Nat.beq u t with
        | true => exact absurd (Nat.eq_of_beq_eq_true hb) h
        | false => rfl
      rw [hb]; simp [h, ih]

theorem hpOf_map (L : List Nat) (f : Nat → Option GB) (u : Nat) : hpOf (L.map fun t => (t, f t)) u = if u ∈ L then f u else none := by
  induction L with
  | nil => simp [hpOf]
  | cons t r ih =>
    simp only [List.map_cons, hpOf]
    by_cases h : u = t
    · subst h; simp
    · have hb : Nat.beq u t = false := by
        cases hb : Nat.beq u t with
        | true => exact absurd (Nat.eq_of_beq_eq_true hb) h
        | false => rfl
      rw [hb]; simp [h, ih]

theorem allBelow_mem : ∀ {m : Nat} {B : List Nat}, allBelow m B = true → ∀ k, k < m → k ∈ B
  | 0, _, _, k, hk => by omega
  | m + 1, B, h, k, hk => by
    simp only [allBelow, Bool.and_eq_true] at h
    by_cases e : k = m
    · subst e; exact List.elem_iff.1 h.1
    · exact allBelow_mem h.2 k (by omega)

/-- Less is known: of a table, of blocks. -/
theorem Rel.keep {w0 : World} {I0 : Nat → Nat → Prop} {T0 : Tab} (hlow : Low m T0) (h : Rel P N w I T s a) (hx : Ext w0 I0 T0 w I T) (L B : List Nat) (hB : allBelow m B = true) :
    ∃ T', Rel P N w I T' (keepG L B s) a ∧ Ext w0 I0 T0 w I T' := by
  let T' : Tab := fun k => if k ∈ B then T k else none
  have hsub : ∀ k x, T' k = some x → k ∈ B ∧ T k = some x := by
    intro k x hk
    show k ∈ B ∧ _
    by_cases hb : k ∈ B
    · exact ⟨hb, by simpa [T', hb] using hk⟩
    · simp [T', hb] at hk
  have hkeep : ∀ k k' y, keepS B k = some k' → T k = some y → T' k' = some y := by
    intro k k' y h1 h2
    unfold keepS at h1
    cases hb : B.elem k with
    | false => rw [hb] at h1; cases h1
    | true =>
      rw [hb] at h1; cases h1
      simp [T', List.elem_iff.1 hb, h2]
  have hhp : ∀ k, (keepG L B s).hp k = if k ∈ B then (match s.hp k with
    | some b => some (b.ren (keepS B))
    | none => none) else none := fun k => hpOf_map B _ k
  refine ⟨T', ⟨h.size, h.nodef, fun t => ?_, ?_⟩, ?_⟩
  · show VR w I T' (envOf (L.map fun t => (t, (s.env t).ren (keepS B))) t) _
    rw [envOf_map]
    split
    · exact (h.env t).ren _ hkeep
    · exact .dead _
  · have hget : ∀ k b, (keepG L B s).hp k = some b → k ∈ B ∧ ∃ b0, s.hp k = some b0 ∧ b = b0.ren (keepS B) := by
      intro k b hk
      rw [hhp] at hk
      split at hk
      · rename_i hb
        split at hk
        · rename_i g hg
          cases hk
          exact ⟨hb, g, hg, rfl⟩
        · cases hk
      · cases hk
    refine ⟨fun k hk => ?_, fun k cs hk => ?_, fun k e n hk => ?_, fun k e es xs v hk => ?_, fun k hk => ?_, h.heap.lt, fun k n o hk => ?_, fun k u e es n b o hk => ?_, fun k u s v b o hk => ?_, fun k k' x x' b h1 h2 => ?_⟩
    · rw [hhp] at hk
      show (if k ∈ B then T k else none) = none
      split
      · rename_i hb
        rw [if_pos hb] at hk
        split at hk
        · cases hk
        · rename_i hn; exact h.heap.non k hn
      · rfl
    · obtain ⟨hb, b0, hg, hk⟩ := hget k _ hk
      cases b0 <;> simp only [GB.ren] at hk <;> try cases hk
      obtain ⟨n, row, ty, e1, e2, e3, e4, e5⟩ := h.heap.cells k _ hg
      refine ⟨n, row, ty, by simp [T', hb, e1], e2, by rw [renL_eq]; simpa using e3, e4, fun j c r hc hr => ?_⟩
      rw [renL_eq, List.getElem?_map, Option.map_eq_some_iff] at hc
      obtain ⟨c0, h3, rfl⟩ := hc
      exact (e5 j c0 r h3 hr).ren _ hkeep
    · obtain ⟨hb, b0, hg, hk⟩ := hget k _ hk
      cases b0 <;> simp only [GB.ren] at hk <;> try cases hk
      obtain ⟨u, es, xs, i, e1, e2⟩ := h.heap.vec k _ _ hg
      exact ⟨u, es, xs, i, by simp [T', hb, e1], e2⟩
    · obtain ⟨hb, b0, hg, hk⟩ := hget k _ hk
      cases b0 <;> simp only [GB.ren] at hk <;> try cases hk
      obtain ⟨u, ys, i, e1, e2⟩ := h.heap.mvec k _ _ _ _ hg
      exact ⟨u, ys, i, by simp [T', hb, e1], e2⟩
    · obtain ⟨hb, b0, hg, hk⟩ := hget k _ hk
      cases b0 <;> simp only [GB.ren] at hk <;> try cases hk
      have := h.heap.gone k hg
      simp [T', this]
    · exact h.heap.nblk k n o (hsub _ _ hk).2
    · exact h.heap.nvec k u e es n b o (hsub _ _ hk).2
    · exact h.heap.nmv k u s v b o (hsub _ _ hk).2
    · exact h.heap.dist k k' x x' b (hsub _ _ h1).2 (hsub _ _ h2).2
  · have hTB : ∀ k x, T0 k = some x → T' k = T k := fun k x hk => by simp only [T', if_pos (allBelow_mem hB k (hlow k x hk))]
    refine ⟨hx.os, hx.tape, hx.output, hx.size, hx.ile, ⟨fun k n hk => ?_, fun k u e s n hk => ?_, fun k u s v hk => ?_⟩, hx.inew, fun k x b hk => hx.tb k x b (hsub _ _ hk).2, hx.frame, hx.drawn⟩
    · rw [hTB k _ hk]; exact hx.tle.1 k n hk
    · rw [hTB k _ hk]; exact hx.tle.2.1 k u e s n hk
    · rw [hTB k _ hk]; exact hx.tle.2.2 k u s v hk

theorem cool_ok {k j : Nat} {F : GS → Prop} (h : Rel P N w I T s a) (hc : coolF k j s F) : ∃ I' T' s', Rel P N w I' T' s' a ∧ Ext w I T w I' T' ∧ F s' := by
  unfold coolF at hc
  split at hc
  · rename_i cs h1
    split at hc
    · rename_i es kk ver n h3
      simp only [Out.wpF_eq, forceL_eq] at hc
      obtain ⟨b, row, ty, a1, a2, a3, a4, a5⟩ := h.heap.cells k cs h1
      have hjl := (List.getElem?_eq_some_iff.1 h3).1
      obtain ⟨r, hr0⟩ : ∃ r, row[j]? = some r := ⟨row[j]'(by omega), Array.getElem?_eq_getElem (by omega)⟩
      have hx := a5 j _ r h3 hr0
      unfold freezeO at hc
      split at hc
      · rename_i e es' xs v hk
        obtain ⟨rfl, hc⟩ := hc
        cases hx with
        | ms hT hle hs hra =>
          obtain ⟨u0, olds, inf, k1, _⟩ := h.heap.mvec kk _ _ _ _ hk
          rw [k1] at hT; cases hT
          have := hra rfl
          subst this
          obtain ⟨I', T', g1, g2, g3⟩ := h.heap.freeze hk k1
          have hkk : k ≠ kk := by rintro rfl; rw [h1] at hk; cases hk
          have hk1 := (setH_eq s.hp kk k (.mvec e es [] (v + 1))).trans ((if_neg hkk).trans h1)
          obtain ⟨q1, q2⟩ := g2.setBlk (cs' := cs.set j (.list es xs none)) (row' := row) hk1 (g1.tle.1 k b a1) a2 (by simpa using a3) a4 (fun q c v' hc' hv => by
            rw [List.getElem?_set] at hc'
            by_cases hq : j = q
            · subst hq
              rw [if_pos rfl, if_pos hjl] at hc'
              cases hc'
              rw [hr0] at hv; cases hv
              exact g3
            · rw [if_neg hq] at hc'
              exact (a5 _ _ _ hc' hv).ext g1)
          rw [setRow_self w b row ty (0, 0) a2] at q1 q2
          exact ⟨I', T', ⟨s.env, setH (setH s.hp kk (.mvec e es [] (v + 1))) k (.cells (cs.set j (.list es xs none)))⟩, ⟨h.size, h.nodef, fun t => (h.env t).ext g1, q2⟩, g1, hc⟩
      · exact hc.elim
    · exact hc.elim
  · exact hc.elim
theorem coolR_ok {pl : Option (List Nat × List Nat)} {F : GS → Prop} (h : Rel P N w I T s a) (hc : coolR pl s F) : ∃ I' T' s', Rel P N w I' T' s' a ∧ Ext w I T w I' T' ∧ F s' := by
  unfold coolR at hc
  split at hc
  · exact cool_ok h hc
  · exact ⟨I, T, s, h, .refl _ _ _, hc⟩

theorem coolR_mono {pl : Option (List Nat × List Nat)} {F F' : GS → Prop} (hF : ∀ s, F s → F' s) (hc : coolR pl s F) : coolR pl s F' := by
  unfold coolR at *
  split
  · rename_i k _ _
    simp only at hc
    unfold coolF at *
    split
    · rename_i cs h1
      simp only [h1] at hc
      split
      · rename_i es kk ver n h3
        simp only [h3] at hc
        simp only [Out.wpF_eq, forceL_eq] at hc ⊢
        exact Out.wp0_mono' (fun x hp h => hF _ h) hc
      · rename_i hno
        split at hc
        · rename_i es kk ver n h3; exact absurd h3 (hno _ _ _ _)
        · exact hc
    · rename_i hno
      split at hc
      · rename_i cs h1; exact absurd h1 (hno _)
      · exact hc
  · rename_i hno
    split at hc
    · rename_i k l b; exact absurd rfl (hno _ _ _)
    · exact hF _ hc

/-- The machine's end by the ghost's. -/
def QE (P : Program) (N : Nat) (w0 : World) (I0 : Nat → Nat → Prop) (T0 : Tab) (Q : GQ) (e : Exit) (a : Act) (w : World) : Prop :=
  QR P N w0 I0 T0 (Q e) a w

theorem iwp_ok {w0 : World} {I0 : Nat → Nat → Prop} {T0 : Tab} {pl : Nat → Option (List Nat × List Nat)} (hm : P.follows .mixedOrders = true) (hlow : Low m T0) :
    ∀ (c : Code) (w : World) (I : Nat → Nat → Prop) (T : Tab) (s : GS) (a : Act) (Q : GQ) (QQ : Exit → Act → World → Prop), (∀ e a w, QE P N w0 I0 T0 Q e a w → QQ e a w) →
      Rel P N w I T s a → Ext w0 I0 T0 w I T → iwp P N m pl c s Q → c.wp P QQ a w := by
  intro c
  induction c with
  | skip => intro w I T s a Q QQ hQ h hx hi; exact wp_skip (hQ _ _ _ ⟨I, T, s, h, hx, hi⟩)
  | region id ops draw =>
    intro w I T s a Q QQ hQ h hx hi
    rw [iwp_region] at hi
    obtain ⟨I1, T1, s1, h, hx1, hi⟩ := coolR_ok h hi
    have hx := hx.trans hx1
    clear hx1
    cases draw with
    | false =>
      simp only [iwp_skip, iwp_region, iwp_seqE, iwp_cond, iwp_block, iwp_loop, iwp_range, iwp_exit, iwp_scope, iwp_label, iwp_goto, iwp_ret, iwp_refuse, cond_false] at hi
      rw [regF_eq] at hi
      refine wp_region ?_
      have := goOps_ok (Q := QQ) (K := Q .normal) (fun a w h => hQ .normal a w h) ops.toList 0 w I1 T1 s1 a (fun j => by simp) h hx hi
      simpa using this
    | true =>
      simp only [iwp_skip, iwp_region, iwp_seqE, iwp_cond, iwp_block, iwp_loop, iwp_range, iwp_exit, iwp_scope, iwp_label, iwp_goto, iwp_ret, iwp_refuse, cond_true] at hi
      have hd := hi
      rw [drF_eq] at hd
      exact goDraw_ok hm (fun a w h => hQ .normal a w h) h hx hd
  | seq x y ihx ihy =>
    intro w I T s a Q QQ hQ h hx hi
    simp only [iwp_skip, iwp_region, iwp_seqE, iwp_cond, iwp_block, iwp_loop, iwp_range, iwp_exit, iwp_scope, iwp_label, iwp_goto, iwp_ret, iwp_refuse] at hi
    split at hi
    · refine wp_seq (ihx w I T s a _ _ ?_ h hx hi)
      rintro e a' w' ⟨I', T', s', h1, h2, h3⟩
      cases e with
      | normal => exact ihy w' I' T' s' a' Q QQ hQ h1 h2 h3
      | exit id => exact hQ _ _ _ ⟨I', T', s', h1, h2, h3⟩
      | goto l => exact hQ _ _ _ ⟨I', T', s', h1, h2, h3⟩
      | ret => exact hQ _ _ _ ⟨I', T', s', h1, h2, h3⟩
      | panic ch => exact hQ _ _ _ ⟨I', T', s', h1, h2, h3⟩
      | outgrown => exact hQ _ _ _ ⟨I', T', s', h1, h2, h3⟩
    · rename_i L B _
      obtain ⟨M, hi, hM⟩ := hi.ex
      refine wp_seq (ihx w I T s a (joinQ m L B M Q) _ ?_ h hx hi)
      rintro e a' w' ⟨I', T', s', h1, h2, h3⟩
      cases e with
      | normal =>
        simp only [joinQ] at h3
        rw [keepW_eq] at h3
        simp only at h3
        cases hB : allBelow m B with
        | false => rw [hB] at h3; exact h3.elim
        | true =>
          rw [hB] at h3
          obtain ⟨T'', h4, h5⟩ := h1.keep hlow h2 L B hB
          exact ihy w' I' T'' _ a' Q QQ hQ h4 h5 (hM _ h3.m)
      | exit id => exact hQ _ _ _ ⟨I', T', s', h1, h2, h3⟩
      | goto l => exact hQ _ _ _ ⟨I', T', s', h1, h2, h3⟩
      | ret => exact hQ _ _ _ ⟨I', T', s', h1, h2, h3⟩
      | panic ch => exact hQ _ _ _ ⟨I', T', s', h1, h2, h3⟩
      | outgrown => exact hQ _ _ _ ⟨I', T', s', h1, h2, h3⟩
  | cond c x y ihx ihy =>
    intro w I T s a Q QQ hQ h hx hi
    simp only [iwp_skip, iwp_region, iwp_seqE, iwp_cond, iwp_block, iwp_loop, iwp_range, iwp_exit, iwp_scope, iwp_label, iwp_goto, iwp_ret, iwp_refuse] at hi
    split at hi
    · rename_i t ht
      have hv := gev_ok h.env c
      rw [ht] at hv
      exact wp_cond_split hv.v_inv (fun e => ihx w I T s a Q QQ hQ h hx (hi.t e)) fun e => ihy w I T s a Q QQ hQ h hx (hi.f e)
    · exact hi.elim
  | block id c ih =>
    intro w I T s a Q QQ hQ h hx hi
    simp only [iwp_skip, iwp_region, iwp_seqE, iwp_cond, iwp_block, iwp_loop, iwp_range, iwp_exit, iwp_scope, iwp_label, iwp_goto, iwp_ret, iwp_refuse] at hi
    refine wp_block (ih w I T s a _ _ ?_ h hx hi)
    rintro e a' w' ⟨I', T', s', h1, h2, h3⟩
    cases e with
    | exit i =>
      simp only [Exit.inBlock]
      simp only at h3
      cases hb : Nat.beq i id with
      | true =>
        rw [hb] at h3
        rw [if_pos (Nat.eq_of_beq_eq_true hb)]
        exact hQ _ _ _ ⟨I', T', s', h1, h2, h3⟩
      | false =>
        rw [hb] at h3
        rw [if_neg (fun e => by subst e; simp at hb)]
        exact hQ _ _ _ ⟨I', T', s', h1, h2, h3⟩
    | normal => exact hQ _ _ _ ⟨I', T', s', h1, h2, h3⟩
    | goto l => exact hQ _ _ _ ⟨I', T', s', h1, h2, h3⟩
    | ret => exact hQ _ _ _ ⟨I', T', s', h1, h2, h3⟩
    | panic ch => exact hQ _ _ _ ⟨I', T', s', h1, h2, h3⟩
    | outgrown => exact hQ _ _ _ ⟨I', T', s', h1, h2, h3⟩
  | loop c ih =>
    intro w I T s a Q QQ hQ h hx hi
    simp only [iwp_skip, iwp_region, iwp_seqE, iwp_cond, iwp_block, iwp_loop, iwp_range, iwp_exit, iwp_scope, iwp_label, iwp_goto, iwp_ret, iwp_refuse] at hi
    unfold ILoop at hi
    obtain ⟨n, hi⟩ := hi
    refine wp_loop_rounds n ?_
    have key : ∀ (n : Nat) (w : World) (I : Nat → Nat → Prop) (T : Tab) (s : GS) (a : Act), Rel P N w I T s a → Ext w0 I0 T0 w I T → rounds m (iwp P N m pl c) (pl (firstReg c)) Q n s → Code.rounds P c QQ n a w := by
      intro n
      induction n with
      | zero => intro w I T s a h hx hi; exact hi.elim
      | succ n ihn =>
        intro w I T s a h hx hi
        rw [rounds_succ]
        have body : ∀ (T : Tab) (s0 : GS), Rel P N w I T s0 a → Ext w0 I0 T0 w I T → iwp P N m pl c s0 (fun e s' => match e with
            | .normal => rounds m (iwp P N m pl c) (pl (firstReg c)) Q n s'
            | e => Q e s') → c.wp P (Exit.then (Code.rounds P c QQ n) QQ) a w := by
          intro T s0 h hx hi
          refine ih w I T s0 a _ _ ?_ h hx hi
          rintro e a' w' ⟨I', T', s', h1, h2, h3⟩
          cases e with
          | normal => exact ihn w' I' T' s' a' h1 h2 h3
          | exit id => exact hQ _ _ _ ⟨I', T', s', h1, h2, h3⟩
          | goto l => exact hQ _ _ _ ⟨I', T', s', h1, h2, h3⟩
          | ret => exact hQ _ _ _ ⟨I', T', s', h1, h2, h3⟩
          | panic ch => exact hQ _ _ _ ⟨I', T', s', h1, h2, h3⟩
          | outgrown => exact hQ _ _ _ ⟨I', T', s', h1, h2, h3⟩
        rw [rounds_next] at hi
        rw [keepW_eq] at hi
        split at hi
        · exact body T s h hx hi
        · rename_i L B _
          cases hB : allBelow m B with
          | false => rw [hB] at hi; exact hi.elim
          | true =>
            rw [hB] at hi
            obtain ⟨T', h1, h2⟩ := h.keep hlow hx L B hB
            exact body T' _ h1 h2 hi
    exact key n w I T s a h hx hi
  | rangeFunc f p x y _ _ => intro w I T s a Q QQ hQ h hx hi; exact hi.elim
  | exit id => intro w I T s a Q QQ hQ h hx hi; exact wp_exit (hQ _ _ _ ⟨I, T, s, h, hx, hi⟩)
  | scope c ih =>
    intro w I T s a Q QQ hQ h hx hi
    simp only [iwp_skip, iwp_region, iwp_seqE, iwp_cond, iwp_block, iwp_loop, iwp_range, iwp_exit, iwp_scope, iwp_label, iwp_goto, iwp_ret, iwp_refuse] at hi
    refine wp_scope_straight (ih w I T s a _ _ ?_ h hx hi)
    rintro e a' w' ⟨I', T', s', h1, h2, h3⟩
    cases e with
    | goto l => exact h3.elim
    | normal => exact hQ _ _ _ ⟨I', T', s', h1, h2, h3⟩
    | exit i => exact hQ _ _ _ ⟨I', T', s', h1, h2, h3⟩
    | ret => exact hQ _ _ _ ⟨I', T', s', h1, h2, h3⟩
    | panic ch => exact hQ _ _ _ ⟨I', T', s', h1, h2, h3⟩
    | outgrown => exact hQ _ _ _ ⟨I', T', s', h1, h2, h3⟩
  | label l => intro w I T s a Q QQ hQ h hx hi; exact wp_label (hQ _ _ _ ⟨I, T, s, h, hx, hi⟩)
  | goto l => intro w I T s a Q QQ hQ h hx hi; exact hi.elim
  | ret => intro w I T s a Q QQ hQ h hx hi; exact wp_ret (hQ _ _ _ ⟨I, T, s, h, hx, hi⟩)
  | refuse why => intro w I T s a Q QQ hQ h hx hi; exact hi.elim


/-! ### A contract out of a body -/
def envA (l : List GV) (t : Nat) : GV := match l[t]? with
  | some x => x
  | none => .dead

def resOne (P : Program) (s : GS) : ResultVar → Option GV
  | .tmp t => some (s.env t)
  | .cell a t => match loadO P [] s.hp t (s.env a) with
    | .val x => some x
    | _ => none

def resList (P : Program) (s : GS) : List ResultVar → Option (List GV)
  | [] => some []
  | r :: rs => match resOne P s r, resList P s rs with
    | some x, some xs => some (x :: xs)
    | _, _ => none

def resG (P : Program) (s : GS) (rs : List ResultVar) : Option GV := match resList P s rs with
  | some [x] => some x
  | some xs => some (.tup xs)
  | none => none

/-- The blocks of the arguments keep their numbers; those that are handed back come behind. -/
def keepM (m : Nat) (X : List Nat) : Nat → Option Nat := fun k => bif Nat.blt k m then some k else (match idxOf X k with
  | some i => some (m + i)
  | none => none)

/-- Which blocks a function hands back. -/
def expo (pl : Nat → Option (List Nat × List Nat)) : List Nat := match pl 4000000 with
  | some (X, _) => X
  | none => []

def expoOk (m : Nat) : List Nat → Bool
  | [] => true
  | k :: r => Nat.ble m k && (!(r.elem k) && expoOk m r)

def retV (m : Nat) (X : List Nat) (s : GS) (v : GV) (R : GV → List GB → Prop) : Prop :=
  force (v.ren (keepM m X)) fun v => forceLL ((List.range m ++ X).map fun k => (hpB s.hp k).ren (keepM m X)) fun hs => R v hs

def retQ (P : Program) (rs : List ResultVar) (m : Nat) (X : List Nat) (R : GV → List GB → Prop) : GQ := fun e s => match e with
  | .normal => (match resG P s rs with
    | some v => retV m X s v R
    | none => False)
  | .ret => (match resG P s rs with
    | some v => retV m X s v R
    | none => False)
  | _ => False

/-- What a function begins with: its arguments; and what is told of its own slices. -/
def envP (N : Nat) (pl : Nat → Option (List Nat × List Nat)) (args : List GV) : Nat → GV := fun t => bif Nat.ble 5000000 t then (bif Nat.ble N t then (match pl t with
  | some _ => .tup []
  | none => .dead) else .dead) else envA args t

theorem resOne_ok {r : ResultVar} {x : GV} (h : Rel P N w I T s a) (hr : resOne P s r = some x) :
    ∃ v, (match r with
      | .tmp t => pure (a.tmps.getD t undef)
      | .cell ad t => do loadVar t (← asAddr (a.tmps.getD ad undef)) : Sem Value).run P w = .ok v w ∧ VR w I T x v := by
  cases r with
  | tmp t => cases hr; exact ⟨_, rfl, h.env t⟩
  | cell ad t =>
    simp only [resOne] at hr
    split at hr
    · rename_i y hy
      cases hr
      have hl : (loadO P [] s.hp t (s.env ad)).eff x none := by rw [hy]; exact ⟨rfl, rfl⟩
      obtain ⟨_, v, h1, h2⟩ := loadO_ok h.heap (h.env ad) hl
      refine ⟨v, ?_, h2⟩
      unfold Instr.loadAt at h1
      simp only [Sem.run_bind] at h1 ⊢
      have hp : ∃ a0, a.tmps.getD ad undef = .pointer (some a0) := by
        generalize hq : a.tmps.getD ad undef = q at h1
        cases q with
        | pointer p =>
          cases p with
          | some a0 => exact ⟨a0, rfl⟩
          | none => simp [Instr.sureAddr, Result.andThen] at h1
        | _ => simp [Instr.sureAddr, Result.andThen] at h1
      obtain ⟨a0, ha0⟩ := hp
      rw [ha0] at h1 ⊢
      simpa [Instr.sureAddr, asAddr] using h1
    · cases hr

theorem resList_ok (h : Rel P N w I T s a) : ∀ {rs : List ResultVar} {xs : List GV}, resList P s rs = some xs →
    ∃ vs : List Value, (rs.mapM (m := Sem) fun
      | .tmp t => pure (a.tmps.getD t undef)
      | .cell ad t => do loadVar t (← asAddr (a.tmps.getD ad undef))).run P w = .ok vs w ∧ vs.length = xs.length ∧ ∀ (i : Nat) (c : GV) (r : Value), xs[i]? = some c → vs[i]? = some r → VR w I T c r
  | [], xs, hr => by cases hr; exact ⟨[], by simp, rfl, fun i c r hc => by simp at hc⟩
  | r :: rs, xs, hr => by
    simp only [resList] at hr
    split at hr
    · rename_i y ys hy hys
      cases hr
      obtain ⟨v, h1, h2⟩ := resOne_ok h hy
      obtain ⟨vs, h3, h4, h5⟩ := resList_ok h hys
      refine ⟨v :: vs, ?_, by simp [h4], fun i c r hc hr => ?_⟩
      · rw [List.mapM_cons, Sem.run_bind, h1, Result.andThen_ok, Sem.run_bind, h3]
        rfl
      · cases i with
        | zero => simp at hc hr; subst hc; subst hr; exact h2
        | succ i => exact h5 i c r (by simpa using hc) (by simpa using hr)
    · cases hr

theorem resG_ok {fn : Func} {v : GV} (h : Rel P N w I T s a) (hr : resG P s fn.results.toList = some v) : ∃ r, (results fn a.tmps).run P w = .ok r w ∧ VR w I T v r := by
  unfold resG at hr
  have go : ∀ xs, resList P s fn.results.toList = some xs → ∃ vs : List Value, vs.length = xs.length ∧ (∀ (i : Nat) (c : GV) (r : Value), xs[i]? = some c → vs[i]? = some r → VR w I T c r) ∧
      (results fn a.tmps).run P w = .ok (if h : vs.toArray.size = 1 then vs.toArray[0] else .tuple vs.toArray) w := by
    intro xs hxs
    obtain ⟨vs, h1, h2, h3⟩ := resList_ok h hxs
    refine ⟨vs, h2, h3, ?_⟩
    unfold results
    rw [Sem.run_bind, Array.mapM_eq_mapM_toList, Sem.run_map]
    exact congrArg (fun (q : Result (List Value)) => (q.andThen fun a w' => Result.ok a.toArray w').andThen fun a w' => Sem.run P (pure (if h : a.size = 1 then a[0] else Value.tuple a)) w') h1
  split at hr
  · rename_i x hx
    cases hr
    obtain ⟨vs, h1, h2, h3⟩ := go _ hx
    match vs, h1 with
    | [r], _ => exact ⟨r, by rw [h3]; rfl, h2 0 _ r rfl rfl⟩
  · rename_i xs hne hx
    cases hr
    obtain ⟨vs, h1, h2, h3⟩ := go _ hx
    refine ⟨.tuple vs.toArray, ?_, .tup (by simp [h1]) fun i c r hc hr => h2 i c r hc (by simpa using hr)⟩
    rw [h3, dif_neg]
    intro h4
    simp at h4
    match xs, hne, h1 with
    | [x], hne, _ => exact hne x rfl
    | [], _, h1 => rw [h1] at h4; simp at h4
    | _ :: _ :: _, _, h1 => rw [h1] at h4; simp at h4
  · cases hr

theorem keepM_ok {m : Nat} {X : List Nat} (hX : expoOk m X = true) : (List.range m ++ X).Nodup ∧ ∀ k j, keepM m X k = some j → (List.range m ++ X)[j]? = some k := by
  have h1 : ∀ {X : List Nat}, expoOk m X = true → X.Nodup ∧ ∀ k, k ∈ X → m ≤ k := by
    intro X
    induction X with
    | nil => intro _; exact ⟨List.nodup_nil, fun k hk => by cases hk⟩
    | cons x r ih =>
      intro h
      simp only [expoOk, Bool.and_eq_true, Bool.not_eq_true'] at h
      obtain ⟨h2, h3, h4⟩ := h
      obtain ⟨h5, h6⟩ := ih h4
      have hx : x ∉ r := fun hm => by rw [List.elem_eq_true_of_mem hm] at h3; cases h3
      refine ⟨List.nodup_cons.2 ⟨hx, h5⟩, fun k hk => ?_⟩
      rcases List.mem_cons.1 hk with rfl | hk
      · exact Nat.le_of_ble_eq_true h2
      · exact h6 k hk
  obtain ⟨h2, h3⟩ := h1 hX
  refine ⟨?_, fun k j hk => ?_⟩
  · rw [List.nodup_append]
    exact ⟨List.nodup_range, h2, fun a ha b hb e => by subst e; have := h3 _ hb; simp at ha; omega⟩
  · unfold keepM at hk
    cases hb : Nat.blt k m with
    | true =>
      rw [hb] at hk; cases hk
      have : k < m := Nat.le_of_ble_eq_true hb
      rw [List.getElem?_append_left (by simpa using this)]
      simp [this]
    | false =>
      rw [hb] at hk
      simp only [cond_false] at hk
      split at hk
      · rename_i i hi
        cases hk
        rw [List.getElem?_append_right (by simp)]
        simp [idxOf_some hi]
      · cases hk

theorem ICalls.of_body {f : FuncId} {fn : Func} {c : Code} {args : List GV} {hs : List GB} {R : GV → List GB → Prop} (hf : P.funcs[f]? = some fn) (hb : fn.body = some c) (hcall : ∀ (vals : Array Value) (w : World), (callFunc f vals).run P w = .ok (.enter f vals) w)
    (hm : P.follows .mixedOrders = true) (hlen : args.length ≤ fn.ntmps) (pl : Nat → Option (List Nat × List Nat)) (hX : expoOk hs.length (expo pl) = true) (h : iwp P fn.ntmps hs.length pl c ⟨envP fn.ntmps pl args, hpL hs⟩ (retQ P fn.results.toList hs.length (expo pl) R)) : ICalls P f args hs R := by
  unfold ICalls
  refine ⟨hcall, fun w I T vals hr hl hv => ?_⟩
  generalize hXe : expo pl = X at *
  obtain ⟨hnd, hkM⟩ := keepM_ok hX
  have hlow : Low hs.length T := by
    intro k x hk
    apply Classical.byContradiction
    intro hge
    have : hpL hs k = none := by simp [hpL, List.getElem?_eq_none (Nat.le_of_not_lt hge)]
    rw [hr.non k this] at hk; cases hk
  have hrel : Rel P fn.ntmps w I T ⟨envP fn.ntmps pl args, hpL hs⟩ { tmps := vals ++ Array.replicate (fn.ntmps - vals.size) undef, defers := [] } := by
    refine ⟨by simp; omega, rfl, fun t => ?_, hr⟩
    show VR w I T (envP fn.ntmps pl args t) _
    unfold envP
    cases Nat.ble 5000000 t with
    | true =>
      simp only [cond_true]
      cases hb2 : Nat.ble fn.ntmps t with
      | false => exact .dead _
      | true =>
        simp only [cond_true]
        split
        · have hle := Nat.le_of_ble_eq_true hb2
          have : (vals ++ Array.replicate (fn.ntmps - vals.size) undef).getD t undef = undef := by
            rw [Array.getD_eq_getD_getElem?, Array.getElem?_eq_none (by simp; omega)]; rfl
          rw [this]; exact VR.skip
        · exact .dead _
    | false =>
      simp only [cond_false]
      unfold envA
      split
      · rename_i x hx
        have hlt : t < vals.size := by rw [hl]; exact (List.getElem?_eq_some_iff.1 hx).1
        have e : (vals ++ Array.replicate (fn.ntmps - vals.size) undef).getD t undef = vals[t] := by
          rw [Array.getD_eq_getD_getElem?, Array.getElem?_append_left hlt]; simp [hlt]
        rw [e]
        exact hv t x _ hx (by simp [hlt])
      · exact .dead _
  refine calls_of_wp hf hb (iwp_ok (m := hs.length) hm hlow c w I T _ _ _ _ ?_ hrel (.refl _ _ _) h)
  have fin : ∀ (w' : World) (I' : Nat → Nat → Prop) (T' : Tab) (s' : GS) (a' : Act), Rel P fn.ntmps w' I' T' s' a' → Ext w I T w' I' T' →
      (match resG P s' fn.results.toList with
        | some v => R (v.ren (keepM hs.length X)) ((List.range hs.length ++ X).map fun k => (hpB s'.hp k).ren (keepM hs.length X))
        | none => False) →
      a'.defers = [] ∧ ∃ v, (results fn a'.tmps).run P w' = .ok v w' ∧ (∃ v0 hs' r I'' T'', R v0 hs' ∧ Ending.returned v = .returned r ∧ Ext w I T w' I'' T'' ∧ VR w' I'' T'' v0 r ∧ HR P w' I'' T'' (hpL hs')) := by
    intro w' I' T' s' a' h1 h2 h3
    split at h3
    · rename_i v hv
      obtain ⟨r, h4, h5⟩ := resG_ok h1 hv
      refine ⟨h1.nodef, r, h4, ?_⟩
      let T'' : Tab := fun j => ((List.range hs.length ++ X)[j]?).bind T'
      have hsub : ∀ j x, T'' j = some x → ∃ k, (List.range hs.length ++ X)[j]? = some k ∧ T' k = some x := by
        intro j x hk
        obtain ⟨k, h6, h7⟩ := Option.bind_eq_some_iff.1 hk
        exact ⟨k, h6, h7⟩
      have hkeep : ∀ k k' y, keepM hs.length X k = some k' → T' k = some y → T'' k' = some y := by
        intro k k' y e1 e2
        show ((List.range hs.length ++ X)[k']?).bind T' = some y
        rw [hkM k k' e1]; exact e2
      have hlo : ∀ k x, T k = some x → T'' k = T' k := by
        intro k x hk
        have := hlow k x hk
        show ((List.range hs.length ++ X)[k]?).bind T' = T' k
        rw [List.getElem?_append_left (by simpa using this)]
        simp [this]
      refine ⟨_, _, r, I', T'', h3, rfl, ?_, h5.ren _ hkeep, ?_⟩
      · refine ⟨h2.os, h2.tape, h2.output, h2.size, h2.ile, ⟨fun k n hk => ?_, fun k u e s n hk => ?_, fun k u s v hk => ?_⟩, h2.inew, fun j x b hk hb => ?_, h2.frame, h2.drawn⟩
        · rw [hlo k _ hk]; exact h2.tle.1 k n hk
        · rw [hlo k _ hk]; exact h2.tle.2.1 k u e s n hk
        · rw [hlo k _ hk]; exact h2.tle.2.2 k u s v hk
        · obtain ⟨k, _, h7⟩ := hsub j x hk
          exact h2.tb k x b h7 hb
      · have hget : ∀ j b, hpL ((List.range hs.length ++ X).map fun k => (hpB s'.hp k).ren (keepM hs.length X)) j = some b → ∃ k b0, (List.range hs.length ++ X)[j]? = some k ∧ s'.hp k = some b0 ∧ b = b0.ren (keepM hs.length X) := by
          intro j b hj
          simp only [hpL, List.getElem?_map] at hj
          obtain ⟨b1, h6, h7⟩ := Option.bind_eq_some_iff.1 hj
          obtain ⟨k, h8, rfl⟩ := Option.map_eq_some_iff.1 h6
          rw [GB.un_ren] at h7
          obtain ⟨b2, h9, rfl⟩ := Option.map_eq_some_iff.1 h7
          refine ⟨k, b2, h8, ?_, rfl⟩
          unfold hpB at h9
          cases hh : s'.hp k with
          | none => rw [hh] at h9; cases h9
          | some g => rw [hh] at h9; cases g <;> first | (cases h9; rfl) | cases h9
        have hT : ∀ j k, (List.range hs.length ++ X)[j]? = some k → T'' j = T' k := fun j k h => by show ((List.range hs.length ++ X)[j]?).bind T' = T' k; rw [h]; rfl
        refine ⟨fun j hj => ?_, fun j cs hj => ?_, fun j e n hj => ?_, fun j e es xs v hj => ?_, fun j hj => ?_, h1.heap.lt, fun j n o hj => ?_, fun j u e es n b o hj => ?_, fun j u s v b o hj => ?_, fun j j' x x' b e1 e2 hb hb' => ?_⟩
        · cases hkj : (List.range hs.length ++ X)[j]? with
          | none => show ((List.range hs.length ++ X)[j]?).bind T' = none; rw [hkj]; rfl
          | some k =>
            rw [hT j k hkj]
            simp only [hpL, List.getElem?_map, hkj, Option.map_some, Option.bind_some, GB.un_ren, Option.map_eq_none_iff] at hj
            unfold hpB at hj
            cases hh : s'.hp k with
            | none => exact h1.heap.non k hh
            | some g => rw [hh] at hj; cases g <;> first | exact h1.heap.gone k hh | cases hj
        · obtain ⟨k, b0, h6, h7, h8⟩ := hget j _ hj
          cases b0 <;> simp only [GB.ren] at h8 <;> try cases h8
          obtain ⟨n, row, ty, e1, e2, e3, e4, e5⟩ := h1.heap.cells k _ h7
          refine ⟨n, row, ty, by rw [hT j k h6]; exact e1, e2, by rw [renL_eq]; simpa using e3, e4, fun i c r hcc hrr => ?_⟩
          rw [renL_eq, List.getElem?_map, Option.map_eq_some_iff] at hcc
          obtain ⟨c0, h9, rfl⟩ := hcc
          exact (e5 i c0 r h9 hrr).ren _ hkeep
        · obtain ⟨k, b0, h6, h7, h8⟩ := hget j _ hj
          cases b0 <;> simp only [GB.ren] at h8 <;> try cases h8
          obtain ⟨u, es, xs, i, e1, e2⟩ := h1.heap.vec k _ _ h7
          exact ⟨u, es, xs, i, by rw [hT j k h6]; exact e1, e2⟩
        · obtain ⟨k, b0, h6, h7, h8⟩ := hget j _ hj
          cases b0 <;> simp only [GB.ren] at h8 <;> try cases h8
          obtain ⟨u, ys, i, e1, e2⟩ := h1.heap.mvec k _ _ _ _ h7
          exact ⟨u, ys, i, by rw [hT j k h6]; exact e1, e2⟩
        · simp only [hpL, List.getElem?_map] at hj
          obtain ⟨b1, _, h7⟩ := Option.bind_eq_some_iff.1 hj
          cases b1 <;> cases h7
        · obtain ⟨k, _, h7⟩ := hsub _ _ hj; exact h1.heap.nblk k n o h7
        · obtain ⟨k, _, h7⟩ := hsub _ _ hj; exact h1.heap.nvec k u e es n b o h7
        · obtain ⟨k, _, h7⟩ := hsub _ _ hj; exact h1.heap.nmv k u s v b o h7
        · obtain ⟨k, h6, h7⟩ := hsub _ _ e1
          obtain ⟨k', h8, h9⟩ := hsub _ _ e2
          have := h1.heap.dist k k' x x' b h7 h9 hb hb'
          subst this
          have e3 := idxOf_of hnd h6
          rw [idxOf_of hnd h8] at e3
          exact (Option.some.inj e3).symm
    · exact h3.elim
  rintro e a' w' ⟨I', T', s', h1, h2, h3⟩
  cases e with
  | normal => exact fin w' I' T' s' a' h1 h2 (by simpa only [retQ, retV, force_eq, forceLL_eq] using h3)
  | ret => exact fin w' I' T' s' a' h1 h2 (by simpa only [retQ, retV, force_eq, forceLL_eq] using h3)
  | exit i => exact h3.elim
  | goto l => exact h3.elim
  | panic ch => exact h3.elim
  | outgrown => exact h3.elim

end
end Go.Gh
