/- Ghost values and walks, bundle Gh1; proved for whatever the arguments' types allow, as each theorem says. -/
import Derived.Test.YtoofplbjpkgdgaaGh0

/- Ghost operations: what an operation does to ghost values; and that the machine's operation does the same. -/
set_option linter.unusedVariables false
set_option linter.unusedSimpArgs false
namespace Go.Gh

inductive GB where
  | cells (cs : List GV)
  | vec (e : TypeId) (n : Nat)
  | mvec (e : TypeId) (es : Nat) (xs : List GV) (ver : Nat)
  | gone
  deriving Inhabited

instance : Coe (List GV) GB := ⟨.cells⟩

structure GS where
  env : Nat → GV
  hp : Nat → Option GB

def setE (env : Nat → GV) (t : Nat) (x : GV) : Nat → GV := fun u => bif Nat.beq u t then x else env u
def setH (hp : Nat → Option GB) (k : Nat) (b : GB) : Nat → Option GB := fun u => bif Nat.beq u k then some b else hp u
def setT (T : Tab) (k : Nat) (b : TB) : Tab := fun u => bif Nat.beq u k then some b else T u

theorem setE_eq (env : Nat → GV) (t u : Nat) (x : GV) : setE env t x u = if u = t then x else env u := by
  unfold setE; by_cases h : u = t
  · simp [h]
  · have : Nat.beq u t = false := by cases hb : Nat.beq u t with
      | true => exact absurd (Nat.eq_of_beq_eq_true hb) h
      | false => rfl
    simp [h, this]
theorem setH_eq (hp : Nat → Option GB) (t u : Nat) (x : GB) : setH hp t x u = if u = t then some x else hp u := by
  unfold setH; by_cases h : u = t
  · simp [h]
  · have : Nat.beq u t = false := by cases hb : Nat.beq u t with
      | true => exact absurd (Nat.eq_of_beq_eq_true hb) h
      | false => rfl
    simp [h, this]
theorem setT_eq (hp : Tab) (t u : Nat) (x : TB) : setT hp t x u = if u = t then some x else hp u := by
  unfold setT; by_cases h : u = t
  · simp [h]
  · have : Nat.beq u t = false := by cases hb : Nat.beq u t with
      | true => exact absurd (Nat.eq_of_beq_eq_true hb) h
      | false => rfl
    simp [h, this]

/-! ### What is looked up in the program's tables -/
def tSize (P : Program) (t : TypeId) : Option Nat := match P.info? t with
  | some i => some i.size
  | none => none
def tZero (P : Program) (t : TypeId) : Option Value := match P.info? t with
  | some i => i.zero
  | none => none
def tBytes (P : Program) (t : TypeId) : Nat := match P.info? t with
  | some i => i.bytes
  | none => 0
def tAgg (P : Program) (t : TypeId) : Option Bool := match P.underlying t with
  | some (.struct _) => some true
  | some (.array _ _) => some true
  | some _ => some false
  | none => none

def cgv (x : Value) : GV := match x with
  | .agg cs => bif cs.toList.all Value.oneCell' then .agg (cs.toList.map .v) else .dead
  | .tuple _ => .dead
  | x => .v x

def gev (env : Nat → GV) : Operand → GV
  | .tmp t => env t
  | .const x => cgv x
  | .global _ => .dead
  | .func f => .fn (.func f) [] []

inductive Out where
  | bad
  | val (x : GV)
  | upd (x : GV) (k : Nat) (b : GB)
  | need (c : Prop) (o : Out)
  | elem (xs : List GV) (i : Int) (f : GV → Out)
  | call (f : FuncId) (args : List GV)

/-- What an operation may come to: a value, and one block that is new or changed. -/
def Out.eff : Out → GV → Option (Nat × GB) → Prop
  | .bad, _, _ => False
  | .val x, y, u => y = x ∧ u = none
  | .upd x k b, y, u => y = x ∧ u = some (k, b)
  | .need c o, y, u => c ∧ o.eff y u
  | .elem xs i f, y, u => ∃ x, 0 ≤ i ∧ xs[i.toNat]? = some x ∧ (f x).eff y u
  | .call _ _, _, _ => False

def updH (hp : Nat → Option GB) : Option (Nat × GB) → Nat → Option GB
  | none => hp
  | some (k, b) => setH hp k b

/-! ### The relation of a frame -/
structure HR (P : Program) (w : World) (I : Nat → Nat → Prop) (T : Tab) (hp : Nat → Option GB) : Prop where
  non : ∀ k, hp k = .none → T k = .none
  cells : ∀ k cs, hp k = some (.cells cs) → ∃ n row ty, T k = some (.blk n) ∧ w.heap[n]? = some (.cells row ty (0, 0)) ∧ row.size = cs.length ∧
    (∀ (j : Nat) (r : Value), row[j]? = some r → r.oneCell' = true) ∧ (∀ (j : Nat) (c : GV) (r : Value), cs[j]? = some c → row[j]? = some r → VR w I T c r)
  vec : ∀ k e n, hp k = some (.vec e n) → ∃ u es xs i, T k = some (.vec u e es n) ∧ P.info? e = some i ∧ i.size = es ∧ w.ownsRow 0 e es u n xs ∧ (∀ x, x ∈ xs → x.oneCell' = true)
  mvec : ∀ k e es xs v, hp k = some (.mvec e es xs v) → ∃ u ys i, T k = some (.mvec u es v) ∧ P.info? e = some i ∧ i.size = es ∧ w.ownsRow 0 e es u xs.length ys ∧ (∀ x, x ∈ ys → x.oneCell' = true) ∧
    (∀ x, x ∈ xs → x.cells.length = es ∧ x.sane = true) ∧
    (∀ (i : Nat) (x : GV) (j : Nat) (c : GV), xs[i]? = some x → x.cells[j]? = some c → ∃ y, ys[i * es + j]? = some y ∧ VR w I (fun _ => none) c y)
  gone : ∀ k, hp k = some .gone → T k = .none
  lt : ∀ b o, I b o → b < w.heap.size
  nblk : ∀ k n o, T k = some (.blk n) → ¬ I n o
  nvec : ∀ k u e es n b o, T k = some (.vec u e es n) → u.ownBlock = some b → I b o → o < n * es
  nmv : ∀ k u s v b o, T k = some (.mvec u s v) → u.ownBlock = some b → ¬ I b o
  dist : ∀ k k' x x' b, T k = some x → T k' = some x' → x.block = some b → x'.block = some b → k = k'

structure Ext (w : World) (I : Nat → Nat → Prop) (T : Tab) (w' : World) (I' : Nat → Nat → Prop) (T' : Tab) : Prop where
  os : w'.os = w.os
  tape : w'.tape = w.tape
  output : w'.output = w.output
  size : w.heap.size ≤ w'.heap.size
  ile : ILe w I w' I'
  tle : TLe T T'
  inew : ∀ b o, I' b o → I b o ∨ w.heap.size ≤ b ∨ ∃ k x, T k = some x ∧ x.block = some b
  tb : ∀ k x b, T' k = some x → x.block = some b → w.heap.size ≤ b ∨ ∃ k' x', T k' = some x' ∧ x'.block = some b
  frame : ∀ b, b < w.heap.size → (∀ k x, T k = some x → x.block ≠ some b) → w'.heap[b]? = w.heap[b]?
  drawn : w.drawn ≤ w'.drawn

theorem Ext.refl (w : World) (I : Nat → Nat → Prop) (T : Tab) : Ext w I T w I T :=
  ⟨rfl, rfl, rfl, Nat.le_refl _, .refl _ _, .refl _, fun _ _ h => .inl h, fun k x b h hb => .inr ⟨k, x, h, hb⟩, fun _ _ _ => rfl, Nat.le_refl _⟩

theorem Ext.trans {w1 w2 w3 : World} {I1 I2 I3 : Nat → Nat → Prop} {T1 T2 T3 : Tab} (h : Ext w1 I1 T1 w2 I2 T2) (k : Ext w2 I2 T2 w3 I3 T3) : Ext w1 I1 T1 w3 I3 T3 := by
  have hsz := h.size
  refine ⟨k.os.trans h.os, k.tape.trans h.tape, k.output.trans h.output, Nat.le_trans h.size k.size, h.ile.trans k.ile, h.tle.trans k.tle, ?_, ?_, ?_, Nat.le_trans h.drawn k.drawn⟩
  · intro b o hi
    rcases k.inew b o hi with h1 | h1 | ⟨q, x, h1, h2⟩
    · exact h.inew b o h1
    · exact .inr (.inl (by omega))
    · rcases h.tb q x b h1 h2 with h3 | h3
      · exact .inr (.inl h3)
      · exact .inr (.inr h3)
  · intro q x b hq hb
    rcases k.tb q x b hq hb with h1 | ⟨q', x', h1, h2⟩
    · exact .inl (by omega)
    · exact h.tb q' x' b h1 h2
  · intro b hb hn
    have : w2.heap[b]? = w1.heap[b]? := h.frame b hb hn
    rw [← this]
    refine k.frame b (by omega) fun q x hq hx => ?_
    rcases h.tb q x b hq hx with h1 | ⟨q', x', h1, h2⟩
    · omega
    · exact hn q' _ h1 h2

/-- One more draw of the tape. -/
theorem Ext.drew (w : World) (I : Nat → Nat → Prop) (T : Tab) (d : Nat) (hd : w.drawn ≤ d) : Ext w I T { w with drawn := d } I T :=
  ⟨rfl, rfl, rfl, Nat.le_refl _, fun _ _ h => ⟨h, rfl⟩, .refl _, fun _ _ h => .inl h, fun k x b h hb => .inr ⟨k, x, h, hb⟩, fun _ _ _ => rfl, hd⟩

theorem VR.drew {w : World} {I : Nat → Nat → Prop} {T : Tab} {g : GV} {r : Value} (h : VR w I T g r) (d : Nat) : VR { w with drawn := d } I T g r :=
  VR.mono (w := w) (w' := { w with drawn := d }) (I := I) (I' := I) (fun _ _ h => ⟨h, rfl⟩) h (TLe.refl _)

theorem VR.ext {w w' : World} {I I' : Nat → Nat → Prop} {T T' : Tab} {g : GV} {r : Value} (h : VR w I T g r) (hx : Ext w I T w' I' T') : VR w' I' T' g r :=
  h.mono hx.ile hx.tle

theorem HR.drew {P : Program} {w : World} {I : Nat → Nat → Prop} {T : Tab} {hp : Nat → Option GB} (h : HR P w I T hp) (d : Nat) : HR P { w with drawn := d } I T hp := by
  refine ⟨h.non, fun k cs hk => ?_, fun k e n hk => ?_, fun k e es xs v hk => ?_, h.gone, h.lt, h.nblk, h.nvec, h.nmv, h.dist⟩
  · obtain ⟨n, row, ty, h1, h2, h3, h4, h5⟩ := h.cells k cs hk
    exact ⟨n, row, ty, h1, h2, h3, h4, fun j c r hc hr => (h5 j c r hc hr).drew d⟩
  · obtain ⟨u, es, xs, i, h1, h2, h3, h4, h5⟩ := h.vec k e n hk
    exact ⟨u, es, xs, i, h1, h2, h3, h4, h5⟩
  · obtain ⟨u, ys, i, h1, h2, h3, h4, h5, h6, h7⟩ := h.mvec k e es xs v hk
    exact ⟨u, ys, i, h1, h2, h3, h4, h5, h6, fun i x j c hx hc => (h7 i x j c hx hc).imp fun y hy => ⟨hy.1, hy.2.drew d⟩⟩

theorem HR.blockLt {P : Program} {w : World} {I : Nat → Nat → Prop} {T : Tab} {hp : Nat → Option GB} (h : HR P w I T hp) {k : Nat} {x : TB} {b : Nat} (hx : T k = some x) (hb : x.block = some b) : b < w.heap.size := by
  cases hh : hp k with
  | none => rw [h.non k hh] at hx; cases hx
  | some g =>
    cases g with
    | cells cs' =>
      obtain ⟨n, row', ty', e1, e2, _⟩ := h.cells k cs' hh
      rw [e1] at hx; cases hx
      simp only [TB.block, Option.some.injEq] at hb; subst hb
      exact (Array.getElem?_eq_some_iff.1 e2).1
    | vec e n =>
      obtain ⟨u, es, xs, i, e1, e2, e3, e4, _⟩ := h.vec k e n hh
      rw [e1] at hx; cases hx
      exact (e4.lt b hb).2
    | mvec e es xs v =>
      obtain ⟨u, ys, i, e1, e2, e3, e4, _⟩ := h.mvec k e es xs v hh
      rw [e1] at hx; cases hx
      exact (e4.lt b hb).2
    | gone => rw [h.gone k hh] at hx; cases hx

/-- A block under another key is kept. -/
theorem HR.mvKeep {P : Program} {w w' : World} {I I' : Nat → Nat → Prop} {T T' : Tab} {hp : Nat → Option GB} (h : HR P w I T hp) (hI : ILe w I w' I') {k : Nat} {e : TypeId} {es : Nat} {xs : List GV} {v : Nat} (hk : hp k = some (.mvec e es xs v)) (hT : ∀ x, T k = some x → T' k = some x)
    (hb : ∀ x b, T k = some x → x.block = some b → w'.heap[b]? = w.heap[b]?) :
    ∃ u ys i, T' k = some (.mvec u es v) ∧ P.info? e = some i ∧ i.size = es ∧ w'.ownsRow 0 e es u xs.length ys ∧ (∀ x, x ∈ ys → x.oneCell' = true) ∧
    (∀ x, x ∈ xs → x.cells.length = es ∧ x.sane = true) ∧
    (∀ (i : Nat) (x : GV) (j : Nat) (c : GV), xs[i]? = some x → x.cells[j]? = some c → ∃ y, ys[i * es + j]? = some y ∧ VR w' I' (fun _ => none) c y) := by
  obtain ⟨u, ys, i, h1, h2, h3, h4, h5, h6, h7⟩ := h.mvec k e es xs v hk
  refine ⟨u, ys, i, hT _ h1, h2, h3, ⟨h4.1, ?_⟩, h5, h6, fun i x j c hx hc => (h7 i x j c hx hc).imp fun y hy => ⟨hy.1, hy.2.mono hI (TLe.refl _)⟩⟩
  rcases h4.2 with hn | ⟨g, cap, cur, rfl, hb', hgg, rest⟩
  · exact .inl hn
  · exact .inr ⟨g, cap, cur, rfl, hb', by rw [hb _ g h1 rfl]; exact hgg, rest⟩

/-- A new block of cells, under a new key. -/
theorem HR.newKey {P : Program} {w : World} {I : Nat → Nat → Prop} {T : Tab} {hp : Nat → Option GB} (h : HR P w I T hp) (k : Nat) (hk : hp k = none)
    (cs : List GV) (row : Array Value) (ty : TypeId) (hl : row.size = cs.length) (h1 : ∀ (j : Nat) (r : Value), row[j]? = some r → r.oneCell' = true)
    (hv : ∀ (j : Nat) (c : GV) (r : Value), cs[j]? = some c → row[j]? = some r → VR w I T c r) :
    Ext w I T (w.alloc (.cells row ty)) I (setT T k (.blk w.heap.size)) ∧ HR P (w.alloc (.cells row ty)) I (setT T k (.blk w.heap.size)) (setH hp k (.cells cs)) := by
  have hTk := h.non k hk
  have hne : ∀ k' x, T k' = some x → k' ≠ k := fun k' x hx e => by subst e; rw [hTk] at hx; cases hx
  have hlt : ∀ k' x b, T k' = some x → x.block = some b → b < w.heap.size := fun k' x b hx hb => h.blockLt hx hb
  have hext : Ext w I T (w.alloc (.cells row ty)) I (setT T k (.blk w.heap.size)) := by
    refine ⟨rfl, rfl, rfl, by simp, fun b o hi => ⟨hi, World.cell?_alloc_old _ _ _ (by have := h.lt b o hi; simp; omega)⟩, ⟨fun k' n hn => ?_, fun k' u e s n hn => ?_, fun k' u s v hn => ?_⟩, fun _ _ h => .inl h, fun k' x b hn hb => ?_, fun b hb _ => heap_alloc_old w _ hb, Nat.le_refl _⟩
    · rw [setT_eq, if_neg (hne _ _ hn)]; exact hn
    · exact ⟨u, e, s, n, by rw [setT_eq, if_neg (hne _ _ hn)]; exact hn, Nat.le_refl _, fun _ => rfl⟩
    · exact ⟨u, v, by rw [setT_eq, if_neg (hne _ _ hn)]; exact hn, Nat.le_refl _, fun _ => rfl⟩
    · rw [setT_eq] at hn
      split at hn
      · cases hn; simp only [TB.block, Option.some.injEq] at hb; subst hb; exact .inl (Nat.le_refl _)
      · exact .inr ⟨k', x, hn, hb⟩
  refine ⟨hext, ?_, ?_, ?_, ?_, ?_, ?_, ?_, ?_, ?_, ?_⟩
  · intro k' hk'
    rw [setH_eq] at hk'
    split at hk'
    · cases hk'
    · rw [setT_eq, if_neg ‹_›]; exact h.non k' hk'
  · intro k' cs' hk'
    rw [setH_eq] at hk'
    split at hk'
    · rename_i e; subst e
      cases hk'
      exact ⟨w.heap.size, row, ty, by rw [setT_eq, if_pos rfl], heap_alloc_new w _, hl, h1, fun j c r hc hr => (hv j c r hc hr).ext hext⟩
    · obtain ⟨n, row', ty', e1, e2, e3, e4, e5⟩ := h.cells k' cs' hk'
      refine ⟨n, row', ty', hext.tle.1 _ _ e1, ?_, e3, e4, fun j c r hc hr => (e5 j c r hc hr).ext hext⟩
      rw [heap_alloc_old w _ (Array.getElem?_eq_some_iff.1 e2).1]; exact e2
  · intro k' e n hk'
    rw [setH_eq] at hk'
    split at hk'
    · cases hk'
    · obtain ⟨u, es, xs, i, e1, e2, e3, e4, e5⟩ := h.vec k' e n hk'
      exact ⟨u, es, xs, i, by rw [setT_eq, if_neg (hne _ _ e1)]; exact e1, e2, e3, e4.alloc _, e5⟩
  · intro k' e es xs v hk'
    rw [setH_eq] at hk'
    split at hk'
    · cases hk'
    · exact h.mvKeep hext.ile hk' (fun x hx => by rw [setT_eq, if_neg (hne _ _ hx)]; exact hx) fun x b hx hb => heap_alloc_old w _ (h.blockLt hx hb)
  · intro k' hk'
    rw [setH_eq] at hk'
    split at hk'
    · cases hk'
    · rw [setT_eq, if_neg ‹_›]; exact h.gone k' hk'
  · intro b o hi; have := h.lt b o hi; simp; omega
  · intro k' n o hn hi
    rw [setT_eq] at hn
    split at hn
    · cases hn; have := h.lt _ _ hi; omega
    · exact h.nblk k' n o hn hi
  · intro k' u e es n b o hn hb hi
    rw [setT_eq] at hn
    split at hn
    · cases hn
    · exact h.nvec k' u e es n b o hn hb hi
  · intro k' u s v b o hn hb hi
    rw [setT_eq] at hn
    split at hn
    · cases hn
    · exact h.nmv k' u s v b o hn hb hi
  · intro k1 k2 x1 x2 b h1' h2' hb1 hb2
    rw [setT_eq] at h1' h2'
    split at h1' <;> split at h2'
    · omega
    · cases h1'; simp only [TB.block, Option.some.injEq] at hb1; subst hb1
      have := hlt _ _ _ h2' hb2; omega
    · cases h2'; simp only [TB.block, Option.some.injEq] at hb2; subst hb2
      have := hlt _ _ _ h1' hb1; omega
    · exact h.dist k1 k2 x1 x2 b h1' h2' hb1 hb2

end Go.Gh
