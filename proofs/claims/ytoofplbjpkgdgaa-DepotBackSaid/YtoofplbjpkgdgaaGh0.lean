/- Ghost values and walks, bundle Gh0; proved for whatever the arguments' types allow, as each theorem says. -/
import Derived.Orders
import Derived.Still
import Derived.Laws.OwnMore
import Derived.Laws.MakeOwn
import Derived.Laws.StructEq
import Derived.WalkKit
import Derived.KernelRfl

/- Ghost values: what a Go value is in plain terms, beside the machine's value, and how the two hang together in a world. -/
set_option linter.unusedVariables false
set_option linter.unusedSimpArgs false
namespace Go.Gh

/-- A value without memory. 'list': a slice, by its elements ('es' cells each; 'own': under this key more may be appended). 'ptr': into a block of the frame's own. 'ref': to an element that nobody changes. 'ms': a slice of the frame's own whose elements are written: the block's key, how often it was laid anew, how many elements; 'mptr': to cell j of its element i. 'emp': a slice that is empty and not nil. 'mview': of a slice 'ms' n elements from number i on. 'z0': a slice without elements and without room. -/
inductive GV where
  | dead
  | v (x : Value)
  | agg (cs : List GV)
  | tup (vs : List GV)
  | list (es : Nat) (xs : List GV) (own : Option Nat)
  | ptr (k : Nat) (off : Nat)
  | ref (cs : List GV) (off : Nat)
  | fn (f : Fn) (first cap : List GV)
  | iface (t : TypeId) (x : GV)
  | ms (es k ver n : Nat)
  | mptr (k ver : Nat) (i : Int) (j : Nat)
  | emp
  | mview (es k ver : Nat) (i n : Int)
  | z0
  deriving Inhabited

def GV.cells : GV → List GV
  | .agg cs => cs
  | x => [x]

/-- It may be laid into memory. -/
def GV.sane : GV → Bool
  | .dead | .tup _ => false
  | _ => true

mutual
def GV.ren (σ : Nat → Option Nat) : GV → GV
  | .dead => .dead
  | .v x => .v x
  | .agg cs => .agg (GV.renL σ cs)
  | .tup cs => .tup (GV.renL σ cs)
  | .list es xs own => .list es xs (own.bind σ)
  | .ptr k off => match σ k with
    | some k' => .ptr k' off
    | none => .dead
  | .ref cs off => .ref cs off
  | .fn f a b => .fn f (GV.renL σ a) (GV.renL σ b)
  | .iface t x => .iface t (GV.ren σ x)
  | .ms es k ver n => match σ k with
    | some k' => .ms es k' ver n
    | none => .dead
  | .mptr k ver i j => match σ k with
    | some k' => .mptr k' ver i j
    | none => .dead
  | .emp => .emp
  | .mview es k ver i n => match σ k with
    | some k' => .mview es k' ver i n
    | none => .dead
  | .z0 => .z0
def GV.renL (σ : Nat → Option Nat) : List GV → List GV
  | [] => []
  | x :: xs => GV.ren σ x :: GV.renL σ xs
end

theorem renL_eq (σ : Nat → Option Nat) (l : List GV) : GV.renL σ l = l.map (GV.ren σ) := by
  induction l with
  | nil => rfl
  | cons x xs ih => simp [GV.renL, ih]

/-- A block under a key: a block of cells; or the slice that appends go to, with its element's type and size, and how many it has; or the slice whose elements are written, with its element's size and how often it was laid anew. -/
inductive TB where
  | blk (n : Nat)
  | vec (own : Value) (e : TypeId) (es n : Nat)
  | mvec (own : Value) (es ver : Nat)

abbrev Tab := Nat → Option TB
def TB.block : TB → Option Nat
  | .blk n => some n
  | .vec u _ _ _ => u.ownBlock
  | .mvec u _ _ => u.ownBlock

/-- How ghost and value hang together. 'I': the cells that nobody changes any more. -/
inductive VR (w : World) (I : Nat → Nat → Prop) : Tab → GV → Value → Prop
  | dead {T : Tab} (x : Value) : VR w I T .dead x
  | v {T : Tab} (x : Value) (h : x.oneCell' = true) : VR w I T (.v x) x
  | agg {T : Tab} {cs : List GV} {rs : Array Value} (hl : rs.size = cs.length) (h1 : ∀ (i : Nat) (r : Value), rs[i]? = some r → r.oneCell' = true)
      (h : ∀ (i : Nat) (c : GV) (r : Value), cs[i]? = some c → rs[i]? = some r → VR w I T c r) : VR w I T (.agg cs) (.agg rs)
  | tup {T : Tab} {cs : List GV} {rs : Array Value} (hl : rs.size = cs.length)
      (h : ∀ (i : Nat) (c : GV) (r : Value), cs[i]? = some c → rs[i]? = some r → VR w I T c r) : VR w I T (.tup cs) (.tuple rs)
  | nil {T : Tab} {es : Nat} {own : Option Nat} {base : Option Addr} {cap : Nat} (hb : base = none → cap = 0)
      (hown : ∀ k, own = some k → ∃ u e s n, T k = some (.vec u e s n) ∧ (0 = n → u = .slice base 0 cap)) : VR w I T (.list es [] own) (.slice base 0 cap)
  | list {T : Tab} {es : Nat} {xs : List GV} {own : Option Nat} (b o cap : Nat) (row : Nat → Value) (hcap : xs.length ≤ cap)
      (hes : ∀ x, x ∈ xs → x.cells.length = es)
      (hsane : ∀ x, x ∈ xs → x.sane = true)
      (hcell : ∀ j, j < xs.length * es → I b (o + j) ∧ w.cell? ⟨b, o + j, none⟩ = some (row j) ∧ (row j).oneCell' = true)
      (hrel : ∀ (i : Nat) (x : GV) (j : Nat) (c : GV), xs[i]? = some x → x.cells[j]? = some c → VR w I (fun _ => none) c (row (i * es + j)))
      (hown : ∀ k, own = some k → ∃ u e s n, T k = some (.vec u e s n) ∧ xs.length ≤ n ∧ (xs.length = n → u = .slice (some ⟨b, o, none⟩) xs.length cap)) :
      VR w I T (.list es xs own) (.slice (some ⟨b, o, none⟩) xs.length cap)
  | ptr {T : Tab} {k n off : Nat} (h : T k = some (.blk n)) : VR w I T (.ptr k off) (.pointer (some ⟨n, off, none⟩))
  | ref {T : Tab} {cs : List GV} {off : Nat} (b o : Nat) (row : Nat → Value)
      (hcell : ∀ j, j < cs.length → I b (o + j) ∧ w.cell? ⟨b, o + j, none⟩ = some (row j) ∧ (row j).oneCell' = true)
      (hrel : ∀ (j : Nat) (c : GV), cs[j]? = some c → VR w I (fun _ => none) c (row j)) : VR w I T (.ref cs off) (.pointer (some ⟨b, o + off, none⟩))
  | fn {T : Tab} {f : Fn} {a b : List GV} {ra rb : Array Value} (hla : ra.size = a.length) (hlb : rb.size = b.length)
      (ha : ∀ (i : Nat) (c : GV) (r : Value), a[i]? = some c → ra[i]? = some r → VR w I T c r) (hb : ∀ (i : Nat) (c : GV) (r : Value), b[i]? = some c → rb[i]? = some r → VR w I T c r) : VR w I T (.fn f a b) (.func f ra rb)
  | iface {T : Tab} {t : TypeId} {x : GV} {r : Value} (h : VR w I T x r) : VR w I T (.iface t x) (.iface t r)
  | ms {T : Tab} {es k ver n v : Nat} {u r : Value} (h : T k = some (.mvec u es v)) (hle : ver ≤ v) (hs : ∃ b c, r = .slice b n c ∧ (n ≠ 0 → ∃ g, b = some ⟨g, 0, none⟩)) (hr : ver = v → r = u) : VR w I T (.ms es k ver n) r
  | mptr {T : Tab} {k ver j es v : Nat} {i : Int} {u r : Value} (h : T k = some (.mvec u es v)) (hle : ver ≤ v) (hs : ∃ b o, r = .pointer (some ⟨b, o, none⟩))
      (hr : ver = v → ∃ g n c, u = .slice (some ⟨g, 0, none⟩) n c ∧ r = .pointer (some ⟨g, i.toNat * es + j, none⟩)) : VR w I T (.mptr k ver i j) r
  | emp {T : Tab} (a : Addr) (cap : Nat) : VR w I T .emp (.slice (some a) 0 cap)
  | mview {T : Tab} {es k ver v : Nat} {i n : Int} {u r : Value} (h : T k = some (.mvec u es v)) (hle : ver ≤ v) (hs : 0 ≤ n ∧ ∃ b o c, r = .slice (some ⟨b, o, none⟩) n.toNat c)
      (hr : ver = v → ∃ g N c c', u = .slice (some ⟨g, 0, none⟩) N c ∧ 0 ≤ i ∧ i.toNat + n.toNat ≤ N ∧ r = .slice (some ⟨g, i.toNat * es, none⟩) n.toNat c') : VR w I T (.mview es k ver i n) r
  | z0 {T : Tab} (b : Option Addr) : VR w I T .z0 (.slice b 0 0)

/-- What may become of a table: a block stays; a slice that is appended to has no fewer elements. -/
def TLe (T T' : Tab) : Prop :=
  (∀ k n, T k = some (.blk n) → T' k = some (.blk n)) ∧
  (∀ k u e s n, T k = some (.vec u e s n) → ∃ u' e' s' n', T' k = some (.vec u' e' s' n') ∧ n ≤ n' ∧ (n = n' → u' = u)) ∧
  (∀ k u s v, T k = some (.mvec u s v) → ∃ u' v', T' k = some (.mvec u' s v') ∧ v ≤ v' ∧ (v = v' → u' = u))

theorem TLe.refl (T : Tab) : TLe T T := ⟨fun _ _ h => h, fun _ u e s n h => ⟨u, e, s, n, h, Nat.le_refl _, fun _ => rfl⟩, fun _ u s v h => ⟨u, v, h, Nat.le_refl _, fun _ => rfl⟩⟩
theorem TLe.none (T : Tab) : TLe (fun _ => Option.none) T := ⟨fun _ _ h => (by cases h), fun _ _ _ _ _ h => (by cases h), fun _ _ _ _ h => (by cases h)⟩
theorem TLe.trans {A B C : Tab} (h : TLe A B) (k : TLe B C) : TLe A C := by
  refine ⟨fun i n hi => k.1 _ _ (h.1 _ _ hi), fun i u e s n hi => ?_, fun i u s v hi => ?_⟩
  · obtain ⟨u1, e1, s1, n1, h1, l1, c1⟩ := h.2.1 _ _ _ _ _ hi
    obtain ⟨u2, e2, s2, n2, h2, l2, c2⟩ := k.2.1 _ _ _ _ _ h1
    refine ⟨u2, e2, s2, n2, h2, Nat.le_trans l1 l2, fun hn => ?_⟩
    rw [c2 (by omega), c1 (by omega)]
  · obtain ⟨u1, v1, h1, l1, c1⟩ := h.2.2 _ _ _ _ hi
    obtain ⟨u2, v2, h2, l2, c2⟩ := k.2.2 _ _ _ _ h1
    refine ⟨u2, v2, h2, Nat.le_trans l1 l2, fun hn => ?_⟩
    rw [c2 (by omega), c1 (by omega)]

/-- The cells that nobody changes stay so, and hold what they held. -/
def ILe (w : World) (I : Nat → Nat → Prop) (w' : World) (I' : Nat → Nat → Prop) : Prop :=
  ∀ b o, I b o → I' b o ∧ w'.cell? ⟨b, o, none⟩ = w.cell? ⟨b, o, none⟩

theorem ILe.refl (w : World) (I : Nat → Nat → Prop) : ILe w I w I := fun _ _ h => ⟨h, rfl⟩
theorem ILe.trans {w1 w2 w3 : World} {I1 I2 I3 : Nat → Nat → Prop} (h : ILe w1 I1 w2 I2) (k : ILe w2 I2 w3 I3) : ILe w1 I1 w3 I3 :=
  fun b o hi => ⟨(k b o (h b o hi).1).1, (k b o (h b o hi).1).2.trans (h b o hi).2⟩

theorem VR.mono {w w' : World} {I I' : Nat → Nat → Prop} (hI : ILe w I w' I') {T : Tab} {g : GV} {r : Value} (h : VR w I T g r) :
    ∀ {T' : Tab}, TLe T T' → VR w' I' T' g r := by
  induction h with
  | dead x => intro T' _; exact .dead x
  | v x h => intro T' _; exact .v x h
  | agg hl h1 h ih => intro T' hT; exact .agg hl h1 fun i c r hc hr => ih i c r hc hr hT
  | tup hl h ih => intro T' hT; exact .tup hl fun i c r hc hr => ih i c r hc hr hT
  | nil hb hown =>
    intro T' hT
    refine .nil hb fun k hk => ?_
    obtain ⟨u, e, s, n, h1, h2⟩ := hown k hk
    obtain ⟨u', e', s', n', h3, h4, h5⟩ := hT.2.1 _ _ _ _ _ h1
    exact ⟨u', e', s', n', h3, fun h0 => by rw [h5 (by omega)]; exact h2 (by omega)⟩
  | list b o cap row hcap hes hsane hcell hrel hown ih =>
    intro T' hT
    refine .list b o cap row hcap hes hsane (fun j hj => ?_) (fun i x j c hx hc => ih i x j c hx hc (TLe.refl _)) fun k hk => ?_
    · obtain ⟨h1, h2, h3⟩ := hcell j hj
      exact ⟨(hI _ _ h1).1, (hI _ _ h1).2.trans h2, h3⟩
    · obtain ⟨u, e, s, n, h1, h2, h3⟩ := hown k hk
      obtain ⟨u', e', s', n', h4, h5, h6⟩ := hT.2.1 _ _ _ _ _ h1
      exact ⟨u', e', s', n', h4, Nat.le_trans h2 h5, fun h0 => by rw [h6 (by omega)]; exact h3 (by omega)⟩
  | ptr h => intro T' hT; exact .ptr (hT.1 _ _ h)
  | ref b o row hcell hrel ih =>
    intro T' hT
    refine .ref b o row (fun j hj => ?_) fun j c hc => ih j c hc (TLe.refl _)
    obtain ⟨h1, h2, h3⟩ := hcell j hj
    exact ⟨(hI _ _ h1).1, (hI _ _ h1).2.trans h2, h3⟩
  | fn hla hlb ha hb iha ihb => intro T' hT; exact .fn hla hlb (fun i c r hc hr => iha i c r hc hr hT) (fun i c r hc hr => ihb i c r hc hr hT)
  | iface h ih => intro T' hT; exact .iface (ih hT)
  | ms h hle hs hr =>
    intro T' hT
    obtain ⟨u', v', g4, g5, g6⟩ := hT.2.2 _ _ _ _ h
    exact .ms g4 (Nat.le_trans hle g5) hs fun e => by rw [g6 (by omega)]; exact hr (by omega)
  | mptr h hle hs hr =>
    intro T' hT
    obtain ⟨u', v', g4, g5, g6⟩ := hT.2.2 _ _ _ _ h
    exact .mptr g4 (Nat.le_trans hle g5) hs fun e => by rw [g6 (by omega)]; exact hr (by omega)
  | emp a c => intro T' hT; exact .emp a c
  | mview h hle hs hr =>
    intro T' hT
    obtain ⟨u', v', g4, g5, g6⟩ := hT.2.2 _ _ _ _ h
    exact .mview g4 (Nat.le_trans hle g5) hs fun e => by rw [g6 (by omega)]; exact hr (by omega)
  | z0 b => intro T' hT; exact .z0 b

theorem VR.ren {w : World} {I : Nat → Nat → Prop} {T : Tab} {g : GV} {r : Value} (h : VR w I T g r) :
    ∀ {T' : Tab} (σ : Nat → Option Nat), (∀ k k' y, σ k = some k' → T k = some y → T' k' = some y) → VR w I T' (g.ren σ) r := by
  induction h with
  | dead x => intro T' σ _; exact .dead x
  | v x h => intro T' σ _; exact .v x h
  | agg hl h1 h ih =>
    intro T' σ hs
    simp only [GV.ren, renL_eq]
    refine .agg (by simpa using hl) h1 fun i c r hc hr => ?_
    simp only [List.getElem?_map, Option.map_eq_some_iff] at hc
    obtain ⟨c0, hc0, rfl⟩ := hc
    exact ih i c0 r hc0 hr σ hs
  | tup hl h ih =>
    intro T' σ hs
    simp only [GV.ren, renL_eq]
    refine .tup (by simpa using hl) fun i c r hc hr => ?_
    simp only [List.getElem?_map, Option.map_eq_some_iff] at hc
    obtain ⟨c0, hc0, rfl⟩ := hc
    exact ih i c0 r hc0 hr σ hs
  | nil hb hown =>
    intro T' σ hs
    refine .nil hb fun k hk => ?_
    obtain ⟨k0, hk0, hk1⟩ := Option.bind_eq_some_iff.1 hk
    obtain ⟨u, e, s, n, h1, h2⟩ := hown k0 hk0
    exact ⟨u, e, s, n, hs _ _ _ hk1 h1, h2⟩
  | list b o cap row hcap hes hsane hcell hrel hown ih =>
    intro T' σ hs
    refine .list b o cap row hcap hes hsane hcell hrel fun k hk => ?_
    obtain ⟨k0, hk0, hk1⟩ := Option.bind_eq_some_iff.1 hk
    obtain ⟨u, e, s, n, h1, h2⟩ := hown k0 hk0
    exact ⟨u, e, s, n, hs _ _ _ hk1 h1, h2⟩
  | @ptr T k n off h =>
    intro T' σ hs
    simp only [GV.ren]
    cases hk : σ k with
    | none => exact .dead _
    | some k' => exact .ptr (hs _ _ _ hk h)
  | ref b o row hcell hrel ih => intro T' σ hs; exact .ref b o row hcell hrel
  | fn hla hlb ha hb iha ihb =>
    intro T' σ hs
    simp only [GV.ren, renL_eq]
    refine .fn (by simpa using hla) (by simpa using hlb) (fun i c r hc hr => ?_) fun i c r hc hr => ?_
    · simp only [List.getElem?_map, Option.map_eq_some_iff] at hc
      obtain ⟨c0, hc0, rfl⟩ := hc
      exact iha i c0 r hc0 hr σ hs
    · simp only [List.getElem?_map, Option.map_eq_some_iff] at hc
      obtain ⟨c0, hc0, rfl⟩ := hc
      exact ihb i c0 r hc0 hr σ hs
  | iface h ih => intro T' σ hs; exact .iface (ih σ hs)
  | @ms T es k ver n v u r h hle hs' hr =>
    intro T' σ hs
    simp only [GV.ren]
    cases hk : σ k with
    | none => exact .dead _
    | some k' => exact .ms (hs _ _ _ hk h) hle hs' hr
  | @mptr T k ver j es v i u r h hle hs' hr =>
    intro T' σ hs
    simp only [GV.ren]
    cases hk : σ k with
    | none => exact .dead _
    | some k' => exact .mptr (hs _ _ _ hk h) hle hs' hr
  | emp a c => intro T' σ hs; exact .emp a c
  | @mview T es k ver v i n u r h hle hs' hr =>
    intro T' σ hs
    simp only [GV.ren]
    cases hk : σ k with
    | none => exact .dead _
    | some k' => exact .mview (hs _ _ _ hk h) hle hs' hr
  | z0 b => intro T' σ hs; exact .z0 b

theorem VR.cells {w : World} {I : Nat → Nat → Prop} {T : Tab} {g : GV} {r : Value} (h : VR w I T g r) (hs : g.sane = true) :
    r.cells.size = g.cells.length ∧ (∀ (j : Nat) (u : Value), r.cells[j]? = some u → u.oneCell' = true) ∧
    (∀ (j : Nat) (c : GV) (u : Value), g.cells[j]? = some c → r.cells[j]? = some u → VR w I T c u) := by
  have one : ∀ (g : GV) (r : Value), VR w I T g r → r.oneCell' = true → g.cells = [g] → r.cells.size = g.cells.length ∧ (∀ (j : Nat) (u : Value), r.cells[j]? = some u → u.oneCell' = true) ∧
      (∀ (j : Nat) (c : GV) (u : Value), g.cells[j]? = some c → r.cells[j]? = some u → VR w I T c u) := by
    intro g r h h1 hg
    have hr : r.cells = #[r] := by cases r <;> first | rfl | (simp [Value.oneCell'] at h1)
    rw [hg, hr]
    refine ⟨rfl, fun j u hu => ?_, fun j c u hc hu => ?_⟩
    · cases j with
      | zero => simp at hu; subst hu; exact h1
      | succ j => simp at hu
    · cases j with
      | zero => simp at hu hc; subst hu; subst hc; exact h
      | succ j => simp at hu
  cases h with
  | dead x => simp [GV.sane] at hs
  | v _ h => exact one _ _ (.v _ h) h rfl
  | agg hl h1 h => exact ⟨hl, h1, h⟩
  | tup hl h => simp [GV.sane] at hs
  | nil hb hown => exact one _ _ (.nil hb hown) rfl rfl
  | list b o cap row hcap hes hsane hcell hrel hown => exact one _ _ (.list b o cap row hcap hes hsane hcell hrel hown) rfl rfl
  | ptr h => exact one _ _ (.ptr h) rfl rfl
  | ref b o row hcell hrel => exact one _ _ (.ref b o row hcell hrel) rfl rfl
  | fn hla hlb ha hb => exact one _ _ (.fn hla hlb ha hb) rfl rfl
  | iface h => exact one _ _ (.iface h) rfl rfl
  | ms h hle hs' hr => obtain ⟨b, c, rfl, hn⟩ := hs'; exact one _ _ (.ms h hle ⟨b, c, rfl, hn⟩ hr) rfl rfl
  | mptr h hle hs' hr => obtain ⟨b, o, rfl⟩ := hs'; exact one _ _ (.mptr h hle ⟨b, o, rfl⟩ hr) rfl rfl
  | emp a c => exact one _ _ (.emp a c) rfl rfl
  | mview h hle hs' hr => obtain ⟨hn, b, o, c, rfl⟩ := hs'; exact one _ _ (.mview h hle ⟨hn, b, o, c, rfl⟩ hr) rfl rfl
  | z0 b => exact one _ _ (.z0 b) rfl rfl

end Go.Gh
