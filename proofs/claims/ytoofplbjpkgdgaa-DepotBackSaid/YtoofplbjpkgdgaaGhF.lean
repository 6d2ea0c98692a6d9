/- Ghost values and walks, bundle GhF; proved for whatever the arguments' types allow, as each theorem says. -/
import Derived.Test.YtoofplbjpkgdgaaGh11d

/- The walk's operations once more, so that every value is computed before it is laid away. Each is equal to the plain one. -/
set_option linter.unusedVariables false
set_option linter.unusedSimpArgs false
namespace Go.Gh

def forceV (x : Value) (K : Value → Prop) : Prop := match x with
  | .bool b => K (.bool b)
  | .int k n => K (.int k n)
  | .string s => K (.string s)
  | x => K x
theorem forceV_eq (x : Value) (K : Value → Prop) : forceV x K = K x := by cases x <;> rfl

def forceA (x : GV) (K : GV → Prop) : Prop := match x with
  | .v y => forceV y fun y => K (.v y)
  | .dead => K .dead
  | .list es xs own => K (.list es xs own)
  | .ptr k off => K (.ptr k off)
  | .ref cs off => K (.ref cs off)
  | .iface t x => K (.iface t x)
  | x => K x
theorem forceA_eq (x : GV) (K : GV → Prop) : forceA x K = K x := by cases x <;> first | rfl | exact forceV_eq _ (fun y => K (.v y))

def forceL : List GV → (List GV → Prop) → Prop
  | [], K => K []
  | x :: r, K => forceA x fun x => forceL r fun r => K (x :: r)
theorem forceL_eq : ∀ (l : List GV) (K : List GV → Prop), forceL l K = K l
  | [], _ => rfl
  | x :: r, K => by unfold forceL; rw [forceA_eq, forceL_eq]

def force1 (x : GV) (K : GV → Prop) : Prop := match x with
  | .agg cs => forceL cs fun cs => K (.agg cs)
  | .fn f a b => forceL a fun a => forceL b fun b => K (.fn f a b)
  | .ref cs off => forceL cs fun cs => K (.ref cs off)
  | x => forceA x K
theorem force1_eq (x : GV) (K : GV → Prop) : force1 x K = K x := by
  cases x with
  | agg cs => unfold force1; simp only [forceL_eq]
  | fn f a b => unfold force1; simp only [forceL_eq]
  | ref cs o => unfold force1; simp only [forceL_eq]
  | dead => exact forceA_eq (.dead) K
  | v y => exact forceA_eq (.v y) K
  | tup cs => exact forceA_eq (.tup cs) K
  | list e xs o => exact forceA_eq (.list e xs o) K
  | ptr k o => exact forceA_eq (.ptr k o) K
  | iface t x => exact forceA_eq (.iface t x) K
  | ms a b c d => exact forceA_eq (.ms a b c d) K
  | mptr a b c d => exact forceA_eq (.mptr a b c d) K
  | emp => exact forceA_eq .emp K
  | mview a b c d e => exact forceA_eq (.mview a b c d e) K
  | z0 => exact forceA_eq .z0 K

def force1L : List GV → (List GV → Prop) → Prop
  | [], K => K []
  | x :: r, K => force1 x fun x => force1L r fun r => K (x :: r)
theorem force1L_eq : ∀ (l : List GV) (K : List GV → Prop), force1L l K = K l
  | [], _ => rfl
  | x :: r, K => by unfold force1L; rw [force1_eq, force1L_eq]

def force (x : GV) (K : GV → Prop) : Prop := match x with
  | .tup vs => force1L vs fun vs => K (.tup vs)
  | .iface t x => force1 x fun x => K (.iface t x)
  | x => force1 x K
theorem force_eq (x : GV) (K : GV → Prop) : force x K = K x := by
  cases x with
  | tup cs => unfold force; simp only [force1L_eq]
  | iface t x => unfold force; simp only [force1_eq]
  | dead => exact force1_eq (.dead) K
  | v y => exact force1_eq (.v y) K
  | agg cs => exact force1_eq (.agg cs) K
  | list e xs o => exact force1_eq (.list e xs o) K
  | ptr k o => exact force1_eq (.ptr k o) K
  | ref cs o => exact force1_eq (.ref cs o) K
  | fn f a b => exact force1_eq (.fn f a b) K
  | ms a b c d => exact force1_eq (.ms a b c d) K
  | mptr a b c d => exact force1_eq (.mptr a b c d) K
  | emp => exact force1_eq .emp K
  | mview a b c d e => exact force1_eq (.mview a b c d e) K
  | z0 => exact force1_eq .z0 K

def forceB (b : GB) (K : GB → Prop) : Prop := match b with
  | .cells cs => forceL cs fun cs => K (.cells cs)
  | .vec e n => K (.vec e n)
  | .mvec e es xs v => K (.mvec e es xs v)
  | .gone => K .gone
theorem forceB_eq (x : GB) (K : GB → Prop) : forceB x K = K x := by
  cases x <;> first | rfl | (unfold forceB; simp only [forceL_eq])

def forceLL : List GB → (List GB → Prop) → Prop
  | [], K => K []
  | x :: r, K => forceB x fun x => forceLL r fun r => K (x :: r)
theorem forceLL_eq : ∀ (l : List GB) (K : List GB → Prop), forceLL l K = K l
  | [], _ => rfl
  | x :: r, K => by unfold forceLL; rw [forceB_eq, forceLL_eq]

def forceN {α : Type} : List α → (List α → Prop) → Prop
  | [], K => K []
  | x :: r, K => forceN r fun r => K (x :: r)
theorem forceN_eq {α : Type} : ∀ (l : List α) (K : List α → Prop), forceN l K = K l
  | [], _ => rfl
  | x :: r, K => by unfold forceN; rw [forceN_eq]

/-! ### What a walk comes to -/
/-- Two ways on. -/
structure Br (b : Bool) (p q : Prop) : Prop where
  t : b = true → p
  f : b = false → q
theorem Br_eq (b : Bool) (p q : Prop) : Br b p q = ((b = true → p) ∧ (b = false → q)) := propext ⟨fun h => ⟨h.1, h.2⟩, fun h => ⟨h.1, h.2⟩⟩
theorem Br.yes {b : Bool} {p q : Prop} (e : b = true) (h : p) : Br b p q := ⟨fun _ => h, fun e' => (by rw [e] at e'; cases e')⟩
theorem Br.no {b : Bool} {p q : Prop} (e : b = false) (h : q) : Br b p q := ⟨fun e' => (by rw [e] at e'; cases e'), fun _ => h⟩

/-- Something that must hold. -/
structure Need (c p : Prop) : Prop where
  c : c
  k : p
theorem Need_eq (c p : Prop) : Need c p = (c ∧ p) := propext ⟨fun h => ⟨h.1, h.2⟩, fun h => ⟨h.1, h.2⟩⟩

/-- An element of a list. -/
structure Elem (xs : List GV) (i : Int) (p : GV → Prop) : Prop where
  ex : ∃ x, (0 ≤ i ∧ xs[i.toNat]? = some x) ∧ p x
theorem Elem_eq (xs : List GV) (i : Int) (p : GV → Prop) : Elem xs i p = ∃ x, (0 ≤ i ∧ xs[i.toNat]? = some x) ∧ p x := propext ⟨fun h => h.ex, fun h => ⟨h⟩⟩

def Out.wpF (hp : Nat → Option GB) (o : Out) : (GV → (Nat → Option GB) → Prop) → Prop :=
  Out.rec (motive := fun _ => (GV → (Nat → Option GB) → Prop) → Prop)
    (fun _ => False)
    (fun x K => force x fun x => K x hp)
    (fun x k b K => force x fun x => forceB b fun b => K x (setH hp k b))
    (fun c _ ih K => Need c (ih K))
    (fun xs i _ ih K => Elem xs i fun x => ih x K)
    (fun _ _ _ => False) o
theorem Out.wpF_eq (hp : Nat → Option GB) : ∀ (o : Out) (K : GV → (Nat → Option GB) → Prop), o.wpF hp K = o.wp0 hp K
  | .bad, _ => rfl
  | .val x, K => by show force x (fun x => K x hp) = _; unfold Out.wp0; rw [force_eq]
  | .upd x k b, K => by show force x (fun x => forceB b fun b => K x (setH hp k b)) = _; unfold Out.wp0; rw [force_eq, forceB_eq]
  | .need c o, K => by show Need c (o.wpF hp K) = _; unfold Out.wp0; rw [Need_eq, Out.wpF_eq]
  | .elem xs i f, K => by show Elem xs i (fun x => (f x).wpF hp K) = _; unfold Out.wp0; rw [Elem_eq]; simp only [Out.wpF_eq]
  | .call _ _, _ => rfl
theorem Out.wpF_val (hp : Nat → Option GB) (x : GV) (K : GV → (Nat → Option GB) → Prop) : Out.wpF hp (.val x) K = K x hp := force_eq x fun x => K x hp
theorem Out.wpF_bad (hp : Nat → Option GB) (K : GV → (Nat → Option GB) → Prop) : Out.wpF hp .bad K = False := rfl
theorem Out.wpF_need (hp : Nat → Option GB) (c : Prop) (o : Out) (K : GV → (Nat → Option GB) → Prop) : Out.wpF hp (.need c o) K = Need c (Out.wpF hp o K) := rfl

def newOk (hp : Nat → Option GB) (d : Nat) (ks : List Nat) (hs' : List GB) : Bool := freeKeys hp (newKeys d (hs'.length - ks.length)) && Nat.ble ks.length hs'.length

def callWpF (P : Program) (hp : Nat → Option GB) (d : Nat) (f : FuncId) (args : List GV) (fin : GV → (Nat → Option GB) → Prop) : Prop :=
  forceN (reach hp 100 (keysL args) []) fun ks =>
  ICalls P f (GV.renL (idxOf ks) args) (ks.map fun k => (hpB hp k).ren (idxOf ks))
    (fun v hs' => newOk hp d ks hs' = true ∧ forceN (ks ++ newKeys d (hs'.length - ks.length)) fun kk => force (v.ren fun j => kk[j]?) fun v => forceLL (hs'.map (GB.ren fun j => kk[j]?)) fun hs' => fin v (putAll hp kk hs'))
theorem callWpF_eq (P : Program) (hp : Nat → Option GB) (d : Nat) (f : FuncId) (args : List GV) (fin : GV → (Nat → Option GB) → Prop) : callWpF P hp d f args fin = callWp P hp d f args fin := by
  unfold callWpF callWp
  simp only [forceN_eq, force_eq, forceLL_eq, newOk, Bool.and_eq_true]
  congr 1
  funext v hs'
  apply propext
  constructor
  · rintro ⟨⟨h1, h2⟩, h3⟩
    exact ⟨_, rfl, ⟨h1, Nat.le_of_ble_eq_true h2⟩, h3⟩
  · rintro ⟨nk, rfl, ⟨h1, h2⟩, h3⟩
    exact ⟨⟨h1, Nat.ble_eq_true_of_le h2⟩, h3⟩

/-- A call whose answer is known. -/
structure CallX (P : Program) (ks : List Nat) (f : FuncId) (args : List GV) (hs : List GB) (fin : GV → List GB → Prop) : Prop where
  ex : ∃ v hs', ICalls P f args hs (fun v' hs'' => v' = v ∧ hs'' = hs') ∧ hs'.length = ks.length ∧ fin v hs'
theorem CallX_eq (P : Program) (ks : List Nat) (f : FuncId) (args : List GV) (hs : List GB) (fin : GV → List GB → Prop) :
    CallX P ks f args hs fin = ∃ v hs', ICalls P f args hs (fun v' hs'' => v' = v ∧ hs'' = hs') ∧ hs'.length = ks.length ∧ fin v hs' := propext ⟨fun h => h.ex, fun h => ⟨h⟩⟩

def callXF (P : Program) (hp : Nat → Option GB) (f : FuncId) (args : List GV) (fin : GV → (Nat → Option GB) → Prop) : Prop :=
  forceN (reach hp 100 (keysL args) []) fun ks =>
  CallX P ks f (GV.renL (idxOf ks) args) (ks.map fun k => (hpB hp k).ren (idxOf ks)) fun v hs' =>
    force (v.ren fun j => ks[j]?) fun v => forceLL (hs'.map (GB.ren fun j => ks[j]?)) fun hs' => fin v (putAll hp ks hs')
theorem callXF_eq (P : Program) (hp : Nat → Option GB) (f : FuncId) (args : List GV) (fin : GV → (Nat → Option GB) → Prop) : callXF P hp f args fin = callX P hp f args fin := by
  unfold callXF callX
  simp only [forceN_eq, force_eq, forceLL_eq, CallX_eq]

def fillF (place : Nat → Option (Nat × Nat)) : List GV → List (Nat × GV) → (Option (List GV) → Prop) → Prop
  | cs, [], K => K (some cs)
  | cs, (i, x) :: r, K => match place i with
    | some (off, sz) => bif x.sane && (Nat.beq x.cells.length sz && Nat.ble (off + sz) cs.length) then forceL (cs.take off ++ (x.cells ++ cs.drop (off + sz))) fun cs => fillF place cs r K else K none
    | none => K none
theorem fillF_eq (place : Nat → Option (Nat × Nat)) : ∀ (parts : List (Nat × GV)) (cs : List GV) (K : Option (List GV) → Prop), fillF place cs parts K = K (fillG place cs parts)
  | [], cs, K => rfl
  | (i, x) :: r, cs, K => by
    unfold fillF fillG
    simp only [forceL_eq, fillF_eq place r]
    generalize place i = q
    rcases q with _ | ⟨off, sz⟩
    · rfl
    · simp only
      cases (x.sane && (Nat.beq x.cells.length sz && Nat.ble (off + sz) cs.length)) <;> rfl

def aggF (hp : Nat → Option GB) (K : GV → (Nat → Option GB) → Prop) : Option (List GV) → Prop
  | some r => K (.agg r) hp
  | none => False

def buildF (P : Program) (t : TypeId) (parts : List (Nat × GV)) (hp : Nat → Option GB) (K : GV → (Nat → Option GB) → Prop) : Prop :=
  match tZero P t, P.underlying t with
  | some z, some (.struct fs) => bif allSized P fs.toList then (match zcells z with
    | some cs => forceL cs fun cs => fillF (placeS P fs.toList) cs parts (aggF hp K)
    | none => False) else False
  | some z, some (.array _ e) => (match zcells z, tSize P e with
    | some cs, some sz => forceL cs fun cs => fillF (fun i => some (i * sz, sz)) cs parts (aggF hp K)
    | _, _ => False)
  | _, _ => False
theorem buildF_eq (P : Program) (t : TypeId) (parts : List (Nat × GV)) (hp : Nat → Option GB) (K : GV → (Nat → Option GB) → Prop) : buildF P t parts hp K = (buildO P t parts).wpF hp K := by
  have h1 : ∀ (r : Option (List GV)), aggF hp K r = Out.wpF hp (match r with
      | some r => .val (.agg r)
      | none => .bad) K := by
    intro r; cases r with
    | none => rfl
    | some r => simp only [aggF, Out.wpF_val, Out.wpF_need]
  unfold buildF buildO
  simp only [forceL_eq, fillF_eq, h1]
  generalize tZero P t = z
  generalize P.underlying t = u
  rcases z with _ | z
  · rfl
  rcases u with _ | u
  · rfl
  cases u with
  | struct fs =>
    simp only
    cases allSized P fs.toList with
    | false => rfl
    | true =>
      simp only [cond_true]
      cases zcells z <;> rfl
  | array n e =>
    simp only
    cases zcells z <;> cases tSize P e <;> rfl
  | _ => rfl

/-- What a number comes to, when it is brought into its kind's bounds. -/
structure Wr (k : IntKind) (n : Int) (p : Int → Prop) : Prop where
  ex : ∃ m, k.wrap n = m ∧ p m
theorem Wr_eq (k : IntKind) (n : Int) (p : Int → Prop) : Wr k n p = p (k.wrap n) := propext ⟨fun ⟨m, h1, h2⟩ => h1 ▸ h2, fun h => ⟨_, rfl, h⟩⟩
/-- It is within the bounds. -/
theorem Wr.fit {n : Int} {p : Int → Prop} (h : -9223372036854775808 ≤ n ∧ n ≤ 9223372036854775807) (hp : p n) : Wr .i64 n p := ⟨n, by rw [IntKind.wrap_i64]; omega, hp⟩
theorem Wr.lit {n : Int} (m : Int) {p : Int → Prop} (e : n = m) (h : -9223372036854775808 ≤ m ∧ m ≤ 9223372036854775807) (hp : p m) : Wr .i64 n p := by subst e; exact Wr.fit h hp
theorem Wr.any {k : IntKind} {n : Int} {p : Int → Prop} (hp : p (k.wrap n)) : Wr k n p := ⟨_, rfl, hp⟩

def intF (op : BinOp) (k : IntKind) (a b : Int) (hp : Nat → Option GB) (K : GV → (Nat → Option GB) → Prop) : Prop := match op with
  | .add => Wr k (a + b) fun n => K (.v (.int k n)) hp
  | .sub => Wr k (a - b) fun n => K (.v (.int k n)) hp
  | .mul => Wr k (a * b) fun n => K (.v (.int k n)) hp
  | .quo => Need (b ≠ 0) (Wr k (a.tdiv b) fun n => K (.v (.int k n)) hp)
  | op => (intO op k a b).wpF hp K
theorem intF_eq (op : BinOp) (k : IntKind) (a b : Int) (hp : Nat → Option GB) (K : GV → (Nat → Option GB) → Prop) : intF op k a b hp K = (intO op k a b).wpF hp K := by
  cases op <;> first | rfl | (unfold intF intO; simp only [Wr_eq, Out.wpF_val, Out.wpF_need])

def binF (P : Program) (op : BinOp) (t : TypeId) (x y : GV) (hp : Nat → Option GB) (K : GV → (Nat → Option GB) → Prop) : Prop := match x, y with
  | .v (.int k a), .v (.int k' b) => bif isShift op then (shiftG op k a b).wpF hp K else (match decEq k k' with
    | .isTrue _ => intF op k a b hp K
    | .isFalse _ => False)
  | x, y => (binO' P op t x y).wpF hp K
theorem binF_eq (P : Program) (op : BinOp) (t : TypeId) (x y : GV) (hp : Nat → Option GB) (K : GV → (Nat → Option GB) → Prop) : binF P op t x y hp K = (binO' P op t x y).wpF hp K := by
  unfold binF
  split
  · rename_i k a k' b
    show _ = (binO P op t (.v (.int k a)) (.v (.int k' b))).wpF hp K
    unfold binO
    cases hs : isShift op with
    | true => simp only [hs, cond_true]
    | false =>
      simp only [hs, cond_false]
      split
      · rename_i h _; rw [if_pos h, intF_eq]
      · rename_i h _; rw [if_neg h]; rfl
  · rfl

def convF (P : Program) (t0 t : TypeId) (x : GV) (hp : Nat → Option GB) (K : GV → (Nat → Option GB) → Prop) : Prop := match P.underlying t0 with
  | some _ => (match P.underlying t, x with
    | some (.int k), .v (.int _ n) => Wr k n fun n => K (.v (.int k n)) hp
    | _, _ => (convO P t x).wpF hp K)
  | none => False
theorem convF_eq (P : Program) (t0 t : TypeId) (x : GV) (hp : Nat → Option GB) (K : GV → (Nat → Option GB) → Prop) : convF P t0 t x hp K = (match P.underlying t0 with
    | some _ => convO P t x
    | none => Out.bad).wpF hp K := by
  unfold convF
  generalize P.underlying t0 = u
  cases u with
  | none => rfl
  | some u =>
    simp only
    split
    · rename_i k k' n hk
      unfold convO
      rw [hk]
      simp only [Wr_eq, Out.wpF_val, Out.wpF_need]
    · rfl

/-- How long a list is. -/
structure Len (xs : List GV) (p : Int → Prop) : Prop where
  ex : ∃ n : Int, (xs.length : Int) = n ∧ p n
theorem Len_eq (xs : List GV) (p : Int → Prop) : Len xs p = p xs.length := propext ⟨fun ⟨_, h1, h2⟩ => h1 ▸ h2, fun h => ⟨_, rfl, h⟩⟩
def lenF (P : Program) (t : TypeId) (x : GV) (hp : Nat → Option GB) (K : GV → (Nat → Option GB) → Prop) : Prop := match P.underlying t, x with
  | some (.slice _), .list _ xs _ => Len xs fun n => K (.v (.int .i64 n)) hp
  | _, _ => (lenO P t x).wpF hp K
theorem lenF_eq (P : Program) (t : TypeId) (x : GV) (hp : Nat → Option GB) (K : GV → (Nat → Option GB) → Prop) : lenF P t x hp K = (lenO P t x).wpF hp K := by
  unfold lenF
  split
  · rename_i hk; unfold lenO; rw [hk]; simp only [Len_eq, Out.wpF_val, Out.wpF_need]
  · rfl

def callF (P : Program) (forb : List Nat) (o : Oper) (s : GS) (c : Call) (K : GV → (Nat → Option GB) → Prop) : Prop := match c.callee, c.argTypes.toList, c.args.toList.map (gev s.env) with
  | .builtin .len, t :: _, [x] => lenF P t x s.hp K
  | _, _, _ => (opOut P forb o s).wpF s.hp K
theorem callF_eq (P : Program) (forb : List Nat) (o : Oper) (s : GS) (c : Call) (K : GV → (Nat → Option GB) → Prop) (h : o.op = .call c) : callF P forb o s c K = (opOut P forb o s).wpF s.hp K := by
  unfold callF
  split
  · rename_i h1 h2 h3
    unfold opOut
    rw [h]
    simp only [h1, h2, h3, builtinO]
    exact lenF_eq _ _ _ _ _
  · rfl

def callD (P : Program) (forb : List Nat) (o : Oper) (s : GS) (c : Call) (K : GV → (Nat → Option GB) → Prop) : Prop := match c.callee, c.argTypes.toList, c.args.toList.map (gev s.env) with
  | .builtin .len, t :: _, [x] => lenF P t x s.hp K
  | _, _, _ => (opOutD P forb o s).wpF s.hp K
theorem callD_eq (P : Program) (forb : List Nat) (o : Oper) (s : GS) (c : Call) (K : GV → (Nat → Option GB) → Prop) (h : o.op = .call c) : callD P forb o s c K = (opOutD P forb o s).wpF s.hp K := by
  unfold callD
  split
  · rename_i h1 h2 h3
    unfold opOutD
    rw [h]
    simp only [h1, h2, h3, builtinD]
    exact lenF_eq _ _ _ _ _
  · rfl

def storeF (P : Program) (forb : List Nat) (hp : Nat → Option GB) (t : TypeId) (a x : GV) (K : GV → (Nat → Option GB) → Prop) : Prop := match a with
  | .mptr k ver i j => bif forb.elem k then False else (match tSize P t, hp k, stripE x with
    | some sz, some (.mvec e es xs v), some x' => bif x.sane && Nat.beq x.cells.length sz then
        Need (v = ver) (Elem xs i fun y => bif Nat.ble (j + sz) y.cells.length then (match packM y x' j sz with
          | some y' => force y' fun y' => K .dead (setH hp k (.mvec e es (xs.set i.toNat y') v))
          | none => False) else False) else False
    | _, _, _ => False)
  | a => (storeO P forb hp t a x).wpF hp K
theorem storeF_eq (P : Program) (forb : List Nat) (hp : Nat → Option GB) (t : TypeId) (a x : GV) (K : GV → (Nat → Option GB) → Prop) : storeF P forb hp t a x K = (storeO P forb hp t a x).wpF hp K := by
  unfold storeF
  split
  · rename_i k ver i j
    show _ = (storeM P forb hp t k ver i j x).wpF hp K
    unfold storeM
    simp only [force_eq]
    cases forb.elem k with
    | true => rfl
    | false =>
      simp only [cond_false]
      generalize tSize P t = q1
      generalize hp k = q2
      generalize stripE x = q3
      cases q1 with
      | none => rfl
      | some sz =>
      cases q2 with
      | none => rfl
      | some b =>
      cases b with
      | cells _ => rfl
      | vec _ _ => rfl
      | gone => rfl
      | mvec e es xs v =>
      cases q3 with
      | none => rfl
      | some x' =>
        simp only []
        cases (x.sane && Nat.beq x.cells.length sz) with
        | false => rfl
        | true =>
          simp only [cond_true]
          show Need _ (Elem xs i _) = Need _ (Elem xs i _)
          congr 2
          funext y
          dsimp only
          generalize Nat.ble (j + sz) y.cells.length = q
          generalize packM y x' j sz = q'
          cases q <;> cases q' <;> rfl
  · rfl

def unF (op : UnOp) (x : GV) (hp : Nat → Option GB) (K : GV → (Nat → Option GB) → Prop) : Prop := match op, x with
  | .neg, .v (.int k n) => Wr k (0 - n) fun n => K (.v (.int k n)) hp
  | op, x => (unO op x).wpF hp K
theorem unF_eq (op : UnOp) (x : GV) (hp : Nat → Option GB) (K : GV → (Nat → Option GB) → Prop) : unF op x hp K = (unO op x).wpF hp K := by
  unfold unF
  split
  · unfold unO; simp only [Wr_eq, Out.wpF_val]
  · rfl

def stepF (P : Program) (forb : List Nat) (o : Oper) (s : GS) (K : GV → (Nat → Option GB) → Prop) : Prop := match o.op with
  | .build t parts => buildF P t (parts.toList.map fun p => (p.1, gev s.env p.2)) s.hp K
  | .binOp op t x y _ => binF P op t (gev s.env x) (gev s.env y) s.hp K
  | .unOp op _ x => unF op (gev s.env x) s.hp K
  | .convert t0 t x => convF P t0 t (gev s.env x) s.hp K
  | .call c => callF P forb o s c K
  | .store t a x => storeF P forb s.hp t (gev s.env a) (gev s.env x) K
  | _ => (opOut P forb o s).wpF s.hp K
theorem stepF_eq (P : Program) (forb : List Nat) (o : Oper) (s : GS) (K : GV → (Nat → Option GB) → Prop) : stepF P forb o s K = (opOut P forb o s).wpF s.hp K := by
  obtain ⟨dst, op, type, pos, after, guard⟩ := o
  cases op <;> first | rfl | exact buildF_eq _ _ _ _ _ | exact binF_eq _ _ _ _ _ _ _ | exact unF_eq _ _ _ _ | exact convF_eq _ _ _ _ _ _ | exact callF_eq _ _ _ _ _ _ rfl | exact storeF_eq _ _ _ _ _ _ _

def stepD (P : Program) (forb : List Nat) (o : Oper) (s : GS) (K : GV → (Nat → Option GB) → Prop) : Prop := match o.op with
  | .build t parts => buildF P t (parts.toList.map fun p => (p.1, gev s.env p.2)) s.hp K
  | .binOp op t x y _ => binF P op t (gev s.env x) (gev s.env y) s.hp K
  | .unOp op _ x => unF op (gev s.env x) s.hp K
  | .convert t0 t x => convF P t0 t (gev s.env x) s.hp K
  | .call c => callD P forb o s c K
  | .store t a x => storeF P forb s.hp t (gev s.env a) (gev s.env x) K
  | _ => (opOutD P forb o s).wpF s.hp K
theorem stepD_eq (P : Program) (forb : List Nat) (o : Oper) (s : GS) (K : GV → (Nat → Option GB) → Prop) : stepD P forb o s K = (opOutD P forb o s).wpF s.hp K := by
  obtain ⟨dst, op, type, pos, after, guard⟩ := o
  cases op <;> first | rfl | exact buildF_eq _ _ _ _ _ | exact binF_eq _ _ _ _ _ _ _ | exact unF_eq _ _ _ _ | exact convF_eq _ _ _ _ _ _ | exact callD_eq _ _ _ _ _ _ rfl | exact storeF_eq _ _ _ _ _ _ _

def nilKF (P : Program) (t : TypeId) (key j : Nat) (K : GV → (Nat → Option GB) → Prop) (x : GV) (hp : Nat → Option GB) : Prop :=
  match hp key, elemAt P t j with
  | some (.cells cs), some e => (match cs[j]?, P.info? e, hp (key + 50000) with
    | some (.v (.slice none 0 0)), some i, none => forceL (cs.set j (.ms i.size (key + 50000) 0 0)) fun cs => K x (setH (setH hp key (.cells cs)) (key + 50000) (.mvec e i.size [] 0))
    | _, _, _ => False)
  | _, _ => False
theorem nilKF_eq (P : Program) (t : TypeId) (key j : Nat) (K : GV → (Nat → Option GB) → Prop) : nilKF P t key j K = nilK P t key j K := by
  funext x hp
  unfold nilKF nilK
  simp only [forceL_eq]
  rfl
def freezeKF (K : GV → (Nat → Option GB) → Prop) (x : GV) (hp : Nat → Option GB) : Prop := match x with
  | .ms es k ver n => (freezeO hp es k ver).wpF hp K
  | _ => False
theorem freezeKF_eq (K : GV → (Nat → Option GB) → Prop) : freezeKF K = freezeK K := by
  funext x hp
  unfold freezeKF freezeK
  simp only [Out.wpF_eq]
  rfl
def postKF (P : Program) (o : Oper) (env : Nat → GV) (K : GV → (Nat → Option GB) → Prop) : GV → (Nat → Option GB) → Prop := match o.op with
  | .alloc t => bif flagG env (5000000 + o.dst.getD 0) then nilKF P t (100 + o.dst.getD 0) 0 K else bif flagG env (5100000 + o.dst.getD 0) then nilKF P t (100 + o.dst.getD 0) 1 K else bif flagG env (5200000 + o.dst.getD 0) then nilKF P t (100 + o.dst.getD 0) 2 K else K
  | .box t _ => bif flagG env (5000000 + o.dst.getD 0) then nilKF P t (100 + o.dst.getD 0) 0 K else bif flagG env (5100000 + o.dst.getD 0) then nilKF P t (100 + o.dst.getD 0) 1 K else bif flagG env (5200000 + o.dst.getD 0) then nilKF P t (100 + o.dst.getD 0) 2 K else K
  | .load _ _ => bif flagG env (6000000 + o.dst.getD 0) then freezeKF K else K
  | _ => K
theorem postKF_eq (P : Program) (o : Oper) (env : Nat → GV) (K : GV → (Nat → Option GB) → Prop) : postKF P o env K = postK P o env K := by
  unfold postKF postK
  simp only [nilKF_eq, freezeKF_eq]
  rfl

def opWpF (P : Program) (o : Oper) (s : GS) (K : GV → (Nat → Option GB) → Prop) : Prop :=
  match callOf o s.env with
  | some (some (g, args)) => forceL args fun args => callWpF P s.hp (o.dst.getD 0) g args K
  | some none => False
  | none => stepF P [] o s (postKF P o s.env K)
theorem opWpF_eq (P : Program) (o : Oper) (s : GS) (K : GV → (Nat → Option GB) → Prop) : opWpF P o s K = opWp P o s K := by
  unfold opWpF opWp
  simp only [forceL_eq, callWpF_eq, stepF_eq, Out.wpF_eq, postKF_eq]
  rfl

def nilKeysB (args : List GV) (pc : Bool) : Bool := bif (keysL args).isEmpty then true else !pc
theorem nilKeysB_eq (args : List GV) (pc : Bool) : (nilKeysB args pc = true) = nilKeys args pc := by
  cases pc with
  | false => simp [nilKeysB, nilKeys]
  | true => simp [nilKeysB, nilKeys]

theorem un_some {b b' : GB} (h : b.un = some b') : b = b' := by cases b <;> cases h <;> rfl

theorem putAll_same_iff {hp : Nat → Option GB} {ks : List Nat} {L : List GB} (hn : ks.Nodup) (hk : ∀ k, k ∈ ks → Pass (hp k)) (hl : ks.length = L.length) :
    (putAll hp ks L = hp) = (L = ks.map (hpB hp)) := by
  have hk' : ∀ k, k ∈ ks → ∃ b, hp k = some b ∧ b.un = some b := by
    intro k h
    rcases hk k h with ⟨cs, e⟩ | ⟨e1, es, xs, v, e⟩
    · exact ⟨_, e, rfl⟩
    · exact ⟨_, e, rfl⟩
  apply propext
  constructor
  · intro h
    apply List.ext_getElem?
    intro j
    by_cases hj : j < ks.length
    · have hkj : ks[j]? = some ks[j] := by simp [hj]
      have h1 := congrFun h ks[j]
      rw [putAll_ok hp ks L hl, idxOf_of hn hkj] at h1
      obtain ⟨b, hb, _⟩ := hk' ks[j] (List.getElem_mem hj)
      have hLj : L[j]? = some L[j] := by simp [show j < L.length by omega]
      simp only [hLj, Option.bind_some, hb] at h1
      rw [List.getElem?_map, hkj, hLj, Option.map_some, un_some h1]
      unfold hpB; rw [hb]
    · rw [List.getElem?_eq_none (by omega), List.getElem?_eq_none (by simp; omega)]
  · intro h
    funext k
    rw [putAll_ok hp ks L hl]
    split
    · rename_i j hj
      have := idxOf_some hj
      obtain ⟨b, hb, hu⟩ := hk' k (List.mem_of_getElem? this)
      rw [h, List.getElem?_map, this]
      simp only [Option.map_some, Option.bind_some, hpB, hb, hu]
    · rfl

def callXR (P : Program) (hp : Nat → Option GB) (f : FuncId) (args : List GV) (fin : GV → (Nat → Option GB) → Prop) : Prop :=
  forceN (reach hp 100 (keysL args) []) fun ks =>
  CallX P ks f (GV.renL (idxOf ks) args) (ks.map fun k => (hpB hp k).ren (idxOf ks)) fun v hs' =>
    Need (hs'.map (GB.ren fun j => ks[j]?) = ks.map (hpB hp)) (force (v.ren fun j => ks[j]?) fun v => fin v hp)
theorem callXR_eq (P : Program) (hp : Nat → Option GB) (f : FuncId) (args : List GV) (fin : GV → (Nat → Option GB) → Prop) : callXR P hp f args fin = callX P hp f args fun v hp' => hp' = hp ∧ fin v hp' := by
  unfold callXR callX
  simp only [forceN_eq, force_eq, CallX_eq, Need_eq]
  obtain ⟨r1, r2⟩ := reach_ok hp 100 (keysL args) [] (by simp) (fun k hk => by cases hk)
  apply propext
  constructor
  · rintro ⟨v, hs', h1, h2, h3, h4⟩
    have e := (putAll_same_iff (hp := hp) (L := hs'.map (GB.ren fun j => (reach hp 100 (keysL args) [])[j]?)) r1 r2 (by simp [h2])).mpr h3
    exact ⟨v, hs', h1, h2, e, by rw [e]; exact h4⟩
  · rintro ⟨v, hs', h1, h2, h3, h4⟩
    have e := (putAll_same_iff (hp := hp) (L := hs'.map (GB.ren fun j => (reach hp 100 (keysL args) [])[j]?)) r1 r2 (by simp [h2])).mp h3
    exact ⟨v, hs', h1, h2, e, by rw [h3] at h4; exact h4⟩

def opDrF (P : Program) (forb : List Nat) (pc bad rd : Bool) (wk : Option Nat) (o : Oper) (s : GS) (K : GV → (Nat → Option GB) → Prop) : Prop :=
  match callOf o s.env with
  | some (some (g, args)) => forceL args fun args => bif nilKeysB args pc then callXF P s.hp g args K else (bif !bad && clearOf forb (ment s.hp args) then (bif rd then callXR P s.hp g args K else callXF P s.hp g args K) else False)
  | some none => False
  | none => bif storeOk wk o s.env && msOk pc o s.env then stepD P forb o s K else False
theorem opDrF_eq (P : Program) (forb : List Nat) (pc bad rd : Bool) (wk : Option Nat) (o : Oper) (s : GS) (K : GV → (Nat → Option GB) → Prop) : opDrF P forb pc bad rd wk o s K = opDr P forb pc bad rd wk o s K := by
  unfold opDrF opDr
  simp only [forceL_eq, callXF_eq, callXR_eq, stepD_eq, Out.wpF_eq]
  generalize callOf o s.env = c
  rcases c with _ | _ | ⟨g, args⟩
  · show (bif storeOk wk o s.env && msOk pc o s.env then (opOutD P forb o s).wp0 s.hp K else False) = ((storeOk wk o s.env = true ∧ msOk pc o s.env = true) ∧ (opOutD P forb o s).wp0 s.hp K)
    cases storeOk wk o s.env <;> cases msOk pc o s.env <;> simp
  · rfl
  · show (bif nilKeysB args pc then callX P s.hp g args K else (bif !bad && clearOf forb (ment s.hp args) then (bif rd then callX P s.hp g args (fun v hp' => hp' = s.hp ∧ K v hp') else callX P s.hp g args K) else False)) = callX P s.hp g args fun v hp' => CallOk forb pc bad rd s.hp args hp' ∧ K v hp'
    have e1 := nilKeysB_eq args pc
    cases hn : nilKeysB args pc with
    | true =>
      have h1 : nilKeys args pc := by rw [← e1, hn]
      simp only [cond_true]
      congr 1; funext v hp'
      exact propext ⟨fun h => ⟨.inl h1, h⟩, fun h => h.2⟩
    | false =>
      have h1 : ¬ nilKeys args pc := by rw [← e1, hn]; simp
      simp only [cond_false]
      cases hb : (!bad && clearOf forb (ment s.hp args)) with
      | false =>
        simp only [cond_false]
        apply propext
        constructor
        · intro h; exact h.elim
        · rintro ⟨v, hs', _, _, h | ⟨h2, h3, _⟩, _⟩
          · exact h1 h
          · rw [h2, h3] at hb; cases hb
      | true =>
        simp only [Bool.and_eq_true, Bool.not_eq_true'] at hb
        simp only [cond_true]
        cases rd with
        | false =>
          simp only [cond_false]
          congr 1; funext v hp'
          exact propext ⟨fun h => ⟨.inr ⟨hb.1, hb.2, fun e => by cases e⟩, h⟩, fun h => h.2⟩
        | true =>
          simp only [cond_true]
          congr 1; funext v hp'
          refine propext ⟨fun h => ⟨.inr ⟨hb.1, hb.2, fun _ => h.1⟩, h.2⟩, fun h => ⟨?_, h.2⟩⟩
          rcases h.1 with h | ⟨_, _, h⟩
          · exact (h1 h).elim
          · exact h rfl

def finF (N : Nat) (src : Bool) (dst : Option Tmp) (env : Nat → GV) (K : GS → Prop) (x : GV) (hp : Nat → Option GB) : Prop :=
  match dst with
  | none => K ⟨env, hp⟩
  | some d => bif Nat.blt d N then (bif src then (match x with
      | .v (.bool b) => Br b (K ⟨setE env d (.v (.bool true)), hp⟩) (K ⟨setE env d (.v (.bool false)), hp⟩)
      | x => K ⟨setE env d x, hp⟩) else K ⟨setE env d x, hp⟩) else False
theorem finF_eq {N : Nat} {src : Bool} {dst : Option Tmp} {env : Nat → GV} {K : GS → Prop} {x : GV} {hp : Nat → Option GB} : finF N src dst env K x hp = finK N src dst env K x hp := by
  unfold finF finK
  simp only [Br_eq]
  rfl

def srcsOf : List Oper → List Nat
  | [] => []
  | o :: r => match o.guard with
    | some (j, _) => j :: srcsOf r
    | none => srcsOf r
theorem srcsOf_eq (i : Nat) : ∀ (l : List Oper), (srcsOf l).any (fun j => Nat.beq j i) = isSrc l i
  | [] => rfl
  | o :: r => by
    unfold srcsOf isSrc
    rw [List.any_cons]
    split
    · rename_i j b hg
      rw [List.any_cons, srcsOf_eq i r, hg]; rfl
    · rename_i hg
      rw [srcsOf_eq i r, hg]; rfl

def goOpsF (P : Program) (N : Nat) (all : List Oper) (srcs : List Nat) (i : Nat) (l : List Oper) (s : GS) (K : GS → Prop) : Prop :=
  List.rec (motive := fun _ => Nat → GS → Prop) (fun _ s => K s)
    (fun o _ ih i s => match s with
      | ⟨env, hp⟩ => match wantedG all env o with
        | some true => opWpF P o ⟨env, hp⟩ (finF N (srcs.any fun j => Nat.beq j i) o.dst env (ih (i + 1)))
        | some false => finF N false o.dst env (ih (i + 1)) (.tup []) hp
        | none => False) l i s
theorem goOpsF_nil {P : Program} {N : Nat} {all : List Oper} {srcs : List Nat} {i : Nat} {s : GS} {K : GS → Prop} : goOpsF P N all srcs i [] s K = K s := rfl
theorem goOpsF_cons {P : Program} {N : Nat} {all : List Oper} {srcs : List Nat} {i : Nat} {o : Oper} {r : List Oper} {s : GS} {K : GS → Prop} : goOpsF P N all srcs i (o :: r) s K = (match wantedG all s.env o with
    | some true => opWpF P o s (finF N (srcs.any fun j => Nat.beq j i) o.dst s.env fun s' => goOpsF P N all srcs (i + 1) r s' K)
    | some false => finF N false o.dst s.env (fun s' => goOpsF P N all srcs (i + 1) r s' K) (.tup []) s.hp
    | none => False) := rfl
theorem goOpsF_eq {P : Program} {N : Nat} {all : List Oper} : ∀ {l : List Oper} {i : Nat} {s : GS} {K : GS → Prop}, goOpsF P N all (srcsOf all) i l s K = goOps P N all i l s K
  | [], i, s, K => rfl
  | o :: r, i, s, K => by
    rw [goOpsF_cons]
    unfold goOps
    have e : ∀ b, finF N b o.dst s.env (fun s' => goOpsF P N all (srcsOf all) (i + 1) r s' K) = finK N b o.dst s.env fun s' => goOps P N all (i + 1) r s' K := by
      intro b; funext x hp; rw [finF_eq]; congr 1; funext s'; exact goOpsF_eq
    simp only [opWpF_eq, e, srcsOf_eq]
    rfl

def regF (P : Program) (N : Nat) (ops : List Oper) (s : GS) (K : GS → Prop) : Prop := forceN (srcsOf ops) fun srcs => goOpsF P N ops srcs 0 ops s K
theorem regF_eq {P : Program} {N : Nat} {ops : List Oper} {s : GS} {K : GS → Prop} : regF P N ops s K = goOps P N ops 0 ops s K := by
  unfold regF; rw [forceN_eq, goOpsF_eq]

def makers : Nat → List Oper → List (Nat × Nat)
  | _, [] => []
  | i, o :: r => bif makes o then (i, 100 + o.dst.getD 0) :: makers (i + 1) r else makers (i + 1) r
def forbF (ms : List Nat) (j : Nat) : List (Nat × Nat) → List Nat
  | [] => []
  | (i, k) :: r => bif unord ms i j then k :: forbF ms j r else forbF ms j r
theorem forbF_eq (ms : List Nat) (j : Nat) : ∀ (i : Nat) (l : List Oper), forbF ms j (makers i l) = forbOf ms j i l
  | _, [] => rfl
  | i, o :: r => by
    unfold makers forbOf
    cases hm : makes o with
    | false => simp only [cond_false, Bool.false_and]; exact forbF_eq ms j (i + 1) r
    | true =>
      simp only [cond_true, Bool.true_and]
      unfold forbF
      rw [forbF_eq ms j (i + 1) r]

def goDrF (P : Program) (N : Nat) (all : List Oper) (ms : List Nat) (wl : List (Nat × Nat)) (mk : List (Nat × Nat)) (srcs : List Nat) (i : Nat) (l : List Oper) (s : GS) (K : GS → Prop) : Prop :=
  List.rec (motive := fun _ => Nat → GS → Prop) (fun _ s => K s)
    (fun o _ ih i s => match s with
      | ⟨env, hp⟩ => match wantedG all env o with
        | some true => opDrF P (forbW ms i wl ++ forbF ms i mk) (pcOf ms i 0 all) (badOf ms i 0 all) (rdOf ms i 0 all) (wGet wl i) o ⟨env, hp⟩ (finF N (srcs.any fun j => Nat.beq j i) o.dst env (ih (i + 1)))
        | some false => finF N false o.dst env (ih (i + 1)) (.tup []) hp
        | none => False) l i s
theorem goDrF_cons {P : Program} {N : Nat} {all : List Oper} {ms : List Nat} {wl : List (Nat × Nat)} {mk : List (Nat × Nat)} {srcs : List Nat} {i : Nat} {o : Oper} {r : List Oper} {s : GS} {K : GS → Prop} : goDrF P N all ms wl mk srcs i (o :: r) s K = (match wantedG all s.env o with
    | some true => opDrF P (forbW ms i wl ++ forbF ms i mk) (pcOf ms i 0 all) (badOf ms i 0 all) (rdOf ms i 0 all) (wGet wl i) o s (finF N (srcs.any fun j => Nat.beq j i) o.dst s.env fun s' => goDrF P N all ms wl mk srcs (i + 1) r s' K)
    | some false => finF N false o.dst s.env (fun s' => goDrF P N all ms wl mk srcs (i + 1) r s' K) (.tup []) s.hp
    | none => False) := rfl
theorem goDrF_eq {P : Program} {N : Nat} {all : List Oper} {ms : List Nat} {wl : List (Nat × Nat)} : ∀ {l : List Oper} {i : Nat} {s : GS} {K : GS → Prop}, goDrF P N all ms wl (makers 0 all) (srcsOf all) i l s K = goDr P N all ms wl i l s K
  | [], i, s, K => rfl
  | o :: r, i, s, K => by
    rw [goDrF_cons]
    unfold goDr
    have e : ∀ b, finF N b o.dst s.env (fun s' => goDrF P N all ms wl (makers 0 all) (srcsOf all) (i + 1) r s' K) = finK N b o.dst s.env fun s' => goDr P N all ms wl (i + 1) r s' K := by
      intro b; funext x hp; rw [finF_eq]; congr 1; funext s'; exact goDrF_eq
    simp only [opDrF_eq, e, srcsOf_eq, forbF_eq]
    rfl

def drF (P : Program) (N : Nat) (ops : List Oper) (s : GS) (K : GS → Prop) : Prop := forceN (srcsOf ops) fun srcs => forceN (makers 0 ops) fun mk => forceN (wOf ops s.env 0 ops) fun wl => Need (drawOk ops wl = true) (goDrF P N ops (masks ops) wl mk srcs 0 ops s K)
theorem drF_eq {P : Program} {N : Nat} {ops : List Oper} {s : GS} {K : GS → Prop} : drF P N ops s K = goDraw P N ops 0 ops s K := by
  unfold drF goDraw; rw [forceN_eq, forceN_eq, forceN_eq, Need_eq, goDrF_eq]

end Go.Gh
