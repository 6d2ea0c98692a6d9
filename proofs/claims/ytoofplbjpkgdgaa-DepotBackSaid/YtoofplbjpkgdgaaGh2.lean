/- Ghost values and walks, bundle Gh2; proved for whatever the arguments' types allow, as each theorem says. -/
import Derived.Test.YtoofplbjpkgdgaaGh1

/- Ghost operations that make no memory: the machine's operation comes to the same value, in the same world. -/
set_option linter.unusedVariables false
set_option linter.unusedSimpArgs false
namespace Go.Gh

def pickO (c a b : GV) : Out := match c with
  | .v (.bool c) => (match a, b with
    | .v (.bool x), .v (.bool y) => .val (.v (.bool (bif c then x else y)))
    | a, b => bif c then .val a else .val b)
  | _ => .bad

def rowPart (ag : Bool) (sz : Nat) (cs : List GV) (off : Nat) : Out :=
  bif ag then (bif Nat.ble (off + sz) cs.length then .val (.agg ((cs.drop off).take sz)) else .bad)
  else match cs[off]? with
    | some c => .val c
    | none => .bad

def cellsAt (forb : List Nat) (hp : Nat → Option GB) : GV → Option (List GV × Nat)
  | .ptr k off => bif forb.elem k then none else (match hp k with
    | some (.cells cs) => some (cs, off)
    | _ => none)
  | .ref cs off => some (cs, off)
  | _ => none

def loadC (P : Program) (forb : List Nat) (hp : Nat → Option GB) (t : TypeId) (a : GV) : Out :=
  match tAgg P t, tSize P t, cellsAt forb hp a with
  | some ag, some sz, some (cs, off) => rowPart ag sz cs off
  | _, _, _ => .bad

/-- Cell j of an element of the frame's own slice. -/
def loadM (P : Program) (forb : List Nat) (hp : Nat → Option GB) (t : TypeId) (k ver : Nat) (i : Int) (j : Nat) : Out :=
  bif forb.elem k then .bad else (match tAgg P t, tSize P t, hp k with
    | some ag, some sz, some (.mvec _ _ xs v) => .need (v = ver) (.elem xs i fun x => rowPart ag sz x.cells j)
    | _, _, _ => .bad)

def loadO (P : Program) (forb : List Nat) (hp : Nat → Option GB) (t : TypeId) (a : GV) : Out :=
  match a with
  | .mptr k ver i j => loadM P forb hp t k ver i j
  | a => loadC P forb hp t a

def shiftO (a : GV) (n : Nat) : Out := match a with
  | .ptr k off => .val (.ptr k (off + n))
  | .ref cs off => .val (.ref cs (off + n))
  | .mptr k ver i j => .val (.mptr k ver i (j + n))
  | _ => .bad

def fieldAddrO (P : Program) (t : TypeId) (a : GV) (i : Nat) : Out :=
  match P.underlying t with
  | some (.struct fs) => (match fs.toList[i]? with
    | some f => (match tSize P f.type with
      | some (_ + 1) => shiftO a f.offset
      | _ => .bad)
    | none => .bad)
  | _ => .bad

def fieldO (P : Program) (t : TypeId) (x : GV) (i : Nat) : Out :=
  match P.underlying t, x with
  | some (.struct fs), .agg cs => (match fs.toList[i]? with
    | some f => (match tAgg P f.type, tSize P f.type with
      | some ag, some sz => rowPart ag sz cs f.offset
      | _, _ => .bad)
    | none => .bad)
  | _, _ => .bad

def indexAddrO (P : Program) (t : TypeId) (x i : GV) : Out :=
  match P.underlying t, i with
  | some (.slice e), .v (.int _ i) => (match x, tSize P e with
    | .list es xs _, some sz => bif Nat.beq es sz then .elem xs i fun y => .val (.ref y.cells 0) else .bad
    | .ms es k ver n, some sz => bif Nat.beq es sz then .need (0 ≤ i ∧ i < (n : Int)) (.val (.mptr k ver i 0)) else .bad
    | .mview es k ver lo n, some sz => bif Nat.beq es sz then .need (0 ≤ lo ∧ 0 ≤ i ∧ i < n) (.val (.mptr k ver (lo + i) 0)) else .bad
    | _, _ => .bad)
  | some (.array n e), .v (.int _ i) => (match tSize P e with
    | some sz => .need (0 ≤ i ∧ i < (n : Int)) (shiftO x (i.toNat * sz))
    | none => .bad)
  | _, _ => .bad

def indexO (P : Program) (t : TypeId) (x i : GV) : Out :=
  match P.underlying t, x, i with
  | some (.array n e), .agg cs, .v (.int _ i) => (match tAgg P e, tSize P e with
    | some ag, some sz => .need (0 ≤ i ∧ i < (n : Int)) (rowPart ag sz cs (i.toNat * sz))
    | _, _ => .bad)
  | some .string, .v (.string s), .v (.int _ i) => .need (0 ≤ i ∧ i < (s.size : Int)) (.val (.v (.int .u8 (s.data.toList.getD i.toNat 0).toNat)))
  | _, _, _ => .bad

def extractO (x : GV) (i : Nat) : Out := match x with
  | .tup vs => (match vs[i]? with
    | some v => .val v
    | none => .bad)
  | _ => .bad

def intO (op : BinOp) (k : IntKind) (a b : Int) : Out :=
  match op with
  | .add => .val (.v (.int k (k.wrap (a + b))))
  | .sub => .val (.v (.int k (k.wrap (a - b))))
  | .mul => .val (.v (.int k (k.wrap (a * b))))
  | .quo => .need (b ≠ 0) (.val (.v (.int k (k.wrap (a.tdiv b)))))
  | .rem => .need (b ≠ 0) (.val (.v (.int k (a.tmod b))))
  | .and => .val (.v (.int k (k.wrap (BitVec.ofInt k.bits a &&& BitVec.ofInt k.bits b).toNat)))
  | .or => .val (.v (.int k (k.wrap (BitVec.ofInt k.bits a ||| BitVec.ofInt k.bits b).toNat)))
  | .xor => .val (.v (.int k (k.wrap (BitVec.ofInt k.bits a ^^^ BitVec.ofInt k.bits b).toNat)))
  | .andNot => .val (.v (.int k (k.wrap (BitVec.ofInt k.bits a &&& ~~~ (BitVec.ofInt k.bits b)).toNat)))
  | .eql => .val (.v (.bool (a == b)))
  | .neq => .val (.v (.bool (a != b)))
  | .lss => .val (.v (.bool (decide (a < b))))
  | .leq => .val (.v (.bool (decide (a ≤ b))))
  | .gtr => .val (.v (.bool (decide (b < a))))
  | .geq => .val (.v (.bool (decide (b ≤ a))))
  | _ => .bad

/-- All cells are the same: whole numbers, bools, texts. -/
def sameCells : List GV → List GV → Option Bool
  | [], [] => some true
  | .v (.int _ a) :: xs, .v (.int _ b) :: ys => (sameCells xs ys).map (a == b && ·)
  | .v (.bool a) :: xs, .v (.bool b) :: ys => (sameCells xs ys).map (a == b && ·)
  | _, _ => none

/-- A type whose values are compared cell by cell. -/
def plainT (P : Program) : Nat → TypeId → Bool
  | 0, _ => false
  | d + 1, t => match P.underlying t with
    | some (.int _) => true
    | some .bool => true
    | some (.struct fs) => !P.stoodInHeld t && !P.eqGuardType P.depth t && fs.toList.all fun f => f.name != "_" && plainT P d f.type
    | _ => false

def shiftG (op : BinOp) (k : IntKind) (a b : Int) : Out :=
  match op with
  | .shl => .need (0 ≤ b) (.val (.v (.int k (k.wrap (a * 2 ^ (min b.toNat k.bits))))))
  | .shr => .need (0 ≤ b) (.val (.v (.int k (a.fdiv (2 ^ (min b.toNat k.bits))))))
  | _ => .bad

def isShift : BinOp → Bool
  | .shl => true
  | .shr => true
  | _ => false

def nilCmp (P : Program) (op : BinOp) (t : TypeId) (b : Bool) : Out :=
  match P.underlying t, op with
  | some (.slice _), .eql => .val (.v (.bool b))
  | some (.slice _), .neq => .val (.v (.bool !b))
  | _, _ => .bad

def binO (P : Program) (op : BinOp) (t : TypeId) (x y : GV) : Out :=
  match x, y with
  | .v (.int k a), .v (.int k' b) => bif isShift op then shiftG op k a b else (if k = k' then intO op k a b else .bad)
  | .v (.bool a), .v (.bool b) => (match P.underlying t, op with
    | some .bool, .eql => .val (.v (.bool (a == b)))
    | some .bool, .neq => .val (.v (.bool (!(a == b))))
    | _, _ => .bad)
  | .v (.string a), .v (.string b) => (match op with
    | .eql => .val (.v (.bool (a.toList == b.toList)))
    | .neq => .val (.v (.bool !(a.toList == b.toList)))
    | _ => .bad)
  | .ptr _ _, .v (.pointer none) => (match P.underlying t, op with
    | some (.pointer _), .eql => .val (.v (.bool false))
    | some (.pointer _), .neq => .val (.v (.bool true))
    | _, _ => .bad)
  | .v (.pointer none), .v (.pointer none) => (match P.underlying t, op with
    | some (.pointer _), .eql => .val (.v (.bool true))
    | some (.pointer _), .neq => .val (.v (.bool false))
    | _, _ => .bad)
  | .ref _ _, .v (.pointer none) => (match P.underlying t, op with
    | some (.pointer _), .eql => .val (.v (.bool false))
    | some (.pointer _), .neq => .val (.v (.bool true))
    | _, _ => .bad)
  | .list _ (_ :: _) _, .v (.slice none 0 0) => nilCmp P op t false
  | .emp, .v (.slice none 0 0) => nilCmp P op t false
  | .v (.slice none 0 0), .v (.slice none 0 0) => nilCmp P op t true
  | _, _ => .bad

def unO (op : UnOp) (x : GV) : Out :=
  match op, x with
  | .neg, .v (.int k n) => .val (.v (.int k (k.wrap (0 - n))))
  | .not, .v (.bool b) => .val (.v (.bool !b))
  | _, _ => .bad

def convO (P : Program) (t : TypeId) (x : GV) : Out :=
  match P.underlying t, x with
  | some (.int k), .v (.int _ n) => .val (.v (.int k (k.wrap n)))
  | some .string, .v (.string s) => .val (.v (.string s))
  | _, _ => .bad

def nilO : GV → Out
  | .ptr k off => .val (.ptr k off)
  | .ref cs off => .val (.ref cs off)
  | .fn (.func f) a b => .val (.fn (.func f) a b)
  | _ => .bad

def ifaceO (P : Program) (t : TypeId) (x : GV) : Out :=
  bif P.concrete t then .val (.iface t x) else .bad

/-! ### The machine does the same -/
section
variable {P : Program} {w : World} {I : Nat → Nat → Prop} {T : Tab}

theorem cgv_ok (x : Value) : VR w I T (cgv x) x := by
  cases x <;> try exact .v _ rfl
  case agg cs =>
    simp only [cgv]
    cases hc : cs.toList.all Value.oneCell' with
    | false => exact .dead _
    | true =>
      refine .agg (by simp) (fun i r hr => ?_) fun i c r hc' hr => ?_
      · exact (List.all_eq_true.1 hc) r (by simpa using Array.mem_of_getElem? hr)
      · simp only [List.getElem?_map, Option.map_eq_some_iff] at hc'
        obtain ⟨y, hy, rfl⟩ := hc'
        have : y = r := by simpa [hr] using hy.symm
        subst this
        exact .v _ ((List.all_eq_true.1 hc) y (by simpa using Array.mem_of_getElem? hr))
  case tuple vs => exact .dead _

theorem gev_ok {env : Nat → GV} {a : Act} (h : ∀ t, VR w I T (env t) (a.tmps.getD t undef)) (x : Operand) : VR w I T (gev env x) (a.eval x) := by
  cases x with
  | tmp t => exact h t
  | const v => exact cgv_ok v
  | global g => exact .dead _
  | func f => exact .fn rfl rfl (fun i c r hc => by simp at hc) fun i c r hc => by simp at hc

theorem VR.bool_inv {b : Bool} {r : Value} (h : VR w I T (.v (.bool b)) r) : r = .bool b := by cases h; rfl
theorem VR.v_inv {x : Value} {r : Value} (h : VR w I T (.v x) r) : r = x := by cases h; rfl

theorem pickO_ok {c a b x : GV} {u : Option (Nat × GB)} {rc ra rb : Value} (hc : VR w I T c rc) (ha : VR w I T a ra) (hb : VR w I T b rb) (h : (pickO c a b).eff x u) :
    u = none ∧ ∃ r, (do pure (Next.value (if ← asBool rc then ra else rb)) : Sem Next).run P w = .ok (.value r) w ∧ VR w I T x r := by
  unfold pickO at h
  split at h
  · rename_i cb
    cases hc.v_inv
    split at h
    · rename_i xb yb
      obtain ⟨rfl, rfl⟩ := h
      cases ha.v_inv; cases hb.v_inv
      refine ⟨rfl, _, by simp [asBool]; rfl, ?_⟩
      cases cb <;> exact .v _ rfl
    · cases cb <;> (obtain ⟨rfl, rfl⟩ := h; exact ⟨rfl, _, by simp [asBool]; rfl, by simpa⟩)
  · exact h.elim

theorem rowPart_ok {ag : Bool} {sz off : Nat} {cs : List GV} {x : GV} {u : Option (Nat × GB)} {rs : Array Value} (hl : rs.size = cs.length) (h1 : ∀ (i : Nat) (r : Value), rs[i]? = some r → r.oneCell' = true)
    (hv : ∀ (i : Nat) (c : GV) (r : Value), cs[i]? = some c → rs[i]? = some r → VR w I T c r) (h : (rowPart ag sz cs off).eff x u) :
    u = none ∧ (ag = true → off + sz ≤ cs.length ∧ VR w I T x (.agg (rs.extract off (off + sz)))) ∧ (ag = false → ∃ r, rs[off]? = some r ∧ VR w I T x r) := by
  unfold rowPart at h
  cases ag with
  | true =>
    simp only [cond_true] at h
    cases hb : Nat.ble (off + sz) cs.length with
    | false => rw [hb] at h; exact h.elim
    | true =>
      rw [hb] at h
      obtain ⟨rfl, rfl⟩ := h
      have hle : off + sz ≤ cs.length := Nat.le_of_ble_eq_true hb
      refine ⟨rfl, fun _ => ⟨hle, .agg ?_ (fun i r hr => ?_) fun i c r hc hr => ?_⟩, by simp⟩
      · simp; omega
      · rw [Array.getElem?_extract] at hr
        split at hr
        · exact h1 _ _ hr
        · cases hr
      · rw [Array.getElem?_extract] at hr
        split at hr
        · rw [List.getElem?_take, List.getElem?_drop] at hc
          split at hc
          · exact hv _ _ _ hc hr
          · cases hc
        · cases hr
  | false =>
    simp only [cond_false] at h
    split at h
    · rename_i c hc
      obtain ⟨rfl, rfl⟩ := h
      have hlt : off < cs.length := (List.getElem?_eq_some_iff.1 hc).1
      refine ⟨rfl, by simp, fun _ => ⟨rs[off]'(by omega), by simp [hl, hlt], hv off _ _ hc (by simp [hl, hlt])⟩⟩
    · exact h.elim

theorem tSize_run {t : TypeId} {n : Nat} (h : tSize P t = some n) : (sizeOf t).run P w = .ok n w := by
  unfold tSize at h
  split at h
  · rename_i i hi
    cases h
    simp [sizeOf, typeInfo, hi]
  · cases h

theorem tAgg_run {t : TypeId} {b : Bool} (h : tAgg P t = some b) : (isAgg t).run P w = .ok b w := by
  unfold tAgg at h
  unfold isAgg
  split at h
  · rename_i hu; cases h; simp [run_underlying hu]
  · rename_i hu; cases h; simp [run_underlying hu]
  · rename_i d h1 h2 hu
    cases h
    simp only [Sem.run_bind, run_underlying hu, Result.andThen_ok]
    rfl
  · cases h

/-- What an address reads. -/
theorem cellsAt_ok {forb : List Nat} {hp : Nat → Option GB} {a : GV} {ra : Value} {cs : List GV} {off : Nat} (hr : HR P w I T hp) (ha : VR w I T a ra) (h : cellsAt forb hp a = some (cs, off)) :
    ∃ b o, ∃ row : Nat → Value, ra = .pointer (some ⟨b, o + off, none⟩) ∧ (∀ j, j < cs.length → w.cell? ⟨b, o + j, none⟩ = some (row j) ∧ (row j).oneCell' = true) ∧
      (∀ (j : Nat) (c : GV), cs[j]? = some c → VR w I T c (row j)) := by
  unfold cellsAt at h
  split at h
  · rename_i k off'
    cases hf : forb.elem k with
    | true => rw [hf] at h; cases h
    | false =>
      rw [hf] at h
      simp only [cond_false] at h
      split at h
      · rename_i cs' hk
        cases h
        cases ha with
        | @ptr _ _ n _ hT =>
          obtain ⟨n', row, ty, e1, e2, e3, e4, e5⟩ := hr.cells k _ hk
          rw [hT] at e1; cases e1
          refine ⟨n, 0, fun j => row.getD j undef, by simp, fun j hj => ?_, fun j c hc => ?_⟩
          · have hj' : j < row.size := by omega
            rw [Nat.zero_add, cell_of_row w _ j row ty (0, 0) e2]
            refine ⟨by simp [hj'], ?_⟩
            exact e4 j _ (by simp [hj'])
          · have hj' : j < row.size := by have := (List.getElem?_eq_some_iff.1 hc).1; omega
            exact e5 j c _ hc (by simp [hj'])
      · cases h
  · cases h
    cases ha with
    | ref b o row hcell hrel =>
      refine ⟨b, o, row, rfl, fun j hj => ⟨(hcell j hj).2.1, (hcell j hj).2.2⟩, fun j c hc => (hrel j c hc).mono (ILe.refl w I) (TLe.none T)⟩
  · cases h

theorem loadC_ok {forb : List Nat} {hp : Nat → Option GB} {t : TypeId} {a x : GV} {u : Option (Nat × GB)} {ra : Value} (hr : HR P w I T hp) (ha : VR w I T a ra) (h : (loadC P forb hp t a).eff x u) :
    u = none ∧ ∃ r, (Instr.loadAt t ra).run P w = .ok r w ∧ VR w I T x r := by
  unfold loadC at h
  split at h
  · rename_i ag sz cs off hag hsz hca
    obtain ⟨b, o, row, rfl, hcell, hrel⟩ := cellsAt_ok hr ha hca
    have hl : (((List.range cs.length).map row).toArray : Array Value).size = cs.length := by simp
    have hrow : ∀ (i : Nat) (r : Value), (((List.range cs.length).map row).toArray : Array Value)[i]? = some r → i < cs.length ∧ r = row i := by
      intro i r hi
      simp only [List.getElem?_toArray, List.getElem?_map, Option.map_eq_some_iff] at hi
      obtain ⟨j, hj, rfl⟩ := hi
      obtain ⟨hj1, hj2⟩ := List.getElem?_eq_some_iff.1 hj
      simp at hj1 hj2
      exact ⟨by omega, by rw [← hj2]⟩
    obtain ⟨hu, h1, h2⟩ := rowPart_ok (rs := ((List.range cs.length).map row).toArray) hl (fun i r hi => by
      obtain ⟨hi', rfl⟩ := hrow i r hi; exact (hcell i hi').2) (fun i c r hc hi => by obtain ⟨hi', rfl⟩ := hrow i r hi; exact hrel i c hc) h
    refine ⟨hu, ?_⟩
    cases ag with
    | true =>
      obtain ⟨hle, hv⟩ := h1 rfl
      refine ⟨_, ?_, hv⟩
      have hlc := run_loadCells (P := P) w ⟨b, o + off, none⟩ sz (fun j => row (off + j)) (fun j hj => by
        rw [Addr.add_lit, Nat.add_assoc]; exact (hcell (off + j) (by omega)).1)
      simp only [Instr.loadAt, Instr.sureAddr, loadVar, Sem.run_bind, Sem.run_pure, Result.andThen_ok, tAgg_run hag, tSize_run hsz, hlc, if_true]
      congr 2
      apply Array.ext
      · simp; omega
      · intro i h1 h2
        simp
    | false =>
      obtain ⟨r, hr', hv⟩ := h2 rfl
      obtain ⟨hi', rfl⟩ := hrow _ _ hr'
      refine ⟨_, ?_, hv⟩
      simp [Instr.loadAt, Instr.sureAddr, loadVar, tAgg_run hag, (hcell off hi').1]
  · exact h.elim

/-- The cells of an element of the frame's own slice. -/
theorem mvec_elem {hp : Nat → Option GB} {k e es v : Nat} {xs : List GV} {i : Int} {x : GV} (hr : HR P w I T hp) (hk : hp k = some (.mvec e es xs v)) (h0 : 0 ≤ i) (hx : xs[i.toNat]? = some x) :
    ∃ g c ys, T k = some (.mvec (.slice (some ⟨g, 0, none⟩) xs.length c) es v) ∧ w.ownsRow 0 e es (.slice (some ⟨g, 0, none⟩) xs.length c) xs.length ys ∧ x.cells.length = es ∧ x.sane = true ∧
      (∀ j, j < es → ∃ y, ys[i.toNat * es + j]? = some y ∧ w.cell? ⟨g, i.toNat * es + j, none⟩ = some y ∧ y.oneCell' = true) ∧
      (∀ (j : Nat) (c : GV), x.cells[j]? = some c → ∃ y, ys[i.toNat * es + j]? = some y ∧ VR w I (fun _ => none) c y) := by
  obtain ⟨u, ys, inf, h1, h2, h3, h4, h5, h6, h7⟩ := hr.mvec k e es xs v hk
  have hlt := (List.getElem?_eq_some_iff.1 hx).1
  have hxm := h6 x (List.mem_of_getElem? hx)
  have hu : ∃ g c, u = .slice (some ⟨g, 0, none⟩) xs.length c := by
    rcases h4.2 with ⟨hn, h0'⟩ | ⟨g, cap, cur, hu, _⟩
    · exfalso
      rw [hn] at *
      omega
    · exact ⟨g, cap, hu⟩
  obtain ⟨g, c, rfl⟩ := hu
  refine ⟨g, c, ys, h1, h4, hxm.1, hxm.2, fun j hj => ?_, fun j c hc => h7 _ _ _ _ hx hc⟩
  have hl : i.toNat * es + j < ys.length := by
    rw [h4.1]
    calc i.toNat * es + j < i.toNat * es + es := by omega
      _ = (i.toNat + 1) * es := by rw [Nat.add_mul, Nat.one_mul]
      _ ≤ xs.length * es := Nat.mul_le_mul_right _ hlt
  have hg : ys[i.toNat * es + j]? = some ys[i.toNat * es + j] := by simp [hl]
  have hc := h4.cells (g := g) rfl (i.toNat * es + j) ys[i.toNat * es + j] hg
  rw [Addr.add_lit, Nat.zero_add] at hc
  exact ⟨_, hg, hc, h5 _ (List.mem_of_getElem? hg)⟩

theorem loadM_ok {forb : List Nat} {hp : Nat → Option GB} {t : TypeId} {k ver : Nat} {i : Int} {j : Nat} {x : GV} {u : Option (Nat × GB)} {ra : Value} (hr : HR P w I T hp) (ha : VR w I T (.mptr k ver i j) ra) (h : (loadM P forb hp t k ver i j).eff x u) :
    u = none ∧ ∃ r, (Instr.loadAt t ra).run P w = .ok r w ∧ VR w I T x r := by
  unfold loadM at h
  cases hf : forb.elem k with
  | true => rw [hf] at h; exact h.elim
  | false =>
    rw [hf] at h
    simp only [cond_false] at h
    split at h
    · rename_i ag sz e es xs v hag hsz hk
      obtain ⟨rfl, y, h0, hy, h⟩ := h
      obtain ⟨g, c, ys, hT, hown, hl, hsn, hcell, hrel⟩ := mvec_elem hr hk h0 hy
      cases ha with
      | mptr hT' hle hs hra =>
        rw [hT] at hT'; cases hT'
        obtain ⟨g', n', c', hu, rfl⟩ := hra rfl
        cases hu
        have hrow : ∀ (q : Nat) (r : Value), ((ys.drop (i.toNat * es)).take es).toArray[q]? = some r → q < es ∧ ys[i.toNat * es + q]? = some r := by
          intro q r hq
          simp only [List.getElem?_toArray] at hq
          rw [List.getElem?_take] at hq
          split at hq
          · rw [List.getElem?_drop] at hq; exact ⟨‹_›, hq⟩
          · cases hq
        have hsize : ((ys.drop (i.toNat * es)).take es).toArray.size = y.cells.length := by
          rw [hl]
          have hlt := (List.getElem?_eq_some_iff.1 hy).1
          have h9 := Nat.mul_le_mul_right es (show i.toNat + 1 ≤ xs.length from hlt)
          rw [Nat.add_mul, Nat.one_mul] at h9
          simp only [List.size_toArray, List.length_take, List.length_drop, hown.1]
          omega
        obtain ⟨hu, h1, h2⟩ := rowPart_ok (w := w) (I := I) (T := T) (rs := ((ys.drop (i.toNat * es)).take es).toArray) hsize (fun q r hq => by
          obtain ⟨hq1, hq2⟩ := hrow q r hq
          obtain ⟨y', e1, _, e3⟩ := hcell q hq1
          rw [e1] at hq2; cases hq2; exact e3) (fun q c r hc hq => by
          obtain ⟨hq1, hq2⟩ := hrow q r hq
          obtain ⟨y', e1, e2⟩ := hrel q c hc
          rw [e1] at hq2; cases hq2
          exact e2.mono (ILe.refl w I) (TLe.none T)) h
        refine ⟨hu, ?_⟩
        cases ag with
        | true =>
          obtain ⟨hle', hv⟩ := h1 rfl
          rw [hl] at hle'
          refine ⟨_, ?_, hv⟩
          have hlc := run_loadCells (P := P) w ⟨g, i.toNat * es + j, none⟩ sz (fun q => ys.getD (i.toNat * es + (j + q)) undef) (fun q hq => by
            obtain ⟨y', e1, e2, _⟩ := hcell (j + q) (by omega)
            rw [Addr.add_lit, Nat.add_assoc, e2]
            simp [List.getD, e1])
          simp only [Instr.loadAt, Instr.sureAddr, loadVar, Sem.run_bind, Sem.run_pure, Result.andThen_ok, tAgg_run hag, tSize_run hsz, hlc, if_true]
          congr 2
          apply Array.ext
          · simp only [List.size_toArray, List.length_map, List.length_range, Array.size_extract, List.length_take, List.length_drop, hown.1]
            have hlt := (List.getElem?_eq_some_iff.1 hy).1
            have h9 := Nat.mul_le_mul_right es (show i.toNat + 1 ≤ xs.length from hlt)
            rw [Nat.add_mul, Nat.one_mul] at h9
            omega
          · intro q h1 h2
            simp only [List.size_toArray, List.length_map, List.length_range] at h1
            obtain ⟨y', e1, _⟩ := hcell (j + q) (by omega)
            obtain ⟨hq3, hq4⟩ := List.getElem?_eq_some_iff.1 e1
            simp [List.getD, e1, ← hq4, Nat.add_comm q, Nat.add_assoc]
        | false =>
          obtain ⟨r, hr', hv⟩ := h2 rfl
          obtain ⟨hq1, hq2⟩ := hrow _ _ hr'
          obtain ⟨y', e1, e2, _⟩ := hcell j hq1
          rw [e1] at hq2; cases hq2
          refine ⟨_, ?_, hv⟩
          simp [Instr.loadAt, Instr.sureAddr, loadVar, tAgg_run hag, e2]
    · exact h.elim

theorem loadO_ok {forb : List Nat} {hp : Nat → Option GB} {t : TypeId} {a x : GV} {u : Option (Nat × GB)} {ra : Value} (hr : HR P w I T hp) (ha : VR w I T a ra) (h : (loadO P forb hp t a).eff x u) :
    u = none ∧ ∃ r, (Instr.loadAt t ra).run P w = .ok r w ∧ VR w I T x r := by
  unfold loadO at h
  split at h
  · exact loadM_ok hr ha h
  · exact loadC_ok hr ha h

theorem shiftO_ok {a x : GV} {n : Nat} {u : Option (Nat × GB)} {ra : Value} (ha : VR w I T a ra) (h : (shiftO a n).eff x u) :
    u = none ∧ ∃ b o, ra = .pointer (some ⟨b, o, none⟩) ∧ VR w I T x (.pointer (some ⟨b, o + n, none⟩)) := by
  unfold shiftO at h
  split at h
  · obtain ⟨rfl, rfl⟩ := h
    cases ha with
    | ptr hT => exact ⟨rfl, _, _, rfl, .ptr hT⟩
  · obtain ⟨rfl, rfl⟩ := h
    cases ha with
    | ref b o row hcell hrel => exact ⟨rfl, _, _, rfl, by rw [Nat.add_assoc]; exact .ref b o row hcell hrel⟩
  · obtain ⟨rfl, rfl⟩ := h
    cases ha with
    | mptr hT hle hs hra =>
      obtain ⟨b, o, rfl⟩ := hs
      refine ⟨rfl, b, o, rfl, .mptr hT hle ⟨b, o + n, rfl⟩ fun e => ?_⟩
      obtain ⟨g, m, c, h1, h2⟩ := hra e
      simp only [Value.pointer.injEq, Option.some.injEq, Addr.mk.injEq, and_true] at h2
      obtain ⟨rfl, rfl⟩ := h2
      exact ⟨b, m, c, h1, by rw [Nat.add_assoc]⟩
  · exact h.elim

theorem fieldAddrO_ok {t : TypeId} {a x : GV} {i : Nat} {u : Option (Nat × GB)} {ra : Value} (ha : VR w I T a ra) (h : (fieldAddrO P t a i).eff x u) :
    u = none ∧ ∃ r, (Instr.fieldAt t ra i).run P w = .ok r w ∧ VR w I T x r := by
  unfold fieldAddrO at h
  split at h
  · rename_i fs hu
    split at h
    · rename_i f hf
      split at h
      · rename_i n hn
        obtain ⟨e, b, o, rfl, hv⟩ := shiftO_ok ha h
        refine ⟨e, _, ?_, hv⟩
        have hf' : fs[i]? = some f := by simpa using hf
        simp [Instr.fieldAt, run_underlying hu, hf', Instr.sureAddr, fieldPlace, tSize_run hn, Addr.add_lit]
      · exact h.elim
    · exact h.elim
  · exact h.elim

theorem part_ok {t : TypeId} {ag : Bool} {sz off : Nat} {cs : List GV} {rs : Array Value} {x : GV} {u : Option (Nat × GB)} (hag : tAgg P t = some ag) (hsz : tSize P t = some sz)
    (ha : VR w I T (.agg cs) (.agg rs)) (h : (rowPart ag sz cs off).eff x u) : u = none ∧ ∃ r, (part t rs off).run P w = .ok r w ∧ VR w I T x r := by
  cases ha with
  | agg hl h1 hv =>
    obtain ⟨hu, h2, h3⟩ := rowPart_ok hl h1 hv h
    refine ⟨hu, ?_⟩
    cases ag with
    | true => exact ⟨_, by simp [part, tAgg_run hag, tSize_run hsz], (h2 rfl).2⟩
    | false =>
      obtain ⟨r, hr, hv⟩ := h3 rfl
      exact ⟨r, by simp [part, tAgg_run hag, hr], hv⟩

theorem fieldO_ok {t : TypeId} {a x : GV} {i : Nat} {u : Option (Nat × GB)} {ra : Value} (ha : VR w I T a ra) (h : (fieldO P t a i).eff x u) :
    u = none ∧ ∃ r, (Instr.field t ra i).run P w = .ok r w ∧ VR w I T x r := by
  unfold fieldO at h
  split at h
  · rename_i fs cs hu
    split at h
    · rename_i f hf
      split at h
      · rename_i ag sz hag hsz
        cases ha with
        | @agg _ _ rs hl h1 hv =>
          obtain ⟨e, r, hr, hv'⟩ := part_ok (P := P) hag hsz (.agg hl h1 hv) h
          have hf' : fs[i]? = some f := by simpa using hf
          exact ⟨e, r, by simp [Instr.field, run_underlying hu, hf', asAgg, hr], hv'⟩
      · exact h.elim
    · exact h.elim
  · exact h.elim

theorem indexAddrO_ok {t : TypeId} {a ix x : GV} {u : Option (Nat × GB)} {ra ri : Value} (ha : VR w I T a ra) (hi : VR w I T ix ri) (h : (indexAddrO P t a ix).eff x u) :
    u = none ∧ ∃ r, (Instr.indexAt t ra ri).run P w = .ok r w ∧ VR w I T x r := by
  unfold indexAddrO at h
  split at h
  · rename_i e k i hu
    cases hi.v_inv
    split at h
    · rename_i es xs own sz hsz
      cases hb : Nat.beq es sz with
      | false => rw [hb] at h; exact h.elim
      | true =>
        rw [hb] at h
        have := Nat.eq_of_beq_eq_true hb
        subst this
        obtain ⟨y, h0, hy, rfl, rfl⟩ := h
        have hlt := (List.getElem?_eq_some_iff.1 hy).1
        cases ha with
        | nil _ _ => simp at hy
        | list b o cap row hcap hes hsane hcell hrel hown =>
          refine ⟨rfl, .pointer (some ⟨b, o + i.toNat * es + 0, none⟩), ?_, ?_⟩
          · have hlt' : i < (xs.length : Int) := by omega
            simp [Instr.indexAt, asIntOf, run_underlying hu, h0, hlt', tSize_run hsz, Addr.add_lit]
          · have hyl := hes y (List.mem_of_getElem? hy)
            refine .ref b (o + i.toNat * es) (fun j => row (i.toNat * es + j)) (fun j hj => ?_) fun j c hc => hrel _ _ _ _ hy hc
            have := hcell (i.toNat * es + j) (by
              rw [hyl] at hj
              calc i.toNat * es + j < i.toNat * es + es := by omega
                _ = (i.toNat + 1) * es := by rw [Nat.add_mul, Nat.one_mul]
                _ ≤ xs.length * es := Nat.mul_le_mul_right _ hlt)
            rwa [← Nat.add_assoc] at this
    · rename_i es kk ver n sz hsz
      cases hb : Nat.beq es sz with
      | false => rw [hb] at h; exact h.elim
      | true =>
        rw [hb] at h
        have := Nat.eq_of_beq_eq_true hb
        subst this
        obtain ⟨⟨h0, h1⟩, rfl, rfl⟩ := h
        cases ha with
        | ms hT hle hs hra =>
          obtain ⟨b, c, rfl, hn⟩ := hs
          obtain ⟨g, rfl⟩ := hn (by omega)
          refine ⟨rfl, .pointer (some ⟨g, i.toNat * es, none⟩), ?_, .mptr hT hle ⟨_, _, rfl⟩ fun e => ?_⟩
          · simp [Instr.indexAt, asIntOf, run_underlying hu, h0, h1, tSize_run hsz, Addr.add_lit]
          · have hru := hra e
            subst hru
            exact ⟨g, n, c, rfl, by rw [Nat.add_zero]⟩
    · rename_i es kk ver lo n sz hsz
      cases hb : Nat.beq es sz with
      | false => rw [hb] at h; exact h.elim
      | true =>
        rw [hb] at h
        have := Nat.eq_of_beq_eq_true hb
        subst this
        obtain ⟨⟨hl, h0, h1⟩, rfl, rfl⟩ := h
        cases ha with
        | mview hT hle hs hra =>
          obtain ⟨hn, b, o, c, rfl⟩ := hs
          refine ⟨rfl, .pointer (some ⟨b, o + i.toNat * es, none⟩), ?_, .mptr hT hle ⟨_, _, rfl⟩ fun e => ?_⟩
          · have h1' : i < ((n.toNat : Nat) : Int) := by omega
            have h1'' : i < max n 0 := by omega
            simp [Instr.indexAt, asIntOf, run_underlying hu, h0, h1', h1'', tSize_run hsz, Addr.add_lit]
          · obtain ⟨g, N, c1, c2, hu', _, _, hr'⟩ := hra e
            cases hr'
            refine ⟨b, N, c1, hu', ?_⟩
            rw [Int.toNat_add hl h0, Nat.add_mul, Nat.add_zero]
    · exact h.elim
  · rename_i n e k i hu
    cases hi.v_inv
    split at h
    · rename_i sz hsz
      obtain ⟨⟨h0, h1⟩, h⟩ := h
      obtain ⟨e', b, o, rfl, hv⟩ := shiftO_ok ha h
      refine ⟨e', _, ?_, hv⟩
      simp [Instr.indexAt, asIntOf, run_underlying hu, h0, h1, tSize_run hsz, Addr.add_lit, Instr.sureAddr]
    · exact h.elim
  · exact h.elim

theorem eqIn_slice {t e : TypeId} (d : Nat) (a : Option Addr) (n c : Nat) (hu : P.underlying t = some (.slice e)) : (Op.equalIn (d + 1) t (.slice a n c) (.slice none 0 0)).run P w = .ok a.isNone w := by
  cases a <;> simp [Op.equalIn, run_underlying hu]

theorem indexO_ok {t : TypeId} {a ix x : GV} {u : Option (Nat × GB)} {ra ri : Value} (ha : VR w I T a ra) (hi : VR w I T ix ri) (h : (indexO P t a ix).eff x u) :
    u = none ∧ ∃ r, (Instr.index t ra ri).run P w = .ok r w ∧ VR w I T x r := by
  unfold indexO at h
  split at h
  · rename_i n e cs k i hu
    cases hi.v_inv
    split at h
    · rename_i ag sz hag hsz
      obtain ⟨⟨h0, h1⟩, h⟩ := h
      cases ha with
      | @agg _ _ rs hl h1' hv =>
        obtain ⟨e', r, hr, hv'⟩ := part_ok (P := P) hag hsz (.agg hl h1' hv) h
        exact ⟨e', r, by simp [Instr.index, asIntOf, run_underlying hu, h0, h1, tSize_run hsz, hr], hv'⟩
    · exact h.elim
  · rename_i s k i hu
    cases hi.v_inv; cases ha.v_inv
    obtain ⟨⟨h0, h1⟩, rfl, rfl⟩ := h
    refine ⟨rfl, _, ?_, .v _ rfl⟩
    have hlt : i.toNat < s.size := by omega
    have hlt' : i.toNat < s.data.size := hlt
    have hs : s[i.toNat]? = some (s.data.toList.getD i.toNat 0) := by
      rw [getElem?_pos s i.toNat hlt]
      simp [List.getD, hlt']
      rw [Array.getElem?_eq_getElem hlt']; rfl
    simp [Instr.index, asIntOf, run_underlying hu, h0, hs]
  · exact h.elim

theorem extractO_ok {a x : GV} {i : Nat} {u : Option (Nat × GB)} {ra : Value} (ha : VR w I T a ra) (h : (extractO a i).eff x u) :
    u = none ∧ ∃ r, (Instr.extract ra i).run P w = .ok r w ∧ VR w I T x r := by
  unfold extractO at h
  split at h
  · rename_i vs
    split at h
    · rename_i v hv
      obtain ⟨rfl, rfl⟩ := h
      cases ha with
      | @tup _ _ rs hl hh =>
        have hlt : i < rs.size := by have := (List.getElem?_eq_some_iff.1 hv).1; omega
        exact ⟨rfl, rs[i], by simp [Instr.extract, hlt], hh i _ _ hv (by simp [hlt])⟩
    · exact h.elim
  · exact h.elim

theorem intO_ok {op : BinOp} {k : IntKind} {a b : Int} {t : TypeId} {x : GV} {u : Option (Nat × GB)} (hs : isShift op = false) (h : (intO op k a b).eff x u) :
    u = none ∧ ∃ r, (binOp op t (.int k a) (.int k b)).run P w = .ok r w ∧ VR w I T x r := by
  cases op <;> simp only [isShift, Bool.true_eq_false] at hs <;> simp only [intO, Out.eff] at h <;>
    first
    | (obtain ⟨rfl, rfl⟩ := h; refine ⟨rfl, _, ?_, .v _ rfl⟩; simp [binOp, Op.intArith, Op.intBits, Op.intCmp])
    | (obtain ⟨h0, rfl, rfl⟩ := h; refine ⟨rfl, _, ?_, .v _ rfl⟩; simp [binOp, Op.intDiv, h0])

theorem shiftG_ok {op : BinOp} {k k' : IntKind} {a b : Int} {t : TypeId} {x : GV} {u : Option (Nat × GB)} (h : (shiftG op k a b).eff x u) :
    u = none ∧ ∃ r, (binOp op t (.int k a) (.int k' b)).run P w = .ok r w ∧ VR w I T x r := by
  unfold shiftG at h
  split at h
  · obtain ⟨h0, rfl, rfl⟩ := h
    refine ⟨rfl, _, ?_, .v _ rfl⟩
    simp [binOp, Op.shift, Int.not_lt.2 h0]
  · obtain ⟨h0, rfl, rfl⟩ := h
    refine ⟨rfl, _, ?_, .v _ rfl⟩
    simp [binOp, Op.shift, Int.not_lt.2 h0]
  · exact h.elim

end
end Go.Gh
