/- Ghost values and walks, bundle Gh4; proved for whatever the arguments' types allow, as each theorem says. -/
import Derived.Test.YtoofplbjpkgdgaaGh3

/- All ghost operations in one; the machine's operation does the same. -/
set_option linter.unusedVariables false
set_option linter.unusedSimpArgs false
namespace Go.Gh

def plainVs : List GV → Option (List Value)
  | [] => some []
  | .v x :: r => (plainVs r).map (x :: ·)
  | _ => none

/-- Two structs of plain cells are compared so. -/
def EqRun (P : Program) (t : TypeId) (a c : List Value) (b : Bool) : Prop :=
  P.eqGuardType P.depth t = false ∧ ∀ w, (Op.equal t (.agg a.toArray) (.agg c.toArray)).run P w = .ok b w

def eqlO (P : Program) (op : BinOp) (t : TypeId) (xs ys : List GV) : Out :=
  match sameCells xs ys, plainVs xs, plainVs ys, op with
  | some b, some a, some c, .eql => .need (EqRun P t a c b) (.val (.v (.bool b)))
  | some b, some a, some c, .neq => .need (EqRun P t a c b) (.val (.v (.bool !b)))
  | _, _, _, _ => .bad

def binO' (P : Program) (op : BinOp) (t : TypeId) (x y : GV) : Out :=
  match x, y with
  | .agg xs, .agg ys => eqlO P op t xs ys
  | x, y => binO P op t x y

def boxO (key : Nat) (hp : Nat → Option GB) (x : GV) : Out :=
  match hp key with
  | none => bif x.sane then .upd (.ptr key 0) key (.cells x.cells) else .bad
  | some _ => .bad

def zcells (x : Value) : Option (List GV) := bif x.cells.toList.all Value.oneCell' then some (x.cells.toList.map .v) else none

def allocO (P : Program) (key : Nat) (hp : Nat → Option GB) (t : TypeId) : Out :=
  match hp key, tZero P t with
  | none, some z => (match zcells z with
    | some cs => .upd (.ptr key 0) key (.cells cs)
    | none => .bad)
  | _, _ => .bad

def storeC (P : Program) (forb : List Nat) (hp : Nat → Option GB) (t : TypeId) (a x : GV) : Out :=
  match a, tSize P t with
  | .ptr k off, some sz => bif forb.elem k then .bad else (match hp k with
    | some (.cells cs) => bif x.sane && (Nat.beq x.cells.length sz && Nat.ble (off + sz) cs.length) then .upd .dead k (.cells (cs.take off ++ (x.cells ++ cs.drop (off + sz)))) else .bad
    | _ => .bad)
  | _, _ => .bad

/-- An element with other cells. -/
def packM (y x : GV) (j sz : Nat) : Option GV := match y with
  | .agg cs => some (.agg (cs.take j ++ (x.cells ++ cs.drop (j + sz))))
  | _ => bif Nat.beq j 0 && Nat.beq sz 1 then (match x with
    | .agg _ => none
    | x => some x) else none

/-- The parts laid into a row of cells. -/
def fillG (place : Nat → Option (Nat × Nat)) (cs : List GV) : List (Nat × GV) → Option (List GV)
  | [] => some cs
  | (i, x) :: r => match place i with
    | some (off, sz) => bif x.sane && (Nat.beq x.cells.length sz && Nat.ble (off + sz) cs.length) then fillG place (cs.take off ++ (x.cells ++ cs.drop (off + sz))) r else none
    | none => none

def placeS (P : Program) (fs : List Field) (i : Nat) : Option (Nat × Nat) :=
  match fs[i]? with
  | some f => (match tSize P f.type with
    | some sz => some (f.offset, sz)
    | none => none)
  | none => none

def allSized (P : Program) : List Field → Bool
  | [] => true
  | f :: fs => (match tSize P f.type with
    | some _ => true
    | none => false) && allSized P fs

def buildO (P : Program) (t : TypeId) (parts : List (Nat × GV)) : Out :=
  match tZero P t, P.underlying t with
  | some z, some (.struct fs) => bif allSized P fs.toList then (match zcells z with
    | some cs => (match fillG (placeS P fs.toList) cs parts with
      | some r => .val (.agg r)
      | none => .bad)
    | none => .bad) else .bad
  | some z, some (.array _ e) => (match zcells z, tSize P e with
    | some cs, some sz => (match fillG (fun i => some (i * sz, sz)) cs parts with
      | some r => .val (.agg r)
      | none => .bad)
    | _, _ => .bad)
  | _, _ => .bad

/-- What nothing of the frame's own memory hangs on. -/
def stripC : GV → Option GV
  | .dead => some .dead
  | .v x => some (.v x)
  | .list es xs _ => some (.list es xs none)
  | .ref cs o => some (.ref cs o)
  | _ => none
def stripL : List GV → Option (List GV)
  | [] => some []
  | x :: r => match stripC x, stripL r with
    | some x', some r' => some (x' :: r')
    | _, _ => none
def stripE : GV → Option GV
  | .agg cs => match stripL cs with
    | some cs' => some (.agg cs')
    | none => none
  | x => stripC x

/-- A store into an element of the frame's own slice. -/
def storeM (P : Program) (forb : List Nat) (hp : Nat → Option GB) (t : TypeId) (k ver : Nat) (i : Int) (j : Nat) (x : GV) : Out :=
  bif forb.elem k then .bad else (match tSize P t, hp k, stripE x with
    | some sz, some (.mvec e es xs v), some x' => bif x.sane && Nat.beq x.cells.length sz then
        .need (v = ver) (.elem xs i fun y => bif Nat.ble (j + sz) y.cells.length then (match packM y x' j sz with
          | some y' => .upd .dead k (.mvec e es (xs.set i.toNat y') v)
          | none => .bad) else .bad) else .bad
    | _, _, _ => .bad)

def storeO (P : Program) (forb : List Nat) (hp : Nat → Option GB) (t : TypeId) (a x : GV) : Out :=
  match a with
  | .mptr k ver i j => storeM P forb hp t k ver i j x
  | a => storeC P forb hp t a x

/-- All parts, one behind the other, from number n on. -/
def inOrder (sz : Nat) : Nat → List (Nat × GV) → Option (List GV)
  | _, [] => some []
  | n, (i, x) :: r => bif Nat.beq i n && (x.sane && Nat.beq x.cells.length sz) then (match stripE x, inOrder sz (n + 1) r with
    | some x', some r' => some (x' :: r')
    | _, _ => none) else none

def buildSliceO (P : Program) (t : TypeId) (len : Nat) (parts : List (Nat × GV)) : Out :=
  match P.underlying t with
  | some (.slice e) => (match tSize P e, tZero P e with
    | some sz, some z => (match inOrder sz 0 parts with
      | some xs => bif Nat.beq xs.length len && (Nat.ble (len * sz) 16777216 && Nat.beq z.cells.size sz) then .val (.list sz xs none) else .bad
      | none => .bad)
    | _, _ => .bad)
  | _ => .bad

def sliceO (P : Program) (t : TypeId) (x : GV) (lo hi mx : Option GV) : Out :=
  match P.underlying t, x, mx with
  | some (.slice e), .list es xs _, none => (match tSize P e with
    | some sz => bif Nat.beq es sz then (match lo, hi with
      | some (.v (.int _ l)), none => .need (0 ≤ l ∧ l ≤ (xs.length : Int)) (.val (.list es (xs.drop l.toNat) none))
      | some (.v (.int _ l)), some (.v (.int _ h)) => .need (0 ≤ l ∧ l ≤ h ∧ h ≤ (xs.length : Int)) (.val (.list es ((xs.take h.toNat).drop l.toNat) none))
      | none, some (.v (.int _ h)) => .need (0 ≤ h ∧ h ≤ (xs.length : Int)) (.val (.list es (xs.take h.toNat) none))
      | _, _ => .bad) else .bad
    | none => .bad)
  | _, _, _ => .bad

def elemsOf (sz : Nat) : GV → Option (List GV)
  | .list es ys _ => bif Nat.beq es sz then some ys else none
  | .v (.slice none 0 0) => some []
  | .emp => some []
  | _ => none

def isSliceT (P : Program) (t : TypeId) : Bool := match P.underlying t with
  | some (.slice _) => true
  | _ => false

def appendO (P : Program) (key : Nat) (forb : List Nat) (hp : Nat → Option GB) (t tx : TypeId) (s x : GV) : Out :=
  match P.underlying t with
  | some (.slice e) => (match P.info? e with
    | some i => (match elemsOf i.size x, i.zero with
      | some ys, some z => bif isSliceT P tx && (Nat.beq z.cells.size i.size && Nat.blt 0 i.size) then (match s with
        | .list es xs (some k) => bif forb.elem k then .bad else (match hp k with
          | some (.vec e' n) => bif Nat.beq e e' && Nat.beq es i.size then
              .need (xs.length = n ∧ (xs.length + ys.length) * i.bytes ≤ 140737488355328 ∧ xs.length + ys.length ≤ maxLen) (.upd (.list i.size (xs ++ ys) (some k)) k (.vec e (n + ys.length))) else .bad
          | _ => .bad)
        | .v (.slice none 0 0) => (match hp key with
          | none => .need (ys.length * i.bytes ≤ 140737488355328 ∧ ys.length ≤ maxLen) (.upd (.list i.size ys (some key)) key (.vec e ys.length))
          | some _ => .bad)
        | _ => .bad) else .bad
      | _, _ => .bad)
    | none => .bad)
  | _ => .bad

def makeSliceO (P : Program) (key : Nat) (hp : Nat → Option GB) (t : TypeId) (l c : GV) : Out :=
  match P.underlying t, l, c with
  | some (.slice e), .v (.int _ l), .v (.int _ c) => (match P.info? e, hp key with
    | some i, none => (match i.zero with
      | some z => (match zcells z with
        | some cs => bif Nat.beq cs.length i.size && Nat.blt 0 i.size then
            .need (0 ≤ l ∧ l ≤ c ∧ (i.bytes : Int) * c ≤ 281474976710656 ∧ c ≤ 9223372036854775807)
              (.upd (.list i.size (List.replicate l.toNat (match z with | .agg _ => .agg cs | _ => .v z)) (some key)) key (.vec e l.toNat)) else .bad
        | none => .bad)
      | none => .bad)
    | _, _ => .bad)
  | _, _, _ => .bad

def lenO (P : Program) (t : TypeId) (x : GV) : Out :=
  match P.underlying t, x with
  | some (.slice _), .list _ xs _ => .val (.v (.int .i64 xs.length))
  | some (.slice _), .v (.slice none 0 0) => .val (.v (.int .i64 0))
  | some (.slice _), .ms _ _ _ n => .val (.v (.int .i64 n))
  | some (.slice _), .emp => .val (.v (.int .i64 0))
  | some (.slice _), .mview _ _ _ _ n => .val (.v (.int .i64 n))
  | some .string, .v (.string s) => .val (.v (.int .i64 s.size))
  | some (.array n _), _ => .val (.v (.int .i64 n))
  | _, _ => .bad

def minG : GV → GV → Option GV
  | .v (.int k x), .v (.int _ y) => some (.v (.int k (if y < x then y else x)))
  | _, _ => none
def maxG : GV → GV → Option GV
  | .v (.int k x), .v (.int _ y) => some (.v (.int k (if x < y then y else x)))
  | _, _ => none
def foldG (f : GV → GV → Option GV) : GV → List GV → Option GV
  | x, [] => some x
  | x, y :: r => match f x y with
    | some z => foldG f z r
    | none => none
def foldO (f : GV → GV → Option GV) : List GV → Out
  | [] => .bad
  | x :: r => match foldG f x r with
    | some z => .val z
    | none => .bad

def callO (f : GV) (args : List GV) : Out := match f with
  | .fn (.func g) first cap => .call g (first ++ (args ++ cap))
  | _ => .bad

/-! Slices of the frame's own whose elements are written -/
def flagG (env : Nat → GV) (t : Nat) : Bool := match env t with
  | .tup _ => true
  | _ => false

def nilMv (P : Program) (key : Nat) (hp : Nat → Option GB) (t : TypeId) : Out :=
  match P.underlying t with
  | some (.slice e) => (match P.info? e with
    | some i => (match hp key with
      | none => .upd (.ms i.size key 0 0) key (.mvec e i.size [] 0)
      | some (.mvec e' es _ v) => bif Nat.beq e' e && Nat.beq es i.size then .upd (.ms i.size key (v + 1) 0) key (.mvec e i.size [] (v + 1)) else .bad
      | _ => .bad)
    | none => .bad)
  | _ => .bad

def freezeO (hp : Nat → Option GB) (es k ver : Nat) : Out := match hp k with
  | some (.mvec e es' xs v) => .need (v = ver) (.upd (.list es xs none) k (.mvec e es' [] (v + 1)))
  | _ => .bad

/-- The elements that are appended, and of the type of the second argument what must hold. -/
def moreOf (P : Program) (i : TypeInfo) (tx : TypeId) (x : GV) : Option (List GV) := bif isSliceT P tx then elemsOf i.size x else none

def appendMv (P : Program) (forb : List Nat) (hp : Nat → Option GB) (t tx : TypeId) (es k ver n : Nat) (x : GV) : Out :=
  match P.underlying t with
  | some (.slice e) => (match P.info? e with
    | some i => (match moreOf P i tx x, i.zero, hp k with
      | some ys, some z, some (.mvec e' es' xs v) => bif Nat.beq z.cells.size i.size && (Nat.blt 0 i.size && (Nat.beq e' e && Nat.beq es' i.size)) then
          .need (v = ver ∧ (xs.length + ys.length) * i.bytes ≤ 140737488355328 ∧ xs.length + ys.length ≤ maxLen) (.upd (.ms i.size k (v + 1) (xs.length + ys.length)) k (.mvec e i.size (xs ++ ys) (v + 1))) else .bad
      | _, _, _ => .bad)
    | none => .bad)
  | _ => .bad

def zeroG (z : Value) (cs : List GV) : GV := match z with
  | .agg _ => .agg cs
  | _ => .v z

/-- append to nil: a slice of the frame's own; also so many zeros. -/
def appendNil (P : Program) (key : Nat) (hp : Nat → Option GB) (t tx : TypeId) (x : GV) : Out :=
  match P.underlying t with
  | some (.slice e) => (match P.info? e with
    | some i => (match i.zero, hp key with
      | some z, none => bif Nat.beq z.cells.size i.size && Nat.blt 0 i.size then (match moreOf P i tx x, x, P.underlying tx, zcells z with
          | some ys, _, _, _ => .need (ys.length * i.bytes ≤ 140737488355328 ∧ ys.length ≤ maxLen) (.upd (.ms i.size key 0 ys.length) key (.mvec e i.size ys 0))
          | none, .v (.int .i64 m), some (.int _), some cs => .need (0 < m ∧ m * i.bytes ≤ 140737488355328 ∧ m ≤ 9223372036854775807)
              (.upd (.ms i.size key 0 m.toNat) key (.mvec e i.size (List.replicate m.toNat (zeroG z cs)) 0))
          | _, _, _, _ => .bad) else .bad
      | _, _ => .bad)
    | none => .bad)
  | _ => .bad

/-- append to a slice without room: a slice of the frame's own, if anything is appended. -/
def appendZ (P : Program) (key : Nat) (hp : Nat → Option GB) (t tx : TypeId) (x : GV) : Out :=
  match P.underlying t with
  | some (.slice e) => (match P.info? e with
    | some i => (match i.zero, hp key with
      | some z, none => bif Nat.beq z.cells.size i.size && Nat.blt 0 i.size then (match moreOf P i tx x with
          | some [] => .val (.list i.size [] none)
          | some (y :: ys) => .need ((ys.length + 1) * i.bytes ≤ 140737488355328 ∧ ys.length + 1 ≤ maxLen) (.upd (.ms i.size key 0 (ys.length + 1)) key (.mvec e i.size (y :: ys) 0))
          | none => .bad) else .bad
      | _, _ => .bad)
    | none => .bad)
  | _ => .bad

def appendX (P : Program) (key d : Nat) (forb : List Nat) (hp : Nat → Option GB) (env : Nat → GV) (t tx : TypeId) (s x : GV) : Out := match s with
  | .ms es k ver n => bif forb.elem k then .bad else appendMv P forb hp t tx es k ver n x
  | .v (.slice none 0 0) => bif flagG env (5000000 + d) then appendNil P key hp t tx x else appendO P key forb hp t tx (.v (.slice none 0 0)) x
  | .z0 => appendZ P key hp t tx x
  | s => appendO P key forb hp t tx s x

def sliceMv (P : Program) (hp : Nat → Option GB) (t : TypeId) (es k ver n : Nat) (lo hi mx : Option GV) : Out :=
  match P.underlying t, lo, hi, mx, hp k with
  | some (.slice e), none, some (.v (.int _ h)), none, some (.mvec e' es' xs v) => (match tSize P e with
    | some sz => bif Nat.beq es sz && (Nat.beq e' e && Nat.beq es' sz) then
        .need (v = ver ∧ 0 ≤ h ∧ h ≤ (xs.length : Int)) (.upd (.ms es k (v + 1) h.toNat) k (.mvec e es (xs.take h.toNat) (v + 1))) else .bad
    | none => .bad)
  | some (.slice e), some (.v (.int _ l)), none, none, some (.mvec e' es' xs v) => (match tSize P e with
    | some sz => bif Nat.beq es sz && (Nat.beq e' e && Nat.beq es' sz) then
        .need (v = ver ∧ 0 ≤ l ∧ l < (n : Int)) (.val (.mview es k ver l ((n : Int) - l))) else .bad
    | none => .bad)
  | _, _, _, _, _ => .bad

/-- s[:0:0] -/
def sliceZ (P : Program) (t : TypeId) (x : GV) (lo hi mx : Option GV) : Out := match mx with
  | none => sliceO P t x lo hi none
  | some m => (match P.underlying t, x, lo, hi, m with
    | some (.slice e), .list es xs _, none, some (.v (.int _ 0)), .v (.int _ 0) => (match tSize P e with
      | some sz => .val .z0
      | none => .bad)
    | _, x, lo, hi, m => sliceO P t x lo hi (some m))

/-- clear of the last elements of a slice of the frame's own. -/
def clearO (P : Program) (hp : Nat → Option GB) (t : TypeId) (x : GV) : Out := match P.underlying t, x with
  | some (.slice e), .mview es k ver lo n => (match P.info? e, hp k with
    | some i, some (.mvec e' es' xs v) => (match i.zero with
      | some z => (match zcells z with
        | some cs => bif Nat.beq e' e && (Nat.beq es' es && (Nat.beq es i.size && (Nat.beq z.cells.size i.size && Nat.blt 0 i.size))) then
            .need (v = ver ∧ 0 ≤ lo ∧ 0 < n ∧ lo + n = (xs.length : Int)) (.upd (.tup []) k (.mvec e es (xs.take lo.toNat ++ List.replicate n.toNat (zeroG z cs)) v)) else .bad
        | none => .bad)
      | none => .bad)
    | _, _ => .bad)
  | _, _ => .bad

def sliceX (P : Program) (hp : Nat → Option GB) (t : TypeId) (x : GV) (lo hi mx : Option GV) : Out := match x with
  | .ms es k ver n => sliceMv P hp t es k ver n lo hi mx
  | .v (.slice none 0 0) => (match P.underlying t, lo, hi, mx with
    | some (.slice e), none, some (.v (.int _ h)), none => (match tSize P e with
      | some _ => .need (h = 0) (.val (.v (.slice none 0 0)))
      | none => .bad)
    | _, _, _, _ => .bad)
  | x => sliceZ P t x lo hi mx

def makeMv (P : Program) (key : Nat) (hp : Nat → Option GB) (t : TypeId) (l c : GV) : Out :=
  match makeSliceO P key hp t l c with
  | .need p (.upd (.list es xs _) k (.vec e _)) => .need p (.upd (.ms es k 0 xs.length) k (.mvec e es xs 0))
  | _ => .bad

def buildMv (P : Program) (key : Nat) (hp : Nat → Option GB) (t : TypeId) (len : Nat) (parts : List (Nat × GV)) : Out :=
  match P.underlying t, hp key with
  | some (.slice e), none => (match tSize P e, tZero P e with
    | some sz, some z => (match inOrder sz 0 parts with
      | some xs => bif Nat.beq xs.length len && (Nat.ble (len * sz) 16777216 && (Nat.beq z.cells.size sz && Nat.blt 0 sz)) then .upd (.ms sz key 0 len) key (.mvec e sz xs 0) else .bad
      | none => .bad)
    | _, _ => .bad)
  | _, _ => .bad

def capO (P : Program) (t : TypeId) (x : GV) : Out :=
  match P.underlying t, x with
  | some (.slice _), .v (.slice none 0 0) => .val (.v (.int .i64 0))
  | _, _ => .bad

def builtinO (P : Program) (key d : Nat) (forb : List Nat) (hp : Nat → Option GB) (env : Nat → GV) (b : Builtin) (ts : List TypeId) (args : List GV) : Out :=
  match b, ts, args with
  | .append, [t, tx], [s, x] => appendX P key d forb hp env t tx s x
  | .cap, t :: _, [x] => capO P t x
  | .len, t :: _, [x] => lenO P t x
  | .min, _, args => foldO minG args
  | .max, _, args => foldO maxG args
  | .clear, [t], [x] => clearO P hp t x
  | _, _, _ => .bad

/-- A nil list that is given to a variable: under the variable's own key more may be appended. -/
def assignO (P : Program) (key : Nat) (hp : Nat → Option GB) (t : TypeId) (x : GV) : Out :=
  match x, P.underlying t, hp key with
  | .v (.slice none 0 0), some (.slice e), none => (match P.info? e with
    | some i => .upd (.list i.size [] (some key)) key (.vec e 0)
    | none => .bad)
  | .v (.slice none 0 0), some (.slice e), some _ => .bad
  | x, _, _ => .val x

/-- nil once more for the same variable: a list that is empty, to which nothing may be appended. -/
def nilO2 (P : Program) (key : Nat) (hp : Nat → Option GB) (t : TypeId) : Out := match hp key with
  | none => assignO P key hp t (.v (.slice none 0 0))
  | some _ => (match P.underlying t with
    | some (.slice e) => (match P.info? e with
      | some i => .val (.list i.size [] none)
      | none => .bad)
    | _ => .bad)

def assignX (P : Program) (key d : Nat) (hp : Nat → Option GB) (env : Nat → GV) (t : TypeId) (x : GV) : Out := match x with
  | .v (.slice none 0 0) => bif flagG env (5000000 + d) then nilMv P key hp t else nilO2 P key hp t
  | .ms es k ver n => bif flagG env (6000000 + d) then freezeO hp es k ver else .val (.ms es k ver n)
  | x => assignO P key hp t x

def opOut (P : Program) (forb : List Nat) (o : Oper) (s : GS) : Out :=
  match o.op with
  | .move x => .val (gev s.env x)
  | .assign x => assignX P (100 + o.dst.getD 0) (o.dst.getD 0) s.hp s.env o.type (gev s.env x)
  | .pick c a b => pickO (gev s.env c) (gev s.env a) (gev s.env b)
  | .alloc t => allocO P (100 + o.dst.getD 0) s.hp t
  | .box _ x => boxO (100 + o.dst.getD 0) s.hp (gev s.env x)
  | .build t parts => buildO P t (parts.toList.map fun p => (p.1, gev s.env p.2))
  | .buildSlice t len parts => bif flagG s.env (5000000 + o.dst.getD 0) then buildMv P (100 + o.dst.getD 0) s.hp t len (parts.toList.map fun p => (p.1, gev s.env p.2)) else buildSliceO P t len (parts.toList.map fun p => (p.1, gev s.env p.2))
  | .load t a => loadO P forb s.hp t (gev s.env a)
  | .store t a x => storeO P forb s.hp t (gev s.env a) (gev s.env x)
  | .nilCheck x => nilO (gev s.env x)
  | .binOp op t x y _ => binO' P op t (gev s.env x) (gev s.env y)
  | .unOp op _ x => unO op (gev s.env x)
  | .convert t0 t x => (match P.underlying t0 with
    | some _ => convO P t (gev s.env x)
    | none => .bad)
  | .makeInterface t x => ifaceO P t (gev s.env x)
  | .makeFunc f a b => .val (.fn f (a.toList.map (gev s.env)) (b.toList.map (gev s.env)))
  | .makeSlice t l c => bif flagG s.env (5000000 + o.dst.getD 0) then makeMv P (100 + o.dst.getD 0) s.hp t (gev s.env l) (gev s.env c) else makeSliceO P (100 + o.dst.getD 0) s.hp t (gev s.env l) (gev s.env c)
  | .slice t x lo hi mx => sliceX P s.hp t (gev s.env x) (lo.map (gev s.env)) (hi.map (gev s.env)) (mx.map (gev s.env))
  | .fieldAddr t x i => fieldAddrO P t (gev s.env x) i
  | .field t x i => fieldO P t (gev s.env x) i
  | .indexAddr t x i => indexAddrO P t (gev s.env x) (gev s.env i)
  | .index t x i => indexO P t (gev s.env x) (gev s.env i)
  | .extract x i => extractO (gev s.env x) i
  | .call c => match c.callee with
    | .value f => callO (gev s.env f) (c.args.toList.map (gev s.env))
    | .builtin b => builtinO P (100 + o.dst.getD 0) (o.dst.getD 0) forb s.hp s.env b c.argTypes.toList (c.args.toList.map (gev s.env))
    | .invoke _ _ => .bad
  | _ => .bad

/-! Where the order is drawn no slice of the frame's own is made or laid anew -/
def appendD (P : Program) (key : Nat) (forb : List Nat) (hp : Nat → Option GB) (t tx : TypeId) (s x : GV) : Out := match s with
  | .ms es k ver n => bif forb.elem k then .bad else appendMv P forb hp t tx es k ver n x
  | s => appendO P key forb hp t tx s x
def builtinD (P : Program) (key : Nat) (forb : List Nat) (hp : Nat → Option GB) (b : Builtin) (ts : List TypeId) (args : List GV) : Out :=
  match b, ts, args with
  | .append, [t, tx], [s, x] => appendD P key forb hp t tx s x
  | .len, t :: _, [x] => lenO P t x
  | .min, _, args => foldO minG args
  | .max, _, args => foldO maxG args
  | _, _, _ => .bad

/-- A slice literal without elements, in a statement whose order is open: under its own key more may be appended. -/
def isZ (len : Nat) (parts : Array (Nat × Operand)) : Bool := Nat.beq len 0 && parts.toList.isEmpty
def buildZ (P : Program) (key : Nat) (hp : Nat → Option GB) (t : TypeId) : Out :=
  match P.underlying t, hp key with
  | some (.slice e), none => (match tSize P e with
    | some sz => bif Nat.blt 0 sz then .upd (.list sz [] (some key)) key (.vec e 0) else .bad
    | none => .bad)
  | _, _ => .bad

def opOutD (P : Program) (forb : List Nat) (o : Oper) (s : GS) : Out :=
  match o.op with
  | .move x => .val (gev s.env x)
  | .assign x => assignO P (100 + o.dst.getD 0) s.hp o.type (gev s.env x)
  | .pick c a b => pickO (gev s.env c) (gev s.env a) (gev s.env b)
  | .alloc t => allocO P (100 + o.dst.getD 0) s.hp t
  | .box _ x => boxO (100 + o.dst.getD 0) s.hp (gev s.env x)
  | .build t parts => buildO P t (parts.toList.map fun p => (p.1, gev s.env p.2))
  | .buildSlice t len parts => bif isZ len parts then buildZ P (100 + o.dst.getD 0) s.hp t else buildSliceO P t len (parts.toList.map fun p => (p.1, gev s.env p.2))
  | .load t a => loadO P forb s.hp t (gev s.env a)
  | .store t a x => storeO P forb s.hp t (gev s.env a) (gev s.env x)
  | .nilCheck x => nilO (gev s.env x)
  | .binOp op t x y _ => binO' P op t (gev s.env x) (gev s.env y)
  | .unOp op _ x => unO op (gev s.env x)
  | .convert t0 t x => (match P.underlying t0 with
    | some _ => convO P t (gev s.env x)
    | none => .bad)
  | .makeInterface t x => ifaceO P t (gev s.env x)
  | .makeFunc f a b => .val (.fn f (a.toList.map (gev s.env)) (b.toList.map (gev s.env)))
  | .makeSlice t l c => makeSliceO P (100 + o.dst.getD 0) s.hp t (gev s.env l) (gev s.env c)
  | .slice t x lo hi mx => sliceO P t (gev s.env x) (lo.map (gev s.env)) (hi.map (gev s.env)) (mx.map (gev s.env))
  | .fieldAddr t x i => fieldAddrO P t (gev s.env x) i
  | .field t x i => fieldO P t (gev s.env x) i
  | .indexAddr t x i => indexAddrO P t (gev s.env x) (gev s.env i)
  | .index t x i => indexO P t (gev s.env x) (gev s.env i)
  | .extract x i => extractO (gev s.env x) i
  | .call c => match c.callee with
    | .value f => callO (gev s.env f) (c.args.toList.map (gev s.env))
    | .builtin b => builtinD P (100 + o.dst.getD 0) forb s.hp b c.argTypes.toList (c.args.toList.map (gev s.env))
    | .invoke _ _ => .bad
  | _ => .bad

/-! ### The machine does the same -/
/-- The machine's step: a value, a world, what nobody changes, a table. -/
def Does (P : Program) (w : World) (I : Nat → Nat → Prop) (T : Tab) (hp : Nat → Option GB) (res : Result Next) (x : GV) (u : Option (Nat × GB)) : Prop :=
  ∃ r w' I' T', (res = .ok (.value r) w' ∨ (res = .ok .skip w' ∧ r = undef)) ∧ Ext w I T w' I' T' ∧ VR w' I' T' x r ∧ HR P w' I' T' (updH hp u)

section
variable {P : Program} {w : World} {I : Nat → Nat → Prop} {T : Tab} {hp : Nat → Option GB}

theorem Does.same {res : Result Next} {x : GV} {u : Option (Nat × GB)} {r : Value} (hr : HR P w I T hp) (hu : u = none) (h : res = .ok (.value r) w) (hv : VR w I T x r) : Does P w I T hp res x u := by
  subst hu; exact ⟨r, w, I, T, .inl h, .refl _ _ _, hv, hr⟩

theorem zcells_ok {z : Value} {cs : List GV} (h : zcells z = some cs) : z.cells.size = cs.length ∧ (∀ (j : Nat) (r : Value), z.cells[j]? = some r → r.oneCell' = true) ∧
    ∀ (w : World) (I : Nat → Nat → Prop) (T : Tab) (j : Nat) (c : GV) (r : Value), cs[j]? = some c → z.cells[j]? = some r → VR w I T c r := by
  unfold zcells at h
  cases hc : z.cells.toList.all Value.oneCell' with
  | false => rw [hc] at h; cases h
  | true =>
    rw [hc] at h
    cases h
    have h1 : ∀ (j : Nat) (r : Value), z.cells[j]? = some r → r.oneCell' = true := fun j r hr => (List.all_eq_true.1 hc) r (by simpa using Array.mem_of_getElem? hr)
    refine ⟨by simp, h1, fun w I T j c r hcc hr => ?_⟩
    simp only [List.getElem?_map, Option.map_eq_some_iff] at hcc
    obtain ⟨y, hy, rfl⟩ := hcc
    have : y = r := by simpa [hr] using hy.symm
    subst this
    exact .v _ (h1 j _ hr)

theorem boxO_ok {key : Nat} {x y : GV} {u : Option (Nat × GB)} {r : Value} {e : TypeId} (hr : HR P w I T hp) (hx : VR w I T x r) (h : (boxO key hp x).eff y u) :
    Does P w I T hp ((do pure (Next.value (← Instr.box e r)) : Sem Next).run P w) y u := by
  unfold boxO at h
  split at h
  · rename_i hk
    cases hs : x.sane with
    | false => rw [hs] at h; exact h.elim
    | true =>
      rw [hs] at h
      obtain ⟨rfl, rfl⟩ := h
      obtain ⟨h1, h2, h3⟩ := hx.cells hs
      obtain ⟨g1, g2⟩ := hr.newKey key hk x.cells r.cells e h1 h2 h3
      exact ⟨_, _, _, _, .inl (by simp [Instr.box, newVar, newRow]; rfl), g1, .ptr (by rw [setT_eq, if_pos rfl]), g2⟩
  · exact h.elim

theorem allocO_ok {key : Nat} {y : GV} {u : Option (Nat × GB)} {e : TypeId} (hr : HR P w I T hp) (h : (allocO P key hp e).eff y u) :
    Does P w I T hp ((do pure (Next.value (← Instr.alloc e true (.tuple #[]))) : Sem Next).run P w) y u := by
  unfold allocO at h
  split at h
  · rename_i z hk hz
    split at h
    · rename_i cs hcs
      obtain ⟨rfl, rfl⟩ := h
      obtain ⟨h1, h2, h3⟩ := zcells_ok hcs
      obtain ⟨g1, g2⟩ := hr.newKey key hk cs z.cells e h1 h2 (h3 w I T)
      unfold tZero at hz
      split at hz
      · rename_i i hi
        exact ⟨_, _, _, _, .inl (by simp [Instr.alloc, zeroValue, typeInfo, hi, hz, newVar, newRow]; rfl), g1, .ptr (by rw [setT_eq, if_pos rfl]), g2⟩
      · cases hz
    · exact h.elim
  · exact h.elim

/-- Cells laid over a row's. -/
theorem splice_ok {cs xs : List GV} {row vs : Array Value} {off sz : Nat} (hl : row.size = cs.length) (hv : vs.size = xs.length) (hs : xs.length = sz) (hle : off + sz ≤ cs.length)
    (hrow : ∀ (j : Nat) (c : GV) (r : Value), cs[j]? = some c → row[j]? = some r → VR w I T c r) (hvs : ∀ (j : Nat) (c : GV) (r : Value), xs[j]? = some c → vs[j]? = some r → VR w I T c r)
    (h1 : ∀ (j : Nat) (r : Value), row[j]? = some r → r.oneCell' = true) (h2 : ∀ (j : Nat) (r : Value), vs[j]? = some r → r.oneCell' = true) :
    let row' := (row.toList.take off ++ vs.toList ++ row.toList.drop (off + vs.toList.length)).toArray
    row'.size = (cs.take off ++ (xs ++ cs.drop (off + sz))).length ∧ (∀ (j : Nat) (r : Value), row'[j]? = some r → r.oneCell' = true) ∧
    (∀ (j : Nat) (c : GV) (r : Value), (cs.take off ++ (xs ++ cs.drop (off + sz)))[j]? = some c → row'[j]? = some r → VR w I T c r) := by
  intro row'
  have hvl : vs.toList.length = sz := by simp; omega
  have e1 : (row.toList.take off).length = off := by simp; omega
  have e2 : (cs.take off).length = off := by simp; omega
  have get : ∀ j, row'[j]? = if j < off then row[j]? else if j < off + sz then vs[j - off]? else row[j]? := by
    intro j
    show (row.toList.take off ++ vs.toList ++ row.toList.drop (off + vs.toList.length)).toArray[j]? = _
    rw [List.getElem?_toArray, List.append_assoc, List.getElem?_append, e1]
    by_cases hj : j < off
    · rw [if_pos hj, if_pos hj, List.getElem?_take, if_pos hj]; simp
    · rw [if_neg hj, if_neg hj, List.getElem?_append, hvl]
      by_cases hj2 : j < off + sz
      · rw [if_pos (by omega), if_pos hj2]; simp
      · rw [if_neg (by omega), if_neg hj2, List.getElem?_drop]
        rw [show off + sz + (j - off - sz) = j by omega]; simp
  have getc : ∀ j, (cs.take off ++ (xs ++ cs.drop (off + sz)))[j]? = if j < off then cs[j]? else if j < off + sz then xs[j - off]? else cs[j]? := by
    intro j
    rw [List.getElem?_append, e2]
    by_cases hj : j < off
    · rw [if_pos hj, if_pos hj, List.getElem?_take, if_pos hj]
    · rw [if_neg hj, if_neg hj, List.getElem?_append, hs]
      by_cases hj2 : j < off + sz
      · rw [if_pos (by omega), if_pos hj2]
      · rw [if_neg (by omega), if_neg hj2, List.getElem?_drop]
        rw [show off + sz + (j - off - sz) = j by omega]
  refine ⟨?_, fun j r hr => ?_, fun j c r hc hr => ?_⟩
  · show (row.toList.take off ++ vs.toList ++ row.toList.drop (off + vs.toList.length)).toArray.size = _
    simp only [List.size_toArray, List.length_append, List.length_drop, hvl, e1, e2, hs, Array.length_toList, hl]
    omega
  · rw [get] at hr
    split at hr
    · exact h1 j r hr
    · split at hr
      · exact h2 _ r hr
      · exact h1 j r hr
  · rw [get] at hr
    rw [getc] at hc
    split at hr
    · rw [if_pos ‹_›] at hc; exact hrow j c r hc hr
    · rw [if_neg ‹_›] at hc
      split at hr
      · rw [if_pos ‹_›] at hc; exact hvs _ c r hc hr
      · rw [if_neg ‹_›] at hc; exact hrow j c r hc hr

theorem storeC_ok {forb : List Nat} {t : TypeId} {a x y : GV} {u : Option (Nat × GB)} {ra rx : Value} (hr : HR P w I T hp) (ha : VR w I T a ra) (hx : VR w I T x rx) (h : (storeC P forb hp t a x).eff y u) :
    Does P w I T hp ((do Instr.storeAt t ra rx; pure Next.skip : Sem Next).run P w) y u := by
  unfold storeC at h
  split at h
  · rename_i k off sz hsz
    cases hf : forb.elem k with
    | true => rw [hf] at h; exact h.elim
    | false =>
      rw [hf] at h
      simp only [cond_false] at h
      split at h
      · rename_i cs hk
        cases hb : (x.sane && (Nat.beq x.cells.length sz && Nat.ble (off + sz) cs.length)) with
        | false => rw [hb] at h; exact h.elim
        | true =>
          rw [hb] at h
          obtain ⟨rfl, rfl⟩ := h
          simp only [Bool.and_eq_true] at hb
          obtain ⟨hs, hb1, hb2⟩ := hb
          have hxl := Nat.eq_of_beq_eq_true hb1
          have hle := Nat.le_of_ble_eq_true hb2
          cases ha with
          | @ptr _ _ n _ hT =>
            obtain ⟨n', row, ty, e1, e2, e3, e4, e5⟩ := hr.cells k _ hk
            rw [hT] at e1; cases e1
            obtain ⟨c1, c2, c3⟩ := hx.cells hs
            obtain ⟨s1, s2, s3⟩ := splice_ok (off := off) e3 c1 hxl hle e5 c3 e4 c2
            obtain ⟨g1, g2⟩ := hr.setBlk hk hT e2 s1 s2 s3
            have hst := run_storeCells_at P n off ty rx.cells.toList 0 row w e2 (by simp; omega) (fun v hv => by
              obtain ⟨j, hj⟩ := List.getElem?_of_mem hv
              exact c2 j v (by simpa using hj))
            simp only [Nat.add_zero] at hst
            refine ⟨undef, _, _, _, .inr ⟨?_, rfl⟩, g1, .dead _, g2⟩
            have hsz' : ¬ (rx.cells.size ≠ sz) := by omega
            simp [Instr.storeAt, Instr.sureAddr, storeVar, tSize_run hsz, hsz', hst]
      · exact h.elim
  · exact h.elim

theorem foldl_splice (vs : List Value) : ∀ (off : Nat) (cells : Array Value), off + vs.length ≤ cells.size →
    (vs.toArray.zipIdx.foldl (fun cs (c, j) => cs.setIfInBounds (off + j) c) cells) = (cells.toList.take off ++ vs ++ cells.toList.drop (off + vs.length)).toArray := by
  have key : ∀ (vs : List Value) (k off : Nat) (cells : Array Value), off + k + vs.length ≤ cells.size →
      ((vs.zipIdx k).foldl (fun cs (p : Value × Nat) => cs.setIfInBounds (off + p.2) p.1) cells) = (cells.toList.take (off + k) ++ vs ++ cells.toList.drop (off + k + vs.length)).toArray := by
    intro vs
    induction vs with
    | nil => intro k off cells _; simp
    | cons v r ih =>
      intro k off cells hl
      simp only [List.length_cons] at hl
      simp only [List.zipIdx_cons, List.foldl_cons]
      rw [ih (k + 1) off _ (by simp; omega)]
      apply Array.ext'
      simp only [Array.toList_setIfInBounds]
      have hlt : off + k < cells.toList.length := by simp; omega
      rw [show off + (k + 1) = off + k + 1 by omega, List.take_succ_eq_append_getElem (by simpa using hlt)]
      rw [List.take_set_of_le (by omega), List.getElem_set_self, List.drop_set_of_lt (by omega)]
      simp only [List.append_assoc, List.singleton_append, List.cons_append, List.nil_append, List.length_cons]
      rw [show off + k + 1 + r.length = off + k + (r.length + 1) by omega]
  intro off cells hl
  have := key vs 0 off cells (by omega)
  simp only [Nat.add_zero] at this
  rw [← this, ← Array.foldl_toList]
  simp

theorem fillG_ok {place : Nat → Option (Nat × Nat)} {ps : List (Nat × GV)} : ∀ {cs r : List GV} {row : Array Value} {rps : List (Nat × Value)},
    rps.length = ps.length → (∀ (i : Nat) (p : Nat × GV) (q : Nat × Value), ps[i]? = some p → rps[i]? = some q → q.1 = p.1 ∧ VR w I T p.2 q.2) →
    row.size = cs.length → (∀ (j : Nat) (x : Value), row[j]? = some x → x.oneCell' = true) → (∀ (j : Nat) (c : GV) (x : Value), cs[j]? = some c → row[j]? = some x → VR w I T c x) →
    fillG place cs ps = some r →
    ∃ row', Instr.fill place row rps = some row' ∧ row'.size = r.length ∧ (∀ (j : Nat) (x : Value), row'[j]? = some x → x.oneCell' = true) ∧ (∀ (j : Nat) (c : GV) (x : Value), r[j]? = some c → row'[j]? = some x → VR w I T c x) := by
  induction ps with
  | nil =>
    intro cs r row rps hl hp h1 h2 h3 h
    cases rps with
    | nil => cases h; exact ⟨row, rfl, h1, h2, h3⟩
    | cons q qs => simp at hl
  | cons p ps ih =>
    intro cs r row rps hl hp h1 h2 h3 h
    cases rps with
    | nil => simp at hl
    | cons q qs =>
      obtain ⟨i, x⟩ := p
      obtain ⟨i', rx⟩ := q
      obtain ⟨rfl, hx⟩ := hp 0 _ _ rfl rfl
      simp only at hx
      simp only [fillG] at h
      split at h
      · rename_i off sz hpl
        cases hb : (x.sane && (Nat.beq x.cells.length sz && Nat.ble (off + sz) cs.length)) with
        | false => rw [hb] at h; cases h
        | true =>
          rw [hb] at h
          simp only [cond_true] at h
          simp only [Bool.and_eq_true] at hb
          obtain ⟨hs, hb1, hb2⟩ := hb
          have hxl := Nat.eq_of_beq_eq_true hb1
          have hle := Nat.le_of_ble_eq_true hb2
          obtain ⟨c1, c2, c3⟩ := hx.cells hs
          obtain ⟨s1, s2, s3⟩ := splice_ok (off := off) h1 c1 hxl hle h3 c3 h2 c2
          obtain ⟨row', e1, e2⟩ := ih (by simpa using hl) (fun j p q hj hq => hp (j + 1) p q (by simpa using hj) (by simpa using hq)) s1 s2 s3 h
          refine ⟨row', ?_, e2⟩
          have hn : ¬ (rx.cells.size ≠ sz) := by omega
          have hn2 : ¬ (off + rx.cells.size > row.size) := by omega
          simp only [Instr.fill, hpl]
          rw [if_neg (by simp; omega)]
          have := foldl_splice rx.cells.toList off row (by simp; omega)
          simp only [Array.toArray_toList] at this
          rw [this]
          exact e1
      · cases h

theorem map_parts {env : Nat → GV} {a : Act} (h : ∀ t, VR w I T (env t) (a.tmps.getD t undef)) (parts : Array (Nat × Operand)) :
    ((parts.map fun (i, x) => (i, a.eval x)).toList).length = (parts.toList.map fun p => (p.1, gev env p.2)).length ∧
    ∀ (i : Nat) (p : Nat × GV) (q : Nat × Value), (parts.toList.map fun p => (p.1, gev env p.2))[i]? = some p → ((parts.map fun (i, x) => (i, a.eval x)).toList)[i]? = some q → q.1 = p.1 ∧ VR w I T p.2 q.2 := by
  refine ⟨by simp, fun i p q hp hq => ?_⟩
  simp only [List.getElem?_map, Option.map_eq_some_iff, Array.toList_map] at hp hq
  obtain ⟨x, hx, rfl⟩ := hp
  obtain ⟨y, hy, rfl⟩ := hq
  rw [hx] at hy
  cases hy
  exact ⟨rfl, gev_ok h _⟩

theorem mapM_sized : ∀ (fs : List Field), allSized P fs = true → ∃ ps : List (Nat × Nat), (fs.mapM (m := Sem) fun f => Prod.mk f.offset <$> sizeOf f.type).run P w = .ok ps w ∧ ∀ i, ps[i]? = placeS P fs i := by
  intro fs
  induction fs with
  | nil => intro _; exact ⟨[], by simp, fun i => by simp [placeS]⟩
  | cons f fs ih =>
    intro h
    simp only [allSized, Bool.and_eq_true] at h
    obtain ⟨h1, h2⟩ := h
    obtain ⟨ps, e1, e2⟩ := ih h2
    split at h1
    · rename_i sz hsz
      refine ⟨(f.offset, sz) :: ps, ?_, fun i => ?_⟩
      · simp [List.mapM_cons, tSize_run hsz, e1]
      · cases i with
        | zero => simp [placeS, hsz]
        | succ i => simpa [placeS] using e2 i
    · cases h1

theorem buildO_ok {env : Nat → GV} {a : Act} (hev : ∀ t, VR w I T (env t) (a.tmps.getD t undef)) {t : TypeId} {parts : Array (Nat × Operand)} {y : GV} {u : Option (Nat × GB)} (h : (buildO P t (parts.toList.map fun p => (p.1, gev env p.2))).eff y u) :
    u = none ∧ ∃ r, (Instr.build t (parts.map fun (i, x) => (i, a.eval x))).run P w = .ok r w ∧ VR w I T y r := by
  obtain ⟨m1, m2⟩ := map_parts hev parts
  have zer : ∀ {z}, tZero P t = some z → (zeroValue t).run P w = .ok z w := by
    intro z hz
    unfold tZero at hz
    split at hz
    · rename_i i hi; simp [zeroValue, typeInfo, hi, hz]
    · cases hz
  unfold buildO at h
  split at h
  · rename_i z fs hz hu
    cases hs : allSized P fs.toList with
    | false => rw [hs] at h; exact h.elim
    | true =>
      rw [hs] at h
      simp only [cond_true] at h
      split at h
      · rename_i cs hcs
        split at h
        · rename_i r hr
          obtain ⟨rfl, rfl⟩ := h
          obtain ⟨z1, z2, z3⟩ := zcells_ok hcs
          obtain ⟨row', e1, e2, e3, e4⟩ := fillG_ok m1 m2 z1 z2 (z3 w I T) hr
          obtain ⟨ps, p1, p2⟩ := mapM_sized (P := P) (w := w) fs.toList hs
          refine ⟨rfl, .agg row', ?_, .agg e2 e3 e4⟩
          have hm : (fs.mapM (m := Sem) fun f => Prod.mk f.offset <$> sizeOf f.type).run P w = .ok ps.toArray w := by
            rw [Array.mapM_eq_mapM_toList, Sem.run_map, p1]
            rfl
          have hpl : (fun i => ps[i]?) = placeS P fs.toList := funext fun i => p2 i
          have e1' : Instr.fill (placeS P fs.toList) z.cells (List.map (fun x => (x.fst, a.eval x.snd)) parts.toList) = some row' := by simpa using e1
          simp [Instr.build, zer hz, run_underlying hu, hm]
          rw [hpl, e1']; rfl
        · exact h.elim
      · exact h.elim
  · rename_i z n e hz hu
    split at h
    · rename_i cs sz hcs hsz
      split at h
      · rename_i r hr
        obtain ⟨rfl, rfl⟩ := h
        obtain ⟨z1, z2, z3⟩ := zcells_ok hcs
        obtain ⟨row', e1, e2, e3, e4⟩ := fillG_ok m1 m2 z1 z2 (z3 w I T) hr
        refine ⟨rfl, .agg row', ?_, .agg e2 e3 e4⟩
        have e1' : Instr.fill (fun i => some (i * sz, sz)) z.cells (List.map (fun x => (x.fst, a.eval x.snd)) parts.toList) = some row' := by simpa using e1
        simp [Instr.build, zer hz, run_underlying hu, tSize_run hsz]
        rw [e1']; rfl
      · exact h.elim
    · exact h.elim
  · exact h.elim

end
end Go.Gh
