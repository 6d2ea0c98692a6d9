/- Ghost values and walks, bundle Gh18; proved for whatever the arguments' types allow, as each theorem says. -/
import Derived.Test.YtoofplbjpkgdgaaGh17

/- Structs in structs, and arrays in them, compared. -/
set_option linter.unusedVariables false
set_option linter.unusedSimpArgs false
namespace Go.Gh

def kEq (k k' : IntKind) : Bool := match decEq k k' with
  | .isTrue _ => true
  | .isFalse _ => false
theorem kEq_eq {k k' : IntKind} (h : kEq k k' = true) : k = k' := by
  unfold kEq at h
  split at h
  · assumption
  · cases h

def sameShape : List Value → List Value → Bool
  | [], [] => true
  | .int k _ :: xs, .int k' _ :: ys => kEq k k' && sameShape xs ys
  | .bool _ :: xs, .bool _ :: ys => sameShape xs ys
  | _, _ => false

theorem shape_app : ∀ {a b c d : List Value}, sameShape a b = true → sameShape c d = true → sameShape (a ++ c) (b ++ d) = true ∧ flatEq (a ++ c) (b ++ d) = (flatEq a b && flatEq c d) := by
  intro a
  induction a with
  | nil => intro b c d h1 h2; cases b <;> simp [sameShape] at h1; simp [h2, flatEq]
  | cons x xs ih =>
    intro b c d h1 h2
    unfold sameShape at h1
    split at h1
    · rename_i h; cases h
    · rename_i k p xs' k' q ys' h
      cases h
      simp only [Bool.and_eq_true] at h1
      obtain ⟨g1, g2⟩ := ih h1.2 h2
      simp [sameShape, flatEq, g1, g2, h1.1, Bool.and_assoc]
    · rename_i p xs' q ys' h
      cases h
      obtain ⟨g1, g2⟩ := ih h1 h2
      simp [sameShape, flatEq, g1, g2, Bool.and_assoc]
    · cases h1

def mkV (ag : Bool) (xs : List Value) : Value := bif ag then .agg xs.toArray else xs.headD undef

def nestF (P : Program) (rec : TypeId → List Value → List Value → Bool) : List Field → Nat → List Value → List Value → Bool
  | [], _, xs, ys => xs.isEmpty && ys.isEmpty
  | f :: fs, off, xs, ys => (f.name != "_") && (Nat.beq f.offset off && (match tSize P f.type with
    | some sz => rec f.type (xs.take sz) (ys.take sz) && nestF P rec fs (off + sz) (xs.drop sz) (ys.drop sz)
    | none => false))
def nestI (rec : List Value → List Value → Bool) (sz : Nat) : Nat → List Value → List Value → Bool
  | 0, xs, ys => xs.isEmpty && ys.isEmpty
  | n + 1, xs, ys => rec (xs.take sz) (ys.take sz) && nestI rec sz n (xs.drop sz) (ys.drop sz)

def nestT (P : Program) : Nat → TypeId → List Value → List Value → Bool
  | 0, _, _, _ => false
  | d + 1, t, xs, ys => match P.underlying t with
    | some (.int _) => (match xs, ys with
      | [.int k _], [.int k' _] => kEq k k'
      | _, _ => false)
    | some .bool => (match xs, ys with
      | [.bool _], [.bool _] => true
      | _, _ => false)
    | some (.struct fs) => !(P.stoodInHeld t) && nestF P (nestT P d) fs.toList 0 xs ys
    | some (.array n e) => (match P.info? e with
      | some i => nestI (nestT P d e) i.size n xs ys
      | none => false)
    | _ => false

section
variable {P : Program}

/-- What the comparison of two values of a type comes to. -/
structure EqG (P : Program) (d : Nat) (t : TypeId) (xs ys : List Value) : Prop where
  shape : sameShape xs ys = true
  agg : ∃ ag, tAgg P t = some ag ∧ (ag = false → ∃ x y, xs = [x] ∧ ys = [y]) ∧ ∀ (dd : Nat) (w : World), (Op.equalIn (d + dd) t (mkV ag xs) (mkV ag ys)).run P w = .ok (flatEq xs ys) w

theorem part_row {t : TypeId} {ag : Bool} {sz off : Nat} {X : Array Value} {xs : List Value} {w : World} (hag : tAgg P t = some ag) (hsz : tSize P t = some sz) (hX : X.toList.drop off = xs) (h1 : ag = false → ∃ x, xs.take sz = [x]) :
    (part t X off).run P w = .ok (mkV ag (xs.take sz)) w := by
  cases ag with
  | true =>
    simp [part, tAgg_run hag, tSize_run hsz, mkV]
    rw [← hX]
    apply Array.toList_inj.1
    simp [Array.toList_extract, List.extract]
  | false =>
    obtain ⟨x, hx⟩ := h1 rfl
    have : X[off]? = some x := by
      have e : xs.head? = some x := by
        cases xs with
        | nil => simp at hx
        | cons a r =>
          cases sz with
          | zero => simp at hx
          | succ n => simp at hx; simp [hx.1]
      rw [← Array.getElem?_toList]
      rw [← hX, List.head?_drop] at e
      exact e
    simp [part, tAgg_run hag, this, mkV, hx]

theorem tSize_info18 {t : TypeId} {i : TypeInfo} (h : P.info? t = some i) : tSize P t = some i.size := by unfold tSize; rw [h]

theorem nestF_ok {d : Nat} (IH : ∀ t xs ys, nestT P d t xs ys = true → EqG P d t xs ys) (X Y : Array Value) : ∀ (fs : List Field) (off : Nat) (xs ys : List Value), X.toList.drop off = xs → Y.toList.drop off = ys → nestF P (nestT P d) fs off xs ys = true →
    sameShape xs ys = true ∧ ∀ (dd : Nat) (w : World), (Op.eqFields (d + dd) X Y fs).run P w = .ok (flatEq xs ys) w := by
  intro fs
  induction fs with
  | nil =>
    intro off xs ys hX hY h
    simp only [nestF, Bool.and_eq_true, List.isEmpty_iff] at h
    obtain ⟨rfl, rfl⟩ := h
    exact ⟨rfl, fun dd w => by simp [Op.eqFields, flatEq]⟩
  | cons f fs ih =>
    intro off xs ys hX hY h
    simp only [nestF, Bool.and_eq_true] at h
    obtain ⟨hn, ho, h⟩ := h
    split at h
    · rename_i sz hsz
      simp only [Bool.and_eq_true] at h
      obtain ⟨h1, h2⟩ := h
      have ho := Nat.eq_of_beq_eq_true ho
      subst ho
      obtain ⟨s1, ag, hag, hone, he⟩ := IH _ _ _ h1
      obtain ⟨s2, hrest⟩ := ih (f.offset + sz) _ _ (by rw [← hX, List.drop_drop]) (by rw [← hY, List.drop_drop]) h2
      obtain ⟨s3, s4⟩ := shape_app s1 s2
      rw [List.take_append_drop, List.take_append_drop] at s3 s4
      refine ⟨s3, fun dd w => ?_⟩
      have hn : f.name ≠ "_" := by simpa using hn
      simp only [Op.eqFields, if_pos hn, Sem.run_bind, part_row hag hsz hX (fun e => by obtain ⟨x, y, g1, g2⟩ := hone e; exact ⟨x, g1⟩), part_row hag hsz hY (fun e => by obtain ⟨x, y, g1, g2⟩ := hone e; exact ⟨y, g2⟩), Result.andThen_ok, he dd w, Sem.run_ite, hrest dd w, s4]
      cases flatEq (xs.take sz) (ys.take sz) <;> simp
    · cases h

theorem nestI_ok {d : Nat} {e : TypeId} {sz : Nat} (hsz : tSize P e = some sz) (IH : ∀ xs ys, nestT P d e xs ys = true → EqG P d e xs ys) (X Y : Array Value) : ∀ (n j : Nat) (xs ys : List Value), X.toList.drop (j * sz) = xs → Y.toList.drop (j * sz) = ys → nestI (nestT P d e) sz n xs ys = true →
    sameShape xs ys = true ∧ ∀ (dd : Nat) (w : World), (Op.eqItems (d + dd) e sz X Y (List.range' j n)).run P w = .ok (flatEq xs ys) w := by
  intro n
  induction n with
  | zero =>
    intro j xs ys hX hY h
    simp only [nestI, Bool.and_eq_true, List.isEmpty_iff] at h
    obtain ⟨rfl, rfl⟩ := h
    exact ⟨rfl, fun dd w => by simp [Op.eqItems, flatEq]⟩
  | succ n ih =>
    intro j xs ys hX hY h
    simp only [nestI, Bool.and_eq_true] at h
    obtain ⟨h1, h2⟩ := h
    obtain ⟨s1, ag, hag, hone, he⟩ := IH _ _ h1
    obtain ⟨s2, hrest⟩ := ih (j + 1) _ _ (by rw [← hX, List.drop_drop, Nat.add_mul, Nat.one_mul]) (by rw [← hY, List.drop_drop, Nat.add_mul, Nat.one_mul]) h2
    obtain ⟨s3, s4⟩ := shape_app s1 s2
    rw [List.take_append_drop, List.take_append_drop] at s3 s4
    refine ⟨s3, fun dd w => ?_⟩
    simp only [List.range'_succ, Op.eqItems, Sem.run_bind, part_row hag hsz hX (fun e => by obtain ⟨x, y, g1, g2⟩ := hone e; exact ⟨x, g1⟩), part_row hag hsz hY (fun e => by obtain ⟨x, y, g1, g2⟩ := hone e; exact ⟨y, g2⟩), Result.andThen_ok, he dd w, Sem.run_ite, hrest dd w, s4]
    cases flatEq (xs.take sz) (ys.take sz) <;> simp

theorem nestT_ok : ∀ (d : Nat) (t : TypeId) (xs ys : List Value), nestT P d t xs ys = true → EqG P d t xs ys
  | 0, t, xs, ys, h => by cases h
  | d + 1, t, xs, ys, h => by
    unfold nestT at h
    split at h
    · rename_i k0 hu
      split at h
      · rename_i k a k' b
        have hk := kEq_eq h
        subst hk
        refine ⟨by simp [sameShape, h], false, by simp [tAgg, hu], fun _ => ⟨_, _, rfl, rfl⟩, fun dd w => ?_⟩
        rw [show d + 1 + dd = d + dd + 1 by omega]
        simp only [mkV, cond_false, List.headD_cons, run_equalIn_int w (d + dd) t k k0 a b hu, flatEq, Bool.and_true]
      · cases h
    · rename_i hu
      split at h
      · rename_i a b
        refine ⟨by simp [sameShape], false, by simp [tAgg, hu], fun _ => ⟨_, _, rfl, rfl⟩, fun dd w => ?_⟩
        rw [show d + 1 + dd = d + dd + 1 by omega]
        simp only [mkV, cond_false, List.headD_cons, run_equalIn_bool' w (d + dd) t a b hu, flatEq, Bool.and_true]
      · cases h
    · rename_i fs hu
      simp only [Bool.and_eq_true, Bool.not_eq_true'] at h
      obtain ⟨h1, h2⟩ := h
      obtain ⟨s, hs⟩ := nestF_ok (fun t xs ys => nestT_ok d t xs ys) xs.toArray ys.toArray fs.toList 0 xs ys (by simp) (by simp) h2
      refine ⟨s, true, by simp [tAgg, hu], fun e => (by cases e), fun dd w => ?_⟩
      have hf : P.fieldsOf t = fs := by unfold Program.fieldsOf; rw [hu]
      rw [show d + 1 + dd = d + dd + 1 by omega]
      simp only [mkV, cond_true]
      rw [run_equalIn_struct w (d + dd) t _ _ (by rw [hf]; exact hu) h1, hf]
      exact hs dd w
    · rename_i n e hu
      split at h
      · rename_i i hi
        obtain ⟨s, hs⟩ := nestI_ok (tSize_info18 hi) (fun xs ys => nestT_ok d e xs ys) xs.toArray ys.toArray n 0 xs ys (by simp) (by simp) h
        refine ⟨s, true, by simp [tAgg, hu], fun e => (by cases e), fun dd w => ?_⟩
        rw [show d + 1 + dd = d + dd + 1 by omega]
        simp only [mkV, cond_true]
        rw [run_equalIn_array w (d + dd) _ _ hu hi, show P.cellsOf e = i.size by unfold Program.cellsOf; rw [hi]; rfl, List.range_eq_range']
        exact hs dd w
      · cases h
    · cases h

def deepEqT (P : Program) (t : TypeId) (xs ys : List Value) : Bool := !(P.eqGuardType P.depth t) && (nestT P 20 t xs ys && (match tAgg P t with
  | some true => true
  | _ => false))

theorem EqRun.deep {t : TypeId} {xs ys : List Value} {b : Bool} (h : deepEqT P t xs ys = true) (hb : flatEq xs ys = b) : EqRun P t xs ys b := by
  unfold deepEqT at h
  simp only [Bool.and_eq_true, Bool.not_eq_true'] at h
  obtain ⟨h1, h2, h3⟩ := h
  refine ⟨h1, fun w => ?_⟩
  obtain ⟨s, ag, hag, _, he⟩ := nestT_ok 20 t xs ys h2
  have : ag = true := by
    rw [hag] at h3
    cases ag with
    | true => rfl
    | false => cases h3
  subst this
  have e : (Op.equal t (.agg xs.toArray) (.agg ys.toArray)).run P w = (Op.equalIn (20 + 9980) t (.agg xs.toArray) (.agg ys.toArray)).run P w := by
    simp [Op.equal, Op.maxDepth]
  rw [e]
  have := he 9980 w
  simp only [mkV, cond_true] at this
  rw [this, hb]

/-- What goes with the one goes with the other. -/
def Sub (g g' : GV) : Prop := ∀ (w : World) (I : Nat → Nat → Prop) (T : Tab) (r : Value), VR w I T g r → VR w I T g' r
theorem Sub.refl (g : GV) : Sub g g := fun _ _ _ _ h => h
theorem Sub.nil (es : Nat) : Sub (.v (.slice none 0 0)) (.list es [] none) := fun w I T r h => by
  cases h
  exact .nil (fun _ => rfl) (fun k hk => by cases hk)
inductive SubL : List GV → List GV → Prop
  | nil : SubL [] []
  | cons {x y : GV} {xs ys : List GV} (h : Sub x y) (hs : SubL xs ys) : SubL (x :: xs) (y :: ys)
theorem SubL.refl : ∀ (l : List GV), SubL l l
  | [] => .nil
  | x :: r => .cons (Sub.refl x) (SubL.refl r)
theorem SubL.get {xs ys : List GV} (h : SubL xs ys) : xs.length = ys.length ∧ ∀ (i : Nat) (c : GV), ys[i]? = some c → ∃ c0, xs[i]? = some c0 ∧ Sub c0 c := by
  induction h with
  | nil => exact ⟨rfl, fun i c hc => by simp at hc⟩
  | @cons x y xs ys h hs ih =>
    refine ⟨by simp [ih.1], fun i c hc => ?_⟩
    cases i with
    | zero => simp at hc; subst hc; exact ⟨x, rfl, h⟩
    | succ i => simpa using ih.2 i c (by simpa using hc)
theorem Sub.agg {xs ys : List GV} (h : SubL xs ys) : Sub (.agg xs) (.agg ys) := fun w I T r hr => by
  cases hr with
  | agg hl h1 hh =>
    refine .agg (by rw [hl, h.get.1]) h1 fun i c r hc hr => ?_
    obtain ⟨c0, e, hs⟩ := h.get.2 i c hc
    exact hs _ _ _ _ (hh i c0 r e hr)
/-- Elements that go together. -/
inductive SubE : List GV → List GV → Prop
  | nil : SubE [] []
  | cons {x y : GV} {xs ys : List GV} (h : SubL x.cells y.cells) (hy : y.sane = true) (hs : SubE xs ys) : SubE (x :: xs) (y :: ys)
theorem SubE.get {xs ys : List GV} (h : SubE xs ys) : xs.length = ys.length ∧ ∀ (i : Nat) (y : GV), ys[i]? = some y → ∃ x, xs[i]? = some x ∧ SubL x.cells y.cells ∧ y.sane = true := by
  induction h with
  | nil => exact ⟨rfl, fun i c hc => by simp at hc⟩
  | @cons x y xs ys h hy hs ih =>
    refine ⟨by simp [ih.1], fun i c hc => ?_⟩
    cases i with
    | zero => simp at hc; subst hc; exact ⟨x, rfl, h, hy⟩
    | succ i => simpa using ih.2 i c (by simpa using hc)
theorem Sub.list {es : Nat} {xs ys : List GV} (h : SubE xs ys) : Sub (.list es xs none) (.list es ys none) := fun w I T r hr => by
  obtain ⟨hlen, hget⟩ := h.get
  cases hr with
  | nil hb hown =>
    have : ys = [] := List.eq_nil_of_length_eq_zero (by rw [← hlen]; rfl)
    subst this
    exact .nil hb (fun k hk => by cases hk)
  | list b o cap row hcap hes hsane hcell hrel hown =>
    rw [hlen]
    refine .list b o cap row (by omega) (fun y hy => ?_) (fun y hy => ?_) (fun j hj => hcell j (by rw [hlen]; exact hj)) (fun i y j c hy hc => ?_) (fun k hk => by cases hk)
    · obtain ⟨i, hi⟩ := List.mem_iff_getElem?.1 hy
      obtain ⟨x, h1, h2, h3⟩ := hget i y hi
      rw [← h2.get.1]; exact hes x (List.mem_of_getElem? h1)
    · obtain ⟨i, hi⟩ := List.mem_iff_getElem?.1 hy
      obtain ⟨x, h1, h2, h3⟩ := hget i y hi
      exact h3
    · obtain ⟨x, h1, h2, h3⟩ := hget i y hy
      obtain ⟨c0, h4, h5⟩ := h2.get.2 j c hc
      exact h5 _ _ _ _ (hrel i x j c0 h1 h4)
theorem ICalls.sub {f : FuncId} {args args' : List GV} {hs : List GB} {R : GV → List GB → Prop} (h : ICalls P f args' hs R) (ha : SubL args args') : ICalls P f args hs R := by
  unfold ICalls at *
  refine ⟨h.1, fun w I T vals h1 h2 h3 => h.2 w I T vals h1 (by rw [h2, ha.get.1]) fun i c r hc hr => ?_⟩
  obtain ⟨c0, e, hs⟩ := ha.get.2 i c hc
  exact hs _ _ _ _ (h3 i c0 r e hr)

/-- What is handed back goes with this. -/
structure DoneS (v0 : GV) (hs0 : List GB) (v : GV) (hs : List GB) : Prop where
  out : Sub v v0 ∧ hs = hs0
theorem ICalls.ofS {f : FuncId} {args : List GV} {hs hs0 : List GB} {v0 : GV} (h : ICalls P f args hs (DoneS v0 hs0)) : ICalls P f args hs (Done v0 hs0) := by
  unfold ICalls at *
  refine ⟨h.1, fun w I T vals h1 h2 h3 => (h.2 w I T vals h1 h2 h3).mono ?_⟩
  rintro e w' ⟨v, hs', r, I', T', ⟨hs1, rfl⟩, he, hx, hv, hr⟩
  exact ⟨v0, hs', r, I', T', ⟨⟨rfl, rfl⟩⟩, he, hx, hs1 _ _ _ _ hv, hr⟩
theorem Sub.tup {xs ys : List GV} (h : SubL xs ys) : Sub (.tup xs) (.tup ys) := fun w I T r hr => by
  cases hr with
  | tup hl hh =>
    refine .tup (by rw [hl, h.get.1]) fun i c r hc hr => ?_
    obtain ⟨c0, e, hs⟩ := h.get.2 i c hc
    exact hs _ _ _ _ (hh i c0 r e hr)
/-- A list, seen as nil, or as one that is not nil. -/
theorem ICalls.nils {f : FuncId} {es : Nat} {a b : List GV} {hs : List GB} {R : GV → List GB → Prop} (h1 : ICalls P f (a ++ .v (.slice none 0 0) :: b) hs R) (h2 : ICalls P f (a ++ .emp :: b) hs R) : ICalls P f (a ++ .list es [] none :: b) hs R := by
  unfold ICalls at *
  refine ⟨h1.1, fun w I T vals g1 g2 g3 => ?_⟩
  have hlen : a.length < vals.size := by rw [g2]; simp
  have hv := g3 a.length (.list es [] none) vals[a.length] (by simp) (by simp [hlen])
  have other : ∀ (x : GV), VR w I T x vals[a.length] → ∀ (i : Nat) (c : GV) (r : Value), (a ++ x :: b)[i]? = some c → vals[i]? = some r → VR w I T c r := by
    intro x hx i c r hc hr
    rw [List.getElem?_append] at hc
    split at hc
    · rename_i hi
      exact g3 i c r (by rw [List.getElem?_append_left hi]; exact hc) hr
    · rename_i hi
      by_cases he : i = a.length
      · subst he
        simp at hc; subst hc
        have : vals[a.length]? = some vals[a.length] := by simp [hlen]
        rw [this] at hr; cases hr; exact hx
      · obtain ⟨m, hm⟩ : ∃ m, i - a.length = m + 1 := ⟨i - a.length - 1, by omega⟩
        rw [hm] at hc
        refine g3 i c r ?_ hr
        rw [List.getElem?_append_right (by omega), hm]
        simpa using hc
  generalize hvv : vals[a.length] = rv at hv
  cases hv with
  | @nil _ _ _ base cap hb hown =>
    cases base with
    | none =>
      have := hb rfl
      subst this
      exact h1.2 w I T vals g1 (by rw [g2]; simp) (other _ (by rw [hvv]; exact .v _ rfl))
    | some ad => exact h2.2 w I T vals g1 (by rw [g2]; simp) (other _ (by rw [hvv]; exact .emp _ _))
  | list b o cap row hcap hes hsane hcell hrel hown => exact h2.2 w I T vals g1 (by rw [g2]; simp) (other _ (by rw [hvv]; exact .emp _ _))

end
end Go.Gh
