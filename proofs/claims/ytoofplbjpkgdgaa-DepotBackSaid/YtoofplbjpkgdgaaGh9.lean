/- Ghost values and walks, bundle Gh9; proved for whatever the arguments' types allow, as each theorem says. -/
import Derived.Test.YtoofplbjpkgdgaaGh8

/- Calls: a function's contract in ghost values, and what it means for the caller. -/
set_option linter.unusedVariables false
set_option linter.unusedSimpArgs false
namespace Go.Gh

def GB.un : GB → Option GB
  | .gone => none
  | b => some b

def GB.ren (σ : Nat → Option Nat) : GB → GB
  | .cells cs => .cells (GV.renL σ cs)
  | .vec e n => .vec e n
  | .mvec e es xs v => .mvec e es xs v
  | .gone => .gone

theorem GB.un_ren (σ : Nat → Option Nat) (b : GB) : (b.ren σ).un = b.un.map (GB.ren σ) := by cases b <;> rfl

def hpL (hs : List GB) : Nat → Option GB := fun k => (hs[k]?).bind GB.un

/-- A contract: called with such arguments and such blocks, the function hands back a value and leaves blocks of which R holds; nothing else that was there has turned. -/
@[irreducible] def ICalls (P : Program) (f : FuncId) (args : List GV) (hs : List GB) (R : GV → List GB → Prop) : Prop :=
  (∀ (vals : Array Value) (w : World), (callFunc f vals).run P w = .ok (.enter f vals) w) ∧
  ∀ (w : World) (I : Nat → Nat → Prop) (T : Tab) (vals : Array Value), HR P w I T (hpL hs) → vals.size = args.length →
    (∀ (i : Nat) (c : GV) (r : Value), args[i]? = some c → vals[i]? = some r → VR w I T c r) →
    Calls P f vals w (fun e w' => ∃ v hs' r I' T', R v hs' ∧ e = .returned r ∧ Ext w I T w' I' T' ∧ VR w' I' T' v r ∧ HR P w' I' T' (hpL hs'))

theorem ICalls.mono {P : Program} {f : FuncId} {args : List GV} {hs : List GB} {R R' : GV → List GB → Prop} (h : ICalls P f args hs R) (hR : ∀ v hs', R v hs' → R' v hs') : ICalls P f args hs R' := by
  unfold ICalls at *
  refine ⟨h.1, fun w I T vals h1 h2 h3 => (h.2 w I T vals h1 h2 h3).mono ?_⟩
  rintro e w' ⟨v, hs', r, I', T', h4, h5⟩
  exact ⟨v, hs', r, I', T', hR _ _ h4, h5⟩

mutual
def keysV : GV → List Nat
  | .ptr k _ => [k]
  | .agg cs => keysL cs
  | .tup cs => keysL cs
  | .fn _ a b => keysL a ++ keysL b
  | .iface _ x => keysV x
  | .ms _ k _ _ => [k]
  | .mptr k _ _ _ => [k]
  | .mview _ k _ _ _ => [k]
  | _ => []
def keysL : List GV → List Nat
  | [] => []
  | x :: r => keysV x ++ keysL r
end

def reach (hp : Nat → Option GB) : Nat → List Nat → List Nat → List Nat
  | 0, _, acc => acc
  | _, [], acc => acc
  | n + 1, k :: todo, acc => bif acc.elem k then reach hp n todo acc else (match hp k with
    | some (.cells cs) => reach hp n (keysL cs ++ todo) (acc ++ [k])
    | some (.mvec _ _ _ _) => reach hp n todo (acc ++ [k])
    | _ => reach hp n todo acc)

def idxOf : List Nat → Nat → Option Nat
  | [], _ => none
  | x :: r, k => bif Nat.beq x k then some 0 else (match idxOf r k with
    | some i => some (i + 1)
    | none => none)

def hpCells (hp : Nat → Option GB) (k : Nat) : List GV := match hp k with
  | some (.cells cs) => cs
  | _ => []

def hpB (hp : Nat → Option GB) (k : Nat) : GB := match hp k with
  | some b => b
  | none => .gone

def putAll (hp : Nat → Option GB) : List Nat → List GB → Nat → Option GB
  | k :: ks, b :: hs => fun u => bif Nat.beq u k then b.un else putAll hp ks hs u
  | _, _ => hp

/-- The keys of the blocks that a call hands back. -/
def newKeys (d : Nat) : Nat → List Nat
  | 0 => []
  | n + 1 => newKeys d n ++ [100 + d + 100000 * n]
def freeKeys (hp : Nat → Option GB) : List Nat → Bool
  | [] => true
  | k :: r => (match hp k with
    | none => true
    | some _ => false) && freeKeys hp r

/-- The call as the caller sees it. -/
def callWp (P : Program) (hp : Nat → Option GB) (d : Nat) (f : FuncId) (args : List GV) (fin : GV → (Nat → Option GB) → Prop) : Prop :=
  ICalls P f (GV.renL (idxOf (reach hp 100 (keysL args) [])) args) ((reach hp 100 (keysL args) []).map fun k => (hpB hp k).ren (idxOf (reach hp 100 (keysL args) [])))
    (fun v hs' => ∃ nk, nk = newKeys d (hs'.length - (reach hp 100 (keysL args) []).length) ∧ (freeKeys hp nk = true ∧ (reach hp 100 (keysL args) []).length ≤ hs'.length) ∧
      fin (v.ren fun j => (reach hp 100 (keysL args) [] ++ nk)[j]?) (putAll hp (reach hp 100 (keysL args) [] ++ nk) (hs'.map (GB.ren fun j => (reach hp 100 (keysL args) [] ++ nk)[j]?))))

/-- The same for a call whose answer is known, and that hands back no new block. -/
def callX (P : Program) (hp : Nat → Option GB) (f : FuncId) (args : List GV) (fin : GV → (Nat → Option GB) → Prop) : Prop :=
  ∃ v hs', ICalls P f (GV.renL (idxOf (reach hp 100 (keysL args) [])) args) ((reach hp 100 (keysL args) []).map fun k => (hpB hp k).ren (idxOf (reach hp 100 (keysL args) []))) (fun v' hs'' => v' = v ∧ hs'' = hs') ∧
    hs'.length = (reach hp 100 (keysL args) []).length ∧
    fin (v.ren fun j => (reach hp 100 (keysL args) [])[j]?) (putAll hp (reach hp 100 (keysL args) []) (hs'.map (GB.ren fun j => (reach hp 100 (keysL args) [])[j]?)))

theorem newKeys_mem {d n k : Nat} (h : k ∈ newKeys d n) : k < 100 + d + 100000 * n := by
  induction n with
  | zero => cases h
  | succ n ih =>
    unfold newKeys at h
    rcases List.mem_append.1 h with h | h
    · have := ih h; omega
    · simp at h; omega
theorem newKeys_nodup (d n : Nat) : (newKeys d n).Nodup := by
  induction n with
  | zero => exact List.nodup_nil
  | succ n ih =>
    unfold newKeys
    rw [List.nodup_append]
    exact ⟨ih, by simp, fun a ha b hb => by simp at hb; have := newKeys_mem ha; omega⟩
theorem freeKeys_ok {hp : Nat → Option GB} : ∀ {l : List Nat}, freeKeys hp l = true → ∀ k, k ∈ l → hp k = none
  | [], _, k, h => by cases h
  | x :: r, h, k, hk => by
    unfold freeKeys at h
    simp only [Bool.and_eq_true] at h
    rcases List.mem_cons.1 hk with rfl | hk
    · have := h.1
      split at this
      · assumption
      · cases this
    · exact freeKeys_ok h.2 k hk
theorem newKeys_length (d n : Nat) : (newKeys d n).length = n := by
  induction n with
  | zero => rfl
  | succ n ih => unfold newKeys; simp [ih]

/-- A block that may be handed to a call. -/
def Pass (b : Option GB) : Prop := (∃ cs, b = some (.cells cs)) ∨ ∃ e es xs v, b = some (.mvec e es xs v)

theorem reach_ok (hp : Nat → Option GB) : ∀ (n : Nat) (todo acc : List Nat), acc.Nodup → (∀ k, k ∈ acc → Pass (hp k)) → (reach hp n todo acc).Nodup ∧ ∀ k, k ∈ reach hp n todo acc → Pass (hp k)
  | 0, _, acc, h1, h2 => by unfold reach; exact ⟨h1, h2⟩
  | n + 1, [], acc, h1, h2 => by unfold reach; exact ⟨h1, h2⟩
  | n + 1, k :: todo, acc, h1, h2 => by
    unfold reach
    cases he : acc.elem k with
    | true => exact reach_ok hp n todo acc h1 h2
    | false =>
      simp only [cond_false]
      have hk : k ∉ acc := by
        intro hm; have : acc.elem k = true := List.elem_eq_true_of_mem hm
        rw [he] at this; cases this
      have hnd : (acc ++ [k]).Nodup := by
        rw [List.nodup_append]
        exact ⟨h1, by simp, fun a ha b hb => by simp at hb; subst hb; intro e; subst e; exact hk ha⟩
      split
      · rename_i cs hcs
        refine reach_ok hp n _ _ hnd ?_
        intro q hq
        rcases List.mem_append.1 hq with hq | hq
        · exact h2 q hq
        · simp at hq; subst hq; exact .inl ⟨cs, hcs⟩
      · rename_i e es xs v hcs
        refine reach_ok hp n _ _ hnd ?_
        intro q hq
        rcases List.mem_append.1 hq with hq | hq
        · exact h2 q hq
        · simp at hq; subst hq; exact .inr ⟨e, es, xs, v, hcs⟩
      · exact reach_ok hp n todo acc h1 h2

theorem idxOf_some {ks : List Nat} {k i : Nat} (h : idxOf ks k = some i) : ks[i]? = some k := by
  induction ks generalizing i with
  | nil => cases h
  | cons x r ih =>
    unfold idxOf at h
    cases hb : Nat.beq x k with
    | true => rw [hb] at h; cases h; rw [Nat.eq_of_beq_eq_true hb]; rfl
    | false =>
      rw [hb] at h
      simp only [cond_false] at h
      split at h
      · rename_i i' hi; cases h; simpa using ih hi
      · cases h

theorem idxOf_none {ks : List Nat} {k : Nat} (h : idxOf ks k = none) : k ∉ ks := by
  induction ks with
  | nil => simp
  | cons x r ih =>
    unfold idxOf at h
    cases hb : Nat.beq x k with
    | true => rw [hb] at h; cases h
    | false =>
      rw [hb] at h
      simp only [cond_false] at h
      split at h
      · cases h
      · rename_i hi
        have hne : x ≠ k := fun e => by subst e; simp at hb
        simp [ih hi, Ne.symm hne]

theorem idxOf_of {ks : List Nat} {k i : Nat} (hn : ks.Nodup) (h : ks[i]? = some k) : idxOf ks k = some i := by
  cases h' : idxOf ks k with
  | none => exact absurd (List.mem_of_getElem? h) (idxOf_none h')
  | some j =>
    have := idxOf_some h'
    have h1 := (List.getElem?_eq_some_iff.1 h).1
    have h2 := (List.getElem?_eq_some_iff.1 this).1
    have e : ks[i] = ks[j] := by rw [(List.getElem?_eq_some_iff.1 h).2, (List.getElem?_eq_some_iff.1 this).2]
    rw [(List.getElem_inj hn).1 e]

theorem putAll_ok (hp : Nat → Option GB) : ∀ (ks : List Nat) (hs : List GB), ks.length = hs.length → ∀ k, putAll hp ks hs k = match idxOf ks k with
    | some j => (hs[j]?).bind GB.un
    | none => hp k
  | [], hs, _, k => by
    have : hs = [] := List.eq_nil_of_length_eq_zero (by simpa using ‹[].length = hs.length›.symm)
    subst this; rfl
  | x :: ks, [], h, _ => by simp at h
  | x :: ks, b :: hs, h, k => by
    unfold putAll idxOf
    by_cases hk : k = x
    · subst hk; simp
    · have hb : Nat.beq x k = false := by
        cases hb : Nat.beq x k with
        | true => exact absurd (Nat.eq_of_beq_eq_true hb).symm hk
        | false => rfl
      have hb' : Nat.beq k x = false := by
        cases hb' : Nat.beq k x with
        | true => exact absurd (Nat.eq_of_beq_eq_true hb') hk
        | false => rfl
      rw [hb, hb', putAll_ok hp ks hs (by simpa using h) k]
      simp only [cond_false]
      cases idxOf ks k <;> simp

section
variable {P : Program} {w : World} {I : Nat → Nat → Prop} {T : Tab} {hp : Nat → Option GB}

/-- A call by its contract: what the caller has behind it. -/
theorem call_ok {f : FuncId} {args : List GV} {vals : Array Value} {R : GV → List GB → List Nat → Prop} (hr : HR P w I T hp) (ks : List Nat) (hnd : ks.Nodup) (hks : ∀ k, k ∈ ks → Pass (hp k))
    (hl : vals.size = args.length) (hv : ∀ (i : Nat) (c : GV) (r : Value), args[i]? = some c → vals[i]? = some r → VR w I T c r)
    (h : ICalls P f (GV.renL (idxOf ks) args) (ks.map fun k => (hpB hp k).ren (idxOf ks)) (fun v hs' => ∃ nk, (hs'.length = (ks ++ nk).length ∧ nk.Nodup ∧ ∀ k, k ∈ nk → hp k = none) ∧ R v hs' nk)) :
    (callFunc f vals).run P w = .ok (.enter f vals) w ∧
    Calls P f vals w (fun e w' => ∃ v hs' nk r I' T', R v hs' nk ∧ e = .returned r ∧ Ext w I T w' I' T' ∧ VR w' I' T' (v.ren fun j => (ks ++ nk)[j]?) r ∧ HR P w' I' T' (putAll hp (ks ++ nk) (hs'.map (GB.ren fun j => (ks ++ nk)[j]?)))) := by
  unfold ICalls at h
  refine ⟨h.1 vals w, ?_⟩
  let Tc : Tab := fun j => (ks[j]?).bind T
  have hTc : ∀ j x, Tc j = some x → ∃ k, ks[j]? = some k ∧ T k = some x := by
    intro j x hx
    obtain ⟨k, h1, h2⟩ := Option.bind_eq_some_iff.1 hx
    exact ⟨k, h1, h2⟩
  have hnv : ∀ k, k ∈ ks → ∀ u e es n, T k ≠ some (.vec u e es n) := by
    intro k hk u e es n hT
    rcases hks k hk with ⟨cs, hcs⟩ | ⟨e1, es1, xs1, v1, hcs⟩
    · obtain ⟨n, row, ty, e1, _⟩ := hr.cells k cs hcs
      rw [hT] at e1; cases e1
    · obtain ⟨u, ys, i, e1, _⟩ := hr.mvec k _ _ _ _ hcs
      rw [hT] at e1; cases e1
  have hσ : ∀ k k' y, idxOf ks k = some k' → T k = some y → Tc k' = some y := by
    intro k k' y h1 h2
    show (ks[k']?).bind T = some y
    rw [idxOf_some h1]; exact h2
  have hhs : ∀ j b, hpL (ks.map fun k => (hpB hp k).ren (idxOf ks)) j = some b → ∃ k b0, ks[j]? = some k ∧ hp k = some b0 ∧ b = b0.ren (idxOf ks) := by
    intro j b hj
    simp only [hpL, List.getElem?_map] at hj
    obtain ⟨b1, h1, h2⟩ := Option.bind_eq_some_iff.1 hj
    obtain ⟨k, h3, rfl⟩ := Option.map_eq_some_iff.1 h1
    rw [GB.un_ren] at h2
    obtain ⟨b2, h4, rfl⟩ := Option.map_eq_some_iff.1 h2
    refine ⟨k, b2, h3, ?_, rfl⟩
    unfold hpB at h4
    cases hh : hp k with
    | none => rw [hh] at h4; cases h4
    | some g => rw [hh] at h4; cases g <;> first | (cases h4; rfl) | cases h4
  have hrc : HR P w I Tc (hpL (ks.map fun k => (hpB hp k).ren (idxOf ks))) := by
    refine ⟨fun j hj => ?_, fun j cs hj => ?_, fun j e n hj => ?_, fun j e es xs v hj => ?_, fun j hj => ?_, hr.lt, fun j n o hj => ?_, fun j u e es n b o hj => ?_, fun j u s v b o hj => ?_, fun j j' x x' b h1 h2 hb hb' => ?_⟩
    · cases hkj : ks[j]? with
      | none => show (ks[j]?).bind T = none; rw [hkj]; rfl
      | some k =>
        exfalso
        simp only [hpL, List.getElem?_map, hkj, Option.map_some, Option.bind_some] at hj
        rcases hks k (List.mem_of_getElem? hkj) with ⟨cs, hcs⟩ | ⟨e1, es1, xs1, v1, hcs⟩ <;> (unfold hpB at hj; rw [hcs] at hj; cases hj)
    · obtain ⟨k, b0, h1, h2, h3⟩ := hhs j _ hj
      cases b0 <;> simp only [GB.ren] at h3 <;> try cases h3
      obtain ⟨n, row, ty, e1, e2, e3, e4, e5⟩ := hr.cells k _ h2
      rw [renL_eq]
      refine ⟨n, row, ty, by show (ks[j]?).bind T = _; rw [h1]; exact e1, e2, by simpa using e3, e4, fun i c r hc hr' => ?_⟩
      simp only [List.getElem?_map, Option.map_eq_some_iff] at hc
      obtain ⟨c0, h3, rfl⟩ := hc
      exact (e5 i c0 r h3 hr').ren _ hσ
    · obtain ⟨k, b0, h1, h2, h3⟩ := hhs j _ hj
      cases b0 <;> simp only [GB.ren] at h3 <;> try cases h3
      exfalso
      rcases hks k (List.mem_of_getElem? h1) with ⟨cs, hcs⟩ | ⟨e1, es1, xs1, v1, hcs⟩ <;> (rw [h2] at hcs; cases hcs)
    · obtain ⟨k, b0, h1, h2, h3⟩ := hhs j _ hj
      cases b0 <;> simp only [GB.ren] at h3 <;> try cases h3
      obtain ⟨u, ys, i, e1, e2⟩ := hr.mvec k _ _ _ _ h2
      exact ⟨u, ys, i, by show (ks[j]?).bind T = _; rw [h1]; exact e1, e2⟩
    · obtain ⟨k, b0, h1, h2, h3⟩ := hhs j _ hj
      cases b0 <;> simp only [GB.ren] at h3 <;> try cases h3
      show (ks[j]?).bind T = none
      rw [h1]; exact hr.gone k h2
    · obtain ⟨k, h1, h2⟩ := hTc j _ hj
      exact hr.nblk k n o h2
    · obtain ⟨k, h1, h2⟩ := hTc j _ hj
      exact hr.nvec k u e es n b o h2
    · obtain ⟨k, h1, h2⟩ := hTc j _ hj
      exact hr.nmv k u s v b o h2
    · obtain ⟨k, h3, h4⟩ := hTc j x h1
      obtain ⟨k', h5, h6⟩ := hTc j' x' h2
      have := hr.dist k k' x x' b h4 h6 hb hb'
      subst this
      have e1 := idxOf_of hnd h3
      have e2 := idxOf_of hnd h5
      rw [e1] at e2; exact Option.some.inj e2
  refine (h.2 w I Tc vals hrc (by rw [renL_eq]; simpa using hl) (fun i c r hc hr' => ?_)).mono ?_
  · rw [renL_eq, List.getElem?_map, Option.map_eq_some_iff] at hc
    obtain ⟨c0, h1, rfl⟩ := hc
    exact (hv i c0 r h1 hr').ren _ hσ
  rintro e w' ⟨v, hs', r, I', Tc', ⟨nk, ⟨hlen, hnk, hfree⟩, hR⟩, rfl, hx, hvr, hr'⟩
  have hkk : (ks ++ nk).Nodup := by
    rw [List.nodup_append]
    refine ⟨hnd, hnk, fun a ha b hb e => ?_⟩
    subst e
    rcases hks a ha with ⟨cs, hcs⟩ | ⟨e1, es1, xs1, v1, hcs⟩ <;> (rw [hfree a hb] at hcs; cases hcs)
  have hTkk : ∀ (j k : Nat) (y : TB), (ks ++ nk)[j]? = some k → T k = some y → ks[j]? = some k := by
    intro j k y h1 h2
    rw [List.getElem?_append] at h1
    split at h1
    · exact h1
    · have := hr.non k (hfree k (List.mem_of_getElem? h1))
      rw [this] at h2; cases h2
  have hσ' : ∀ (k j : Nat) (y : TB), idxOf (ks ++ nk) k = some j → T k = some y → Tc j = some y := by
    intro k j y h1 h2
    show (ks[j]?).bind T = some y
    rw [hTkk j k y (idxOf_some h1) h2]; exact h2
  have hin : ∀ (j k : Nat), ks[j]? = some k → (ks ++ nk)[j]? = some k := fun j k h => by
    rw [List.getElem?_append_left (List.getElem?_eq_some_iff.1 h).1]; exact h
  generalize hkeq : ks ++ nk = kk at *
  let T' : Tab := fun k => match idxOf kk k with
    | some j => Tc' j
    | none => T k
  have hT'i : ∀ j k, kk[j]? = some k → T' k = Tc' j := fun j k hj => by show (match idxOf kk k with | some j => Tc' j | none => T k) = _; rw [idxOf_of hkk hj]
  have hT'o : ∀ k, idxOf kk k = none → T' k = T k := fun k hk => by show (match idxOf kk k with | some j => Tc' j | none => T k) = _; rw [hk]
  have hback : ∀ j k y, kk[j]? = some k → Tc' j = some y → T' k = some y := fun j k y h1 h2 => by rw [hT'i j k h1]; exact h2
  have hcase : ∀ k x, T' k = some x → (∃ j, kk[j]? = some k ∧ Tc' j = some x) ∨ (idxOf kk k = none ∧ T k = some x) := by
    intro k x hkx
    cases hi : idxOf kk k with
    | none => rw [hT'o k hi] at hkx; exact .inr ⟨rfl, hkx⟩
    | some j => rw [hT'i j k (idxOf_some hi)] at hkx; exact .inl ⟨j, idxOf_some hi, hkx⟩
  have hnotvec : ∀ k u e es n, idxOf kk k ≠ none → T k = some (.vec u e es n) → False := by
    intro k u e es n hk hT
    cases hi : idxOf kk k with
    | none => exact hk hi
    | some j => exact hnv k (List.mem_of_getElem? (hTkk j k _ (idxOf_some hi) hT)) u e es n hT
  have hext : Ext w I T w' I' T' := by
    refine ⟨hx.os, hx.tape, hx.output, hx.size, hx.ile, ⟨fun k n hk => ?_, fun k u e s n hk => ?_, fun k u s v hk => ?_⟩, fun b o hb => ?_, fun k x b hk hb => ?_, fun b hb hn => ?_, hx.drawn⟩
    · cases hi : idxOf kk k with
      | none => rw [hT'o k hi]; exact hk
      | some j => rw [hT'i j k (idxOf_some hi)]; exact hx.tle.1 j n (hσ' k j _ hi hk)
    · cases hi : idxOf kk k with
      | none => exact ⟨u, e, s, n, by rw [hT'o k hi]; exact hk, Nat.le_refl _, fun _ => rfl⟩
      | some j => exact (hnotvec k u e s n (by rw [hi]; simp) hk).elim
    · cases hi : idxOf kk k with
      | none => exact ⟨u, v, by rw [hT'o k hi]; exact hk, Nat.le_refl _, fun _ => rfl⟩
      | some j => rw [hT'i j k (idxOf_some hi)]; exact hx.tle.2.2 j u s v (hσ' k j _ hi hk)
    · rcases hx.inew b o hb with h1 | h1 | ⟨j, x, h1, h2⟩
      · exact .inl h1
      · exact .inr (.inl h1)
      · obtain ⟨k, h3, h4⟩ := hTc j x h1
        exact .inr (.inr ⟨k, x, h4, h2⟩)
    · rcases hcase k _ hk with ⟨j, h1, h2⟩ | ⟨h1, h2⟩
      · rcases hx.tb j x b h2 hb with h3 | ⟨j', x', h3, h4⟩
        · exact .inl h3
        · obtain ⟨k', h5, h6⟩ := hTc j' _ h3
          exact .inr ⟨k', x', h6, h4⟩
      · exact .inr ⟨k, x, h2, hb⟩
    · refine hx.frame b hb fun j x hj => ?_
      obtain ⟨k, h1, h2⟩ := hTc j x hj
      exact hn k x h2
  have hout : ∀ k j, idxOf kk k = none → ks[j]? = some k → False := fun k j h1 h2 => by
    rw [idxOf_of hkk (hin j k h2)] at h1; cases h1
  -- what other keys hold is as it was
  have hsame : ∀ k x b, idxOf kk k = none → T k = some x → x.block = some b → w'.heap[b]? = w.heap[b]? := by
    intro k x b hk hT hb
    refine hx.frame b (hr.blockLt hT hb) fun j y hj hyb => ?_
    obtain ⟨k', h1, h2⟩ := hTc j y hj
    have := hr.dist k k' x y b hT h2 hb hyb
    subst this
    exact hout k j hk h1
  have hput : ∀ k, putAll hp kk (hs'.map (GB.ren fun j => kk[j]?)) k = match idxOf kk k with
      | some j => (hpL hs' j).map (GB.ren fun j => kk[j]?)
      | none => hp k := fun k => by
    rw [putAll_ok hp kk _ (by simp [hlen])]
    cases idxOf kk k with
    | none => rfl
    | some j =>
      simp only [List.getElem?_map, hpL]
      cases hs'[j]? with
      | none => rfl
      | some b => exact GB.un_ren _ b
  have hfresh : ∀ k x b o, idxOf kk k = none → T k = some x → x.block = some b → I' b o → I b o := by
    intro k x b o hk hT hb hi
    rcases hx.inew b o hi with h3 | h3 | ⟨j, y, h3, h4⟩
    · exact h3
    · have := hr.blockLt hT hb; omega
    · obtain ⟨k', h5, h6⟩ := hTc j _ h3
      have := hr.dist k k' x y b hT h6 hb h4
      subst this
      exact (hout k j hk h5).elim
  refine ⟨v, hs', nk, r, I', T', hR, rfl, hext, by rw [hkeq]; exact hvr.ren _ hback, ?_⟩
  rw [hkeq]
  refine ⟨fun k hk => ?_, fun k cs hk => ?_, fun k e n hk => ?_, fun k e es xs v hk => ?_, fun k hk => ?_, hr'.lt, fun k n o hk hi => ?_, fun k u e es n b o hk hb hi => ?_, fun k u s v b o hk hb hi => ?_, fun k1 k2 x1 x2 b h1 h2 hb1 hb2 => ?_⟩
  · rw [hput] at hk
    cases hi : idxOf kk k with
    | none => rw [hi] at hk; rw [hT'o k hi]; exact hr.non k hk
    | some j =>
      rw [hi] at hk
      rw [hT'i j k (idxOf_some hi)]
      exact hr'.non j (Option.map_eq_none_iff.1 hk)
  · rw [hput] at hk
    cases hi : idxOf kk k with
    | none =>
      rw [hi] at hk
      obtain ⟨n, row, ty, e1, e2, e3, e4, e5⟩ := hr.cells k cs hk
      exact ⟨n, row, ty, by rw [hT'o k hi]; exact e1, by rw [hsame k _ n hi e1 rfl]; exact e2, e3, e4, fun j c r hc hrr => (e5 j c r hc hrr).ext hext⟩
    | some j =>
      rw [hi] at hk
      obtain ⟨b0, h1, h2⟩ := Option.map_eq_some_iff.1 hk
      cases b0 <;> simp only [GB.ren] at h2 <;> try cases h2
      obtain ⟨n, row, ty, e1, e2, e3, e4, e5⟩ := hr'.cells j _ h1
      refine ⟨n, row, ty, by rw [hT'i j k (idxOf_some hi)]; exact e1, e2, by rw [renL_eq]; simpa using e3, e4, fun i c r hc hrr => ?_⟩
      rw [renL_eq, List.getElem?_map, Option.map_eq_some_iff] at hc
      obtain ⟨c0, h3, rfl⟩ := hc
      exact (e5 i c0 r h3 hrr).ren _ hback
  · rw [hput] at hk
    cases hi : idxOf kk k with
    | none =>
      rw [hi] at hk
      obtain ⟨u, es, xs, i, e1, e2, e3, e4, e5⟩ := hr.vec k e n hk
      refine ⟨u, es, xs, i, by rw [hT'o k hi]; exact e1, e2, e3, ⟨e4.1, ?_⟩, e5⟩
      rcases e4.2 with hn | ⟨g, cap, cur, rfl, hb, hgg, rest⟩
      · exact .inl hn
      · exact .inr ⟨g, cap, cur, rfl, hb, by rw [hsame k _ g hi e1 rfl]; exact hgg, rest⟩
    | some j =>
      rw [hi] at hk
      obtain ⟨b0, h1, h2⟩ := Option.map_eq_some_iff.1 hk
      cases b0 <;> simp only [GB.ren] at h2 <;> try cases h2
      obtain ⟨u, es, xs, i, e1, e2⟩ := hr'.vec j _ _ h1
      exact ⟨u, es, xs, i, by rw [hT'i j k (idxOf_some hi)]; exact e1, e2⟩
  · rw [hput] at hk
    cases hi : idxOf kk k with
    | none =>
      rw [hi] at hk
      exact hr.mvKeep hext.ile hk (fun x hx => by rw [hT'o k hi]; exact hx) fun x b hx hb => hsame k x b hi hx hb
    | some j =>
      rw [hi] at hk
      obtain ⟨b0, h1, h2⟩ := Option.map_eq_some_iff.1 hk
      cases b0 <;> simp only [GB.ren] at h2 <;> try cases h2
      obtain ⟨u, ys, i, e1, e2⟩ := hr'.mvec j _ _ _ _ h1
      exact ⟨u, ys, i, by rw [hT'i j k (idxOf_some hi)]; exact e1, e2⟩
  · rw [hput] at hk
    cases hi : idxOf kk k with
    | none => rw [hi] at hk; rw [hT'o k hi]; exact hr.gone k hk
    | some j =>
      rw [hi] at hk
      obtain ⟨b0, h1, h2⟩ := Option.map_eq_some_iff.1 hk
      cases b0 <;> simp only [GB.ren] at h2 <;> try cases h2
      rw [hT'i j k (idxOf_some hi)]; exact hr'.gone j h1
  · rcases hcase k _ hk with ⟨j, h1, h2⟩ | ⟨h1, h2⟩
    · exact hr'.nblk j n o h2 hi
    · exact hr.nblk k n o h2 (hfresh k _ n o h1 h2 rfl hi)
  · rcases hcase k _ hk with ⟨j, h1, h2⟩ | ⟨h1, h2⟩
    · exact hr'.nvec j u e es n b o h2 hb hi
    · exact hr.nvec k u e es n b o h2 hb (hfresh k _ b o h1 h2 hb hi)
  · rcases hcase k _ hk with ⟨j, h1, h2⟩ | ⟨h1, h2⟩
    · exact hr'.nmv j u s v b o h2 hb hi
    · exact hr.nmv k u s v b o h2 hb (hfresh k _ b o h1 h2 hb hi)
  · have mixed : ∀ k1 k2 x1 x2 j, kk[j]? = some k1 → Tc' j = some x1 → idxOf kk k2 = none → T k2 = some x2 → x1.block = some b → x2.block = some b → False := by
      intro k1 k2 x1 x2 j h3 h4 h5 h6 hb1 hb2
      rcases hx.tb j x1 b h4 hb1 with h7 | ⟨j', x', h7, h7'⟩
      · have := hr.blockLt h6 hb2; omega
      · obtain ⟨k', h8, h9⟩ := hTc j' _ h7
        have := hr.dist k' k2 _ _ b h9 h6 h7' hb2
        subst this
        exact hout k' j' h5 h8
    rcases hcase k1 _ h1 with ⟨j1, h3, h4⟩ | ⟨h3, h4⟩ <;> rcases hcase k2 _ h2 with ⟨j2, h5, h6⟩ | ⟨h5, h6⟩
    · have := hr'.dist j1 j2 x1 x2 b h4 h6 hb1 hb2
      subst this
      rw [h3] at h5; exact Option.some.inj h5
    · exact (mixed k1 k2 x1 x2 j1 h3 h4 h5 h6 hb1 hb2).elim
    · exact (mixed k2 k1 x2 x1 j2 h5 h6 h3 h4 hb2 hb1).elim
    · exact hr.dist k1 k2 x1 x2 b h4 h6 hb1 hb2

end
end Go.Gh
