/- Ghost values and walks, bundle Gh9; proved for whatever the arguments' types allow, as each theorem says. -/
import Derived.Test.YteckhahneieicaaGh8

/- Calls: a function's contract in ghost values, and what it means for the caller. -/
set_option linter.unusedVariables false
set_option linter.unusedSimpArgs false
namespace Go.Gh

def hpL (hs : List (List GV)) : Nat → Option GB := fun k => (hs[k]?).map .cells

/-- A contract: called with such arguments and such blocks, the function hands back a value and leaves blocks of which R holds; nothing else that was there has turned. -/
@[irreducible] def ICalls (P : Program) (f : FuncId) (args : List GV) (hs : List (List GV)) (R : GV → List (List GV) → Prop) : Prop :=
  (∀ (vals : Array Value) (w : World), (callFunc f vals).run P w = .ok (.enter f vals) w) ∧
  ∀ (w : World) (I : Nat → Nat → Prop) (T : Tab) (vals : Array Value), HR P w I T (hpL hs) → vals.size = args.length →
    (∀ (i : Nat) (c : GV) (r : Value), args[i]? = some c → vals[i]? = some r → VR w I T c r) →
    Calls P f vals w (fun e w' => ∃ v hs' r I' T', R v hs' ∧ e = .returned r ∧ Ext w I T w' I' T' ∧ VR w' I' T' v r ∧ HR P w' I' T' (hpL hs'))

theorem ICalls.mono {P : Program} {f : FuncId} {args : List GV} {hs : List (List GV)} {R R' : GV → List (List GV) → Prop} (h : ICalls P f args hs R) (hR : ∀ v hs', R v hs' → R' v hs') : ICalls P f args hs R' := by
  unfold ICalls at *
  refine ⟨h.1, fun w I T vals h1 h2 h3 => (h.2 w I T vals h1 h2 h3).mono ?_⟩
  rintro e w' ⟨v, hs', r, I', T', h4, h5⟩
  exact ⟨v, hs', r, I', T', hR _ _ h4, h5⟩

mutual
def keysV : GV → List Nat
  | .ptr k _ => [k]
  | .agg cs => keysL cs
  | .tup cs => keysL cs
  | .fn _ a b => keysL a ++ keysL b
  | .iface _ x => keysV x
  | _ => []
def keysL : List GV → List Nat
  | [] => []
  | x :: r => keysV x ++ keysL r
end

def reach (hp : Nat → Option GB) : Nat → List Nat → List Nat → List Nat
  | 0, _, acc => acc
  | _, [], acc => acc
  | n + 1, k :: todo, acc => bif acc.elem k then reach hp n todo acc else (match hp k with
    | some (.cells cs) => reach hp n (keysL cs ++ todo) (acc ++ [k])
    | _ => reach hp n todo acc)

def idxOf : List Nat → Nat → Option Nat
  | [], _ => none
  | x :: r, k => bif Nat.beq x k then some 0 else (match idxOf r k with
    | some i => some (i + 1)
    | none => none)

def hpCells (hp : Nat → Option GB) (k : Nat) : List GV := match hp k with
  | some (.cells cs) => cs
  | _ => []

def putAll (hp : Nat → Option GB) : List Nat → List (List GV) → Nat → Option GB
  | k :: ks, cs :: hs => setH (putAll hp ks hs) k (.cells cs)
  | _, _ => hp

/-- The call as the caller sees it. -/
def callWp (P : Program) (hp : Nat → Option GB) (f : FuncId) (args : List GV) (fin : GV → (Nat → Option GB) → Prop) : Prop :=
  ICalls P f (GV.renL (idxOf (reach hp 100 (keysL args) [])) args) ((reach hp 100 (keysL args) []).map fun k => GV.renL (idxOf (reach hp 100 (keysL args) [])) (hpCells hp k))
    (fun v hs' => hs'.length = (reach hp 100 (keysL args) []).length ∧
      fin (v.ren fun j => (reach hp 100 (keysL args) [])[j]?) (putAll hp (reach hp 100 (keysL args) []) (hs'.map (GV.renL fun j => (reach hp 100 (keysL args) [])[j]?))))

/-- The same for a call whose answer is known. -/
def callX (P : Program) (hp : Nat → Option GB) (f : FuncId) (args : List GV) (fin : GV → (Nat → Option GB) → Prop) : Prop :=
  ∃ v hs', ICalls P f (GV.renL (idxOf (reach hp 100 (keysL args) [])) args) ((reach hp 100 (keysL args) []).map fun k => GV.renL (idxOf (reach hp 100 (keysL args) [])) (hpCells hp k)) (fun v' hs'' => v' = v ∧ hs'' = hs') ∧
    hs'.length = (reach hp 100 (keysL args) []).length ∧
    fin (v.ren fun j => (reach hp 100 (keysL args) [])[j]?) (putAll hp (reach hp 100 (keysL args) []) (hs'.map (GV.renL fun j => (reach hp 100 (keysL args) [])[j]?)))

theorem reach_ok (hp : Nat → Option GB) : ∀ (n : Nat) (todo acc : List Nat), acc.Nodup → (∀ k, k ∈ acc → ∃ cs, hp k = some (.cells cs)) → (reach hp n todo acc).Nodup ∧ ∀ k, k ∈ reach hp n todo acc → ∃ cs, hp k = some (.cells cs)
  | 0, _, acc, h1, h2 => by unfold reach; exact ⟨h1, h2⟩
  | n + 1, [], acc, h1, h2 => by unfold reach; exact ⟨h1, h2⟩
  | n + 1, k :: todo, acc, h1, h2 => by
    unfold reach
    cases he : acc.elem k with
    | true => exact reach_ok hp n todo acc h1 h2
    | false =>
      simp only [cond_false]
      have hk : k ∉ acc := by
        intro hm; have : acc.elem k = true := List.elem_eq_true_of_mem hm
        rw [he] at this; cases this
      split
      · rename_i cs hcs
        refine reach_ok hp n _ _ ?_ ?_
        · rw [List.nodup_append]
          exact ⟨h1, by simp, fun a ha b hb => by simp at hb; subst hb; intro e; subst e; exact hk ha⟩
        · intro q hq
          rcases List.mem_append.1 hq with hq | hq
          · exact h2 q hq
          · simp at hq; subst hq; exact ⟨cs, hcs⟩
      · exact reach_ok hp n todo acc h1 h2

theorem idxOf_some {ks : List Nat} {k i : Nat} (h : idxOf ks k = some i) : ks[i]? = some k := by
  induction ks generalizing i with
  | nil => cases h
  | cons x r ih =>
    unfold idxOf at h
    cases hb : Nat.beq x k with
    | true => rw [hb] at h; cases h; rw [Nat.eq_of_beq_eq_true hb]; rfl
    | false =>
      rw [hb] at h
      simp only [cond_false] at h
      split at h
      · rename_i i' hi; cases h; simpa using ih hi
      · cases h

theorem idxOf_none {ks : List Nat} {k : Nat} (h : idxOf ks k = none) : k ∉ ks := by
  induction ks with
  | nil => simp
  | cons x r ih =>
    unfold idxOf at h
    cases hb : Nat.beq x k with
    | true => rw [hb] at h; cases h
    | false =>
      rw [hb] at h
      simp only [cond_false] at h
      split at h
      · cases h
      · rename_i hi
        have hne : x ≠ k := fun e => by subst e; simp at hb
        simp [ih hi, Ne.symm hne]

theorem idxOf_of {ks : List Nat} {k i : Nat} (hn : ks.Nodup) (h : ks[i]? = some k) : idxOf ks k = some i := by
  cases h' : idxOf ks k with
  | none => exact absurd (List.mem_of_getElem? h) (idxOf_none h')
  | some j =>
    have := idxOf_some h'
    have h1 := (List.getElem?_eq_some_iff.1 h).1
    have h2 := (List.getElem?_eq_some_iff.1 this).1
    have e : ks[i] = ks[j] := by rw [(List.getElem?_eq_some_iff.1 h).2, (List.getElem?_eq_some_iff.1 this).2]
    rw [(List.getElem_inj hn).1 e]

theorem putAll_ok (hp : Nat → Option GB) : ∀ (ks : List Nat) (hs : List (List GV)), ks.length = hs.length → ∀ k, putAll hp ks hs k = match idxOf ks k with
    | some j => (hs[j]?).map .cells
    | none => hp k
  | [], hs, _, k => by
    have : hs = [] := List.eq_nil_of_length_eq_zero (by simpa using ‹[].length = hs.length›.symm)
    subst this; rfl
  | x :: ks, [], h, _ => by simp at h
  | x :: ks, cs :: hs, h, k => by
    unfold putAll idxOf
    rw [setH_eq]
    by_cases hk : k = x
    · subst hk; simp
    · have hb : Nat.beq x k = false := by
        cases hb : Nat.beq x k with
        | true => exact absurd (Nat.eq_of_beq_eq_true hb).symm hk
        | false => rfl
      rw [if_neg hk, hb, putAll_ok hp ks hs (by simpa using h) k]
      simp only [cond_false]
      cases idxOf ks k <;> simp

section
variable {P : Program} {w : World} {I : Nat → Nat → Prop} {T : Tab} {hp : Nat → Option GB}

/-- A call by its contract: what the caller has behind it. -/
theorem call_ok {f : FuncId} {args : List GV} {vals : Array Value} {R : GV → List (List GV) → Prop} (hr : HR P w I T hp) (ks : List Nat) (hnd : ks.Nodup) (hks : ∀ k, k ∈ ks → ∃ cs, hp k = some (.cells cs))
    (hl : vals.size = args.length) (hv : ∀ (i : Nat) (c : GV) (r : Value), args[i]? = some c → vals[i]? = some r → VR w I T c r)
    (h : ICalls P f (GV.renL (idxOf ks) args) (ks.map fun k => GV.renL (idxOf ks) (hpCells hp k)) (fun v hs' => hs'.length = ks.length ∧ R v hs')) :
    (callFunc f vals).run P w = .ok (.enter f vals) w ∧
    Calls P f vals w (fun e w' => ∃ v hs' r I' T', R v hs' ∧ e = .returned r ∧ Ext w I T w' I' T' ∧ VR w' I' T' (v.ren fun j => ks[j]?) r ∧ HR P w' I' T' (putAll hp ks (hs'.map (GV.renL fun j => ks[j]?)))) := by
  unfold ICalls at h
  refine ⟨h.1 vals w, ?_⟩
  let Tc : Tab := fun j => (ks[j]?).bind T
  have hTc : ∀ j x, Tc j = some x → ∃ k, ks[j]? = some k ∧ T k = some x := by
    intro j x hx
    obtain ⟨k, h1, h2⟩ := Option.bind_eq_some_iff.1 hx
    exact ⟨k, h1, h2⟩
  have hTcb : ∀ j x, Tc j = some x → ∃ n, x = .blk n := by
    intro j x hx
    obtain ⟨k, h1, h2⟩ := hTc j x hx
    obtain ⟨cs, hcs⟩ := hks k (List.mem_of_getElem? h1)
    obtain ⟨n, row, ty, e1, _⟩ := hr.cells k cs hcs
    rw [e1] at h2; cases h2; exact ⟨n, rfl⟩
  have hσ : ∀ k k' y, idxOf ks k = some k' → T k = some y → Tc k' = some y := by
    intro k k' y h1 h2
    show (ks[k']?).bind T = some y
    rw [idxOf_some h1]; exact h2
  have hhs : ∀ j, (ks.map fun k => GV.renL (idxOf ks) (hpCells hp k))[j]? = (ks[j]?).map fun k => GV.renL (idxOf ks) (hpCells hp k) := fun j => List.getElem?_map
  have hrc : HR P w I Tc (hpL (ks.map fun k => GV.renL (idxOf ks) (hpCells hp k))) := by
    refine ⟨fun j hj => ?_, fun j cs hj => ?_, fun j e n hj => ?_, hr.lt, fun j n o hj => ?_, fun j u e es n b o hj => ?_, fun j j' x x' b h1 h2 hb hb' => ?_⟩
    · simp only [hpL, hhs, Option.map_map, Option.map_eq_none_iff] at hj
      show (ks[j]?).bind T = none
      rw [hj]; rfl
    · simp only [hpL, hhs, Option.map_map, Option.map_eq_some_iff] at hj
      obtain ⟨k, h1, h2⟩ := hj
      simp only [Function.comp, GB.cells.injEq] at h2
      obtain ⟨cs0, hcs⟩ := hks k (List.mem_of_getElem? h1)
      obtain ⟨n, row, ty, e1, e2, e3, e4, e5⟩ := hr.cells k cs0 hcs
      have hc0 : hpCells hp k = cs0 := by unfold hpCells; rw [hcs]
      rw [hc0, renL_eq] at h2
      subst h2
      refine ⟨n, row, ty, by show (ks[j]?).bind T = _; rw [h1]; exact e1, e2, by simpa using e3, e4, fun i c r hc hr' => ?_⟩
      simp only [List.getElem?_map, Option.map_eq_some_iff] at hc
      obtain ⟨c0, h3, rfl⟩ := hc
      exact (e5 i c0 r h3 hr').ren _ hσ
    · simp only [hpL, hhs, Option.map_map, Option.map_eq_some_iff] at hj
      obtain ⟨k, _, h2⟩ := hj
      cases h2
    · obtain ⟨k, h1, h2⟩ := hTc j _ hj
      exact hr.nblk k n o h2
    · obtain ⟨m, hm⟩ := hTcb j _ hj
      cases hm
    · obtain ⟨k, h3, h4⟩ := hTc j x h1
      obtain ⟨k', h5, h6⟩ := hTc j' x' h2
      have := hr.dist k k' x x' b h4 h6 hb hb'
      subst this
      have e1 := idxOf_of hnd h3
      have e2 := idxOf_of hnd h5
      rw [e1] at e2; exact Option.some.inj e2
  refine (h.2 w I Tc vals hrc (by rw [renL_eq]; simpa using hl) (fun i c r hc hr' => ?_)).mono ?_
  · rw [renL_eq, List.getElem?_map, Option.map_eq_some_iff] at hc
    obtain ⟨c0, h1, rfl⟩ := hc
    exact (hv i c0 r h1 hr').ren _ hσ
  rintro e w' ⟨v, hs', r, I', Tc', ⟨hlen, hR⟩, rfl, hx, hvr, hr'⟩
  let T' : Tab := fun k => match idxOf ks k with
    | some j => Tc' j
    | none => T k
  have hT'i : ∀ j k, ks[j]? = some k → T' k = Tc' j := fun j k hj => by show (match idxOf ks k with | some j => Tc' j | none => T k) = _; rw [idxOf_of hnd hj]
  have hT'o : ∀ k, idxOf ks k = none → T' k = T k := fun k hk => by show (match idxOf ks k with | some j => Tc' j | none => T k) = _; rw [hk]
  -- what the callee left are blocks of cells
  have hTc'b : ∀ j x, Tc' j = some x → j < ks.length ∧ ∃ n, x = .blk n := by
    intro j x hx'
    have hj : j < hs'.length := by
      apply Classical.byContradiction
      intro hge
      have : hpL hs' j = none := by simp [hpL, List.getElem?_eq_none (Nat.le_of_not_lt hge)]
      rw [hr'.non j this] at hx'; cases hx'
    have : hpL hs' j = some (.cells hs'[j]) := by simp [hpL, hj]
    obtain ⟨n, row, ty, e1, _⟩ := hr'.cells j _ this
    rw [e1] at hx'; cases hx'
    exact ⟨by omega, n, rfl⟩
  have hback : ∀ j k y, ks[j]? = some k → Tc' j = some y → T' k = some y := fun j k y h1 h2 => by rw [hT'i j k h1]; exact h2
  have hcase : ∀ k x, T' k = some x → (∃ j, ks[j]? = some k ∧ Tc' j = some x) ∨ (idxOf ks k = none ∧ T k = some x) := by
    intro k x hkx
    cases hi : idxOf ks k with
    | none => rw [hT'o k hi] at hkx; exact .inr ⟨rfl, hkx⟩
    | some j => rw [hT'i j k (idxOf_some hi)] at hkx; exact .inl ⟨j, idxOf_some hi, hkx⟩
  have hnotvec : ∀ k u e es n, idxOf ks k ≠ none → T k = some (.vec u e es n) → False := by
    intro k u e es n hk hT
    cases hi : idxOf ks k with
    | none => exact hk hi
    | some j =>
      obtain ⟨m, hm⟩ := hTcb j _ (hσ k j _ hi hT)
      cases hm
  have hext : Ext w I T w' I' T' := by
    refine ⟨hx.os, hx.tape, hx.output, hx.size, hx.ile, ⟨fun k n hk => ?_, fun k u e s n hk => ?_⟩, fun b o hb => ?_, fun k n hk => ?_, fun k u e es n b hk hb => ?_, fun b hb hn => ?_⟩
    · cases hi : idxOf ks k with
      | none => rw [hT'o k hi]; exact hk
      | some j => rw [hT'i j k (idxOf_some hi)]; exact hx.tle.1 j n (hσ k j _ hi hk)
    · cases hi : idxOf ks k with
      | none => exact ⟨u, e, s, n, by rw [hT'o k hi]; exact hk, Nat.le_refl _, fun _ => rfl⟩
      | some j => exact (hnotvec k u e s n (by rw [hi]; simp) hk).elim
    · rcases hx.inew b o hb with h1 | h1 | ⟨j, u, e, es, n, h1, h2⟩
      · exact .inl h1
      · exact .inr (.inl h1)
      · obtain ⟨m, hm⟩ := hTcb j _ h1
        cases hm
    · rcases hcase k _ hk with ⟨j, h1, h2⟩ | ⟨h1, h2⟩
      · rcases hx.tblk j n h2 with h3 | ⟨j', h3⟩
        · exact .inl h3
        · obtain ⟨k', h4, h5⟩ := hTc j' _ h3
          exact .inr ⟨k', h5⟩
      · exact .inr ⟨k, h2⟩
    · rcases hcase k _ hk with ⟨j, h1, h2⟩ | ⟨h1, h2⟩
      · obtain ⟨_, m, hm⟩ := hTc'b j _ h2
        cases hm
      · exact .inr ⟨k, u, e, es, n, h2, hb⟩
    · refine hx.frame b hb fun j x hj => ?_
      obtain ⟨k, h1, h2⟩ := hTc j x hj
      exact hn k x h2
  -- what other keys hold is as it was
  have hsame : ∀ k x b, idxOf ks k = none → T k = some x → x.block = some b → w'.heap[b]? = w.heap[b]? := by
    intro k x b hk hT hb
    refine hx.frame b (hr.blockLt hT hb) fun j y hj hyb => ?_
    obtain ⟨k', h1, h2⟩ := hTc j y hj
    have := hr.dist k k' x y b hT h2 hb hyb
    subst this
    rw [idxOf_of hnd h1] at hk; cases hk
  have hput : ∀ k, putAll hp ks (hs'.map (GV.renL fun j => ks[j]?)) k = match idxOf ks k with
      | some j => ((hs'.map (GV.renL fun j => ks[j]?))[j]?).map .cells
      | none => hp k := fun k => putAll_ok hp ks _ (by simp [hlen]) k
  refine ⟨v, hs', r, I', T', hR, rfl, hext, hvr.ren _ hback, ?_⟩
  refine ⟨fun k hk => ?_, fun k cs hk => ?_, fun k e n hk => ?_, hr'.lt, fun k n o hk hi => ?_, fun k u e es n b o hk hb hi => ?_, fun k1 k2 x1 x2 b h1 h2 hb1 hb2 => ?_⟩
  · rw [hput] at hk
    cases hi : idxOf ks k with
    | none => rw [hi] at hk; rw [hT'o k hi]; exact hr.non k hk
    | some j =>
      rw [hi] at hk
      simp only [List.getElem?_map, Option.map_map, Option.map_eq_none_iff] at hk
      rw [hT'i j k (idxOf_some hi)]
      exact hr'.non j (by simp [hpL, hk])
  · rw [hput] at hk
    cases hi : idxOf ks k with
    | none =>
      rw [hi] at hk
      obtain ⟨n, row, ty, e1, e2, e3, e4, e5⟩ := hr.cells k cs hk
      exact ⟨n, row, ty, by rw [hT'o k hi]; exact e1, by rw [hsame k _ n hi e1 rfl]; exact e2, e3, e4, fun j c r hc hrr => (e5 j c r hc hrr).ext hext⟩
    | some j =>
      rw [hi] at hk
      simp only [List.getElem?_map, Option.map_map, Option.map_eq_some_iff, Function.comp, GB.cells.injEq] at hk
      obtain ⟨cs0, h1, rfl⟩ := hk
      obtain ⟨n, row, ty, e1, e2, e3, e4, e5⟩ := hr'.cells j cs0 (by simp [hpL, h1])
      refine ⟨n, row, ty, by rw [hT'i j k (idxOf_some hi)]; exact e1, e2, by rw [renL_eq]; simpa using e3, e4, fun i c r hc hrr => ?_⟩
      rw [renL_eq, List.getElem?_map, Option.map_eq_some_iff] at hc
      obtain ⟨c0, h3, rfl⟩ := hc
      exact (e5 i c0 r h3 hrr).ren _ hback
  · rw [hput] at hk
    cases hi : idxOf ks k with
    | none =>
      rw [hi] at hk
      obtain ⟨u, es, xs, i, e1, e2, e3, e4, e5⟩ := hr.vec k e n hk
      refine ⟨u, es, xs, i, by rw [hT'o k hi]; exact e1, e2, e3, ⟨e4.1, ?_⟩, e5⟩
      rcases e4.2 with hn | ⟨g, cap, cur, rfl, hb, hgg, rest⟩
      · exact .inl hn
      · exact .inr ⟨g, cap, cur, rfl, hb, by rw [hsame k _ g hi e1 rfl]; exact hgg, rest⟩
    | some j =>
      rw [hi] at hk
      simp only [List.getElem?_map, Option.map_map, Option.map_eq_some_iff, Function.comp] at hk
      obtain ⟨cs0, _, h2⟩ := hk
      cases h2
  · rcases hcase k _ hk with ⟨j, h1, h2⟩ | ⟨h1, h2⟩
    · exact hr'.nblk j n o h2 hi
    · rcases hx.inew n o hi with h3 | h3 | ⟨j, u, e, es, m, h3, _⟩
      · exact hr.nblk k n o h2 h3
      · have := hr.blockLt h2 rfl; omega
      · obtain ⟨m', hm⟩ := hTcb j _ h3
        cases hm
  · rcases hcase k _ hk with ⟨j, h1, h2⟩ | ⟨h1, h2⟩
    · obtain ⟨_, m, hm⟩ := hTc'b j _ h2
      cases hm
    · rcases hx.inew b o hi with h3 | h3 | ⟨j, u', e', es', m, h3, _⟩
      · exact hr.nvec k u e es n b o h2 hb h3
      · have := hr.blockLt h2 hb; omega
      · obtain ⟨m', hm⟩ := hTcb j _ h3
        cases hm
  · have mixed : ∀ k1 k2 x1 x2 j, ks[j]? = some k1 → Tc' j = some x1 → idxOf ks k2 = none → T k2 = some x2 → x1.block = some b → x2.block = some b → False := by
      intro k1 k2 x1 x2 j h3 h4 h5 h6 hb1 hb2
      obtain ⟨_, m, rfl⟩ := hTc'b j _ h4
      simp only [TB.block, Option.some.injEq] at hb1
      subst hb1
      rcases hx.tblk j m h4 with h7 | ⟨j', h7⟩
      · have := hr.blockLt h6 hb2; omega
      · obtain ⟨k', h8, h9⟩ := hTc j' _ h7
        have := hr.dist k' k2 _ _ m h9 h6 rfl hb2
        subst this
        rw [idxOf_of hnd h8] at h5; cases h5
    rcases hcase k1 _ h1 with ⟨j1, h3, h4⟩ | ⟨h3, h4⟩ <;> rcases hcase k2 _ h2 with ⟨j2, h5, h6⟩ | ⟨h5, h6⟩
    · have := hr'.dist j1 j2 x1 x2 b h4 h6 hb1 hb2
      subst this
      rw [h3] at h5; exact Option.some.inj h5
    · exact (mixed k1 k2 x1 x2 j1 h3 h4 h5 h6 hb1 hb2).elim
    · exact (mixed k2 k1 x2 x1 j2 h5 h6 h3 h4 hb2 hb1).elim
    · exact hr.dist k1 k2 x1 x2 b h4 h6 hb1 hb2

end
end Go.Gh
