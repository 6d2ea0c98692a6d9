/- Ghost values and walks, bundle Gh8; proved for whatever the arguments' types allow, as each theorem says. -/
import Derived.Test.YtoofplbjpkgdgaaGh7

/- All operations that are no calls of Go functions. -/
set_option linter.unusedVariables false
set_option linter.unusedSimpArgs false
namespace Go.Gh

section
variable {P : Program} {w : World} {I : Nat → Nat → Prop} {T : Tab} {hp : Nat → Option GB}

theorem makeSliceO_ok {key : Nat} {t : TypeId} {l c y : GV} {u : Option (Nat × GB)} {rl rc : Value} (hr : HR P w I T hp) (hl : VR w I T l rl) (hc : VR w I T c rc) (h : (makeSliceO P key hp t l c).eff y u) :
    Does P w I T hp ((do pure (Next.value (← Instr.makeSlice t rl rc)) : Sem Next).run P w) y u := by
  unfold makeSliceO at h
  split at h
  rotate_left
  · exact h.elim
  rename_i e kl l kc c hu
  split at h
  rotate_left
  · exact h.elim
  rename_i i hi hk
  split at h
  rotate_left
  · exact h.elim
  rename_i z hz
  split at h
  rotate_left
  · exact h.elim
  rename_i cs hcs
  cases hb : (Nat.beq cs.length i.size && Nat.blt 0 i.size) with
  | false => rw [hb] at h; exact h.elim
  | true =>
    rw [hb] at h
    simp only [cond_true] at h
    obtain ⟨⟨h0, hlc, hby, h63⟩, rfl, rfl⟩ := h
    simp only [Bool.and_eq_true] at hb
    have hcl := Nat.eq_of_beq_eq_true hb.1
    have hpos : 0 < i.size := Nat.le_of_ble_eq_true hb.2
    cases hl.v_inv; cases hc.v_inv
    obtain ⟨z1, z2, z3⟩ := zcells_ok hcs
    have hrun := run_make (P := P) w t e i z hu hi hz kl kc l c h0 hlc hby h63
    let cur : Array Value := madeCells z.cells (c.toNat * i.size)
    have hsz : cur.size = c.toNat * i.size := size_madeCells _ _
    have hle : l.toNat * i.size ≤ c.toNat * i.size := Nat.mul_le_mul_right _ (by omega)
    have hget : ∀ j, j < c.toNat * i.size → cur[j]? = z.cells[j % i.size]? := by
      intro j hj
      show (madeCells z.cells (c.toNat * i.size))[j]? = _
      have hm : j % i.size < z.cells.size := by rw [z1, hcl]; exact Nat.mod_lt _ hpos
      unfold madeCells
      simp only [Array.getElem?_map, Array.getElem?_range, hj, if_true, Option.map_some, z1, hcl]
      have hm' : j % i.size < z.cells.size := hm
      simp [hm', getElem!_pos]
    have hlt' : (cur.toList.take (l.toNat * i.size)).length = l.toNat * i.size := by rw [List.length_take, Array.length_toList, hsz]; omega
    have hown : (w.alloc (.cells cur e)).ownsRow 0 e i.size (.slice (some ⟨w.heap.size, 0, none⟩) l.toNat c.toNat) l.toNat (cur.toList.take (l.toNat * i.size)) := by
      refine ⟨hlt', .inr ⟨w.heap.size, c.toNat, cur, rfl, Nat.zero_le _, heap_alloc_new w _, by omega, by simp [maxLen]; omega, hsz, rfl⟩⟩
    have hone : ∀ x, x ∈ cur.toList.take (l.toNat * i.size) → x.oneCell' = true := by
      intro x hx
      obtain ⟨j, hj⟩ := List.getElem?_of_mem (List.mem_of_mem_take hx)
      have hjl := (List.getElem?_eq_some_iff.1 hj).1
      simp [hsz] at hjl
      rw [Array.getElem?_toList, hget j hjl] at hj
      exact z2 _ _ hj
    obtain ⟨g1, g2⟩ := hr.setVec (n := 0) (k := key) hi hown hone rfl rfl rfl (by simp) (.inl ⟨hk, fun b hb => heap_alloc_old w _ hb, fun b hb => (by cases hb; exact Nat.le_refl _)⟩)
    refine ⟨_, _, _, _, .inl (by rw [Sem.run_bind, hrun]; rfl), g1, ?_, g2⟩
    have hz' : ∀ x, x = (match z with | .agg _ => GV.agg cs | _ => .v z) → x.cells = cs ∧ x.sane = true := by
      intro x hx
      subst hx
      cases z <;> first | exact ⟨rfl, rfl⟩ | (unfold zcells at hcs; revert hcs; simp only [Value.cells, List.all_cons, List.all_nil, Bool.and_true, List.map_cons, List.map_nil]; intro hcs; (cases hv : Value.oneCell' _ <;> rw [hv] at hcs <;> cases hcs; exact ⟨rfl, rfl⟩))
    have hlen : (List.replicate l.toNat (match z with | .agg _ => GV.agg cs | _ => .v z)).length = l.toNat := by simp
    refine (congrArg (fun m => VR _ _ _ (GV.list i.size (List.replicate l.toNat (match z with | .agg _ => GV.agg cs | _ => .v z)) (some key)) (Value.slice (some ⟨w.heap.size, 0, none⟩) m c.toNat)) hlen).mp ?_
    refine VR.ofRow (by rw [hlen]; omega) (by rw [hlen]; exact hlt') hone (fun j v hj => ?_) (fun x hx => ?_) (fun i1 x j cc hx hcc => ?_) fun k' hk' => ?_
    · have hjl := (List.getElem?_eq_some_iff.1 hj).1
      rw [hlt'] at hjl
      refine ⟨.inr ⟨rfl, hjl⟩, ?_⟩
      have := hown.cells (g := w.heap.size) rfl j v hj
      rwa [Addr.add_lit, Nat.zero_add] at this
    · have := hz' x (List.eq_of_mem_replicate hx)
      exact ⟨by rw [this.1]; exact hcl, this.2⟩
    · have hi1 := (List.getElem?_eq_some_iff.1 hx).1
      simp at hi1
      have hxe := hz' x (List.eq_of_mem_replicate (List.mem_of_getElem? hx))
      rw [hxe.1] at hcc
      have hj := (List.getElem?_eq_some_iff.1 hcc).1
      have hlt : i1 * i.size + j < l.toNat * i.size := by
        calc i1 * i.size + j < i1 * i.size + i.size := by omega
          _ = (i1 + 1) * i.size := by rw [Nat.add_mul, Nat.one_mul]
          _ ≤ l.toNat * i.size := Nat.mul_le_mul_right _ (by omega)
      have hmod : (i1 * i.size + j) % i.size = j := by rw [Nat.mul_comm, Nat.mul_add_mod]; exact Nat.mod_eq_of_lt (by omega)
      have hzj : j < z.cells.size := by omega
      refine ⟨z.cells[j], ?_, z3 _ _ _ j cc _ hcc (by simp [hzj])⟩
      rw [List.getElem?_take, if_pos hlt, Array.getElem?_toList, hget _ (by omega), hmod]
      simp [hzj]
    · cases hk'
      exact ⟨_, _, _, _, by rw [setT_eq, if_pos rfl], by simp, fun _ => by simp⟩

theorem buildZ_ok {a : Act} {key : Nat} {t : TypeId} {len : Nat} {parts : Array (Nat × Operand)} {y : GV} {u : Option (Nat × GB)} (hr : HR P w I T hp) (hz : isZ len parts = true) (h : (buildZ P key hp t).eff y u) :
    Does P w I T hp ((do pure (Next.value (← Instr.buildSlice t len (parts.map fun (i, x) => (i, a.eval x)))) : Sem Next).run P w) y u := by
  unfold isZ at hz
  simp only [Bool.and_eq_true] at hz
  have h0 := Nat.eq_of_beq_eq_true hz.1
  have hp0 : parts = #[] := by have := hz.2; simpa using this
  subst h0 hp0
  unfold buildZ at h
  split at h
  rotate_left
  · exact h.elim
  rename_i e hu hk
  split at h
  rotate_left
  · exact h.elim
  rename_i sz hsz
  rw [Bool.cond_eq_ite] at h
  split at h
  rotate_left
  · exact h.elim
  rename_i hpos
  obtain ⟨rfl, rfl⟩ := h
  obtain ⟨inf, hinf, hinf2⟩ := tSize_info hsz
  subst hinf2
  have hown : (w.alloc (.cells #[] e)).ownsRow 0 e inf.size (.slice (some ⟨w.heap.size, 0, none⟩) 0 0) 0 [] :=
    ⟨by simp, .inr ⟨w.heap.size, 0, #[], rfl, Nat.zero_le _, heap_alloc_new w _, Nat.le_refl _, by simp [maxLen], by simp, by simp⟩⟩
  have hrun : (Instr.buildSlice t 0 #[]).run P w = .ok (.slice (some ⟨w.heap.size, 0, none⟩) 0 0) (w.alloc (.cells #[] e)) := by
    simp [Instr.buildSlice, run_underlying hu, tSize_run hsz, Instr.fill, newRow]
    rw [show (Array.range 0 : Array Nat) = #[] from rfl, Array.map_empty]
  obtain ⟨g1, g2⟩ := hr.setVec (n := 0) (k := key) (xs' := []) hinf hown (fun x hx => (by cases hx)) rfl rfl rfl (by simp) (.inl ⟨hk, fun b hb => heap_alloc_old w _ hb, fun b hb => (by cases hb; exact Nat.le_refl _)⟩)
  have hv : VR (w.alloc (.cells #[] e)) (fun b o => I b o ∨ (Value.slice (some ⟨w.heap.size, 0, none⟩) 0 0).ownBlock = some b ∧ o < 0 * inf.size) (setT T key (TB.vec (Value.slice (some ⟨w.heap.size, 0, none⟩) 0 0) e inf.size 0)) (.list inf.size [] (some key)) (.slice (some ⟨w.heap.size, 0, none⟩) 0 0) := by
    refine .nil (fun h => (by cases h)) fun k' hk' => ?_
    have hkk : key = k' := Option.some.inj hk'
    subst hkk
    exact ⟨.slice (some ⟨w.heap.size, 0, none⟩) 0 0, e, inf.size, 0, by rw [setT_eq, if_pos rfl], fun _ => rfl⟩
  refine ⟨_, _, _, _, .inl ?_, g1, hv, g2⟩
  rw [Array.map_empty, Sem.run_bind, hrun]; rfl

theorem assignO_ok {key : Nat} {t : TypeId} {x y : GV} {u : Option (Nat × GB)} {rx : Value} (hr : HR P w I T hp) (hx : VR w I T x rx) (h : (assignO P key hp t x).eff y u) :
    Does P w I T hp (.ok (.value rx) w) y u := by
  unfold assignO at h
  split at h
  · rename_i e hu hk
    split at h
    · rename_i i hi
      obtain ⟨rfl, rfl⟩ := h
      cases hx.v_inv
      obtain ⟨g1, g2⟩ := hr.setVec (n := 0) (n' := 0) (k := key) (e := e) (u' := .slice none 0 0) (w' := w) (xs' := []) hi (World.ownsRow_nil w 0 e i.size) (fun x hx => (by cases hx)) rfl rfl rfl (Nat.le_refl _)
        (.inl ⟨hk, fun _ _ => rfl, fun b hb => (by cases hb)⟩)
      exact ⟨_, w, _, _, .inl rfl, g1, .nil (fun _ => rfl) fun k' hk' => (by cases hk'; exact ⟨_, _, _, _, by rw [setT_eq, if_pos rfl], fun _ => rfl⟩), g2⟩
    · exact h.elim
  · exact h.elim
  · obtain ⟨rfl, rfl⟩ := h
    exact ⟨rx, w, I, T, .inl rfl, .refl _ _ _, hx, hr⟩

theorem makeMv_ok {key : Nat} {t : TypeId} {l c y : GV} {u : Option (Nat × GB)} {rl rc : Value} (hr : HR P w I T hp) (hl : VR w I T l rl) (hc : VR w I T c rc) (h : (makeMv P key hp t l c).eff y u) :
    Does P w I T hp ((do pure (Next.value (← Instr.makeSlice t rl rc)) : Sem Next).run P w) y u := by
  unfold makeMv at h
  generalize hm : makeSliceO P key hp t l c = o at h
  unfold makeSliceO at hm
  split at hm
  rotate_left
  · subst hm; exact h.elim
  rename_i e kl l kc c hu
  split at hm
  rotate_left
  · subst hm; exact h.elim
  rename_i i hi hk
  split at hm
  rotate_left
  · subst hm; exact h.elim
  rename_i z hz
  split at hm
  rotate_left
  · subst hm; exact h.elim
  rename_i cs hcs
  cases hb : (Nat.beq cs.length i.size && Nat.blt 0 i.size) with
  | false => rw [hb] at hm; subst hm; exact h.elim
  | true =>
    rw [hb] at hm
    simp only [cond_true] at hm
    subst hm
    obtain ⟨⟨h0, hlc, hby, h63⟩, rfl, rfl⟩ := h
    simp only [Bool.and_eq_true] at hb
    have hcl := Nat.eq_of_beq_eq_true hb.1
    have hpos : 0 < i.size := Nat.le_of_ble_eq_true hb.2
    cases hl.v_inv; cases hc.v_inv
    obtain ⟨z1, z2, z3⟩ := zcells_ok hcs
    have hrun := run_make (P := P) w t e i z hu hi hz kl kc l c h0 hlc hby h63
    have hsz : (madeCells z.cells (c.toNat * i.size)).size = c.toNat * i.size := size_madeCells _ _
    have hle : l.toNat * i.size ≤ c.toNat * i.size := Nat.mul_le_mul_right _ (by omega)
    have hlt' : ((madeCells z.cells (c.toNat * i.size)).toList.take (l.toNat * i.size)).length = l.toNat * i.size := by rw [List.length_take, Array.length_toList, hsz]; omega
    have hown : (w.alloc (.cells (madeCells z.cells (c.toNat * i.size)) e)).ownsRow 0 e i.size (.slice (some ⟨w.heap.size, 0, none⟩) l.toNat c.toNat) l.toNat ((madeCells z.cells (c.toNat * i.size)).toList.take (l.toNat * i.size)) := by
      refine ⟨hlt', .inr ⟨w.heap.size, c.toNat, _, rfl, Nat.zero_le _, heap_alloc_new w _, by omega, by simp [maxLen]; omega, hsz, rfl⟩⟩
    obtain ⟨o1, o2, o3⟩ := zeros_ok (w := w) (I := I) (n := l.toNat) (ys := (madeCells z.cells (c.toNat * i.size)).toList.take (l.toNat * i.size)) hcs (by rw [z1]; exact hcl) hpos (fun j hj => by
      have hj2 : j < c.toNat * i.size := by omega
      have hm : j % i.size < i.size := Nat.mod_lt _ hpos
      unfold madeCells
      rw [List.getElem?_take, if_pos hj]
      simp only [Array.toList_map, List.getElem?_map, Array.getElem?_toList, Array.getElem?_range, hj2, if_true, Option.map_some, z1, hcl]
      simp [z1, hcl, hm, getElem!_pos]) hlt'
    have hrl : (List.replicate l.toNat (zeroG z cs)).length = l.toNat := by simp
    obtain ⟨g1, g2⟩ := hr.setMv (k := key) (v' := 0) (w' := w.alloc (.cells (madeCells z.cells (c.toNat * i.size)) e)) (u' := .slice (some ⟨w.heap.size, 0, none⟩) l.toNat c.toNat) (xs' := List.replicate l.toNat (zeroG z cs)) hi (by rw [hrl]; exact hown) o1 o2 o3 rfl rfl rfl (by simp) (.inl ⟨hk, fun b hb => heap_alloc_old w _ hb, fun b hb => by cases hb; exact Nat.le_refl _⟩)
    change Does P w I T hp _ (.ms i.size key 0 (List.replicate l.toNat (zeroG z cs)).length) (some (key, .mvec e i.size (List.replicate l.toNat (zeroG z cs)) 0))
    rw [hrl]
    exact ⟨_, _, _, _, .inl (by rw [Sem.run_bind, hrun]; rfl), g1, .ms (by rw [setT_eq, if_pos rfl]) (Nat.le_refl _) (ownsRow_head hown) (fun _ => rfl), g2⟩

theorem nilMv_ok {key : Nat} {t : TypeId} {y : GV} {u : Option (Nat × GB)} (hr : HR P w I T hp) (h : (nilMv P key hp t).eff y u) : Does P w I T hp (.ok (.value (.slice none 0 0)) w) y u := by
  unfold nilMv at h
  split at h
  rotate_left
  · exact h.elim
  rename_i e hu
  split at h
  rotate_left
  · exact h.elim
  rename_i i hi
  split at h
  · rename_i hk
    obtain ⟨rfl, rfl⟩ := h
    obtain ⟨g1, g2⟩ := hr.setMv (k := key) (v' := 0) (xs' := []) (ys' := []) (u' := .slice none 0 0) (w' := w) hi (World.ownsRow_nil w 0 e i.size) (fun x hx => by cases hx) (fun x hx => by cases hx) (fun q x j c hx => by simp at hx) rfl rfl rfl (Nat.le_refl _)
      (.inl ⟨hk, fun _ _ => rfl, fun b hb => by cases hb⟩)
    exact ⟨_, w, _, _, .inl rfl, g1, .ms (by rw [setT_eq, if_pos rfl]) (Nat.le_refl _) ⟨none, 0, rfl, fun h => absurd rfl h⟩ (fun _ => rfl), g2⟩
  · rename_i e' es xs v hk
    rw [Bool.cond_eq_ite] at h
    split at h
    rotate_left
    · exact h.elim
    rename_i hb
    simp only [Bool.and_eq_true] at hb
    have h3 := Nat.eq_of_beq_eq_true hb.1
    have h4 := Nat.eq_of_beq_eq_true hb.2
    subst h3; subst h4
    obtain ⟨rfl, rfl⟩ := h
    obtain ⟨u0, olds, inf, k1, _⟩ := hr.mvec key _ _ _ _ hk
    obtain ⟨g1, g2⟩ := hr.setMv (k := key) (v' := v + 1) (xs' := []) (ys' := []) (u' := .slice none 0 0) (w' := w) hi (World.ownsRow_nil w 0 e' i.size) (fun x hx => by cases hx) (fun x hx => by cases hx) (fun q x j c hx => by simp at hx) rfl rfl rfl (Nat.le_refl _)
      (.inr ⟨u0, v, xs, hk, k1, by omega, fun e => by omega, .inl ⟨fun _ _ => rfl, fun b hb => by cases hb⟩⟩)
    exact ⟨_, w, _, _, .inl rfl, g1, .ms (by rw [setT_eq, if_pos rfl]) (Nat.le_refl _) ⟨none, 0, rfl, fun h => absurd rfl h⟩ (fun _ => rfl), g2⟩
  · exact h.elim

theorem assignX_ok {key d : Nat} {env : Nat → GV} {t : TypeId} {x y : GV} {u : Option (Nat × GB)} {rx : Value} (hr : HR P w I T hp) (hx : VR w I T x rx) (h : (assignX P key d hp env t x).eff y u) :
    Does P w I T hp (.ok (.value rx) w) y u := by
  unfold assignX at h
  split at h
  · cases hfl : flagG env (5000000 + d) with
    | true => rw [hfl] at h; cases hx.v_inv; exact nilMv_ok hr h
    | false =>
      rw [hfl] at h
      simp only [cond_false] at h
      unfold nilO2 at h
      split at h
      · exact assignO_ok hr hx h
      · split at h
        · split at h
          · obtain ⟨rfl, rfl⟩ := h
            cases hx.v_inv
            exact ⟨_, w, I, T, .inl rfl, .refl _ _ _, .nil (fun _ => rfl) (fun k hk => by cases hk), hr⟩
          · exact h.elim
        · exact h.elim
  · rename_i es k ver n
    cases hfl : flagG env (6000000 + d) with
    | true =>
      rw [hfl] at h
      simp only [cond_true] at h
      unfold freezeO at h
      split at h
      · rename_i e es' xs v hk
        obtain ⟨rfl, rfl, rfl⟩ := h
        cases hx with
        | ms hT hle hs hra =>
          obtain ⟨u0, olds, inf, k1, _⟩ := hr.mvec k _ _ _ _ hk
          rw [k1] at hT; cases hT
          have := hra rfl
          subst this
          obtain ⟨I', T', g1, g2, g3⟩ := hr.freeze hk k1
          exact ⟨_, w, I', T', .inl rfl, g1, g3, g2⟩
      · exact h.elim
    | false =>
      rw [hfl] at h
      obtain ⟨rfl, rfl⟩ := h
      exact ⟨rx, w, I, T, .inl rfl, .refl _ _ _, hx, hr⟩
  · exact assignO_ok hr hx h

theorem Does.of {res : Sem Value} {x : GV} {u : Option (Nat × GB)} (hr : HR P w I T hp) (h : u = none ∧ ∃ r, res.run P w = .ok r w ∧ VR w I T x r) : Does P w I T hp ((do pure (Next.value (← res)) : Sem Next).run P w) x u := by
  obtain ⟨hu, r, h1, h2⟩ := h
  exact Does.same hr hu (by rw [Sem.run_bind, h1]; rfl) h2

theorem opOut_ok {forb : List Nat} {o : Oper} {s : GS} {a : Act} {y : GV} {u : Option (Nat × GB)} (hr : HR P w I T s.hp) (hev : ∀ t, VR w I T (s.env t) (a.tmps.getD t undef)) (h : (opOut P forb o s).eff y u) :
    Does P w I T s.hp ((execOp a.eval o).run P w) y u := by
  have ge := fun x => gev_ok hev x
  obtain ⟨dst, op, type, pos, after, guard⟩ := o
  cases op <;> (unfold opOut at h; simp only at h) <;> try exact h.elim
  case move x =>
    obtain ⟨rfl, rfl⟩ := h
    exact Does.same hr rfl rfl (ge x)
  case assign x => exact assignX_ok hr (ge x) h
  case pick c x z =>
    obtain ⟨hu, r, h1, h2⟩ := pickO_ok (ge c) (ge x) (ge z) h
    exact Does.same hr hu h1 h2
  case alloc t => exact allocO_ok hr h
  case box t x => exact boxO_ok hr (ge x) h
  case build t parts => exact Does.of hr (buildO_ok hev h)
  case buildSlice t len parts =>
    cases hfl : flagG s.env (5000000 + (dst.getD 0)) with
    | true => rw [hfl] at h; exact buildMv_ok hr hev h
    | false => rw [hfl] at h; exact buildSliceO_ok hr hev h
  case load t x => exact Does.of hr (loadO_ok hr (ge x) h)
  case store t x z => exact storeO_ok hr (ge x) (ge z) h
  case nilCheck x =>
    obtain ⟨hu, hv, hx | hx⟩ := nilO_ok (ge x) h
    · obtain ⟨ad, hx⟩ := hx
      exact Does.same hr hu (by simp only [execOp, hx]; rfl) (hx ▸ hv)
    · obtain ⟨f, b, c, hx⟩ := hx
      exact Does.same hr hu (by simp only [execOp, hx]; rfl) (hx ▸ hv)
  case binOp op t x z t2 =>
    refine Does.of hr ?_
    unfold binO' at h
    split at h
    · rename_i xs ys hx hy
      exact eqlO_ok (hx ▸ ge x) (hy ▸ ge z) h x z
    · exact binO_ok (ge x) (ge z) h x z
  case unOp op t x => exact Does.of hr (unO_ok (ge x) h)
  case convert t0 t x =>
    split at h
    · rename_i d hd
      exact Does.of hr (convO_ok ⟨d, hd⟩ (ge x) h)
    · exact h.elim
  case makeInterface t x =>
    unfold ifaceO at h
    cases hc : P.concrete t with
    | false => rw [hc] at h; exact h.elim
    | true =>
      rw [hc] at h
      obtain ⟨rfl, rfl⟩ := h
      exact Does.of hr ⟨rfl, _, run_makeInterface w t _ hc, .iface (ge x)⟩
  case makeFunc f x z =>
    obtain ⟨rfl, rfl⟩ := h
    refine Does.of hr ⟨rfl, _, rfl, .fn (by simp) (by simp) (fun i c r hc hr' => ?_) fun i c r hc hr' => ?_⟩
    · simp only [List.getElem?_map, Option.map_eq_some_iff, Array.getElem?_map, Array.getElem?_toList] at hc hr'
      obtain ⟨q, hq, rfl⟩ := hc
      obtain ⟨q', hq', rfl⟩ := hr'
      rw [hq] at hq'; cases hq'; exact ge q
    · simp only [List.getElem?_map, Option.map_eq_some_iff, Array.getElem?_map, Array.getElem?_toList] at hc hr'
      obtain ⟨q, hq, rfl⟩ := hc
      obtain ⟨q', hq', rfl⟩ := hr'
      rw [hq] at hq'; cases hq'; exact ge q
  case makeSlice t l c =>
    cases hfl : flagG s.env (5000000 + (dst.getD 0)) with
    | true => rw [hfl] at h; exact makeMv_ok hr (ge l) (ge c) h
    | false => rw [hfl] at h; exact makeSliceO_ok hr (ge l) (ge c) h
  case slice t x lo hi mx =>
    have sm : ∀ (q : Option Operand) g, q.map (gev s.env) = some g → ∃ r, q.map a.eval = some r ∧ VR w I T g r := by
      intro q g hq
      cases q with
      | none => cases hq
      | some q => cases hq; exact ⟨_, rfl, ge q⟩
    have nm : ∀ (q : Option Operand), q.map (gev s.env) = none → q.map a.eval = none := by
      intro q hq; cases q with
      | none => rfl
      | some q => cases hq
    unfold sliceX at h
    split at h
    · rename_i es k ver n hx
      exact sliceMv_ok hr (hx ▸ ge x) (sm lo) (nm lo) (sm hi) (nm hi) (nm mx) h
    · rename_i hx
      have hv := ge x
      rw [hx] at hv
      generalize hrx : a.eval x = rx at hv
      cases hv.v_inv
      split at h
      · rename_i hu hlo hhi hmx
        split at h
        · rename_i sz hsz
          obtain ⟨rfl, rfl, rfl⟩ := h
          obtain ⟨r2, e2, hr2⟩ := sm hi _ hhi
          cases hr2.v_inv
          refine Does.of hr ⟨rfl, .slice none 0 0, ?_, .v _ rfl⟩
          rw [hrx, nm lo hlo, nm mx hmx, e2]
          simp [Instr.sliceAt, run_underlying hu, Instr.slice, Instr.sliceBounds, Instr.sliceBound, asIntOf, tSize_run hsz]
        · exact h.elim
      · exact h.elim
    · exact Does.of hr (sliceZ_ok (ge x) (sm lo) (nm lo) (sm hi) (nm hi) (sm mx) (nm mx) h)
  case fieldAddr t x i => exact Does.of hr (fieldAddrO_ok (ge x) h)
  case field t x i => exact Does.of hr (fieldO_ok (ge x) h)
  case indexAddr t x i => exact Does.of hr (indexAddrO_ok (ge x) (ge i) h)
  case index t x i => exact Does.of hr (indexO_ok (ge x) (ge i) h)
  case extract x i => exact Does.of hr (extractO_ok (ge x) h)
  case call c =>
    obtain ⟨callee, args, ts⟩ := c
    cases callee with
    | value f =>
      simp only [callO] at h
      split at h <;> exact h.elim
    | invoke r m => exact h.elim
    | builtin b =>
      simp only [builtinO] at h
      have hargs : ∀ (l : List Operand), args = l.toArray → args.toList = l := fun l hl => by rw [hl]
      split at h
      · rename_i t tx gs gx hts hgs
        have hts' : ts = #[t, tx] := by rw [← Array.toArray_toList (xs := ts), hts]
        obtain ⟨os, ox, ho⟩ : ∃ os ox, args.toList = [os, ox] ∧ True := by
          match h0 : args.toList, hgs with
          | [p, q], _ => exact ⟨p, q, rfl, trivial⟩
        have ho' : args = #[os, ox] := by rw [← Array.toArray_toList (xs := args), ho.1]
        rw [ho.1] at hgs
        simp only [List.map_cons, List.map_nil, List.cons.injEq, and_true] at hgs
        obtain ⟨rfl, rfl⟩ := hgs
        subst hts'; subst ho'
        have := appendX_ok (ty := type) hr (ge os) (ge ox) h
        simpa [execOp, resolve, invoke, builtin] using this
      · rename_i t rest gx hts hgs
        obtain ⟨ox, ho⟩ : ∃ ox, args.toList = [ox] ∧ True := by
          match h0 : args.toList, hgs with
          | [p], _ => exact ⟨p, rfl, trivial⟩
        have ho' : args = #[ox] := by rw [← Array.toArray_toList (xs := args), ho.1]
        rw [ho.1] at hgs
        simp only [List.map_cons, List.map_nil, List.cons.injEq, and_true] at hgs
        subst hgs; subst ho'
        have ht : ts[0]? = some t := by rw [← Array.getElem?_toList, hts]; rfl
        have := Does.of hr (capO_ok (ty := type) ht (ge ox) h)
        simpa [execOp, resolve, invoke, builtin] using this
      · rename_i t rest gx hts hgs
        obtain ⟨ox, ho⟩ : ∃ ox, args.toList = [ox] ∧ True := by
          match h0 : args.toList, hgs with
          | [p], _ => exact ⟨p, rfl, trivial⟩
        have ho' : args = #[ox] := by rw [← Array.toArray_toList (xs := args), ho.1]
        rw [ho.1] at hgs
        simp only [List.map_cons, List.map_nil, List.cons.injEq, and_true] at hgs
        subst hgs; subst ho'
        have ht : ts[0]? = some t := by rw [← Array.getElem?_toList, hts]; rfl
        have := Does.of hr (lenO_ok (ty := type) ht (ge ox) h)
        simpa [execOp, resolve, invoke, builtin] using this
      · rename_i gs hgs
        cases hal : args.toList with
        | nil => rw [hal] at h; exact h.elim
        | cons ox rest =>
          rw [hal] at h
          simp only [List.map_cons, foldO] at h
          split at h
          · rename_i z hz
            obtain ⟨rfl, rfl⟩ := h
            obtain ⟨r, e1, e2⟩ := foldG_ok (P := P) (m := Builtin.min2) (fun hx hy h => minG_ok hx hy h) (rl := rest.map a.eval) (by simp) (fun i c r hc hr' => by
              simp only [List.getElem?_map, Option.map_eq_some_iff] at hc hr'
              obtain ⟨q, hq, rfl⟩ := hc
              obtain ⟨q', hq', rfl⟩ := hr'
              rw [hq] at hq'; cases hq'; exact ge q) (ge ox) hz
            have ho' : args = (ox :: rest).toArray := by rw [← Array.toArray_toList (xs := args), hal]
            subst ho'
            have := Does.of (res := Builtin.min_ ts type ((ox :: rest).toArray.map a.eval)) hr ⟨rfl, r, by simpa [Builtin.min_] using e1, e2⟩
            simpa [execOp, resolve, invoke, builtin] using this
          · exact h.elim
      · rename_i gs hgs
        cases hal : args.toList with
        | nil => rw [hal] at h; exact h.elim
        | cons ox rest =>
          rw [hal] at h
          simp only [List.map_cons, foldO] at h
          split at h
          · rename_i z hz
            obtain ⟨rfl, rfl⟩ := h
            obtain ⟨r, e1, e2⟩ := foldG_ok (P := P) (m := Builtin.max2) (fun hx hy h => maxG_ok hx hy h) (rl := rest.map a.eval) (by simp) (fun i c r hc hr' => by
              simp only [List.getElem?_map, Option.map_eq_some_iff] at hc hr'
              obtain ⟨q, hq, rfl⟩ := hc
              obtain ⟨q', hq', rfl⟩ := hr'
              rw [hq] at hq'; cases hq'; exact ge q) (ge ox) hz
            have ho' : args = (ox :: rest).toArray := by rw [← Array.toArray_toList (xs := args), hal]
            subst ho'
            have := Does.of (res := Builtin.max_ ts type ((ox :: rest).toArray.map a.eval)) hr ⟨rfl, r, by simpa [Builtin.max_] using e1, e2⟩
            simpa [execOp, resolve, invoke, builtin] using this
          · exact h.elim
      · rename_i t gx hts hgs
        obtain ⟨ox, ho⟩ : ∃ ox, args.toList = [ox] ∧ True := by
          match h0 : args.toList, hgs with
          | [p], _ => exact ⟨p, rfl, trivial⟩
        have ho' : args = #[ox] := by rw [← Array.toArray_toList (xs := args), ho.1]
        rw [ho.1] at hgs
        simp only [List.map_cons, List.map_nil, List.cons.injEq, and_true] at hgs
        subst hgs; subst ho'
        have hts' : ts = #[t] := by rw [← Array.toArray_toList (xs := ts), hts]
        subst hts'
        have := clearO_ok (ty := type) hr (ge ox) h
        simpa [execOp, resolve, invoke, builtin] using this
      · exact h.elim

theorem opOutD_ok {forb : List Nat} {o : Oper} {s : GS} {a : Act} {y : GV} {u : Option (Nat × GB)} (hr : HR P w I T s.hp) (hev : ∀ t, VR w I T (s.env t) (a.tmps.getD t undef)) (h : (opOutD P forb o s).eff y u) :
    Does P w I T s.hp ((execOp a.eval o).run P w) y u := by
  have ge := fun x => gev_ok hev x
  obtain ⟨dst, op, type, pos, after, guard⟩ := o
  cases op <;> (unfold opOutD at h; simp only at h) <;> try exact h.elim
  case move x =>
    obtain ⟨rfl, rfl⟩ := h
    exact Does.same hr rfl rfl (ge x)
  case assign x => exact assignO_ok hr (ge x) h
  case pick c x z =>
    obtain ⟨hu, r, h1, h2⟩ := pickO_ok (ge c) (ge x) (ge z) h
    exact Does.same hr hu h1 h2
  case alloc t => exact allocO_ok hr h
  case box t x => exact boxO_ok hr (ge x) h
  case build t parts => exact Does.of hr (buildO_ok hev h)
  case buildSlice t len parts =>
    cases hz : isZ len parts with
    | true => rw [hz] at h; exact buildZ_ok hr hz h
    | false => rw [hz] at h; exact buildSliceO_ok hr hev h
  case load t x => exact Does.of hr (loadO_ok hr (ge x) h)
  case store t x z => exact storeO_ok hr (ge x) (ge z) h
  case nilCheck x =>
    obtain ⟨hu, hv, hx | hx⟩ := nilO_ok (ge x) h
    · obtain ⟨ad, hx⟩ := hx
      exact Does.same hr hu (by simp only [execOp, hx]; rfl) (hx ▸ hv)
    · obtain ⟨f, b, c, hx⟩ := hx
      exact Does.same hr hu (by simp only [execOp, hx]; rfl) (hx ▸ hv)
  case binOp op t x z t2 =>
    refine Does.of hr ?_
    unfold binO' at h
    split at h
    · rename_i xs ys hx hy
      exact eqlO_ok (hx ▸ ge x) (hy ▸ ge z) h x z
    · exact binO_ok (ge x) (ge z) h x z
  case unOp op t x => exact Does.of hr (unO_ok (ge x) h)
  case convert t0 t x =>
    split at h
    · rename_i d hd
      exact Does.of hr (convO_ok ⟨d, hd⟩ (ge x) h)
    · exact h.elim
  case makeInterface t x =>
    unfold ifaceO at h
    cases hc : P.concrete t with
    | false => rw [hc] at h; exact h.elim
    | true =>
      rw [hc] at h
      obtain ⟨rfl, rfl⟩ := h
      exact Does.of hr ⟨rfl, _, run_makeInterface w t _ hc, .iface (ge x)⟩
  case makeFunc f x z =>
    obtain ⟨rfl, rfl⟩ := h
    refine Does.of hr ⟨rfl, _, rfl, .fn (by simp) (by simp) (fun i c r hc hr' => ?_) fun i c r hc hr' => ?_⟩
    · simp only [List.getElem?_map, Option.map_eq_some_iff, Array.getElem?_map, Array.getElem?_toList] at hc hr'
      obtain ⟨q, hq, rfl⟩ := hc
      obtain ⟨q', hq', rfl⟩ := hr'
      rw [hq] at hq'; cases hq'; exact ge q
    · simp only [List.getElem?_map, Option.map_eq_some_iff, Array.getElem?_map, Array.getElem?_toList] at hc hr'
      obtain ⟨q, hq, rfl⟩ := hc
      obtain ⟨q', hq', rfl⟩ := hr'
      rw [hq] at hq'; cases hq'; exact ge q
  case makeSlice t l c => exact makeSliceO_ok hr (ge l) (ge c) h
  case slice t x lo hi mx =>
    have sm : ∀ (q : Option Operand) g, q.map (gev s.env) = some g → ∃ r, q.map a.eval = some r ∧ VR w I T g r := by
      intro q g hq
      cases q with
      | none => cases hq
      | some q => cases hq; exact ⟨_, rfl, ge q⟩
    have nm : ∀ (q : Option Operand), q.map (gev s.env) = none → q.map a.eval = none := by
      intro q hq; cases q with
      | none => rfl
      | some q => cases hq
    exact Does.of hr (sliceO_ok (ge x) (sm lo) (nm lo) (sm hi) (nm hi) (nm mx) h)
  case fieldAddr t x i => exact Does.of hr (fieldAddrO_ok (ge x) h)
  case field t x i => exact Does.of hr (fieldO_ok (ge x) h)
  case indexAddr t x i => exact Does.of hr (indexAddrO_ok (ge x) (ge i) h)
  case index t x i => exact Does.of hr (indexO_ok (ge x) (ge i) h)
  case extract x i => exact Does.of hr (extractO_ok (ge x) h)
  case call c =>
    obtain ⟨callee, args, ts⟩ := c
    cases callee with
    | value f =>
      simp only [callO] at h
      split at h <;> exact h.elim
    | invoke r m => exact h.elim
    | builtin b =>
      simp only [builtinD] at h
      have hargs : ∀ (l : List Operand), args = l.toArray → args.toList = l := fun l hl => by rw [hl]
      split at h
      · rename_i t tx gs gx hts hgs
        have hts' : ts = #[t, tx] := by rw [← Array.toArray_toList (xs := ts), hts]
        obtain ⟨os, ox, ho⟩ : ∃ os ox, args.toList = [os, ox] ∧ True := by
          match h0 : args.toList, hgs with
          | [p, q], _ => exact ⟨p, q, rfl, trivial⟩
        have ho' : args = #[os, ox] := by rw [← Array.toArray_toList (xs := args), ho.1]
        rw [ho.1] at hgs
        simp only [List.map_cons, List.map_nil, List.cons.injEq, and_true] at hgs
        obtain ⟨rfl, rfl⟩ := hgs
        subst hts'; subst ho'
        have := appendD_ok (ty := type) hr (ge os) (ge ox) h
        simpa [execOp, resolve, invoke, builtin] using this
      · rename_i t rest gx hts hgs
        obtain ⟨ox, ho⟩ : ∃ ox, args.toList = [ox] ∧ True := by
          match h0 : args.toList, hgs with
          | [p], _ => exact ⟨p, rfl, trivial⟩
        have ho' : args = #[ox] := by rw [← Array.toArray_toList (xs := args), ho.1]
        rw [ho.1] at hgs
        simp only [List.map_cons, List.map_nil, List.cons.injEq, and_true] at hgs
        subst hgs; subst ho'
        have ht : ts[0]? = some t := by rw [← Array.getElem?_toList, hts]; rfl
        have := Does.of hr (lenO_ok (ty := type) ht (ge ox) h)
        simpa [execOp, resolve, invoke, builtin] using this
      · rename_i gs hgs
        cases hal : args.toList with
        | nil => rw [hal] at h; exact h.elim
        | cons ox rest =>
          rw [hal] at h
          simp only [List.map_cons, foldO] at h
          split at h
          · rename_i z hz
            obtain ⟨rfl, rfl⟩ := h
            obtain ⟨r, e1, e2⟩ := foldG_ok (P := P) (m := Builtin.min2) (fun hx hy h => minG_ok hx hy h) (rl := rest.map a.eval) (by simp) (fun i c r hc hr' => by
              simp only [List.getElem?_map, Option.map_eq_some_iff] at hc hr'
              obtain ⟨q, hq, rfl⟩ := hc
              obtain ⟨q', hq', rfl⟩ := hr'
              rw [hq] at hq'; cases hq'; exact ge q) (ge ox) hz
            have ho' : args = (ox :: rest).toArray := by rw [← Array.toArray_toList (xs := args), hal]
            subst ho'
            have := Does.of (res := Builtin.min_ ts type ((ox :: rest).toArray.map a.eval)) hr ⟨rfl, r, by simpa [Builtin.min_] using e1, e2⟩
            simpa [execOp, resolve, invoke, builtin] using this
          · exact h.elim
      · rename_i gs hgs
        cases hal : args.toList with
        | nil => rw [hal] at h; exact h.elim
        | cons ox rest =>
          rw [hal] at h
          simp only [List.map_cons, foldO] at h
          split at h
          · rename_i z hz
            obtain ⟨rfl, rfl⟩ := h
            obtain ⟨r, e1, e2⟩ := foldG_ok (P := P) (m := Builtin.max2) (fun hx hy h => maxG_ok hx hy h) (rl := rest.map a.eval) (by simp) (fun i c r hc hr' => by
              simp only [List.getElem?_map, Option.map_eq_some_iff] at hc hr'
              obtain ⟨q, hq, rfl⟩ := hc
              obtain ⟨q', hq', rfl⟩ := hr'
              rw [hq] at hq'; cases hq'; exact ge q) (ge ox) hz
            have ho' : args = (ox :: rest).toArray := by rw [← Array.toArray_toList (xs := args), hal]
            subst ho'
            have := Does.of (res := Builtin.max_ ts type ((ox :: rest).toArray.map a.eval)) hr ⟨rfl, r, by simpa [Builtin.max_] using e1, e2⟩
            simpa [execOp, resolve, invoke, builtin] using this
          · exact h.elim
      · exact h.elim

end
end Go.Gh
