/- Ghost values and walks, bundle Gh6; proved for whatever the arguments' types allow, as each theorem says. -/
import Derived.Test.YtoofplbjpkgdgaaGh5

/- Slices that are built, cut and appended to; numbers; all operations together. -/
set_option linter.unusedVariables false
set_option linter.unusedSimpArgs false
namespace Go.Gh

section
variable {P : Program} {w : World} {I : Nat → Nat → Prop} {T : Tab} {hp : Nat → Option GB}

theorem buildSliceO_ok {env : Nat → GV} {a : Act} (hr : HR P w I T hp) (hev : ∀ t, VR w I T (env t) (a.tmps.getD t undef)) {t : TypeId} {len : Nat} {parts : Array (Nat × Operand)} {y : GV} {u : Option (Nat × GB)}
    (h : (buildSliceO P t len (parts.toList.map fun p => (p.1, gev env p.2))).eff y u) :
    Does P w I T hp ((do pure (Next.value (← Instr.buildSlice t len (parts.map fun (i, x) => (i, a.eval x)))) : Sem Next).run P w) y u := by
  obtain ⟨m1, m2⟩ := map_parts hev parts
  unfold buildSliceO at h
  split at h
  · rename_i e hu
    split at h
    · rename_i sz z hsz hz
      split at h
      · rename_i xs hxs
        cases hb : (Nat.beq xs.length len && (Nat.ble (len * sz) 16777216 && Nat.beq z.cells.size sz)) with
        | false => rw [hb] at h; exact h.elim
        | true =>
          rw [hb] at h
          simp only [cond_true] at h
          obtain ⟨rfl, rfl⟩ := h
          simp only [Bool.and_eq_true] at hb
          obtain ⟨hb1, hb2, hb3⟩ := hb
          have hlen := Nat.eq_of_beq_eq_true hb1
          have hle := Nat.le_of_ble_eq_true hb2
          have hzs := Nat.eq_of_beq_eq_true hb3
          subst hlen
          let row0 : Array Value := (Array.range (xs.length * sz)).map (z.cells[· % z.cells.size]!)
          let row1 : Array Value := if xs.length * sz = 0 then #[] else row0
          have hs0 : ∀ zz : Array Value, ((Array.range (xs.length * sz)).map (zz[· % zz.size]!)).size = xs.length * sz := fun zz => by simp
          obtain ⟨row', e1, e2, e3, e3', e4, e5⟩ := inOrder_ok (row := row0) m1 m2 hxs (by rw [hs0 z.cells, Nat.zero_add]; exact Nat.le_refl _)
          have hsize : row'.size = xs.length * sz := by rw [e2, hs0]
          obtain ⟨g1, g2⟩ := hr.imm row' e
          have hone : ∀ u, u ∈ row'.toList → u.oneCell' = true := by
            intro u hu
            obtain ⟨j, hj⟩ := List.getElem?_of_mem hu
            have hjl := (List.getElem?_eq_some_iff.1 hj).1
            simp at hjl
            by_cases hz0 : sz = 0
            · rw [hsize, hz0, Nat.mul_zero] at hjl; omega
            · have hjl' : j < xs.length * sz := by rw [← hsize]; exact hjl
              have hq : j / sz < xs.length := by rw [Nat.div_lt_iff_lt_mul (by omega)]; exact hjl'
              have hcl := (e4 xs[j / sz] (List.getElem_mem hq)).1
              have hm : j % sz < sz := Nat.mod_lt _ (by omega)
              obtain ⟨u', h1, h2, _⟩ := e5 (j / sz) xs[j / sz] (j % sz) (xs[j / sz].cells[j % sz]'(by omega)) (by simp [hq]) (by simp)
              rw [Nat.zero_add, Nat.mul_comm, Nat.div_add_mod] at h1
              rw [Array.getElem?_toList, h1] at hj
              cases hj; exact h2
          refine ⟨.slice (some ⟨w.heap.size, 0, none⟩) xs.length xs.length, _, _, _, .inl ?_, g1, ?_, g2⟩
          · have hn : ¬ (xs.length * sz > 16777216) := by omega
            have e1' : Instr.fill (fun i => some (i * sz, sz)) row0 (List.map (fun x => (x.fst, a.eval x.snd)) parts.toList) = some row' := by simpa using e1
            by_cases h0 : xs.length * sz = 0
            · have hr0 : row0 = (Array.range 0).map ((#[] : Array Value)[· % 0]!) := by
                show (Array.range (xs.length * sz)).map _ = _
                rw [h0]; simp [Array.range_zero']
              rw [hr0] at e1'
              simp [Instr.buildSlice, run_underlying hu, tSize_run hsz, hn, h0]
              simp only [Array.range_zero', Array.map_empty] at e1'
              rw [show (Array.range 0 : Array Nat) = #[] from rfl]
              simp only [Array.map_empty]
              rw [e1']
              simp [newRow]
            · simp [Instr.buildSlice, run_underlying hu, tSize_run hsz, hn, h0, tZero_run hz]
              have : Instr.fill (fun i => some (i * sz, sz)) (Array.map (fun x => z.cells[x % z.cells.size]!) (Array.range (xs.length * sz))) (List.map (fun x => (x.fst, a.eval x.snd)) parts.toList) = some row' := e1'
              rw [this]
              simp [newRow]
          · refine VR.ofRow (news := row'.toList) (Nat.le_refl _) (by simp [hsize]) hone (fun j u hj => ?_) (fun x hx => e4 x hx) (fun i x j c hx hc => ?_) fun k hk => by cases hk
            · have hjl := (List.getElem?_eq_some_iff.1 hj).1
              simp at hjl hj
              refine ⟨.inr ⟨rfl, by omega⟩, ?_⟩
              rw [World.cell?_alloc_new]; simpa using hj
            · obtain ⟨u, h1, _, h3⟩ := e5 i x j c hx hc
              rw [Nat.zero_add] at h1
              exact ⟨u, by simpa using h1, h3.mono g1.ile (TLe.refl _)⟩
      · exact h.elim
    · exact h.elim
  · exact h.elim

theorem buildMv_ok {env : Nat → GV} {a : Act} (hr : HR P w I T hp) (hev : ∀ t, VR w I T (env t) (a.tmps.getD t undef)) {key : Nat} {t : TypeId} {len : Nat} {parts : Array (Nat × Operand)} {y : GV} {u : Option (Nat × GB)}
    (h : (buildMv P key hp t len (parts.toList.map fun p => (p.1, gev env p.2))).eff y u) :
    Does P w I T hp ((do pure (Next.value (← Instr.buildSlice t len (parts.map fun (i, x) => (i, a.eval x)))) : Sem Next).run P w) y u := by
  obtain ⟨m1, m2⟩ := map_parts hev parts
  unfold buildMv at h
  split at h
  · rename_i e hu hkey
    split at h
    · rename_i sz z hsz hz
      split at h
      · rename_i xs hxs
        cases hb : (Nat.beq xs.length len && (Nat.ble (len * sz) 16777216 && (Nat.beq z.cells.size sz && Nat.blt 0 sz))) with
        | false => rw [hb] at h; exact h.elim
        | true =>
          rw [hb] at h
          simp only [cond_true] at h
          obtain ⟨rfl, rfl⟩ := h
          simp only [Bool.and_eq_true] at hb
          obtain ⟨hb1, hb2, hb3, hb4⟩ := hb
          have hpos : 0 < sz := Nat.le_of_ble_eq_true hb4
          have hlen := Nat.eq_of_beq_eq_true hb1
          have hle := Nat.le_of_ble_eq_true hb2
          have hzs := Nat.eq_of_beq_eq_true hb3
          subst hlen
          let row0 : Array Value := (Array.range (xs.length * sz)).map (z.cells[· % z.cells.size]!)
          let row1 : Array Value := if xs.length * sz = 0 then #[] else row0
          have hs0 : ∀ zz : Array Value, ((Array.range (xs.length * sz)).map (zz[· % zz.size]!)).size = xs.length * sz := fun zz => by simp
          obtain ⟨row', e1, e2, e3, e3', e4, e5⟩ := inOrder_ok (row := row0) m1 m2 hxs (by rw [hs0 z.cells, Nat.zero_add]; exact Nat.le_refl _)
          have hsize : row'.size = xs.length * sz := by rw [e2, hs0]
          have hone : ∀ u, u ∈ row'.toList → u.oneCell' = true := by
            intro u hu
            obtain ⟨j, hj⟩ := List.getElem?_of_mem hu
            have hjl := (List.getElem?_eq_some_iff.1 hj).1
            simp at hjl
            by_cases hz0 : sz = 0
            · rw [hsize, hz0, Nat.mul_zero] at hjl; omega
            · have hjl' : j < xs.length * sz := by rw [← hsize]; exact hjl
              have hq : j / sz < xs.length := by rw [Nat.div_lt_iff_lt_mul (by omega)]; exact hjl'
              have hcl := (e4 xs[j / sz] (List.getElem_mem hq)).1
              have hm : j % sz < sz := Nat.mod_lt _ (by omega)
              obtain ⟨u', h1, h2, _⟩ := e5 (j / sz) xs[j / sz] (j % sz) (xs[j / sz].cells[j % sz]'(by omega)) (by simp [hq]) (by simp)
              rw [Nat.zero_add, Nat.mul_comm, Nat.div_add_mod] at h1
              rw [Array.getElem?_toList, h1] at hj
              cases hj; exact h2
          obtain ⟨inf, hinf, hinf2⟩ := tSize_info hsz
          subst hinf2
          have hown : (w.alloc (.cells row' e)).ownsRow 0 e inf.size (.slice (some ⟨w.heap.size, 0, none⟩) xs.length xs.length) xs.length row'.toList := by
            refine ⟨by simp [hsize], .inr ⟨w.heap.size, xs.length, row', rfl, Nat.zero_le _, heap_alloc_new w _, Nat.le_refl _, ?_, hsize, ?_⟩⟩
            · have : xs.length * 1 ≤ xs.length * inf.size := Nat.mul_le_mul_left _ hpos
              simp only [maxLen]; omega
            · rw [← hsize, ← Array.length_toList, List.take_length]
          obtain ⟨g1, g2⟩ := hr.setMv (k := key) (e := e) (v' := 0) hinf hown hone (fun x hx => e4 x hx) (fun q x j c hx hc => by
              obtain ⟨y, h1, _, h3⟩ := e5 q x j c hx hc
              rw [Nat.zero_add] at h1
              exact ⟨y, by simpa using h1, h3⟩) rfl rfl rfl (by simp) (.inl ⟨hkey, fun b hb => heap_alloc_old w _ hb, fun b hb => by cases hb; exact Nat.le_refl _⟩)
          refine ⟨.slice (some ⟨w.heap.size, 0, none⟩) xs.length xs.length, _, _, _, .inl ?_, g1, .ms (by rw [setT_eq, if_pos rfl]) (Nat.le_refl _) ⟨_, _, rfl, fun _ => ⟨_, rfl⟩⟩ (fun _ => rfl), g2⟩
          have hn : ¬ (xs.length * inf.size > 16777216) := by omega
          have e1' : Instr.fill (fun i => some (i * inf.size, inf.size)) row0 (List.map (fun x => (x.fst, a.eval x.snd)) parts.toList) = some row' := by simpa using e1
          by_cases h0 : xs.length * inf.size = 0
          · have hr0 : row0 = (Array.range 0).map ((#[] : Array Value)[· % 0]!) := by
              show (Array.range (xs.length * inf.size)).map _ = _
              rw [h0]; simp [Array.range_zero']
            rw [hr0] at e1'
            simp [Instr.buildSlice, run_underlying hu, tSize_run hsz, hn, h0]
            simp only [Array.range_zero', Array.map_empty] at e1'
            rw [show (Array.range 0 : Array Nat) = #[] from rfl]
            simp only [Array.map_empty]
            rw [e1']
            simp [newRow]
          · simp [Instr.buildSlice, run_underlying hu, tSize_run hsz, hn, h0, tZero_run hz]
            have : Instr.fill (fun i => some (i * inf.size, inf.size)) (Array.map (fun x => z.cells[x % z.cells.size]!) (Array.range (xs.length * inf.size))) (List.map (fun x => (x.fst, a.eval x.snd)) parts.toList) = some row' := e1'
            rw [this]
            simp [newRow]
      · exact h.elim
    · exact h.elim
  · exact h.elim

/-- A piece of a slice. -/
theorem VR.sub {es : Nat} {xs ys : List GV} {own : Option Nat} {r : Value} {l : Nat} (h : VR w I T (.list es xs own) r) (hl : l + ys.length ≤ xs.length) (hy : ∀ i y, ys[i]? = some y → xs[l + i]? = some y) :
    ∃ base cap, r = .slice base xs.length cap ∧ xs.length ≤ cap ∧ ∀ mm : Nat, VR w I T (.list es ys none) (.slice (if cap = l then base else base.map (·.add (l * es))) ys.length (cap - l)) := by
  cases h with
  | @nil _ _ _ base cap hb hown =>
    simp only [List.length_nil] at hl
    have : ys = [] := List.eq_nil_of_length_eq_zero (by omega)
    subst this
    have : l = 0 := by simp at hl; omega
    subst this
    refine ⟨base, cap, rfl, Nat.zero_le _, fun _ => ?_⟩
    have e : (if cap = 0 then base else base.map (·.add (0 * es))) = base := by
      split
      · rfl
      · cases base <;> simp [Addr.add]
    rw [e]
    exact VR.nil hb fun k hk => by cases hk
  | list b o cap row hcap hes hsane hcell hrel hown =>
    refine ⟨_, cap, rfl, hcap, fun _ => ?_⟩
    have hmem : ∀ y, y ∈ ys → y ∈ xs := fun y hy' => by
      obtain ⟨i, hi⟩ := List.getElem?_of_mem hy'
      exact List.mem_of_getElem? (hy i y hi)
    by_cases hc : cap = l
    · have : ys = [] := List.eq_nil_of_length_eq_zero (by omega)
      subst this
      rw [if_pos hc]
      exact .list b o _ row (by simp) (fun x hx => by cases hx) (fun x hx => by cases hx) (fun j hj => by simp at hj) (fun i x j c hx => by simp at hx) fun k hk => by cases hk
    · rw [if_neg hc]
      simp only [Option.map_some, Addr.add_lit]
      refine .list b (o + l * es) (cap - l) (fun j => row (l * es + j)) (by omega) (fun x hx => hes x (hmem x hx)) (fun x hx => hsane x (hmem x hx)) (fun j hj => ?_) (fun i x j c hx hcc => ?_) fun k hk => by cases hk
      · have := hcell (l * es + j) (by
          have : (l + ys.length) * es ≤ xs.length * es := Nat.mul_le_mul_right _ hl
          rw [Nat.add_mul] at this; omega)
        rwa [← Nat.add_assoc] at this
      · have := hrel (l + i) x j c (hy i x hx) hcc
        rwa [Nat.add_mul, Nat.add_assoc] at this

theorem sliceO_ok {t : TypeId} {x y : GV} {lo hi mx : Option GV} {rlo rhi rmx : Option Value} {u : Option (Nat × GB)} {rx : Value} (hx : VR w I T x rx)
    (hlo : ∀ g, lo = some g → ∃ r, rlo = some r ∧ VR w I T g r) (hlo' : lo = none → rlo = none) (hhi : ∀ g, hi = some g → ∃ r, rhi = some r ∧ VR w I T g r) (hhi' : hi = none → rhi = none) (hmx' : mx = none → rmx = none)
    (h : (sliceO P t x lo hi mx).eff y u) : u = none ∧ ∃ r, (Instr.sliceAt t rx rlo rhi rmx).run P w = .ok r w ∧ VR w I T y r := by
  unfold sliceO at h
  split at h
  · rename_i e es xs own hu
    cases hmx' rfl
    split at h
    · rename_i sz hsz
      cases hb : Nat.beq es sz with
      | false => rw [hb] at h; exact h.elim
      | true =>
        rw [hb] at h
        simp only [cond_true] at h
        have := Nat.eq_of_beq_eq_true hb
        subst this
        split at h
        · rename_i k l
          obtain ⟨⟨h0, h1⟩, rfl, rfl⟩ := h
          obtain ⟨r1, rfl, hr1⟩ := hlo _ rfl
          cases hr1.v_inv
          cases hhi' rfl
          refine ⟨rfl, ?_⟩
          obtain ⟨base, cap, rfl, hcap, hv⟩ := hx.sub (l := l.toNat) (ys := xs.drop l.toNat) (by simp; omega) (fun i y hy => by rwa [List.getElem?_drop] at hy)
          have hl : (xs.drop l.toNat).length = xs.length - l.toNat := by simp
          refine ⟨_, ?_, hv 0⟩
          have h1' : l ≤ (xs.length : Int) := h1
          simp [Instr.sliceAt, run_underlying hu, Instr.slice, Instr.sliceBounds, Instr.sliceBound, asIntOf, h0, h1', tSize_run hsz]
        · rename_i k l k' hh
          obtain ⟨⟨h0, h1, h2⟩, rfl, rfl⟩ := h
          obtain ⟨r1, rfl, hr1⟩ := hlo _ rfl
          obtain ⟨r2, rfl, hr2⟩ := hhi _ rfl
          cases hr1.v_inv; cases hr2.v_inv
          refine ⟨rfl, ?_⟩
          obtain ⟨base, cap, rfl, hcap, hv⟩ := hx.sub (l := l.toNat) (ys := (xs.take hh.toNat).drop l.toNat) (by simp; omega) (fun i y hy => by
            rw [List.getElem?_drop, List.getElem?_take] at hy
            split at hy
            · exact hy
            · cases hy)
          have hl : ((xs.take hh.toNat).drop l.toNat).length = hh.toNat - l.toNat := by simp; omega
          refine ⟨_, ?_, hv 0⟩
          have a1 : 0 ≤ hh := by omega
          have a2 : hh ≤ (cap : Int) := by omega
          have a3 : l ≤ ((hh.toNat : Nat) : Int) := by omega
          rw [hl]
          have a3' : l ≤ max hh 0 := by omega
          simp [Instr.sliceAt, run_underlying hu, Instr.slice, Instr.sliceBounds, Instr.sliceBound, asIntOf, h0, a1, a2, a3, a3', tSize_run hsz]
        · rename_i k' hh
          obtain ⟨⟨h0, h1⟩, rfl, rfl⟩ := h
          obtain ⟨r2, rfl, hr2⟩ := hhi _ rfl
          cases hr2.v_inv
          cases hlo' rfl
          refine ⟨rfl, ?_⟩
          obtain ⟨base, cap, rfl, hcap, hv⟩ := hx.sub (l := 0) (ys := xs.take hh.toNat) (by simp; omega) (fun i y hy => by
            rw [List.getElem?_take] at hy
            split at hy
            · rwa [Nat.zero_add]
            · cases hy)
          have hl : (xs.take hh.toNat).length = hh.toNat := by simp; omega
          refine ⟨_, ?_, hv 0⟩
          have a2 : hh ≤ (cap : Int) := by omega
          rw [hl]
          simp [Instr.sliceAt, run_underlying hu, Instr.slice, Instr.sliceBounds, Instr.sliceBound, asIntOf, h0, a2, tSize_run hsz]
        · exact h.elim
    · exact h.elim
  · exact h.elim

theorem sliceZ_ok {t : TypeId} {x y : GV} {lo hi mx : Option GV} {rlo rhi rmx : Option Value} {u : Option (Nat × GB)} {rx : Value} (hx : VR w I T x rx)
    (hlo : ∀ g, lo = some g → ∃ r, rlo = some r ∧ VR w I T g r) (hlo' : lo = none → rlo = none) (hhi : ∀ g, hi = some g → ∃ r, rhi = some r ∧ VR w I T g r) (hhi' : hi = none → rhi = none)
    (hmx : ∀ g, mx = some g → ∃ r, rmx = some r ∧ VR w I T g r) (hmx' : mx = none → rmx = none)
    (h : (sliceZ P t x lo hi mx).eff y u) : u = none ∧ ∃ r, (Instr.sliceAt t rx rlo rhi rmx).run P w = .ok r w ∧ VR w I T y r := by
  unfold sliceZ at h
  split at h
  · exact sliceO_ok hx hlo hlo' hhi hhi' hmx' h
  split at h
  · rename_i e es xs own k1 k2 hu
    split at h
    rotate_left
    · exact h.elim
    rename_i sz hsz
    obtain ⟨rfl, rfl⟩ := h
    cases hlo' rfl
    obtain ⟨r1, rfl, hr1⟩ := hhi _ rfl
    obtain ⟨r2, rfl, hr2⟩ := hmx _ rfl
    cases hr1.v_inv; cases hr2.v_inv
    obtain ⟨base, n, cap, rfl⟩ : ∃ base n cap, rx = .slice base n cap := by
      cases hx with
      | nil _ _ => exact ⟨_, _, _, rfl⟩
      | list _ _ _ _ _ _ _ _ _ _ => exact ⟨_, _, _, rfl⟩
    cases base with
    | none => exact ⟨rfl, .slice none 0 0, by simp [Instr.sliceAt, run_underlying hu, Instr.slice, Instr.sliceBounds, Instr.sliceBound, asIntOf, tSize_run hsz], .z0 _⟩
    | some b => exact ⟨rfl, .slice (some b) 0 0, by simp [Instr.sliceAt, run_underlying hu, Instr.slice, Instr.sliceBounds, Instr.sliceBound, asIntOf, tSize_run hsz], .z0 _⟩
  · exact sliceO_ok hx hlo hlo' hhi hhi' hmx' h

theorem sliceMv_ok {t : TypeId} {es k ver n : Nat} {y : GV} {lo hi mx : Option GV} {rlo rhi rmx : Option Value} {u : Option (Nat × GB)} {rx : Value} (hr : HR P w I T hp) (hx : VR w I T (.ms es k ver n) rx)
    (hlo : ∀ g, lo = some g → ∃ r, rlo = some r ∧ VR w I T g r) (hlo' : lo = none → rlo = none) (hhi : ∀ g, hi = some g → ∃ r, rhi = some r ∧ VR w I T g r) (hhi' : hi = none → rhi = none) (hmx' : mx = none → rmx = none)
    (h : (sliceMv P hp t es k ver n lo hi mx).eff y u) : Does P w I T hp ((do pure (Next.value (← Instr.sliceAt t rx rlo rhi rmx)) : Sem Next).run P w) y u := by
  unfold sliceMv at h
  split at h
  rotate_left
  · rename_i e kk l e' es' xs v hu hk
    cases hhi' rfl; cases hmx' rfl
    split at h
    rotate_left
    · exact h.elim
    rename_i sz hsz
    rw [Bool.cond_eq_ite] at h
    split at h
    rotate_left
    · exact h.elim
    rename_i hb
    simp only [Bool.and_eq_true] at hb
    have h1 := Nat.eq_of_beq_eq_true hb.1
    subst h1
    obtain ⟨⟨rfl, h0, h1⟩, rfl, rfl⟩ := h
    obtain ⟨r2, rfl, hr2⟩ := hlo _ rfl
    cases hr2.v_inv
    cases hx with
    | ms hT hle hs hra =>
      obtain ⟨b, c, rfl, hn⟩ := hs
      obtain ⟨g, rfl⟩ := hn (by omega)
      obtain ⟨u0, ys, inf, k1, k2, k3, k4, k5, k6, k7⟩ := hr.mvec k _ _ _ _ hk
      rw [k1] at hT; cases hT
      have hru := hra rfl
      subst hru
      have hc : n ≤ c := by
        rcases k4.2 with ⟨hrs, hn'⟩ | ⟨g1, cap1, cur1, e1, _, e2, e3, _, _, _⟩
        · cases hrs
        · cases e1; exact e3
      refine Does.same (r := .slice (some ⟨g, l.toNat * es, none⟩) ((n : Int) - l).toNat (c - l.toNat)) hr rfl ?_ (.mview k1 (Nat.le_refl _) ⟨by omega, g, _, _, rfl⟩ fun _ => ⟨g, n, c, _, rfl, h0, by omega, rfl⟩)
      have a2 : (n : Int) ≤ (c : Int) := by omega
      have a3 : l ≤ (n : Int) := by omega
      have a4 : ((n : Int) - l).toNat = n - l.toNat := by omega
      rw [Sem.run_bind, show (Instr.sliceAt t (.slice (some ⟨g, 0, none⟩) n c) (some (.int kk l)) none none).run P w = .ok (.slice (some ⟨g, l.toNat * es, none⟩) ((n : Int) - l).toNat (c - l.toNat)) w by
        rw [a4]
        have a5 : ¬ (c = l.toNat) := by omega
        simp [Instr.sliceAt, run_underlying hu, Instr.slice, Instr.sliceBounds, Instr.sliceBound, asIntOf, h0, a2, a3, a5, tSize_run hsz, Addr.add_lit]]
      rfl
  · exact h.elim
  rename_i e kk hh e' es' xs v hu hk
  cases hlo' rfl; cases hmx' rfl
  split at h
  rotate_left
  · exact h.elim
  rename_i sz hsz
  rw [Bool.cond_eq_ite] at h
  split at h
  rotate_left
  · exact h.elim
  rename_i hb
  simp only [Bool.and_eq_true] at hb
  have h1 := Nat.eq_of_beq_eq_true hb.1
  have h2 := Nat.eq_of_beq_eq_true hb.2.1
  have h3 := Nat.eq_of_beq_eq_true hb.2.2
  subst h1; subst h2; subst h3
  obtain ⟨⟨rfl, h0, h1⟩, rfl, rfl⟩ := h
  obtain ⟨r2, rfl, hr2⟩ := hhi _ rfl
  cases hr2.v_inv
  obtain ⟨u0, ys, inf, k1, k2, k3, k4, k5, k6, k7⟩ := hr.mvec k _ _ _ _ hk
  subst k3
  cases hx with
  | ms hT hle hs hra =>
    rw [k1] at hT; cases hT
    have := hra rfl
    subst this
    have hlen : (xs.take hh.toNat).length = hh.toNat := by simp; omega
    have hmul : hh.toNat * inf.size ≤ xs.length * inf.size := Nat.mul_le_mul_right _ (by omega)
    have key : ∃ u', (Instr.sliceAt t rx none (some (.int kk hh)) none).run P w = .ok u' w ∧ u'.ownBlock = rx.ownBlock ∧ (∃ b c, u' = .slice b hh.toNat c ∧ (hh.toNat ≠ 0 → ∃ g, b = some ⟨g, 0, none⟩)) ∧ w.ownsRow 0 e' inf.size u' hh.toNat (ys.take (hh.toNat * inf.size)) := by
      rcases k4.2 with ⟨rfl, hn⟩ | ⟨g, cap, cur, rfl, _, hg, hnc, hcm, hcs, htk⟩
      · have hh0 : hh = 0 := by omega
        subst hh0
        refine ⟨.slice none 0 0, ?_, rfl, ⟨none, 0, rfl, fun h => absurd rfl h⟩, ?_⟩
        · simp [Instr.sliceAt, run_underlying hu, Instr.slice, Instr.sliceBounds, Instr.sliceBound, asIntOf, tSize_run hsz]
        · exact ⟨by simp, .inl ⟨rfl, rfl⟩⟩
      · refine ⟨.slice (some ⟨g, 0, none⟩) hh.toNat cap, ?_, rfl, ⟨_, cap, rfl, fun _ => ⟨g, rfl⟩⟩, ?_⟩
        · have a2 : hh ≤ (cap : Int) := by omega
          simp [Instr.sliceAt, run_underlying hu, Instr.slice, Instr.sliceBounds, Instr.sliceBound, asIntOf, h0, a2, tSize_run hsz, Addr.add_lit]
        · refine ⟨by rw [List.length_take, k4.1]; omega, .inr ⟨g, cap, cur, rfl, Nat.zero_le _, hg, by omega, hcm, hcs, ?_⟩⟩
          rw [← htk, List.take_take]; congr 1; omega
    obtain ⟨u', e1, e2, e3, e4⟩ := key
    obtain ⟨g1, g2⟩ := hr.setMv (k := k) (v' := v + 1) (w' := w) (xs' := xs.take hh.toNat) k2 (by rw [hlen]; exact e4) (fun x hx => k5 x (List.mem_of_mem_take hx)) (fun x hx => k6 x (List.mem_of_mem_take hx))
      (fun q x j c hx hc => by
        rw [List.getElem?_take] at hx
        split at hx
        · rename_i hq
          obtain ⟨y, f1, f2⟩ := k7 q x j c hx hc
          have hj := (List.getElem?_eq_some_iff.1 hc).1
          rw [(k6 x (List.mem_of_getElem? hx)).1] at hj
          have := Nat.mul_le_mul_right inf.size (show q + 1 ≤ hh.toNat from hq)
          rw [Nat.add_mul, Nat.one_mul] at this
          exact ⟨y, by rw [List.getElem?_take, if_pos (by omega)]; exact f1, f2⟩
        · cases hx) rfl rfl rfl (Nat.le_refl _) (.inr ⟨_, v, xs, hk, k1, by omega, fun e => by omega, .inr ⟨e2, fun b _ _ => rfl⟩⟩)
    exact ⟨u', _, _, _, .inl (by rw [Sem.run_bind, e1]; rfl), g1, .ms (by rw [setT_eq, if_pos rfl]) (Nat.le_refl _) e3 (fun _ => rfl), g2⟩

theorem lenO_ok {t : TypeId} {x y : GV} {u : Option (Nat × GB)} {rx : Value} {ts : Array TypeId} {ty : TypeId} (ht : ts[0]? = some t) (hx : VR w I T x rx) (h : (lenO P t x).eff y u) :
    u = none ∧ ∃ r, (Builtin.len_ ts ty #[rx]).run P w = .ok r w ∧ VR w I T y r := by
  unfold lenO at h
  split at h
  · rename_i hu
    obtain ⟨rfl, rfl⟩ := h
    refine ⟨rfl, _, ?_, .v _ rfl⟩
    cases hx with
    | nil _ _ => simp [Builtin.len_, ht, run_underlying hu, goInt]
    | list b o cap row hcap hes hsane hcell hrel hown => simp [Builtin.len_, ht, run_underlying hu, goInt]
  · rename_i hu
    obtain ⟨rfl, rfl⟩ := h
    cases hx.v_inv
    exact ⟨rfl, _, by simp [Builtin.len_, ht, run_underlying hu, goInt], .v _ rfl⟩
  · rename_i hu
    obtain ⟨rfl, rfl⟩ := h
    cases hx with
    | ms hT hle hs hra =>
      obtain ⟨b, c, rfl, _⟩ := hs
      exact ⟨rfl, _, by simp [Builtin.len_, ht, run_underlying hu, goInt], .v _ rfl⟩
  · rename_i hu
    obtain ⟨rfl, rfl⟩ := h
    cases hx with
    | emp a cap => exact ⟨rfl, _, by simp [Builtin.len_, ht, run_underlying hu, goInt], .v _ rfl⟩
  · rename_i hu
    obtain ⟨rfl, rfl⟩ := h
    cases hx with
    | mview hT hle hs hra =>
      obtain ⟨hn, b, o, c, rfl⟩ := hs
      refine ⟨rfl, _, ?_, .v _ rfl⟩
      have := Int.toNat_of_nonneg hn
      simp [Builtin.len_, ht, run_underlying hu, goInt, this]
  · rename_i hu
    obtain ⟨rfl, rfl⟩ := h
    cases hx.v_inv
    exact ⟨rfl, _, by simp [Builtin.len_, ht, run_underlying hu, goInt], .v _ rfl⟩
  · rename_i hu
    obtain ⟨rfl, rfl⟩ := h
    refine ⟨rfl, _, ?_, .v _ rfl⟩
    cases rx <;> simp [Builtin.len_, ht, run_underlying hu, goInt]
  · exact h.elim

theorem capO_ok {t : TypeId} {x y : GV} {u : Option (Nat × GB)} {rx : Value} {ts : Array TypeId} {ty : TypeId} (ht : ts[0]? = some t) (hx : VR w I T x rx) (h : (capO P t x).eff y u) :
    u = none ∧ ∃ r, (Builtin.cap_ ts ty #[rx]).run P w = .ok r w ∧ VR w I T y r := by
  unfold capO at h
  split at h
  · rename_i hu
    obtain ⟨rfl, rfl⟩ := h
    cases hx.v_inv
    exact ⟨rfl, _, by simp [Builtin.cap_, ht, run_underlying hu, goInt], .v _ rfl⟩
  · exact h.elim

theorem minG_ok {x y z : GV} {rx ry : Value} (hx : VR w I T x rx) (hy : VR w I T y ry) (h : minG x y = some z) : ∃ r, (Builtin.min2 rx ry).run P w = .ok r w ∧ VR w I T z r := by
  unfold minG at h
  split at h
  · cases h; cases hx.v_inv; cases hy.v_inv; exact ⟨_, by simp [Builtin.min2], .v _ rfl⟩
  · cases h

theorem maxG_ok {x y z : GV} {rx ry : Value} (hx : VR w I T x rx) (hy : VR w I T y ry) (h : maxG x y = some z) : ∃ r, (Builtin.max2 rx ry).run P w = .ok r w ∧ VR w I T z r := by
  unfold maxG at h
  split at h
  · cases h; cases hx.v_inv; cases hy.v_inv; exact ⟨_, by simp [Builtin.max2], .v _ rfl⟩
  · cases h

theorem foldG_ok {f : GV → GV → Option GV} {m : Value → Value → Sem Value} (hf : ∀ {x y z : GV} {rx ry : Value}, VR w I T x rx → VR w I T y ry → f x y = some z → ∃ r, (m rx ry).run P w = .ok r w ∧ VR w I T z r) :
    ∀ {l : List GV} {rl : List Value} {x z : GV} {rx : Value}, rl.length = l.length → (∀ (i : Nat) (c : GV) (r : Value), l[i]? = some c → rl[i]? = some r → VR w I T c r) → VR w I T x rx → foldG f x l = some z →
      ∃ r, (rl.foldlM m rx).run P w = .ok r w ∧ VR w I T z r
  | [], rl, x, z, rx, hl, _, hx, h => by
    cases h
    have : rl = [] := List.eq_nil_of_length_eq_zero (by simpa using hl)
    subst this
    exact ⟨rx, by simp, hx⟩
  | y :: l, rl, x, z, rx, hl, hv, hx, h => by
    cases rl with
    | nil => simp at hl
    | cons ry rl =>
      simp only [foldG] at h
      split at h
      · rename_i z1 h1
        obtain ⟨r1, e1, e2⟩ := hf hx (hv 0 y ry rfl rfl) h1
        obtain ⟨r, e3, e4⟩ := foldG_ok hf (rl := rl) (by simpa using hl) (fun i c r hc hr => hv (i + 1) c r (by simpa using hc) (by simpa using hr)) e2 h
        exact ⟨r, by simp [List.foldlM_cons, e1, e3], e4⟩
      · cases h

theorem unO_ok {op : UnOp} {x y : GV} {u : Option (Nat × GB)} {rx : Value} (hx : VR w I T x rx) (h : (unO op x).eff y u) : u = none ∧ ∃ r, (Op.unary op rx).run P w = .ok r w ∧ VR w I T y r := by
  unfold unO at h
  split at h
  · obtain ⟨rfl, rfl⟩ := h; cases hx.v_inv; exact ⟨rfl, _, by simp [Op.unary, Op.intArith], .v _ rfl⟩
  · obtain ⟨rfl, rfl⟩ := h; cases hx.v_inv; exact ⟨rfl, _, by simp [Op.unary], .v _ rfl⟩
  · exact h.elim

theorem convO_ok {s t : TypeId} {x y : GV} {u : Option (Nat × GB)} {rx : Value} (hs : ∃ d, P.underlying s = some d) (hx : VR w I T x rx) (h : (convO P t x).eff y u) : u = none ∧ ∃ r, (convert s t rx).run P w = .ok r w ∧ VR w I T y r := by
  obtain ⟨d, hs⟩ := hs
  unfold convO at h
  split at h
  · rename_i hu
    obtain ⟨rfl, rfl⟩ := h; cases hx.v_inv
    exact ⟨rfl, _, by simp [convert, run_underlying hu, run_underlying hs, Conv.intToInt], .v _ rfl⟩
  · rename_i hu
    obtain ⟨rfl, rfl⟩ := h; cases hx.v_inv
    exact ⟨rfl, _, by simp [convert, run_underlying hu, run_underlying hs], .v _ rfl⟩
  · exact h.elim

theorem nilO_ok {x y : GV} {u : Option (Nat × GB)} {rx : Value} (hx : VR w I T x rx) (h : (nilO x).eff y u) :
    u = none ∧ VR w I T y rx ∧ ((∃ a, rx = .pointer (some a)) ∨ ∃ f a b, rx = .func (.func f) a b) := by
  unfold nilO at h
  split at h
  · obtain ⟨rfl, rfl⟩ := h
    refine ⟨rfl, hx, .inl ?_⟩
    cases hx with | ptr _ => exact ⟨_, rfl⟩
  · obtain ⟨rfl, rfl⟩ := h
    refine ⟨rfl, hx, .inl ?_⟩
    cases hx with | ref _ _ _ _ _ => exact ⟨_, rfl⟩
  · obtain ⟨rfl, rfl⟩ := h
    refine ⟨rfl, hx, .inr ?_⟩
    cases hx with | fn _ _ _ _ => exact ⟨_, _, _, rfl⟩
  · exact h.elim

theorem eqIn_bool {t : TypeId} (d : Nat) (a b : Bool) (hu : P.underlying t = some .bool) : (Op.equalIn (d + 1) t (.bool a) (.bool b)).run P w = .ok (a == b) w := by
  simp [Op.equalIn, run_underlying hu]
theorem eqIn_ptr {t e : TypeId} (d : Nat) (a : Option Addr) (hu : P.underlying t = some (.pointer e)) : (Op.equalIn (d + 1) t (.pointer a) (.pointer none)).run P w = .ok a.isNone w := by
  cases a <;> simp [Op.equalIn, run_underlying hu]
theorem binOp_beql {t : TypeId} (a b : Bool) (hu : P.underlying t = some .bool) : (binOp .eql t (.bool a) (.bool b)).run P w = .ok (.bool (a == b)) w := by
  show (do pure (.bool (← Op.equalIn (9999 + 1) t (.bool a) (.bool b))) : Sem Value).run P w = _
  rw [Sem.run_bind, eqIn_bool 9999 a b hu]; rfl
theorem binOp_bneq {t : TypeId} (a b : Bool) (hu : P.underlying t = some .bool) : (binOp .neq t (.bool a) (.bool b)).run P w = .ok (.bool (!(a == b))) w := by
  show (do pure (.bool (!(← Op.equalIn (9999 + 1) t (.bool a) (.bool b)))) : Sem Value).run P w = _
  rw [Sem.run_bind, eqIn_bool 9999 a b hu]; rfl
theorem binOp_peql {t e : TypeId} (a : Option Addr) (hu : P.underlying t = some (.pointer e)) : (binOp .eql t (.pointer a) (.pointer none)).run P w = .ok (.bool a.isNone) w := by
  show (do pure (.bool (← Op.equalIn (9999 + 1) t (.pointer a) (.pointer none))) : Sem Value).run P w = _
  rw [Sem.run_bind, eqIn_ptr 9999 a hu]; rfl
theorem binOp_pneq {t e : TypeId} (a : Option Addr) (hu : P.underlying t = some (.pointer e)) : (binOp .neq t (.pointer a) (.pointer none)).run P w = .ok (.bool (!a.isNone)) w := by
  show (do pure (.bool (!(← Op.equalIn (9999 + 1) t (.pointer a) (.pointer none)))) : Sem Value).run P w = _
  rw [Sem.run_bind, eqIn_ptr 9999 a hu]; rfl
theorem binOp_seql {t e : TypeId} (a : Option Addr) (n c : Nat) (hu : P.underlying t = some (.slice e)) : (binOp .eql t (.slice a n c) (.slice none 0 0)).run P w = .ok (.bool a.isNone) w := by
  show (do pure (.bool (← Op.equalIn (9999 + 1) t (.slice a n c) (.slice none 0 0))) : Sem Value).run P w = _
  rw [Sem.run_bind, eqIn_slice 9999 a n c hu]; rfl
theorem binOp_sneq {t e : TypeId} (a : Option Addr) (n c : Nat) (hu : P.underlying t = some (.slice e)) : (binOp .neq t (.slice a n c) (.slice none 0 0)).run P w = .ok (.bool (!a.isNone)) w := by
  show (do pure (.bool (!(← Op.equalIn (9999 + 1) t (.slice a n c) (.slice none 0 0)))) : Sem Value).run P w = _
  rw [Sem.run_bind, eqIn_slice 9999 a n c hu]; rfl

theorem binOp_aeql (t : TypeId) (a b : Array Value) : binOp .eql t (.agg a) (.agg b) = (do pure (.bool (← Op.equal t (.agg a) (.agg b)))) := rfl
theorem binOp_aneq (t : TypeId) (a b : Array Value) : binOp .neq t (.agg a) (.agg b) = (do pure (.bool (!(← Op.equal t (.agg a) (.agg b))))) := rfl

theorem eqlO_ok {op : BinOp} {t : TypeId} {xs ys : List GV} {y : GV} {u : Option (Nat × GB)} {ra rb : Value} (ha : VR w I T (.agg xs) ra) (hb : VR w I T (.agg ys) rb) (h : (eqlO P op t xs ys).eff y u) (x' y' : Operand) :
    u = none ∧ ∃ r, (do eqGuard op t x' y' ra rb; binOp op t ra rb : Sem Value).run P w = .ok r w ∧ VR w I T y r := by
  have same : ∀ {xs : List GV} {rs : Array Value} {l : List Value}, VR w I T (.agg xs) (.agg rs) → plainVs xs = some l → rs = l.toArray := by
    intro xs rs l hv hp
    cases hv with
    | agg hl h1 hv =>
      have key : ∀ (xs : List GV) (l : List Value) (rs : List Value), rs.length = xs.length → (∀ (i : Nat) (c : GV) (r : Value), xs[i]? = some c → rs[i]? = some r → VR w I T c r) → plainVs xs = some l → rs = l := by
        intro xs
        induction xs with
        | nil => intro l rs hl _ h; cases h; exact List.eq_nil_of_length_eq_zero (by simpa using hl)
        | cons x xs ih =>
          intro l rs hl hv h
          cases rs with
          | nil => simp at hl
          | cons r rs =>
            cases x <;> simp only [plainVs, Option.map_eq_some_iff] at h <;> try (cases h; done)
            obtain ⟨l', hl', rfl⟩ := h
            cases (hv 0 _ r rfl rfl).v_inv
            rw [ih l' rs (by simpa using hl) (fun i c r hc hr => hv (i + 1) c r (by simpa using hc) (by simpa using hr)) hl']
      have := key xs l rs.toList (by simpa using hl) (fun i c r hc hr => hv i c r hc (by simpa using hr)) hp
      rw [← this]
  unfold eqlO at h
  split at h
  · rename_i b a c _ hpa hpc
    obtain ⟨⟨hg, he⟩, rfl, rfl⟩ := h
    cases ha with
    | agg hl1 h11 hv1 =>
      cases hb with
      | agg hl2 h12 hv2 =>
        have e1 := same (.agg hl1 h11 hv1) hpa
        have e2 := same (.agg hl2 h12 hv2) hpc
        subst e1; subst e2
        refine ⟨rfl, _, ?_, .v _ rfl⟩
        simp [eqGuard, hg, binOp_aeql, binOp_aneq, he]
  · rename_i b a c _ hpa hpc
    obtain ⟨⟨hg, he⟩, rfl, rfl⟩ := h
    cases ha with
    | agg hl1 h11 hv1 =>
      cases hb with
      | agg hl2 h12 hv2 =>
        have e1 := same (.agg hl1 h11 hv1) hpa
        have e2 := same (.agg hl2 h12 hv2) hpc
        subst e1; subst e2
        refine ⟨rfl, _, ?_, .v _ rfl⟩
        simp [eqGuard, hg, binOp_aeql, binOp_aneq, he]
  · exact h.elim

theorem binO_ok {op : BinOp} {t : TypeId} {a b x : GV} {u : Option (Nat × GB)} {ra rb : Value} (ha : VR w I T a ra) (hb : VR w I T b rb) (h : (binO P op t a b).eff x u) (x' y' : Operand) :
    u = none ∧ ∃ r, (do eqGuard op t x' y' ra rb; binOp op t ra rb : Sem Value).run P w = .ok r w ∧ VR w I T x r := by
  have geq : ∀ {ra rb : Value}, (∀ xs ys, ¬ (ra = .agg xs ∧ rb = .agg ys)) → ¬ (ra = .nilIface ∧ rb = .nilIface) → (eqGuard op t x' y' ra rb).run P w = .ok () w := by
    intro ra rb h1 h2
    have go : (match ra, rb with
        | .nilIface, .nilIface => (if (x' matches .const _) || (y' matches .const _) then pure () else do
            if ← Op.eqGuardIn Op.maxDepth t ra rb then unsupported (.noEntry "binop/eql: two nil values of an interface type with methods, neither of them the literal nil") : Sem Unit)
        | .agg _, .agg _ => do
          if !(← program).eqGuardType (← program).depth t then return
          if ← Op.eqGuardIn Op.maxDepth t ra rb then unsupported (.noEntry "binop/eql: two nil values of an interface type with methods, in a part of a struct or an array")
        | _, _ => pure ()).run P w = .ok () w := by
      split
      · exact absurd ⟨rfl, rfl⟩ h2
      · exact absurd ⟨rfl, rfl⟩ (h1 _ _)
      · rfl
    cases op <;> first | rfl | exact go
  unfold binO at h
  split at h
  · rename_i k a k' b
    cases ha.v_inv; cases hb.v_inv
    have g := geq (ra := .int k a) (rb := .int k' b) (fun _ _ h => by cases h.1) (fun h => by cases h.1)
    cases hs : isShift op with
    | true =>
      rw [hs] at h
      obtain ⟨e, r, h1, h2⟩ := shiftG_ok (P := P) (w := w) (I := I) (T := T) (k' := k') (t := t) h
      exact ⟨e, r, by simp [g, h1], h2⟩
    | false =>
      rw [hs] at h
      simp only [cond_false] at h
      split at h
      · rename_i hk; subst hk
        obtain ⟨e, r, h1, h2⟩ := intO_ok (P := P) (w := w) (I := I) (T := T) (t := t) hs h
        exact ⟨e, r, by simp [g, h1], h2⟩
      · exact h.elim
  · rename_i a b
    cases ha.v_inv; cases hb.v_inv
    have g := geq (ra := .bool a) (rb := .bool b) (fun _ _ h => by cases h.1) (fun h => by cases h.1)
    split at h
    · rename_i hu
      obtain ⟨rfl, rfl⟩ := h
      exact ⟨rfl, _, by rw [Sem.run_bind, g]; first | exact binOp_beql _ _ hu | exact binOp_bneq _ _ hu | exact binOp_peql _ hu | exact binOp_pneq _ hu, .v _ rfl⟩
    · rename_i hu
      obtain ⟨rfl, rfl⟩ := h
      exact ⟨rfl, _, by rw [Sem.run_bind, g]; first | exact binOp_beql _ _ hu | exact binOp_bneq _ _ hu | exact binOp_peql _ hu | exact binOp_pneq _ hu, .v _ rfl⟩
    · exact h.elim
  · rename_i a b
    cases ha.v_inv; cases hb.v_inv
    have g := geq (ra := .string a) (rb := .string b) (fun _ _ h => by cases h.1) (fun h => by cases h.1)
    split at h
    · obtain ⟨rfl, rfl⟩ := h
      exact ⟨rfl, _, by simp [g, binOp, Op.stringOp], .v _ rfl⟩
    · obtain ⟨rfl, rfl⟩ := h
      exact ⟨rfl, _, by simp [g, binOp, Op.stringOp], .v _ rfl⟩
    · exact h.elim
  · rename_i k off
    cases hb.v_inv
    cases ha with
    | @ptr _ _ n _ hT =>
      have g := geq (ra := .pointer (some ⟨n, off, none⟩)) (rb := .pointer none) (fun _ _ h => by cases h.1) (fun h => by cases h.1)
      split at h
      · rename_i hu
        obtain ⟨rfl, rfl⟩ := h
        exact ⟨rfl, _, by rw [Sem.run_bind, g]; first | exact binOp_beql _ _ hu | exact binOp_bneq _ _ hu | exact binOp_peql _ hu | exact binOp_pneq _ hu, .v _ rfl⟩
      · rename_i hu
        obtain ⟨rfl, rfl⟩ := h
        exact ⟨rfl, _, by rw [Sem.run_bind, g]; first | exact binOp_beql _ _ hu | exact binOp_bneq _ _ hu | exact binOp_peql _ hu | exact binOp_pneq _ hu, .v _ rfl⟩
      · exact h.elim
  · cases hb.v_inv; cases ha.v_inv
    have g := geq (ra := .pointer none) (rb := .pointer none) (fun _ _ h => by cases h.1) (fun h => by cases h.1)
    split at h
    · rename_i hu
      obtain ⟨rfl, rfl⟩ := h
      exact ⟨rfl, _, by rw [Sem.run_bind, g]; first | exact binOp_beql _ _ hu | exact binOp_bneq _ _ hu | exact binOp_peql _ hu | exact binOp_pneq _ hu, .v _ rfl⟩
    · rename_i hu
      obtain ⟨rfl, rfl⟩ := h
      exact ⟨rfl, _, by rw [Sem.run_bind, g]; first | exact binOp_beql _ _ hu | exact binOp_bneq _ _ hu | exact binOp_peql _ hu | exact binOp_pneq _ hu, .v _ rfl⟩
    · exact h.elim
  · rename_i cs off
    cases hb.v_inv
    cases ha with
    | @ref _ _ _ b o row _ _ =>
      have g := geq (ra := .pointer (some ⟨b, o + off, none⟩)) (rb := .pointer none) (fun _ _ h => by cases h.1) (fun h => by cases h.1)
      split at h
      · rename_i hu
        obtain ⟨rfl, rfl⟩ := h
        exact ⟨rfl, _, by rw [Sem.run_bind, g]; first | exact binOp_beql _ _ hu | exact binOp_bneq _ _ hu | exact binOp_peql _ hu | exact binOp_pneq _ hu, .v _ rfl⟩
      · rename_i hu
        obtain ⟨rfl, rfl⟩ := h
        exact ⟨rfl, _, by rw [Sem.run_bind, g]; first | exact binOp_beql _ _ hu | exact binOp_bneq _ _ hu | exact binOp_peql _ hu | exact binOp_pneq _ hu, .v _ rfl⟩
      · exact h.elim
  · have nilC : ∀ (a : Option Addr) (n c : Nat), (nilCmp P op t a.isNone).eff x u → u = none ∧ ∃ r, (do eqGuard op t x' y' (.slice a n c) (.slice none 0 0); binOp op t (.slice a n c) (.slice none 0 0) : Sem Value).run P w = .ok r w ∧ VR w I T x r := by
      intro a n c q
      have g := geq (ra := .slice a n c) (rb := .slice none 0 0) (fun _ _ h => by cases h.1) (fun h => by cases h.1)
      unfold nilCmp at q
      split at q
      · rename_i e hu
        obtain ⟨rfl, rfl⟩ := q
        exact ⟨rfl, _, by rw [Sem.run_bind, g]; exact binOp_seql a n c hu, .v _ rfl⟩
      · rename_i e hu
        obtain ⟨rfl, rfl⟩ := q
        exact ⟨rfl, _, by rw [Sem.run_bind, g]; exact binOp_sneq a n c hu, .v _ rfl⟩
      · exact q.elim
    cases hb.v_inv
    cases ha with
    | list b o cap row hcap hes hsane hcell hrel hown => exact nilC _ _ _ h
  · have nilC : ∀ (a : Option Addr) (n c : Nat), (nilCmp P op t a.isNone).eff x u → u = none ∧ ∃ r, (do eqGuard op t x' y' (.slice a n c) (.slice none 0 0); binOp op t (.slice a n c) (.slice none 0 0) : Sem Value).run P w = .ok r w ∧ VR w I T x r := by
      intro a n c q
      have g := geq (ra := .slice a n c) (rb := .slice none 0 0) (fun _ _ h => by cases h.1) (fun h => by cases h.1)
      unfold nilCmp at q
      split at q
      · rename_i e hu
        obtain ⟨rfl, rfl⟩ := q
        exact ⟨rfl, _, by rw [Sem.run_bind, g]; exact binOp_seql a n c hu, .v _ rfl⟩
      · rename_i e hu
        obtain ⟨rfl, rfl⟩ := q
        exact ⟨rfl, _, by rw [Sem.run_bind, g]; exact binOp_sneq a n c hu, .v _ rfl⟩
      · exact q.elim
    cases hb.v_inv
    cases ha with
    | emp ad c => exact nilC _ _ _ h
  · have nilC : ∀ (a : Option Addr) (n c : Nat), (nilCmp P op t a.isNone).eff x u → u = none ∧ ∃ r, (do eqGuard op t x' y' (.slice a n c) (.slice none 0 0); binOp op t (.slice a n c) (.slice none 0 0) : Sem Value).run P w = .ok r w ∧ VR w I T x r := by
      intro a n c q
      have g := geq (ra := .slice a n c) (rb := .slice none 0 0) (fun _ _ h => by cases h.1) (fun h => by cases h.1)
      unfold nilCmp at q
      split at q
      · rename_i e hu
        obtain ⟨rfl, rfl⟩ := q
        exact ⟨rfl, _, by rw [Sem.run_bind, g]; exact binOp_seql a n c hu, .v _ rfl⟩
      · rename_i e hu
        obtain ⟨rfl, rfl⟩ := q
        exact ⟨rfl, _, by rw [Sem.run_bind, g]; exact binOp_sneq a n c hu, .v _ rfl⟩
      · exact q.elim
    cases hb.v_inv; cases ha.v_inv
    exact nilC none 0 0 h
  · exact h.elim

end
end Go.Gh
