/- Ghost values and walks, bundle Gh19; proved for whatever the arguments' types allow, as each theorem says. -/
import Derived.Test.YtfghmggonjnbcaaGh18
import Derived.Shelf.SlSortCmp.NoneTotal

/- slices.SortFunc of the library, by its proved contract, as a contract in ghost values: a slice of the frame's own is sorted in place. -/
set_option linter.unusedVariables false
set_option linter.unusedSimpArgs false
namespace Go.Gh
open Go.Shelf Go.RowKit Go.Lib Go.Sort Go.Proofs
variable {P : Program}

theorem HR.nothing (w : World) : HR P w (fun _ _ => False) (fun _ => none) (hpL []) := by
  have h0 : ∀ k, hpL [] k = none := fun k => by simp [hpL]
  refine ⟨fun _ _ => rfl, fun k cs h => ?_, fun k e n h => ?_, fun k e es xs v h => ?_, fun _ _ => rfl, fun _ _ h => h.elim, fun _ _ _ h => (by cases h), fun _ _ _ _ _ _ _ h => (by cases h), fun _ _ _ _ _ _ h => (by cases h), fun _ _ _ _ _ h => (by cases h)⟩ <;> (rw [h0] at h; cases h)

/-- A contract without blocks: the world behind it is the one ahead of it, grown. -/
theorem ICalls.grown {g : FuncId} {gargs : List GV} {v : Value} (h : ICalls P g gargs [] (Done (.v v) [])) (w : World) (vals : Array Value) (hsz : vals.size = gargs.length)
    (hrel : ∀ (i : Nat) (c : GV) (r : Value), gargs[i]? = some c → vals[i]? = some r → VR w (fun _ _ => False) (fun _ => none) c r) :
    Calls P g vals w fun e w' => e = .returned v ∧ ∃ q os', w' = grow (w.drewN q) os' := by
  unfold ICalls at h
  refine (h.2 w _ _ vals (HR.nothing w) hsz hrel).mono ?_
  rintro e w' ⟨v1, hs', r, I', T', ⟨rfl, rfl⟩, rfl, hx, hv, _⟩
  cases hv.v_inv
  refine ⟨rfl, w'.drawn - w.drawn, w'.heap.extract w.heap.size w'.heap.size, ?_⟩
  have hd := hx.drawn
  have hsz := hx.size
  have hheap : w'.heap = w.heap ++ w'.heap.extract w.heap.size w'.heap.size := by
    apply Array.ext_getElem?
    intro k
    rw [Array.getElem?_append]
    split
    · rename_i hk
      exact hx.frame k hk fun _ _ hT => by cases hT
    · rename_i hk
      rw [Array.getElem?_extract]
      by_cases hk2 : k < w'.heap.size
      · rw [if_pos (by omega), show w.heap.size + (k - w.heap.size) = k by omega]
      · rw [if_neg (by omega), Array.getElem?_eq_none (by omega)]
  have e1 := hx.os
  have e2 := hx.tape
  have e3 := hx.output
  obtain ⟨h1, t1, d1, o1, p1⟩ := w
  obtain ⟨h2, t2, d2, o2, p2⟩ := w'
  simp only at e1 e2 e3 hd hheap
  subst e1; subst e2; subst e3
  unfold grow World.drewN
  simp only
  rw [← hheap, show d1 + (d2 - d1) = d2 by omega]

theorem heap_sortedK {w : World} {g n : Nat} {os : Array Obj} {cur : Array Value} {e : TypeId} {fr : Nat × Nat} (F : Array Value) (hb : w.heap[g]? = some (.cells cur e fr)) :
    (grow (putRow id (Sort.ahead w n) g 0 F) os).heap[g]? = some (.cells (putCells id 0 F cur) e fr) := by
  have hg : g < w.heap.size := (Array.getElem?_eq_some_iff.1 hb).1
  rw [heap_grow_old _ _ (by simpa using hg)]
  simp [putRow, mapBlock, Sort.ahead, Array.getElem?_modify, hb, onCells]

theorem heap_sortedK_other {w : World} {g n b : Nat} {os : Array Obj} (F : Array Value) (hb : b < w.heap.size) (hne : g ≠ b) :
    (grow (putRow id (Sort.ahead w n) g 0 F) os).heap[b]? = w.heap[b]? := by
  rw [heap_grow_old _ _ (by simpa using hb)]
  simp [putRow, mapBlock, Sort.ahead, Array.getElem?_modify, hne]

theorem take_putCellsK (cur F : Array Value) (h : F.size ≤ cur.size) : (putCells id 0 F cur).toList.take F.size = F.toList := by
  apply List.ext_getElem?
  intro j
  by_cases hj : j < F.size
  · rw [List.getElem?_take_of_lt hj, Array.getElem?_toList]
    simp [putCells, hj, show j < cur.size by omega]
  · rw [List.getElem?_take_eq_none (by omega), List.getElem?_eq_none (by simp; omega)]

/-- One element as a ghost. -/
def encG {α : Type} (enc : α → List Value) (x : α) : GV := .agg ((enc x).map .v)

theorem VR.encG {w : World} {I : Nat → Nat → Prop} {T : Tab} {α : Type} {enc : α → List Value} (x : α) (h1 : ∀ v ∈ enc x, v.oneCell' = true) : VR w I T (Gh.encG enc x) (.agg (enc x).toArray) := by
  refine .agg (by simp) (fun i r hr => h1 r (by simp at hr; exact List.mem_of_getElem? hr)) fun i c r hc hr => ?_
  simp only [List.getElem?_map, Option.map_eq_some_iff] at hc
  obtain ⟨q, hq, rfl⟩ := hc
  simp at hr
  rw [hq] at hr; cases hr
  exact .v _ (h1 _ (List.mem_of_getElem? hq))

theorem ICalls.sortFunc {ρ : Ren} {α : Type} [Inhabited α] (L : SlLaysF0.n6 P ρ) (k : Nat) (e : TypeId) (inf : TypeInfo) (hi : P.info? e = some inf) (his : inf.size = k) (hk0 : 0 < k)
    (aE : ∀ w, (isAgg (ρ.t 24)).run P w = .ok true w) (zE : ∀ w, (Go.sizeOf (ρ.t 24)).run P w = .ok k w)
    (enc : α → List Value) (hk : ∀ x, (enc x).length = k) (h1 : ∀ x, ∀ v ∈ enc x, v.oneCell' = true) (cf : α → α → Int) (hO : SWO (ltOf cf)) (hT : ∀ x y, (ltOf cf) x y = false → (ltOf cf) y x = false → x = y)
    (g : FuncId) (hg : ∀ x y, ICalls P g [encG enc x, encG enc y] [] (Done (.v (.int .i64 (cf x y))) [])) (l : List α) (v : Nat) (hl : l.length < 4611686018427387904) :
    ICalls P (ρ.f 6) [.ms k 0 v l.length, .fn (.func g) [] []] [.mvec e k (l.map (encG enc)) v] (Done (.tup []) [.mvec e k ((l.mergeSort fun x y => !(ltOf cf) y x).map (encG enc)) v]) := by
  have eg : ∀ (args : Array Value) w, (callFunc g args).run P w = .ok (.enter g args) w := fun args w => by
    have := hg default default
    unfold ICalls at this
    exact this.1 args w
  unfold ICalls
  refine ⟨fun vals w => L.f6.enters rfl vals w, fun w I T vals hr hsz hrel => ?_⟩
  have hkk : hpL [GB.mvec e k (l.map (encG enc)) v] 0 = some (.mvec e k (l.map (encG enc)) v) := rfl
  obtain ⟨u, ys, i, k1, k2, k3, k4, k5, k6, k7⟩ := hr.mvec 0 _ _ _ _ hkk
  rw [hi] at k2; cases k2
  obtain ⟨r0, r1, rfl⟩ : ∃ r0 r1, vals = #[r0, r1] := by
    obtain ⟨lst⟩ := vals
    match lst, hsz with
    | [a, b], _ => exact ⟨a, b, rfl⟩
  have v0 := hrel 0 _ r0 rfl rfl
  have v1 := hrel 1 _ r1 rfl rfl
  cases v0 with
  | ms hTk hle hs hra =>
  rw [k1] at hTk; cases hTk
  have hru := hra rfl
  subst hru
  cases v1 with
  | @fn _ _ _ _ ra rb hla hlb _ _ =>
  have ea : ra = #[] := Array.eq_empty_of_size_eq_zero (by simpa using hla)
  have eb : rb = #[] := Array.eq_empty_of_size_eq_zero (by simpa using hlb)
  subst ea; subst eb
  rw [List.length_map] at k4
  rcases k4.2 with ⟨hrs, hn⟩ | ⟨gb, cap, cur, hrs, _, hgb, hnc, hcm, hcs, htk⟩
  · have hl0 : l = [] := List.eq_nil_of_length_eq_zero hn
    subst hl0
    subst hrs
    refine (AnyF.slices_SortFunc_none L none 0 _ w).mono ?_
    rintro ee w' ⟨rfl, rfl⟩
    exact ⟨_, _, _, I, T, ⟨rfl, rfl⟩, rfl, .refl _ _ _, .tup rfl fun i c r hc => by simp at hc, by simpa using hr⟩
  · subst hrs
    have hblk : gb < w.heap.size := (Array.getElem?_eq_some_iff.1 hgb).1
    have hysl : ys.length = l.length * k := by rw [k4.1]
    -- the cells
    have hcellv : ∀ q (hq : q < l.length) c (hc : c < k), ys[q * k + c]? = some ((enc l[q])[c]'(by rw [hk]; exact hc)) := by
      intro q hq c hc
      have hc' : c < (enc l[q]).length := by rw [hk]; exact hc
      obtain ⟨y, f1, f2⟩ := k7 q (encG enc l[q]) c (.v ((enc l[q])[c])) (by simp [hq]) (by simp [encG, GV.cells, hc'])
      cases f2.v_inv
      exact f1
    have hF : ∀ (d : List α), d.length = l.length → (flatK enc k d.toArray).size = l.length * k := fun d hd => by rw [size_flatK]; simp [hd]
    have hget : ∀ (d : List α) (hd : d.length = l.length) t (ht : t < l.length * k), (flatK enc k d.toArray)[t]! = (enc (d[t / k]'(by rw [hd]; exact Nat.div_lt_of_lt_mul (by rw [Nat.mul_comm]; exact ht))))[t % k]'(by rw [hk]; exact Nat.mod_lt _ hk0) := by
      intro d hd t ht
      have hq : t / k < d.length := by rw [hd]; exact Nat.div_lt_of_lt_mul (by rw [Nat.mul_comm]; exact ht)
      rw [get_flatK enc k _ t (by simpa [hd] using ht), getElem!_pos d.toArray (t / k) (by simpa using hq)]
      rw [getElem!_pos _ _ (by rw [hk]; exact Nat.mod_lt _ hk0)]
      simp
    have hH : HoldsK enc k w gb 0 l.toArray := by
      intro j hj
      rw [hF l rfl] at hj
      have hc : cur[j]? = ys[j]? := by
        rw [← htk, List.getElem?_take, if_pos hj, Array.getElem?_toList]
      have hq : j / k < l.length := Nat.div_lt_of_lt_mul (by rw [Nat.mul_comm]; exact hj)
      have hy := hcellv (j / k) hq (j % k) (Nat.mod_lt _ hk0)
      rw [show j / k * k + j % k = j by rw [Nat.mul_comm]; exact Nat.div_add_mod j k] at hy
      refine ⟨?_, by simp [World.frozen?, hgb]⟩
      rw [hget l rfl j hj]
      simp only [World.cell?, hgb, Nat.zero_add]
      simp only [Option.isSome_none, Bool.false_eq_true, if_false]
      rw [hc, hy]; rfl
    have hcmp : CmpLays P g #[] enc k cf gb 0 l.toArray.size w := by
      intro m os dk _ x y
      have := (hg x y).grown (sortWorldK enc k w gb 0 m dk os) #[.agg (enc x).toArray, .agg (enc y).toArray] rfl (fun i c r hc hr => by
        match i with
        | 0 => cases hc; cases hr; exact VR.encG x (h1 x)
        | 1 => cases hc; cases hr; exact VR.encG y (h1 y)
        | i + 2 => simp at hc)
      exact this
    have hcon := AnyQ.slices_SortFunc_total L k aE zE enc hk h1 cf hO g #[] gb 0 cap l.toArray w eg hcmp hH hblk (by simpa using hl) hT
    refine hcon.mono ?_
    rintro ee w' ⟨rfl, n, os, hw'⟩
    have hlen : (l.mergeSort fun x y => !(ltOf cf) y x).length = l.length := List.length_mergeSort ..
    generalize hd' : (l.mergeSort fun x y => !(ltOf cf) y x) = d' at *
    have hw2 : w' = grow (putRow id (Sort.ahead w n) gb 0 (flatK enc k d'.toArray)) os := hw'
    have hFs := hF d' hlen
    have hcurl : l.length * k ≤ cur.size := by rw [hcs]; exact Nat.mul_le_mul_right _ hnc
    have hown' : w'.ownsRow 0 e inf.size (.slice (some ⟨gb, 0, none⟩) l.length cap) (d'.map (encG enc)).length (flatK enc k d'.toArray).toList := by
      rw [List.length_map, hlen, his]
      refine ⟨by rw [Array.length_toList, hFs], .inr ⟨gb, cap, _, rfl, Nat.zero_le _, by rw [hw2]; exact heap_sortedK _ hgb, hnc, hcm, by simp [putCells, hcs], ?_⟩⟩
      rw [← hFs]; exact take_putCellsK cur _ (by rw [hFs]; exact hcurl)
    have hcell' : ∀ t (ht : t < l.length * k), (flatK enc k d'.toArray).toList[t]? = some ((enc (d'[t / k]'(by rw [hlen]; exact Nat.div_lt_of_lt_mul (by rw [Nat.mul_comm]; exact ht))))[t % k]'(by rw [hk]; exact Nat.mod_lt _ hk0)) := by
      intro t ht
      rw [← hget d' hlen t ht, Array.getElem?_toList, getElem!_pos _ _ (by rw [hFs]; exact ht)]
      simp [hFs, ht]
    obtain ⟨g1, g2⟩ := hr.setMv (k := 0) (v' := v) (w' := w') (u' := .slice (some ⟨gb, 0, none⟩) l.length cap) (xs' := d'.map (encG enc)) (ys' := (flatK enc k d'.toArray).toList) hi hown'
      (fun x hx => by
        obtain ⟨t, ht⟩ := List.getElem?_of_mem hx
        have htl := (List.getElem?_eq_some_iff.1 ht).1
        rw [Array.length_toList, hFs] at htl
        rw [hcell' t htl] at ht
        cases ht
        exact h1 _ _ (List.getElem_mem _))
      (fun x hx => by
        obtain ⟨q, _, rfl⟩ := List.mem_map.1 hx
        exact ⟨by simp [encG, GV.cells, hk, his], rfl⟩)
      (fun q x j c hx hc => by
        simp only [List.getElem?_map, Option.map_eq_some_iff] at hx
        obtain ⟨y, hy, rfl⟩ := hx
        have hql := (List.getElem?_eq_some_iff.1 hy).1
        simp only [encG, GV.cells, List.getElem?_map, Option.map_eq_some_iff] at hc
        obtain ⟨z, hz, rfl⟩ := hc
        have hjl := (List.getElem?_eq_some_iff.1 hz).1
        rw [hk] at hjl
        have ht : q * k + j < l.length * k := by
          have := Nat.mul_le_mul_right k (show q + 1 ≤ l.length by omega)
          rw [Nat.add_mul, Nat.one_mul] at this
          omega
        have e1 : (q * k + j) / k = q := by rw [Nat.mul_comm, Nat.mul_add_div hk0, Nat.div_eq_of_lt hjl, Nat.add_zero]
        have e2 : (q * k + j) % k = j := by rw [Nat.mul_comm, Nat.mul_add_mod]; exact Nat.mod_eq_of_lt hjl
        refine ⟨z, ?_, .v _ (h1 y z (List.mem_of_getElem? hz))⟩
        rw [his, hcell' _ ht]
        have : d'[(q * k + j) / k]'(by rw [e1]; exact hql) = y := by
          have := List.getElem?_eq_some_iff.1 hy
          simp only [e1]; exact this.2
        simp only [this, e2]
        exact (List.getElem?_eq_some_iff.1 hz).2 ▸ rfl)
      (by rw [hw2]; rfl) (by rw [hw2]; rfl) (by rw [hw2]; rfl) (by rw [hw2]; simp [grow]) (.inr ⟨_, v, _, by rw [his]; exact hkk, by rw [his]; exact k1, Nat.le_refl _, fun _ => rfl, .inr ⟨rfl, fun b hb hne => by rw [hw2]; exact heap_sortedK_other _ hb fun e => hne (by rw [e]; rfl)⟩⟩)
      (by rw [hw2]; simp [grow])
    rw [his] at g1 g2
    refine ⟨_, _, _, _, _, ⟨rfl, rfl⟩, rfl, g1, .tup rfl fun i c r hc => by simp at hc, ?_⟩
    have hfin : hpL [GB.mvec e k (d'.map (encG enc)) v] = setH (hpL [GB.mvec e k (l.map (encG enc)) v]) 0 (.mvec e k (d'.map (encG enc)) v) := by
      funext q
      rw [setH_eq]
      cases q with
      | zero => rfl
      | succ q => simp [hpL]
    rw [hfin]; exact g2

end Go.Gh
