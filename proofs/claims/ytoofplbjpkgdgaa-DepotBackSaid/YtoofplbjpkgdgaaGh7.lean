/- Ghost values and walks, bundle Gh7; proved for whatever the arguments' types allow, as each theorem says. -/
import Derived.Test.YtoofplbjpkgdgaaGh6

/- append, make; all operations together: 'opOut_ok'. -/
set_option linter.unusedVariables false
set_option linter.unusedSimpArgs false
namespace Go.Gh

section
variable {P : Program} {w : World} {I : Nat → Nat → Prop} {T : Tab} {hp : Nat → Option GB}

/-- What is appended, as a source. -/
theorem elemsOf_ok {sz : Nat} {x : GV} {ys : List GV} {rx : Value} {tx : TypeId} (hx : VR w I T x rx) (ht : isSliceT P tx = true) (h : elemsOf sz x = some ys) :
    ∃ news : List Value, Src P sz tx rx ys.length news w ∧ (∀ y, y ∈ ys → y.cells.length = sz ∧ y.sane = true) ∧
      (∀ (i : Nat) (x : GV) (j : Nat) (c : GV), ys[i]? = some x → x.cells[j]? = some c → ∃ u, news[i * sz + j]? = some u ∧ VR w I (fun _ => none) c u) := by
  unfold isSliceT at ht
  split at ht
  · rename_i e' hu
    unfold elemsOf at h
    split at h
    · rename_i es ys' own
      cases hb : Nat.beq es sz with
      | false => rw [hb] at h; cases h
      | true =>
        rw [hb] at h
        cases h
        have := Nat.eq_of_beq_eq_true hb
        subst this
        obtain ⟨base, cap, rfl, h1, news, h3, h4, h5, h6, h7⟩ := hx.row
        refine ⟨news, ?_, h6, h7⟩
        cases base with
        | none =>
          obtain ⟨rfl, rfl⟩ := h1 rfl
          have : news = [] := List.eq_nil_of_length_eq_zero (by simpa using h3)
          subst this
          exact Src.ofNil (P := P) w hu 0
        | some a => exact Src.ofSlice w hu a _ cap news h3 (fun j u hu => h5 a j u rfl hu) h4
    · cases h
      cases hx.v_inv
      exact ⟨[], Src.ofNil (P := P) w hu 0, fun y hy => (by cases hy), fun i x j c hx => (by simp at hx)⟩
    · cases h
      cases hx with
      | emp a cap => exact ⟨[], Src.ofSlice w hu a 0 cap [] (by simp) (fun j u hj => by simp at hj) (fun u hu => by cases hu), fun y hy => (by cases hy), fun i x j c hx => (by simp at hx)⟩
    · cases h
  · cases ht

theorem appendO_ok {key : Nat} {forb : List Nat} {t tx ty : TypeId} {s x y : GV} {u : Option (Nat × GB)} {rs rx : Value} (hr : HR P w I T hp) (hs : VR w I T s rs) (hx : VR w I T x rx)
    (h : (appendO P key forb hp t tx s x).eff y u) :
    Does P w I T hp ((do pure (Next.value (← Builtin.append_ #[t, tx] ty #[rs, rx])) : Sem Next).run P w) y u := by
  unfold appendO at h
  split at h
  rotate_left
  · exact h.elim
  rename_i e hu
  split at h
  rotate_left
  · exact h.elim
  rename_i i hi
  split at h
  rotate_left
  · exact h.elim
  rename_i ys z hys hz
  cases hb : (isSliceT P tx && (Nat.beq z.cells.size i.size && Nat.blt 0 i.size)) with
  | false => rw [hb] at h; exact h.elim
  | true =>
    rw [hb] at h
    simp only [cond_true] at h
    simp only [Bool.and_eq_true] at hb
    obtain ⟨hst, hb1, hb2⟩ := hb
    have hzs := Nat.eq_of_beq_eq_true hb1
    have hpos : 0 < i.size := Nat.le_of_ble_eq_true hb2
    obtain ⟨news, hsrc, hys1, hys2⟩ := elemsOf_ok (P := P) (tx := tx) hx hst hys
    split at h
    · rename_i es xs k
      cases hf : forb.elem k with
      | true => rw [hf] at h; exact h.elim
      | false =>
        rw [hf] at h
        simp only [cond_false] at h
        split at h
        rotate_left
        · exact h.elim
        rename_i e' n hk
        cases hb3 : (Nat.beq e e' && Nat.beq es i.size) with
        | false => rw [hb3] at h; exact h.elim
        | true =>
          rw [hb3] at h
          simp only [cond_true] at h
          obtain ⟨⟨hn, hbytes, hmax⟩, rfl, rfl⟩ := h
          simp only [Bool.and_eq_true] at hb3
          have he := Nat.eq_of_beq_eq_true hb3.1
          have hes := Nat.eq_of_beq_eq_true hb3.2
          subst he; subst hes; subst hn
          obtain ⟨o, es', olds, i', hT, hi', hes', hown, hold1⟩ := hr.vec k _ _ hk
          rw [hi] at hi'; cases hi'
          subst hes'
          -- the slice is the owner's
          have hrs : rs = o := by
            cases hs with
            | nil _ hw =>
              obtain ⟨u1, e1, s1, n1, h1, h2⟩ := hw k rfl
              rw [hT] at h1; cases h1
              exact (h2 rfl).symm
            | list b o' cap row hcap hes hsane hcell hrel hw =>
              obtain ⟨u1, e1, s1, n1, h1, h2, h3⟩ := hw k rfl
              rw [hT] at h1; cases h1
              exact (h3 rfl).symm
          subst hrs
          obtain ⟨base, cap, hrsl, hnil, oldn, q3, q4, q5, q6, q7⟩ := hs.row
          have hold : olds = oldn := by
            cases base with
            | none =>
              obtain ⟨rfl, rfl⟩ := hnil rfl
              have h1 : olds = [] := List.eq_nil_of_length_eq_zero (by simpa using hown.1)
              have h2 : oldn = [] := List.eq_nil_of_length_eq_zero (by simpa using q3)
              rw [h1, h2]
            | some a =>
              apply List.ext_getElem?
              intro j
              have hl : olds.length = oldn.length := by rw [hown.1, q3]
              by_cases hj : j < olds.length
              · have c1 := hown.cells (g := a.block) (by rw [hrsl]; rfl) j olds[j] (by simp [hj])
                have c2 := q5 a j (oldn[j]'(by omega)) rfl (by simp [show j < oldn.length by omega])
                have ha : a = ⟨a.block, 0, none⟩ := by
                  rcases hown.2 with ⟨h1, _⟩ | ⟨g, cp, cur, h1, _⟩
                  · rw [hrsl] at h1; cases h1
                  · rw [hrsl] at h1; cases h1; rfl
                rw [ha] at c2
                rw [c1] at c2
                simp [hj, show j < oldn.length by omega, Option.some.inj c2]
              · simp [List.getElem?_eq_none (by omega : olds.length ≤ j), List.getElem?_eq_none (by omega : oldn.length ≤ j)]
          subst hold
          have hones : ∀ v, v ∈ olds ++ news → v.oneCell' = true := fun v hv => by
            rcases List.mem_append.1 hv with hv | hv
            · exact hold1 v hv
            · exact hsrc.one v hv
          have hlen : (olds ++ news).length = (xs.length + ys.length) * i.size := by rw [List.length_append, hown.1, hsrc.newsLen, Nat.add_mul]
          have hmax' : xs.length + ys.length ≤ 9223372036854775807 := by simpa [maxLen] using hmax
          have hsane : ∀ v, v ∈ xs ++ ys → v.cells.length = i.size ∧ v.sane = true := fun v hv => by
            rcases List.mem_append.1 hv with hv | hv
            · exact q6 v hv
            · exact hys1 v hv
          have hrel : ∀ (i1 : Nat) (v : GV) (j : Nat) (c : GV), (xs ++ ys)[i1]? = some v → v.cells[j]? = some c → ∃ u, (olds ++ news)[i1 * i.size + j]? = some u ∧ VR w I (fun _ => none) c u := by
            intro i1 v j c hv hc
            rw [List.getElem?_append] at hv
            split at hv
            · rename_i hlt
              obtain ⟨u, h1, h2⟩ := q7 i1 v j c hv hc
              exact ⟨u, by rw [List.getElem?_append_left (List.getElem?_eq_some_iff.1 h1).1]; exact h1, h2⟩
            · rename_i hge
              obtain ⟨u, h1, h2⟩ := hys2 _ v j c hv hc
              refine ⟨u, ?_, h2⟩
              have : i1 * i.size = (i1 - xs.length) * i.size + xs.length * i.size := by rw [← Nat.add_mul]; congr 1; omega
              rw [List.getElem?_append_right (by rw [hown.1]; omega), hown.1, this]
              rw [show (i1 - xs.length) * i.size + xs.length * i.size + j - xs.length * i.size = (i1 - xs.length) * i.size + j by omega]
              exact h1
          -- what stands behind it
          have fin : ∀ (b cap' : Nat) (w' : World), (Builtin.append_ #[t, tx] ty #[rs, rx]).run P w = .ok (.slice (some ⟨b, 0, none⟩) (xs.length + ys.length) cap') w' →
              w'.ownsRow 0 e i.size (.slice (some ⟨b, 0, none⟩) (xs.length + ys.length) cap') (xs.length + ys.length) (olds ++ news) →
              (Ext w I T w' (fun b' o => I b' o ∨ ((Value.slice (some ⟨b, 0, none⟩) (xs.length + ys.length) cap').ownBlock = some b' ∧ o < (xs.length + ys.length) * i.size)) (setT T k (.vec (.slice (some ⟨b, 0, none⟩) (xs.length + ys.length) cap') e i.size (xs.length + ys.length))) ∧
               HR P w' (fun b' o => I b' o ∨ ((Value.slice (some ⟨b, 0, none⟩) (xs.length + ys.length) cap').ownBlock = some b' ∧ o < (xs.length + ys.length) * i.size)) (setT T k (.vec (.slice (some ⟨b, 0, none⟩) (xs.length + ys.length) cap') e i.size (xs.length + ys.length))) (setH hp k (.vec e (xs.length + ys.length)))) →
              Does P w I T hp ((do pure (Next.value (← Builtin.append_ #[t, tx] ty #[rs, rx])) : Sem Next).run P w) (.list i.size (xs ++ ys) (some k)) (some (k, .vec e (xs.length + ys.length))) := by
            intro b cap' w' hrun hown' ⟨g1, g2⟩
            refine ⟨_, w', _, _, .inl (by rw [Sem.run_bind, hrun]; rfl), g1, ?_, g2⟩
            have hcap' : xs.length + ys.length ≤ cap' := by
              rcases hown'.2 with ⟨h1, _⟩ | ⟨g, cp, cur, h1, _, _, h2, _⟩
              · cases h1
              · cases h1; exact h2
            refine (congrArg (fun m => VR w' _ _ (GV.list i.size (xs ++ ys) (some k)) (Value.slice (some ⟨b, 0, none⟩) m cap')) (List.length_append (as := xs) (bs := ys))).mp ?_
            refine VR.ofRow (by simpa using hcap') (by rw [hlen, List.length_append]) hones (fun j v hj => ?_) hsane (fun i1 v j c hv hc => ?_) fun k' hk' => ?_
            · refine ⟨.inr ⟨rfl, by have := (List.getElem?_eq_some_iff.1 hj).1; omega⟩, ?_⟩
              have := hown'.cells (g := b) rfl j v hj
              rwa [Addr.add_lit, Nat.zero_add] at this
            · obtain ⟨v', h1, h2⟩ := hrel i1 v j c hv hc
              exact ⟨v', h1, h2.mono g1.ile (TLe.refl _)⟩
            · cases hk'
              exact ⟨_, _, _, _, by rw [setT_eq, if_pos rfl], by simp, fun _ => by simp⟩
          rw [hrsl] at hown hT
          by_cases hroom : xs.length + ys.length ≤ cap
          · cases base with
            | none =>
              obtain ⟨rfl, rfl⟩ := hnil rfl
              have hy0 : ys = [] := List.eq_nil_of_length_eq_zero (by simpa using hroom)
              subst hy0
              have hn0 : news = [] := List.eq_nil_of_length_eq_zero (by simpa using hsrc.newsLen)
              subst hn0
              have ho0 : olds = [] := List.eq_nil_of_length_eq_zero (by simpa using hown.1)
              subst ho0
              obtain ⟨g1, g2⟩ := hr.setVec (n := 0) (n' := 0) (u' := .slice none 0 0) (w' := w) (xs' := []) hi hown (fun x hx => (by cases hx)) rfl rfl rfl (Nat.le_refl _)
                (.inr ⟨_, [], hk, hT, Nat.le_refl _, fun _ => rfl, hown, List.prefix_refl _, .inr ⟨rfl, fun _ _ _ => rfl⟩⟩)
              refine ⟨.slice none 0 0, w, _, _, .inl ?_, g1, ?_, g2⟩
              · rw [hrsl]
                have hc := hsrc.cells; simp only [List.length_nil] at hc
                rcases hsrc.kind with ⟨e2, hk2⟩ | hk2 <;> simp [Builtin.append_, run_underlying hu, run_underlying hk2, sizeOf, typeInfo, hi, hsrc.len, hc]
              · exact .nil (fun _ => rfl) fun k' hk' => by cases hk'; exact ⟨_, _, _, _, by rw [setT_eq, if_pos rfl], fun _ => rfl⟩
            | some a =>
              rcases hown.2 with ⟨h1, _⟩ | ⟨g, cp, cur, h1, hb', hg, hnc, hcm, hcs, htake⟩
              · cases h1
              · cases h1
                have hfit : xs.length * i.size + news.length ≤ cur.size := by rw [hsrc.newsLen, hcs, ← Nat.add_mul]; exact Nat.mul_le_mul_right _ hroom
                have hrun := run_append_room_src (P := P) w t tx ty e i hu hi g 0 xs.length cap rx ys.length news hsrc hroom (fun j hj => by
                  rw [cell_of_row w g _ cur e (0, 0) hg]; simp; omega) (fun j hj => frozen_of_row w g _ cur e hg)
                -- the cells are one row's
                have hrow := run_storeCells_at P g (xs.length * i.size) e news 0 cur w hg (by simpa using hfit) hsrc.one
                have hst := run_storeCells_cells (P := P) g (xs.length * i.size) news 0 w (fun j hj => by rw [cell_of_row w g _ cur e (0, 0) hg]; simp; omega) (fun j hj => frozen_of_row w g _ cur e hg) hsrc.one
                simp only [Nat.add_zero] at hrow hst
                rw [hst] at hrow
                injection hrow with _ hww
                rw [Nat.zero_add, hww] at hrun
                have hown' : (w.setRow g (cur.toList.take (xs.length * i.size) ++ news ++ cur.toList.drop (xs.length * i.size + news.length)).toArray).ownsRow 0 e i.size (.slice (some ⟨g, 0, none⟩) (xs.length + ys.length) cap) (xs.length + ys.length) (olds ++ news) := by
                  refine ⟨hlen, .inr ⟨g, cap, _, rfl, Nat.zero_le _, setRow_heap w g cur _ e _ hg, hroom, hcm, ?_, ?_⟩⟩
                  · simp only [List.size_toArray, List.length_append, List.length_take, List.length_drop, Array.length_toList]; omega
                  · rw [htake, ← hlen]; exact List.take_left
                refine fin g cap _ (by rw [hrsl]; exact hrun) hown' ?_
                refine hr.setVec (n := xs.length) hi hown' hones rfl rfl rfl (by simp [World.setRow]) (.inr ⟨_, olds, hk, hT, by omega, fun h0 => ?_, hown, List.prefix_append _ _, .inr ⟨rfl, fun b hb hne => setRow_other w g b _ fun e => hne (by rw [e]; rfl)⟩⟩)
                rw [← h0]
          · have hrun := run_append_grow_src (P := P) w t tx ty e i z hu hi hz base xs.length cap olds (by
                cases base with
                | none =>
                  obtain ⟨rfl, rfl⟩ := hnil rfl
                  have ho0 : olds = [] := List.eq_nil_of_length_eq_zero (by simpa using hown.1)
                  subst ho0
                  exact run_firstCells_none w.drew i.size 0 0 0
                | some a => exact run_firstCells_some w.drew i.size xs.length a xs.length cap olds hown.1 (fun j v hj => q5 a j v rfl hj)) rx ys.length news hsrc (by omega) (by omega) (growslice_fits (by omega) hbytes)
            have hge := grownCap_ge w (xs.length + ys.length) cap e
            have hcm := grownCap_le_maxLen w (xs.length + ys.length) cap e hmax
            have hown' : (w.drew.alloc (.cells ((olds ++ news).toArray ++ Builtin.zeroCells z.cells (grownCap w (xs.length + ys.length) cap e - (xs.length + ys.length))) e)).ownsRow 0 e i.size
                (.slice (some ⟨w.heap.size, 0, none⟩) (xs.length + ys.length) (grownCap w (xs.length + ys.length) cap e)) (xs.length + ys.length) (olds ++ news) := by
              refine ⟨hlen, .inr ⟨w.heap.size, _, _, rfl, Nat.zero_le _, heap_alloc_new w.drew _, hge, hcm, ?_, ?_⟩⟩
              · simp only [Array.size_append, List.size_toArray, size_zeroCells, hzs, hlen, ← Nat.add_mul]
                congr 1; omega
              · simp only [Array.toList_append]
                rw [← hlen]; exact List.take_left
            refine fin w.heap.size _ _ (by rw [hrsl]; exact hrun) hown' ?_
            refine hr.setVec (n := xs.length) hi hown' hones rfl rfl rfl (by simp) (.inr ⟨_, olds, hk, hT, by omega, fun h0 => ?_, hown, List.prefix_append _ _, .inl ⟨fun b hb => heap_alloc_old w.drew _ hb, fun b hb => ?_⟩⟩)
            · exfalso
              rcases hown.2 with ⟨h1, _⟩ | ⟨g, cp, cur, h1, _, _, hnc, _⟩
              · simp only [Value.slice.injEq] at h1; omega
              · simp only [Value.slice.injEq] at h1; omega
            · cases hb; exact Nat.le_refl _
    · -- a nil slice
      split at h
      rotate_left
      · exact h.elim
      rename_i hk
      obtain ⟨⟨hbytes, hmax⟩, rfl, rfl⟩ := h
      cases hs.v_inv
      have hmax' : ys.length ≤ 9223372036854775807 := by simpa [maxLen] using hmax
      by_cases h0 : ys.length = 0
      · have hy0 : ys = [] := List.eq_nil_of_length_eq_zero h0
        subst hy0
        have hn0 : news = [] := List.eq_nil_of_length_eq_zero (by simpa using hsrc.newsLen)
        subst hn0
        obtain ⟨g1, g2⟩ := hr.setVec (n := 0) (n' := 0) (k := key) (e := e) (u' := .slice none 0 0) (w' := w) (xs' := []) hi (World.ownsRow_nil w 0 e i.size) (fun x hx => (by cases hx)) rfl rfl rfl (Nat.le_refl _)
          (.inl ⟨hk, fun _ _ => rfl, fun b hb => (by cases hb)⟩)
        refine ⟨.slice none 0 0, w, _, _, .inl ?_, g1, ?_, g2⟩
        · have hc := hsrc.cells; simp only [List.length_nil] at hc
          rcases hsrc.kind with ⟨e2, hk2⟩ | hk2 <;> simp [Builtin.append_, run_underlying hu, run_underlying hk2, sizeOf, typeInfo, hi, hsrc.len, hc]
        · exact .nil (fun _ => rfl) fun k' hk' => by cases hk'; exact ⟨_, _, _, _, by rw [setT_eq, if_pos rfl], fun _ => rfl⟩
      · have hrun := run_append_grow_src (P := P) w t tx ty e i z hu hi hz none 0 0 [] (run_firstCells_none w.drew i.size 0 0 0) rx ys.length news hsrc (by omega) (by omega) (growslice_fits (by omega) (by simpa using hbytes))
        simp only [Nat.zero_add, List.nil_append] at hrun
        have hge := grownCap_ge w ys.length 0 e
        have hcm := grownCap_le_maxLen w ys.length 0 e hmax
        have hown' : (w.drew.alloc (.cells (news.toArray ++ Builtin.zeroCells z.cells (grownCap w ys.length 0 e - ys.length)) e)).ownsRow 0 e i.size
            (.slice (some ⟨w.heap.size, 0, none⟩) ys.length (grownCap w ys.length 0 e)) ys.length news := by
          refine ⟨hsrc.newsLen, .inr ⟨w.heap.size, _, _, rfl, Nat.zero_le _, heap_alloc_new w.drew _, hge, hcm, ?_, ?_⟩⟩
          · simp only [Array.size_append, List.size_toArray, size_zeroCells, hzs, hsrc.newsLen, ← Nat.add_mul]
            congr 1; omega
          · simp only [Array.toList_append]
            rw [← hsrc.newsLen]; exact List.take_left
        obtain ⟨g1, g2⟩ := hr.setVec (n := 0) (k := key) hi hown' hsrc.one rfl rfl rfl (by simp) (.inl ⟨hk, fun b hb => heap_alloc_old w.drew _ hb, fun b hb => (by cases hb; exact Nat.le_refl _)⟩)
        refine ⟨_, _, _, _, .inl (by rw [Sem.run_bind, hrun]; rfl), g1, ?_, g2⟩
        refine VR.ofRow hge hsrc.newsLen hsrc.one (fun j v hj => ?_) hys1 (fun i1 v j c hv hc => ?_) fun k' hk' => ?_
        · refine ⟨.inr ⟨rfl, by have := (List.getElem?_eq_some_iff.1 hj).1; have := hsrc.newsLen; omega⟩, ?_⟩
          have := hown'.cells (g := w.heap.size) rfl j v hj
          rwa [Addr.add_lit, Nat.zero_add] at this
        · obtain ⟨v', h1, h2⟩ := hys2 i1 v j c hv hc
          exact ⟨v', h1, h2.mono g1.ile (TLe.refl _)⟩
        · cases hk'
          exact ⟨_, _, _, _, by rw [setT_eq, if_pos rfl], Nat.le_refl _, fun _ => rfl⟩
    · exact h.elim

/-- append to a slice of one's own: where there is room, in its block; else in a new one. -/
theorem append_run {t tx ty e : TypeId} {i : TypeInfo} {z : Value} (hu : P.underlying t = some (.slice e)) (hi : P.info? e = some i) (hz : i.zero = some z) (hzs : z.cells.size = i.size) {rs rx : Value} {n m : Nat} {olds news : List Value}
    (hown : w.ownsRow 0 e i.size rs n olds) (hold1 : ∀ x, x ∈ olds → x.oneCell' = true) (hsrc : Src P i.size tx rx m news w) (hbytes : (n + m) * i.bytes ≤ 140737488355328) (hmax : n + m ≤ maxLen) :
    ∃ u' w', (Builtin.append_ #[t, tx] ty #[rs, rx]).run P w = .ok u' w' ∧ w'.ownsRow 0 e i.size u' (n + m) (olds ++ news) ∧ w'.os = w.os ∧ w'.tape = w.tape ∧ w'.output = w.output ∧ w.heap.size ≤ w'.heap.size ∧ w.drawn ≤ w'.drawn ∧
      ((∀ b, b < w.heap.size → w'.heap[b]? = w.heap[b]?) ∧ (∀ b, u'.ownBlock = some b → w.heap.size ≤ b) ∨
         (u'.ownBlock = rs.ownBlock ∧ ∀ b, b < w.heap.size → rs.ownBlock ≠ some b → w'.heap[b]? = w.heap[b]?)) := by
  have hmax' : n + m ≤ 9223372036854775807 := by simpa [maxLen] using hmax
  have hlen : (olds ++ news).length = (n + m) * i.size := by rw [List.length_append, hown.1, hsrc.newsLen, Nat.add_mul]
  have grow : ∀ (base : Option Addr) (cap : Nat), rs = .slice base n cap → cap < n + m → (Builtin.firstCells i.size n (.slice base n cap)).run P w.drew = .ok olds.toArray w.drew →
      ∃ u' w', (Builtin.append_ #[t, tx] ty #[rs, rx]).run P w = .ok u' w' ∧ w'.ownsRow 0 e i.size u' (n + m) (olds ++ news) ∧ w'.os = w.os ∧ w'.tape = w.tape ∧ w'.output = w.output ∧ w.heap.size ≤ w'.heap.size ∧ w.drawn ≤ w'.drawn ∧
      ((∀ b, b < w.heap.size → w'.heap[b]? = w.heap[b]?) ∧ (∀ b, u'.ownBlock = some b → w.heap.size ≤ b) ∨
         (u'.ownBlock = rs.ownBlock ∧ ∀ b, b < w.heap.size → rs.ownBlock ≠ some b → w'.heap[b]? = w.heap[b]?)) := by
    intro base cap hrs hcap hfc
    have hrun := run_append_grow_src (P := P) w t tx ty e i z hu hi hz base n cap olds hfc rx m news hsrc hcap (by omega) (growslice_fits (by omega) hbytes)
    have hge := grownCap_ge w (n + m) cap e
    have hcm := grownCap_le_maxLen w (n + m) cap e hmax
    subst hrs
    refine ⟨_, _, hrun, ?_, rfl, rfl, rfl, by simp, Nat.le_succ _, .inl ⟨fun b hb => heap_alloc_old w.drew _ hb, fun b hb => by cases hb; exact Nat.le_refl _⟩⟩
    refine ⟨hlen, .inr ⟨w.heap.size, _, _, rfl, Nat.zero_le _, heap_alloc_new w.drew _, hge, hcm, ?_, ?_⟩⟩
    · simp only [Array.size_append, List.size_toArray, size_zeroCells, hzs, hlen, ← Nat.add_mul]
      congr 1; omega
    · simp only [Array.toList_append]
      rw [← hlen]; exact List.take_left
  rcases hown.2 with ⟨hrs, hn⟩ | ⟨g, cap, cur, hrs, hb', hg, hnc, hcm, hcs, htake⟩
  · subst hn
    have ho0 : olds = [] := List.eq_nil_of_length_eq_zero (by simpa using hown.1)
    subst ho0
    by_cases hm : m = 0
    · subst hm
      have hn0 : news = [] := List.eq_nil_of_length_eq_zero (by simpa using hsrc.newsLen)
      subst hn0
      refine ⟨.slice none 0 0, w, ?_, World.ownsRow_nil w 0 e i.size, rfl, rfl, rfl, Nat.le_refl _, Nat.le_refl _, .inr ⟨by rw [hrs], fun _ _ _ => rfl⟩⟩
      rw [hrs]
      have hc := hsrc.cells
      rcases hsrc.kind with ⟨e2, hk2⟩ | hk2 <;> simp [Builtin.append_, run_underlying hu, run_underlying hk2, sizeOf, typeInfo, hi, hsrc.len, hc]
    · exact grow none 0 hrs (by omega) (run_firstCells_none w.drew i.size 0 0 0)
  · by_cases hroom : n + m ≤ cap
    · have hfit : n * i.size + news.length ≤ cur.size := by rw [hsrc.newsLen, hcs, ← Nat.add_mul]; exact Nat.mul_le_mul_right _ hroom
      have hrun := run_append_room_src (P := P) w t tx ty e i hu hi g 0 n cap rx m news hsrc hroom (fun j hj => by
        rw [cell_of_row w g _ cur e (0, 0) hg]; simp; omega) (fun j hj => frozen_of_row w g _ cur e hg)
      have hrow := run_storeCells_at P g (n * i.size) e news 0 cur w hg (by simpa using hfit) hsrc.one
      have hst := run_storeCells_cells (P := P) g (n * i.size) news 0 w (fun j hj => by rw [cell_of_row w g _ cur e (0, 0) hg]; simp; omega) (fun j hj => frozen_of_row w g _ cur e hg) hsrc.one
      simp only [Nat.add_zero] at hrow hst
      rw [hst] at hrow
      injection hrow with _ hww
      rw [Nat.zero_add, hww] at hrun
      subst hrs
      refine ⟨_, _, hrun, ?_, rfl, rfl, rfl, by simp [World.setRow], Nat.le_refl _, .inr ⟨rfl, fun b hb hne => setRow_other w g b _ fun e => hne (by rw [e]; rfl)⟩⟩
      refine ⟨hlen, .inr ⟨g, cap, _, rfl, Nat.zero_le _, setRow_heap w g cur _ e _ hg, hroom, hcm, ?_, ?_⟩⟩
      · simp only [List.size_toArray, List.length_append, List.length_take, List.length_drop, Array.length_toList]; omega
      · rw [htake, ← hlen]; exact List.take_left
    · exact grow (some ⟨g, 0, none⟩) cap hrs (by omega) (run_firstCells_some w.drew i.size n _ n cap olds hown.1 fun j v hj => by
        have := hown.cells (g := g) (by rw [hrs]; rfl) j v hj
        simpa using this)

theorem ownsRow_head {e : TypeId} {sz n : Nat} {u : Value} {ys : List Value} (h : w.ownsRow 0 e sz u n ys) : ∃ b c, u = .slice b n c ∧ (n ≠ 0 → ∃ g, b = some ⟨g, 0, none⟩) := by
  rcases h.2 with ⟨rfl, rfl⟩ | ⟨g, cap, cur, rfl, _⟩
  · exact ⟨none, 0, rfl, fun h => absurd rfl h⟩
  · exact ⟨_, cap, rfl, fun _ => ⟨g, rfl⟩⟩

theorem moreOf_ok {i : TypeInfo} {tx : TypeId} {x : GV} {ys : List GV} (h : moreOf P i tx x = some ys) : isSliceT P tx = true ∧ elemsOf i.size x = some ys := by
  unfold moreOf at h
  cases hb : isSliceT P tx with
  | false => rw [hb] at h; cases h
  | true => rw [hb] at h; exact ⟨rfl, h⟩

theorem appendMv_ok {forb : List Nat} {t tx ty : TypeId} {es k ver n : Nat} {x y : GV} {u : Option (Nat × GB)} {rs rx : Value} (hr : HR P w I T hp) (hs : VR w I T (.ms es k ver n) rs) (hx : VR w I T x rx)
    (h : (appendMv P forb hp t tx es k ver n x).eff y u) :
    Does P w I T hp ((do pure (Next.value (← Builtin.append_ #[t, tx] ty #[rs, rx])) : Sem Next).run P w) y u := by
  unfold appendMv at h
  split at h
  rotate_left
  · exact h.elim
  rename_i e hu
  split at h
  rotate_left
  · exact h.elim
  rename_i i hi
  split at h
  rotate_left
  · exact h.elim
  rename_i ys z e' es' xs v hys hz hk
  rw [Bool.cond_eq_ite] at h
  split at h
  rotate_left
  · exact h.elim
  rename_i hb
  simp only [Bool.and_eq_true] at hb
  obtain ⟨hb1, hb2, hb3, hb4⟩ := hb
  have hzs := Nat.eq_of_beq_eq_true hb1
  have h3 := Nat.eq_of_beq_eq_true hb3
  have h4 := Nat.eq_of_beq_eq_true hb4
  subst h3; subst h4
  obtain ⟨⟨rfl, hbytes, hmax⟩, rfl, rfl⟩ := h
  obtain ⟨hst, hys⟩ := moreOf_ok hys
  obtain ⟨news, hsrc, hys1, hys2⟩ := elemsOf_ok (P := P) (tx := tx) hx hst hys
  obtain ⟨u0, olds, inf, k1, k2, k3, k4, k5, k6, k7⟩ := hr.mvec k _ _ _ _ hk
  rw [hi] at k2; cases k2
  cases hs with
  | ms hT hle hss hra =>
    rw [k1] at hT; cases hT
    have := hra rfl
    subst this
    obtain ⟨u', w', r1, r2, r3, r4, r5, r6, rd, r7⟩ := append_run (ty := ty) hu hi hz hzs k4 k5 hsrc hbytes hmax
    have hlen : (xs ++ ys).length = xs.length + ys.length := List.length_append
    obtain ⟨g1, g2⟩ := hr.setMv (k := k) (v' := v + 1) (xs' := xs ++ ys) hi (by rw [hlen]; exact r2) (fun y hy => by
        rcases List.mem_append.1 hy with hy | hy
        · exact k5 y hy
        · exact hsrc.one y hy) (fun y hy => by
        rcases List.mem_append.1 hy with hy | hy
        · exact k6 y hy
        · exact hys1 y hy) (fun q d j c hd hc => by
        rw [List.getElem?_append] at hd
        split at hd
        · obtain ⟨y, f1, f2⟩ := k7 q d j c hd hc
          exact ⟨y, by rw [List.getElem?_append_left (List.getElem?_eq_some_iff.1 f1).1]; exact f1, f2⟩
        · rename_i hge
          obtain ⟨y, f1, f2⟩ := hys2 _ d j c hd hc
          refine ⟨y, ?_, f2⟩
          have e1 : q * i.size = (q - xs.length) * i.size + xs.length * i.size := by rw [← Nat.add_mul]; congr 1; omega
          rw [List.getElem?_append_right (by rw [k4.1]; omega), k4.1, e1]
          rw [show (q - xs.length) * i.size + xs.length * i.size + j - xs.length * i.size = (q - xs.length) * i.size + j by omega]
          exact f1) r3 r4 r5 r6 (.inr ⟨_, v, xs, hk, k1, by omega, fun e => by omega, r7⟩)
    exact ⟨u', w', _, _, .inl (by rw [Sem.run_bind, r1]; rfl), g1, .ms (by rw [setT_eq, if_pos rfl]) (Nat.le_refl _) (ownsRow_head r2) (fun _ => rfl), g2⟩

/-- So many zeros behind nil. -/
theorem run_append_zeros {t tx ty e : TypeId} {i : TypeInfo} {z : Value} {kk : IntKind} (hu : P.underlying t = some (.slice e)) (hi : P.info? e = some i) (hz : i.zero = some z) (hx : P.underlying tx = some (.int kk)) (hpos : 0 < i.size) (m : Nat) (hm : 0 < m)
    (hm2 : (m : Int) ≤ 9223372036854775807) (hbytes : (m : Int) * i.bytes ≤ 140737488355328) :
    (Builtin.append_ #[t, tx] ty #[.slice none 0 0, .int .i64 m]).run P w =
      .ok (.slice (some ⟨w.heap.size, 0, none⟩) m (grownCap w m 0 e)) (w.drew.alloc (.cells (Builtin.zeroCells z.cells m ++ Builtin.zeroCells z.cells (grownCap w m 0 e - m)) e)) := by
  have hw : IntKind.i64.wrap (m : Int) = m := by rw [IntKind.wrap_i64]; omega
  have hneg : ¬ ((m : Int) < 0) := by omega
  have hbig : ¬ ((m : Int) * i.bytes > 281474976710656) := by omega
  have hbig' : ¬ (281474976710656 < (m : Int) * i.bytes) := by omega
  have hnz : ¬ (m * i.size = 0) := by
    intro h0
    rcases Nat.mul_eq_zero.1 h0 with h | h <;> omega
  have hb : m * i.bytes ≤ 140737488355328 := by
    have : ((m * i.bytes : Nat) : Int) = (m : Int) * i.bytes := by push_cast; rfl
    omega
  have hfit : Builtin.nextslicecap m 0 * i.bytes ≤ 281474976710656 := growslice_fits (by omega) hb
  have hfit' : ¬ (281474976710656 < Builtin.nextslicecap m 0 * i.bytes) := by omega
  have h63 : ¬ (9223372036854775807 < (m : Int)) := by omega
  have hm0 : ¬ (m = 0) := by omega
  simp [Builtin.append_, run_underlying hu, run_underlying hx, sizeOf, typeInfo, zeroValue, hi, hz, asInt, asIntOf, hw, hneg, hbig, hbig', hnz, hfit', h63, hm0, Question.forced, newRow, grownCap, run_firstCells_none]
  done

/-- So many zeros. -/
theorem zeros_ok {z : Value} {cs : List GV} {sz n : Nat} {ys : List Value} (hcs : zcells z = some cs) (hsz : z.cells.size = sz) (hpos : 0 < sz) (hy : ∀ j, j < n * sz → ys[j]? = z.cells[j % sz]?) (hyl : ys.length = n * sz) :
    (∀ x, x ∈ ys → x.oneCell' = true) ∧ (∀ x, x ∈ List.replicate n (zeroG z cs) → x.cells.length = sz ∧ x.sane = true) ∧
    (∀ (q : Nat) (x : GV) (j : Nat) (c : GV), (List.replicate n (zeroG z cs))[q]? = some x → x.cells[j]? = some c → ∃ y, ys[q * sz + j]? = some y ∧ VR w I (fun _ => none) c y) := by
  obtain ⟨z1, z2, z3⟩ := zcells_ok hcs
  have hz' : ∀ x, x = (zeroG z cs) → x.cells = cs ∧ x.sane = true := by
    intro x hx
    subst hx
    unfold zeroG
    cases z <;> first | exact ⟨rfl, rfl⟩ | (unfold zcells at hcs; revert hcs; simp only [Value.cells, List.all_cons, List.all_nil, Bool.and_true, List.map_cons, List.map_nil]; intro hcs; (cases hv : Value.oneCell' _ <;> rw [hv] at hcs <;> cases hcs; exact ⟨rfl, rfl⟩))
  refine ⟨fun x hx => ?_, fun x hx => ?_, fun q x j c hx hc => ?_⟩
  · obtain ⟨j, hj⟩ := List.getElem?_of_mem hx
    have hjl := (List.getElem?_eq_some_iff.1 hj).1
    rw [hy j (by omega)] at hj
    exact z2 _ _ hj
  · have := hz' x (List.eq_of_mem_replicate hx)
    exact ⟨by rw [this.1, ← z1]; exact hsz, this.2⟩
  · have hq := (List.getElem?_eq_some_iff.1 hx).1
    simp at hq
    have hxe := hz' x (List.eq_of_mem_replicate (List.mem_of_getElem? hx))
    rw [hxe.1] at hc
    have hj := (List.getElem?_eq_some_iff.1 hc).1
    have h1 := Nat.mul_le_mul_right sz (show q + 1 ≤ n from hq)
    rw [Nat.add_mul, Nat.one_mul] at h1
    have hmod : (q * sz + j) % sz = j := by rw [Nat.mul_comm, Nat.mul_add_mod]; exact Nat.mod_eq_of_lt (by omega)
    have hzj : j < z.cells.size := by omega
    refine ⟨z.cells[j], ?_, z3 _ _ _ j c _ hc (by simp [hzj])⟩
    rw [hy _ (by omega), hmod]; simp [hzj]

theorem appendNil_ok {key : Nat} {t tx ty : TypeId} {x y : GV} {u : Option (Nat × GB)} {rx : Value} (hr : HR P w I T hp) (hx : VR w I T x rx)
    (h : (appendNil P key hp t tx x).eff y u) :
    Does P w I T hp ((do pure (Next.value (← Builtin.append_ #[t, tx] ty #[.slice none 0 0, rx])) : Sem Next).run P w) y u := by
  unfold appendNil at h
  split at h
  rotate_left
  · exact h.elim
  rename_i e hu
  split at h
  rotate_left
  · exact h.elim
  rename_i i hi
  split at h
  rotate_left
  · exact h.elim
  rename_i z hz hk
  rw [Bool.cond_eq_ite] at h
  split at h
  rotate_left
  · exact h.elim
  rename_i hb
  simp only [Bool.and_eq_true] at hb
  have hzs := Nat.eq_of_beq_eq_true hb.1
  have hpos : 0 < i.size := Nat.le_of_ble_eq_true hb.2
  split at h
  · rename_i ys hys
    obtain ⟨⟨hbytes, hmax⟩, rfl, rfl⟩ := h
    obtain ⟨hst, hys⟩ := moreOf_ok hys
    obtain ⟨news, hsrc, hys1, hys2⟩ := elemsOf_ok (P := P) (tx := tx) hx hst hys
    obtain ⟨u', w', r1, r2, r3, r4, r5, r6, rd, r7⟩ := append_run (n := 0) (ty := ty) hu hi hz hzs (World.ownsRow_nil w 0 e i.size) (fun x hx => by cases hx) hsrc (by simpa using hbytes) (by simpa using hmax)
    simp only [Nat.zero_add, List.nil_append] at r2
    obtain ⟨g1, g2⟩ := hr.setMv (k := key) (v' := 0) (xs' := ys) hi r2 hsrc.one hys1 hys2 r3 r4 r5 r6 (.inl ⟨hk, fun b hb => by
        rcases r7 with h | h
        · exact h.1 b hb
        · exact h.2 b hb (by simp [Value.ownBlock]), fun b hb => by
        rcases r7 with h | h
        · exact h.2 b hb
        · rw [h.1] at hb; cases hb⟩)
    exact ⟨u', w', _, _, .inl (by rw [Sem.run_bind, r1]; rfl), g1, .ms (by rw [setT_eq, if_pos rfl]) (Nat.le_refl _) (ownsRow_head r2) (fun _ => rfl), g2⟩
  · rename_i m kk cs hut hcs hmo
    obtain ⟨⟨hm, hbytes, hm2⟩, rfl, rfl⟩ := h
    cases hx.v_inv
    have hmm : m = (m.toNat : Int) := by omega
    have hrun := run_append_zeros (w := w) (ty := ty) hu hi hz hut hpos m.toNat (by omega) (by omega) (by rw [← hmm]; exact hbytes)
    rw [← hmm] at hrun
    have hge := grownCap_ge w m.toNat 0 e
    have hcm := grownCap_le_maxLen w m.toNat 0 e (by simp [maxLen]; omega)
    have hzl : (Builtin.zeroCells z.cells m.toNat).toList.length = m.toNat * i.size := by rw [Array.length_toList, size_zeroCells, hzs]
    have hown : (w.drew.alloc (.cells (Builtin.zeroCells z.cells m.toNat ++ Builtin.zeroCells z.cells (grownCap w m.toNat 0 e - m.toNat)) e)).ownsRow 0 e i.size (.slice (some ⟨w.heap.size, 0, none⟩) m.toNat (grownCap w m.toNat 0 e)) m.toNat (Builtin.zeroCells z.cells m.toNat).toList := by
      refine ⟨hzl, .inr ⟨w.heap.size, _, _, rfl, Nat.zero_le _, heap_alloc_new w.drew _, hge, hcm, ?_, ?_⟩⟩
      · rw [Array.size_append, size_zeroCells, size_zeroCells, hzs, ← Nat.add_mul]; congr 1; omega
      · rw [Array.toList_append, ← hzl]; exact List.take_left
    obtain ⟨o1, o2, o3⟩ := zeros_ok (w := w) (I := I) (n := m.toNat) (ys := (Builtin.zeroCells z.cells m.toNat).toList) hcs hzs hpos (fun j hj => by
      unfold Builtin.zeroCells
      have hj' : j < m.toNat * z.cells.size := by rw [hzs]; exact hj
      have hm' : j % z.cells.size < z.cells.size := Nat.mod_lt _ (by omega)
      simp only [Array.toList_map, List.getElem?_map, Array.getElem?_toList, Array.getElem?_range, hj', if_true, Option.map_some, hzs]
      rw [hzs] at hm'
      simp [hzs, hj, hm', getElem!_pos]) hzl
    have hrl : (List.replicate m.toNat (zeroG z cs)).length = m.toNat := by simp
    obtain ⟨g1, g2⟩ := hr.setMv (k := key) (v' := 0) (w' := w.drew.alloc (.cells (Builtin.zeroCells z.cells m.toNat ++ Builtin.zeroCells z.cells (grownCap w m.toNat 0 e - m.toNat)) e)) (u' := .slice (some ⟨w.heap.size, 0, none⟩) m.toNat (grownCap w m.toNat 0 e)) (xs' := List.replicate m.toNat (zeroG z cs)) hi (by rw [hrl]; exact hown) o1 o2 o3 rfl rfl rfl (by simp) (.inl ⟨hk, fun b hb => heap_alloc_old w.drew _ hb, fun b hb => by cases hb; exact Nat.le_refl _⟩)
    exact ⟨_, _, _, _, .inl (by rw [Sem.run_bind, hrun]; rfl), g1, .ms (by rw [setT_eq, if_pos rfl]) (Nat.le_refl _) (ownsRow_head hown) (fun _ => rfl), g2⟩
  · exact h.elim

/-- append to a slice without room. -/
theorem append_run0 {t tx ty e : TypeId} {i : TypeInfo} {z : Value} (hu : P.underlying t = some (.slice e)) (hi : P.info? e = some i) (hz : i.zero = some z) (hzs : z.cells.size = i.size) {b : Option Addr} {rx : Value} {m : Nat} {news : List Value}
    (hsrc : Src P i.size tx rx m news w) (hm : 0 < m) (hbytes : m * i.bytes ≤ 140737488355328) (hmax : m ≤ maxLen) :
    ∃ u' w', (Builtin.append_ #[t, tx] ty #[.slice b 0 0, rx]).run P w = .ok u' w' ∧ w'.ownsRow 0 e i.size u' m news ∧ w'.os = w.os ∧ w'.tape = w.tape ∧ w'.output = w.output ∧ w.heap.size ≤ w'.heap.size ∧ w.drawn ≤ w'.drawn ∧
      (∀ b, b < w.heap.size → w'.heap[b]? = w.heap[b]?) ∧ (∀ b, u'.ownBlock = some b → w.heap.size ≤ b) := by
  have hmax' : m ≤ 9223372036854775807 := by simpa [maxLen] using hmax
  have hfc : (Builtin.firstCells i.size 0 (.slice b 0 0)).run P w.drew = .ok (#[] : Array Value) w.drew := by
    cases b with
    | none => exact run_firstCells_none w.drew i.size 0 0 0
    | some a => exact run_firstCells_some w.drew i.size 0 a 0 0 [] (by simp) (fun j u hj => by simp at hj)
  have hrun := run_append_grow_src (P := P) w t tx ty e i z hu hi hz b 0 0 [] hfc rx m news hsrc (by omega) (by omega) (growslice_fits (by omega) (by simpa using hbytes))
  have hge := grownCap_ge w (0 + m) 0 e
  have hcm := grownCap_le_maxLen w (0 + m) 0 e (by omega)
  have hlen : news.length = m * i.size := hsrc.newsLen
  simp only [Nat.zero_add, List.nil_append] at hrun hge hcm
  refine ⟨_, _, hrun, ?_, rfl, rfl, rfl, by simp, Nat.le_succ _, fun b hb => heap_alloc_old w.drew _ hb, fun b hb => by cases hb; exact Nat.le_refl _⟩
  refine ⟨hlen, .inr ⟨w.heap.size, _, _, rfl, Nat.zero_le _, heap_alloc_new w.drew _, hge, hcm, ?_, ?_⟩⟩
  · simp only [Array.size_append, List.size_toArray, size_zeroCells, hzs, hlen, ← Nat.add_mul]
    congr 1; omega
  · simp only [Array.toList_append]
    rw [← hlen]; exact List.take_left

theorem appendZ_ok {key : Nat} {t tx ty : TypeId} {x y : GV} {u : Option (Nat × GB)} {rs rx : Value} (hr : HR P w I T hp) (hs : VR w I T .z0 rs) (hx : VR w I T x rx)
    (h : (appendZ P key hp t tx x).eff y u) :
    Does P w I T hp ((do pure (Next.value (← Builtin.append_ #[t, tx] ty #[rs, rx])) : Sem Next).run P w) y u := by
  unfold appendZ at h
  split at h
  rotate_left
  · exact h.elim
  rename_i e hu
  split at h
  rotate_left
  · exact h.elim
  rename_i i hi
  split at h
  rotate_left
  · exact h.elim
  rename_i z hz hk
  rw [Bool.cond_eq_ite] at h
  split at h
  rotate_left
  · exact h.elim
  rename_i hb
  simp only [Bool.and_eq_true] at hb
  have hzs := Nat.eq_of_beq_eq_true hb.1
  cases hs with
  | z0 b =>
  split at h
  · rename_i hys
    obtain ⟨rfl, rfl⟩ := h
    obtain ⟨hst, hys⟩ := moreOf_ok hys
    obtain ⟨news, hsrc, hys1, hys2⟩ := elemsOf_ok (P := P) (tx := tx) hx hst hys
    have hn0 : news = [] := List.eq_nil_of_length_eq_zero (by simpa using hsrc.newsLen)
    subst hn0
    have hc := hsrc.cells
    have hl := hsrc.len
    simp only [List.length_nil] at hc hl
    refine Does.same (r := .slice b 0 0) hr rfl ?_ (.nil (fun _ => rfl) fun k hk => (by cases hk))
    cases b with
    | none => rcases hsrc.kind with ⟨e2, hk2⟩ | hk2 <;> simp [Builtin.append_, run_underlying hu, run_underlying hk2, sizeOf, typeInfo, hi, hl, hc]
    | some a => rcases hsrc.kind with ⟨e2, hk2⟩ | hk2 <;> simp [Builtin.append_, run_underlying hu, run_underlying hk2, sizeOf, typeInfo, hi, hl, hc, storeCells]
  · rename_i y0 ys hys
    obtain ⟨⟨hbytes, hmax⟩, rfl, rfl⟩ := h
    obtain ⟨hst, hys⟩ := moreOf_ok hys
    obtain ⟨news, hsrc, hys1, hys2⟩ := elemsOf_ok (P := P) (tx := tx) hx hst hys
    obtain ⟨u', w', r1, r2, r3, r4, r5, r6, rd, r7, r8⟩ := append_run0 (ty := ty) (b := b) hu hi hz hzs hsrc (by simp) (by simpa using hbytes) (by simpa using hmax)
    obtain ⟨g1, g2⟩ := hr.setMv (k := key) (v' := 0) (xs' := y0 :: ys) hi r2 hsrc.one hys1 hys2 r3 r4 r5 r6 (.inl ⟨hk, r7, r8⟩)
    exact ⟨u', w', _, _, .inl (by rw [Sem.run_bind, r1]; rfl), g1, .ms (by rw [setT_eq, if_pos rfl]) (Nat.le_refl _) (ownsRow_head r2) (fun _ => rfl), g2⟩
  · exact h.elim

theorem clearO_ok {t ty : TypeId} {x y : GV} {u : Option (Nat × GB)} {rx : Value} (hr : HR P w I T hp) (hx : VR w I T x rx)
    (h : (clearO P hp t x).eff y u) :
    Does P w I T hp ((do pure (Next.value (← Builtin.clear_ #[t] ty #[rx])) : Sem Next).run P w) y u := by
  unfold clearO at h
  split at h
  rotate_left
  · exact h.elim
  rename_i e es k ver lo n hu
  split at h
  rotate_left
  · exact h.elim
  rename_i i e' es' xs v hi hk
  split at h
  rotate_left
  · exact h.elim
  rename_i z hz
  split at h
  rotate_left
  · exact h.elim
  rename_i cs hcs
  rw [Bool.cond_eq_ite] at h
  split at h
  rotate_left
  · exact h.elim
  rename_i hb
  simp only [Bool.and_eq_true] at hb
  have h1 := Nat.eq_of_beq_eq_true hb.1
  have h2 := Nat.eq_of_beq_eq_true hb.2.1
  have h3 := Nat.eq_of_beq_eq_true hb.2.2.1
  have hzs := Nat.eq_of_beq_eq_true hb.2.2.2.1
  have hpos : 0 < i.size := Nat.le_of_ble_eq_true hb.2.2.2.2
  subst h1; subst h2
  obtain ⟨⟨rfl, h0, hn, hend⟩, rfl, rfl⟩ := h
  obtain ⟨u0, ys, inf, k1, k2, k3, k4, k5, k6, k7⟩ := hr.mvec k _ _ _ _ hk
  rw [hi] at k2; cases k2
  subst k3
  cases hx with
  | mview hT hle hs hra =>
    rw [k1] at hT; cases hT
    obtain ⟨g, N, c, c', hu', _, hN, rfl⟩ := hra rfl
    subst hu'
    rcases k4.2 with ⟨hrs, _⟩ | ⟨g2, cap2, cur, e4, _, hg, hnc, hcm, hcs2, htk⟩
    · cases hrs
    cases e4
    have hys0 : ys.length = xs.length * i.size := k4.1
    generalize hm : n.toNat = m at *
    have hxl : xs.length = lo.toNat + m := by omega
    have hzl : (Builtin.zeroCells z.cells m).toList.length = m * i.size := by rw [Array.length_toList, size_zeroCells, hzs]
    have hcurl : xs.length * i.size ≤ cur.size := by rw [hcs2]; exact Nat.mul_le_mul_right _ hnc
    have hmul : xs.length * i.size = lo.toNat * i.size + m * i.size := by rw [hxl, Nat.add_mul]
    obtain ⟨o1, o2, o3⟩ := zeros_ok (w := w) (I := I) (n := m) (ys := (Builtin.zeroCells z.cells m).toList) hcs hzs hpos (fun j hj => by
      unfold Builtin.zeroCells
      have hj' : j < m * z.cells.size := by rw [hzs]; exact hj
      have hm' : j % z.cells.size < z.cells.size := Nat.mod_lt _ (by omega)
      simp only [Array.toList_map, List.getElem?_map, Array.getElem?_toList, Array.getElem?_range, hj', if_true, Option.map_some, hzs]
      rw [hzs] at hm'
      simp [hzs, hj, hm', getElem!_pos]) hzl
    have hst := run_storeCells_at P g (lo.toNat * i.size) e' (Builtin.zeroCells z.cells m).toList 0 cur w hg (by rw [hzl]; omega) o1
    simp only [Nat.add_zero] at hst
    let cur' : Array Value := (cur.toList.take (lo.toNat * i.size) ++ (Builtin.zeroCells z.cells m).toList ++ cur.toList.drop (lo.toNat * i.size + (Builtin.zeroCells z.cells m).toList.length)).toArray
    let ys' : List Value := ys.take (lo.toNat * i.size) ++ (Builtin.zeroCells z.cells m).toList
    have hys' : ys'.length = xs.length * i.size := by
      simp only [ys', List.length_append, List.length_take, hzl, hys0]; omega
    have hcur' : cur'.toList.take (xs.length * i.size) = ys' := by
      have e1 : (cur.toList.take (lo.toNat * i.size)).length = lo.toNat * i.size := by simp; omega
      have e2 : cur.toList.take (lo.toNat * i.size) = ys.take (lo.toNat * i.size) := by rw [← htk, List.take_take]; congr 1; omega
      simp only [cur', ys']
      rw [hmul, ← hzl, e2]
      have e3 : (ys.take (lo.toNat * i.size) ++ (Builtin.zeroCells z.cells m).toList).length = lo.toNat * i.size + (Builtin.zeroCells z.cells m).toList.length := by
        rw [List.length_append, ← e2, e1]
      rw [← e3]; exact List.take_left
    have hlen' : (xs.take lo.toNat ++ List.replicate m (zeroG z cs)).length = xs.length := by simp; omega
    have hown' : (w.setRow g cur').ownsRow 0 e' i.size (.slice (some ⟨g, 0, none⟩) xs.length c) (xs.take lo.toNat ++ List.replicate m (zeroG z cs)).length ys' := by
      rw [hlen']
      refine ⟨hys', .inr ⟨g, c, cur', rfl, Nat.zero_le _, setRow_heap w g cur _ e' _ hg, hnc, hcm, ?_, hcur'⟩⟩
      simp only [cur', List.size_toArray, List.length_append, List.length_take, List.length_drop, Array.length_toList]
      rw [Array.length_toList] at hzl
      rw [← hcs2]; omega
    obtain ⟨g1, g2⟩ := hr.setMv (k := k) (v' := v) (w' := w.setRow g cur') (u' := .slice (some ⟨g, 0, none⟩) xs.length c) (xs' := xs.take lo.toNat ++ List.replicate m (zeroG z cs)) (ys' := ys') hi hown'
      (fun x hx => by
        rcases List.mem_append.1 hx with hx | hx
        · exact k5 x (List.mem_of_mem_take hx)
        · exact o1 x hx)
      (fun x hx => by
        rcases List.mem_append.1 hx with hx | hx
        · exact k6 x (List.mem_of_mem_take hx)
        · exact o2 x hx)
      (fun q x j c hx hc => by
        rw [List.getElem?_append] at hx
        have e1 : (xs.take lo.toNat).length = lo.toNat := by simp; omega
        have e3 : (ys.take (lo.toNat * i.size)).length = lo.toNat * i.size := by simp; omega
        rw [e1] at hx
        split at hx
        · rename_i hq
          rw [List.getElem?_take, if_pos hq] at hx
          obtain ⟨y, f1, f2⟩ := k7 q x j c hx hc
          have hj := (List.getElem?_eq_some_iff.1 hc).1
          rw [(k6 x (List.mem_of_getElem? hx)).1] at hj
          have := Nat.mul_le_mul_right i.size (show q + 1 ≤ lo.toNat from hq)
          rw [Nat.add_mul, Nat.one_mul] at this
          exact ⟨y, by rw [List.getElem?_append_left (by rw [e3]; omega), List.getElem?_take, if_pos (by omega)]; exact f1, f2⟩
        · rename_i hq
          obtain ⟨y, f1, f2⟩ := o3 _ x j c hx hc
          have e2 : q * i.size = (q - lo.toNat) * i.size + lo.toNat * i.size := by rw [← Nat.add_mul]; congr 1; omega
          refine ⟨y, ?_, f2⟩
          rw [List.getElem?_append_right (by rw [e3]; omega), e3, e2]
          rw [show (q - lo.toNat) * i.size + lo.toNat * i.size + j - lo.toNat * i.size = (q - lo.toNat) * i.size + j by omega]
          exact f1) rfl rfl rfl (by simp [World.setRow]) (.inr ⟨_, v, xs, hk, k1, Nat.le_refl _, fun _ => rfl, .inr ⟨rfl, fun b _ hb => setRow_other w g b cur' fun e => hb (by rw [e]; rfl)⟩⟩)
    refine ⟨.tuple #[], _, _, _, .inl ?_, g1, .tup rfl fun i c r hc => by simp at hc, g2⟩
    have hvz : ∀ w, (zeroValue e').run P w = .ok z w := fun w => by simp [zeroValue, typeInfo, hi, hz]
    obtain ⟨m', rfl⟩ : ∃ m', m = m' + 1 := ⟨m - 1, by omega⟩
    simp [Builtin.clear_, run_underlying hu, hvz, hst, cur']

theorem appendX_ok {key d : Nat} {forb : List Nat} {env : Nat → GV} {t tx ty : TypeId} {s x y : GV} {u : Option (Nat × GB)} {rs rx : Value} (hr : HR P w I T hp) (hs : VR w I T s rs) (hx : VR w I T x rx)
    (h : (appendX P key d forb hp env t tx s x).eff y u) :
    Does P w I T hp ((do pure (Next.value (← Builtin.append_ #[t, tx] ty #[rs, rx])) : Sem Next).run P w) y u := by
  unfold appendX at h
  split at h
  · rename_i es k ver n
    cases hf : forb.elem k with
    | true => rw [hf] at h; exact h.elim
    | false => rw [hf] at h; exact appendMv_ok (forb := forb) hr hs hx h
  · cases hs.v_inv
    cases hfl : flagG env (5000000 + d) with
    | true => rw [hfl] at h; exact appendNil_ok hr hx h
    | false => rw [hfl] at h; exact appendO_ok (forb := forb) hr hs hx h
  · exact appendZ_ok hr hs hx h
  · exact appendO_ok hr hs hx h

theorem appendD_ok {key : Nat} {forb : List Nat} {t tx ty : TypeId} {s x y : GV} {u : Option (Nat × GB)} {rs rx : Value} (hr : HR P w I T hp) (hs : VR w I T s rs) (hx : VR w I T x rx)
    (h : (appendD P key forb hp t tx s x).eff y u) :
    Does P w I T hp ((do pure (Next.value (← Builtin.append_ #[t, tx] ty #[rs, rx])) : Sem Next).run P w) y u := by
  unfold appendD at h
  split at h
  · rename_i es k ver n
    cases hf : forb.elem k with
    | true => rw [hf] at h; exact h.elim
    | false => rw [hf] at h; exact appendMv_ok (forb := forb) hr hs hx h
  · exact appendO_ok hr hs hx h

end
end Go.Gh
