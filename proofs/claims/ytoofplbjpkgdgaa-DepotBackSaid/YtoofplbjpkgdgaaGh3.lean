/- Ghost values and walks, bundle Gh3; proved for whatever the arguments' types allow, as each theorem says. -/
import Derived.Test.YtoofplbjpkgdgaaGh2
import Derived.Deep.AppendSrc

/- Ghost operations that write or make memory. -/
set_option linter.unusedVariables false
set_option linter.unusedSimpArgs false
namespace Go.Gh

section
variable {P : Program} {w : World} {I : Nat → Nat → Prop} {T : Tab} {hp : Nat → Option GB}

/-- A block of the frame's own gets other cells. -/
theorem HR.setBlk (h : HR P w I T hp) {k n : Nat} {cs cs' : List GV} {row row' : Array Value} {ty : TypeId} (hk : hp k = some (.cells cs)) (hT : T k = some (.blk n))
    (hn : w.heap[n]? = some (.cells row ty (0, 0))) (hl : row'.size = cs'.length) (h1 : ∀ (j : Nat) (r : Value), row'[j]? = some r → r.oneCell' = true)
    (hv : ∀ (j : Nat) (c : GV) (r : Value), cs'[j]? = some c → row'[j]? = some r → VR w I T c r) :
    Ext w I T (w.setRow n row') I T ∧ HR P (w.setRow n row') I T (setH hp k (.cells cs')) := by
  have hext : Ext w I T (w.setRow n row') I T := by
    refine ⟨rfl, rfl, rfl, by simp [World.setRow], fun b o hi => ⟨hi, ?_⟩, .refl _, fun _ _ h => .inl h, fun k x b h hb => .inr ⟨k, x, h, hb⟩, fun b hb hx => ?_, Nat.le_refl _⟩
    · refine cell_setRow_other w n row' _ ?_
      intro e
      simp only at e; subst e
      exact h.nblk _ _ _ hT hi
    · exact setRow_other w n b row' fun e => hx k _ hT (by rw [e]; rfl)
  refine ⟨hext, fun k' hk' => ?_, fun k' cs1 hk' => ?_, fun k' e n' hk' => ?_, fun k' e es xs v hk' => ?_, fun k' hk' => ?_, fun b o hi => by simpa [World.setRow] using h.lt b o hi, h.nblk, h.nvec, h.nmv, h.dist⟩
  · rw [setH_eq] at hk'
    split at hk'
    · cases hk'
    · exact h.non k' hk'
  · rw [setH_eq] at hk'
    split at hk'
    · rename_i e; subst e
      cases hk'
      exact ⟨n, row', ty, hT, setRow_heap w n row _ ty _ hn, hl, h1, fun j c r hc hr => (hv j c r hc hr).ext hext⟩
    · rename_i hne
      obtain ⟨m, row1, ty1, e1, e2, e3, e4, e5⟩ := h.cells k' cs1 hk'
      refine ⟨m, row1, ty1, e1, ?_, e3, e4, fun j c r hc hr => (e5 j c r hc hr).ext hext⟩
      rw [setRow_other w n m row' (fun e => hne (h.dist _ _ _ _ m e1 hT rfl (by rw [e]; rfl)))]
      exact e2
  · rw [setH_eq] at hk'
    split at hk'
    · cases hk'
    · rename_i hne
      obtain ⟨u, es, xs, i, e1, e2, e3, e4, e5⟩ := h.vec k' e n' hk'
      refine ⟨u, es, xs, i, e1, e2, e3, e4.kept (row := some n) ⟨rfl, rfl, rfl, by simp [World.setRow], fun b _ hb => setRow_other w n b row' fun e => hb (by rw [e])⟩ (.inr fun e => ?_), e5⟩
      exact hne (h.dist _ _ _ _ n e1 hT e rfl)
  · rw [setH_eq] at hk'
    split at hk'
    · cases hk'
    · rename_i hne
      exact h.mvKeep hext.ile hk' (fun x hx => hx) fun x b hx hb => setRow_other w n b row' fun e => hne (h.dist _ _ _ _ n hx hT (by rw [hb, e]) rfl)
  · rw [setH_eq] at hk'
    split at hk'
    · cases hk'
    · exact h.gone k' hk'

/-- A new block that nobody changes any more. -/
theorem HR.imm (h : HR P w I T hp) (row : Array Value) (ty : TypeId) :
    Ext w I T (w.alloc (.cells row ty)) (fun b o => I b o ∨ (b = w.heap.size ∧ o < row.size)) T ∧ HR P (w.alloc (.cells row ty)) (fun b o => I b o ∨ (b = w.heap.size ∧ o < row.size)) T hp := by
  have hext : Ext w I T (w.alloc (.cells row ty)) (fun b o => I b o ∨ (b = w.heap.size ∧ o < row.size)) T := by
    refine ⟨rfl, rfl, rfl, by simp, fun b o hi => ⟨.inl hi, World.cell?_alloc_old _ _ _ (by have := h.lt b o hi; simp; omega)⟩, .refl _, fun b o hi => ?_, fun k x b h hb => .inr ⟨k, x, h, hb⟩, fun b hb _ => heap_alloc_old w _ hb, Nat.le_refl _⟩
    rcases hi with hi | hi
    · exact .inl hi
    · exact .inr (.inl (by omega))
  refine ⟨hext, h.non, fun k cs hk => ?_, fun k e n hk => ?_, fun k e es xs v hk => h.mvKeep hext.ile hk (fun x hx => hx) fun x b hx hb => heap_alloc_old w _ (h.blockLt hx hb), h.gone, fun b o hi => ?_, fun k n o hT hi => ?_, fun k u e es n b o hT hb hi => ?_, fun k u s v b o hT hb hi => ?_, h.dist⟩
  · obtain ⟨m, row1, ty1, e1, e2, e3, e4, e5⟩ := h.cells k cs hk
    exact ⟨m, row1, ty1, e1, by rw [heap_alloc_old w _ (Array.getElem?_eq_some_iff.1 e2).1]; exact e2, e3, e4, fun j c r hc hr => (e5 j c r hc hr).ext hext⟩
  · obtain ⟨u, es, xs, i, e1, e2, e3, e4, e5⟩ := h.vec k e n hk
    exact ⟨u, es, xs, i, e1, e2, e3, e4.alloc _, e5⟩
  · rcases hi with hi | hi
    · have := h.lt b o hi; simp; omega
    · simp; omega
  · rcases hi with hi | hi
    · exact h.nblk k n o hT hi
    · have := h.blockLt hT rfl; omega
  · rcases hi with hi | hi
    · exact h.nvec k u e es n b o hT hb hi
    · have := h.blockLt hT hb; omega
  · rcases hi with hi | hi
    · exact h.nmv k u s v b o hT hb hi
    · have := h.blockLt hT hb; omega

/-- A slice that is appended to: a new key, or a key that stands; where its elements lie now nobody changes what is there. -/
theorem HR.setVec (h : HR P w I T hp) {k : Nat} {e : TypeId} {n n' : Nat} {u' : Value} {i : TypeInfo} {xs' : List Value} {w' : World} (hi : P.info? e = some i)
    (hown : w'.ownsRow 0 e i.size u' n' xs') (h1 : ∀ x, x ∈ xs' → x.oneCell' = true)
    (hos : w'.os = w.os) (htp : w'.tape = w.tape) (hout : w'.output = w.output) (hsz : w.heap.size ≤ w'.heap.size)
    (hcase : (hp k = none ∧ (∀ b, b < w.heap.size → w'.heap[b]? = w.heap[b]?) ∧ (∀ b, u'.ownBlock = some b → w.heap.size ≤ b)) ∨
      (∃ u xs, hp k = some (.vec e n) ∧ T k = some (.vec u e i.size n) ∧ n ≤ n' ∧ (n = n' → u' = u) ∧ w.ownsRow 0 e i.size u n xs ∧ xs <+: xs' ∧
        ((∀ b, b < w.heap.size → w'.heap[b]? = w.heap[b]?) ∧ (∀ b, u'.ownBlock = some b → w.heap.size ≤ b) ∨
         (u'.ownBlock = u.ownBlock ∧ ∀ b, b < w.heap.size → u.ownBlock ≠ some b → w'.heap[b]? = w.heap[b]?))))
    (hdr : w.drawn ≤ w'.drawn := by first | exact Nat.le_refl _ | exact Nat.le_succ _ | assumption) :
    Ext w I T w' (fun b o => I b o ∨ (u'.ownBlock = some b ∧ o < n' * i.size)) (setT T k (.vec u' e i.size n')) ∧
      HR P w' (fun b o => I b o ∨ (u'.ownBlock = some b ∧ o < n' * i.size)) (setT T k (.vec u' e i.size n')) (setH hp k (.vec e n')) := by
  -- old blocks of other keys are as they were
  have hoth : ∀ b, b < w.heap.size → (∀ x, T k = some x → x.block ≠ some b) → w'.heap[b]? = w.heap[b]? := by
    intro b hb hx
    rcases hcase with ⟨_, h2, _⟩ | ⟨u, xs, _, hT, _, _, _, _, h2 | h2⟩
    · exact h2 b hb
    · exact h2.1 b hb
    · exact h2.2 b hb (hx _ hT)
  have hfresh : ∀ b, u'.ownBlock = some b → w.heap.size ≤ b ∨ ∃ u, T k = some (.vec u e i.size n) ∧ u.ownBlock = some b := by
    intro b hb
    rcases hcase with ⟨_, _, h3⟩ | ⟨u, xs, _, hT, _, _, _, _, h2 | h2⟩
    · exact .inl (h3 b hb)
    · exact .inl (h2.2 b hb)
    · exact .inr ⟨u, hT, by rw [← h2.1]; exact hb⟩
  have hcell : ∀ b o, I b o → w'.cell? ⟨b, o, none⟩ = w.cell? ⟨b, o, none⟩ := by
    intro b o hi'
    have hlt := h.lt b o hi'
    rcases hcase with ⟨_, h2, _⟩ | ⟨u, xs, hk, hT, hnn, _, hu, hpre, h2 | h2⟩
    · exact World.cell?_of_block (w := w) (h2 b hlt)
    · exact World.cell?_of_block (w := w) (h2.1 b hlt)
    · by_cases hb : u.ownBlock = some b
      · have ho := h.nvec k u e i.size n b o hT hb hi'
        have c1 := hu.cells hb o
        have c2 := hown.cells (g := b) (by rw [h2.1]; exact hb) o
        simp only [Addr.add_lit, Nat.zero_add] at c1 c2
        have hol : o < xs.length := by rw [hu.1]; exact ho
        rw [c1 xs[o] (by simp [hol])]
        exact c2 xs[o] (by obtain ⟨t, rfl⟩ := hpre; rw [List.getElem?_append_left hol]; simp [hol])
      · exact World.cell?_of_block (w := w) (h2.2 b hlt hb)
  have hTk : ∀ k' x, T k' = some x → k' = k → ∃ u, x = .vec u e i.size n ∧ n ≤ n' ∧ (n = n' → u' = u) := by
    intro k' x hx hkk
    subst hkk
    rcases hcase with ⟨h2, _⟩ | ⟨u, xs, hk, hT, hnn, hnu, _⟩
    · rw [h.non _ h2] at hx; cases hx
    · rw [hT] at hx; cases hx; exact ⟨u, rfl, hnn, hnu⟩
  have hext : Ext w I T w' (fun b o => I b o ∨ (u'.ownBlock = some b ∧ o < n' * i.size)) (setT T k (.vec u' e i.size n')) := by
    refine ⟨hos, htp, hout, hsz, fun b o hi' => ⟨.inl hi', hcell b o hi'⟩, ⟨fun k' m hm => ?_, fun k' v e' s m hm => ?_, fun k' v s m hm => ?_⟩, fun b o hi' => ?_, fun k' x b hm hb => ?_, fun b hb hx => hoth b hb fun x hk => hx k x hk, hdr⟩
    · rw [setT_eq]
      split
      · rename_i hkk
        obtain ⟨u, hu, _⟩ := hTk k' _ hm hkk
        cases hu
      · exact hm
    · rw [setT_eq]
      split
      · rename_i hkk
        obtain ⟨u, hu, h3, h4⟩ := hTk k' _ hm hkk
        cases hu
        exact ⟨u', e, i.size, n', rfl, h3, h4⟩
      · exact ⟨v, e', s, m, hm, Nat.le_refl _, fun _ => rfl⟩
    · rw [setT_eq]
      split
      · rename_i hkk
        obtain ⟨u, hu, _⟩ := hTk k' _ hm hkk
        cases hu
      · exact ⟨v, m, hm, Nat.le_refl _, fun _ => rfl⟩
    · rcases hi' with hi' | ⟨hb, _⟩
      · exact .inl hi'
      · rcases hfresh b hb with h3 | ⟨u, h3, h4⟩
        · exact .inr (.inl h3)
        · exact .inr (.inr ⟨k, _, h3, h4⟩)
    · rw [setT_eq] at hm
      split at hm
      · cases hm
        rcases hfresh b hb with h3 | ⟨u, h3, h4⟩
        · exact .inl h3
        · exact .inr ⟨k, _, h3, h4⟩
      · exact .inr ⟨k', x, hm, hb⟩
  -- a block of another key is not the new one
  have hdiff : ∀ k' x b, k' ≠ k → T k' = some x → x.block = some b → u'.ownBlock ≠ some b := by
    intro k' x b hne hx hb hb'
    rcases hfresh b hb' with h3 | ⟨u, h3, h4⟩
    · have := h.blockLt hx hb; omega
    · exact hne (h.dist _ _ _ _ b hx h3 hb h4)
  have hkeep : ∀ k' x b, k' ≠ k → T k' = some x → x.block = some b → w'.heap[b]? = w.heap[b]? := fun k' x b hne hx hb =>
    hoth b (h.blockLt hx hb) fun y hy hyb => hne (h.dist _ _ _ _ b hx hy hb hyb)
  refine ⟨hext, fun k' hk' => ?_, fun k' cs hk' => ?_, fun k' e' m hk' => ?_, fun k' e' es xs v hk' => ?_, fun k' hk' => ?_, fun b o hi' => ?_, fun k' m o hm hi' => ?_, fun k' v e' es m b o hm hb hi' => ?_, fun k' v s m b o hm hb hi' => ?_, fun k1 k2 x1 x2 b hx1 hx2 hb1 hb2 => ?_⟩
  · rw [setH_eq] at hk'
    split at hk'
    · cases hk'
    · rw [setT_eq, if_neg ‹_›]; exact h.non k' hk'
  · rw [setH_eq] at hk'
    split at hk'
    · cases hk'
    · rename_i hne
      obtain ⟨m, row1, ty1, e1, e2, e3, e4, e5⟩ := h.cells k' cs hk'
      exact ⟨m, row1, ty1, by rw [setT_eq, if_neg hne]; exact e1, by rw [hkeep k' _ m hne e1 rfl]; exact e2, e3, e4, fun j c r hc hr => (e5 j c r hc hr).ext hext⟩
  · rw [setH_eq] at hk'
    split at hk'
    · rename_i hkk; subst hkk
      cases hk'
      exact ⟨u', i.size, xs', i, by rw [setT_eq, if_pos rfl], hi, rfl, hown, h1⟩
    · rename_i hne
      obtain ⟨v, es, xs, i', e1, e2, e3, e4, e5⟩ := h.vec k' e' m hk'
      refine ⟨v, es, xs, i', by rw [setT_eq, if_neg hne]; exact e1, e2, e3, ?_, e5⟩
      refine ⟨e4.1, ?_⟩
      rcases e4.2 with hn | ⟨g, cap, cur, rfl, hb, hgg, rest⟩
      · exact .inl hn
      · exact .inr ⟨g, cap, cur, rfl, hb, by rw [hkeep k' _ g hne e1 rfl]; exact hgg, rest⟩
  · rw [setH_eq] at hk'
    split at hk'
    · cases hk'
    · rename_i hne
      exact h.mvKeep hext.ile hk' (fun x hx => by rw [setT_eq, if_neg hne]; exact hx) fun x b hx hb => hkeep k' _ b hne hx hb
  · rw [setH_eq] at hk'
    split at hk'
    · cases hk'
    · rename_i hne
      rw [setT_eq, if_neg hne]; exact h.gone k' hk'
  · rcases hi' with hi' | ⟨hb, _⟩
    · have := h.lt b o hi'; omega
    · exact (hown.lt b hb).2
  · rw [setT_eq] at hm
    split at hm
    · cases hm
    · rename_i hne
      rcases hi' with hi' | ⟨hb, _⟩
      · exact h.nblk k' m o hm hi'
      · exact hdiff k' _ m hne hm rfl hb
  · rw [setT_eq] at hm
    split at hm
    · cases hm
      rcases hi' with hi' | ⟨_, ho⟩
      · rcases hfresh b hb with h3 | ⟨u, h3, h4⟩
        · have := h.lt b o hi'; omega
        · have h5 := h.nvec k u _ _ n b o h3 h4 hi'
          obtain ⟨_, h6, h7, _⟩ := hTk k _ h3 rfl
          exact Nat.lt_of_lt_of_le h5 (Nat.mul_le_mul_right _ h7)
      · exact ho
    · rename_i hne
      rcases hi' with hi' | ⟨hb', _⟩
      · exact h.nvec k' v e' es m b o hm hb hi'
      · exact absurd hb' (hdiff k' _ b hne hm hb)
  · rw [setT_eq] at hm
    split at hm
    · cases hm
    · rename_i hne
      rcases hi' with hi' | ⟨hb', _⟩
      · exact h.nmv k' v s m b o hm hb hi'
      · exact absurd hb' (hdiff k' _ b hne hm hb)
  · rw [setT_eq] at hx1 hx2
    split at hx1 <;> split at hx2
    · omega
    · cases hx1; exact absurd hb1 (hdiff _ _ b ‹_› hx2 hb2)
    · cases hx2; exact absurd hb2 (hdiff _ _ b ‹_› hx1 hb1)
    · exact h.dist k1 k2 x1 x2 b hx1 hx2 hb1 hb2

/-- A slice whose elements are written: a new key, or a key that stands. -/
theorem HR.setMv (h : HR P w I T hp) {k : Nat} {e : TypeId} {v' : Nat} {u' : Value} {i : TypeInfo} {xs' : List GV} {ys' : List Value} {w' : World} (hi : P.info? e = some i)
    (hown : w'.ownsRow 0 e i.size u' xs'.length ys') (h1 : ∀ x, x ∈ ys' → x.oneCell' = true) (hsn : ∀ x, x ∈ xs' → x.cells.length = i.size ∧ x.sane = true)
    (hrel : ∀ (q : Nat) (x : GV) (j : Nat) (c : GV), xs'[q]? = some x → x.cells[j]? = some c → ∃ y, ys'[q * i.size + j]? = some y ∧ VR w I (fun _ => none) c y)
    (hos : w'.os = w.os) (htp : w'.tape = w.tape) (hout : w'.output = w.output) (hsz : w.heap.size ≤ w'.heap.size)
    (hcase : (hp k = none ∧ (∀ b, b < w.heap.size → w'.heap[b]? = w.heap[b]?) ∧ (∀ b, u'.ownBlock = some b → w.heap.size ≤ b)) ∨
      (∃ u v xs, hp k = some (.mvec e i.size xs v) ∧ T k = some (.mvec u i.size v) ∧ v ≤ v' ∧ (v = v' → u' = u) ∧
        ((∀ b, b < w.heap.size → w'.heap[b]? = w.heap[b]?) ∧ (∀ b, u'.ownBlock = some b → w.heap.size ≤ b) ∨
         (u'.ownBlock = u.ownBlock ∧ ∀ b, b < w.heap.size → u.ownBlock ≠ some b → w'.heap[b]? = w.heap[b]?))))
    (hdr : w.drawn ≤ w'.drawn := by first | exact Nat.le_refl _ | exact Nat.le_succ _ | assumption) :
    Ext w I T w' I (setT T k (.mvec u' i.size v')) ∧ HR P w' I (setT T k (.mvec u' i.size v')) (setH hp k (.mvec e i.size xs' v')) := by
  have hoth : ∀ b, b < w.heap.size → (∀ x, T k = some x → x.block ≠ some b) → w'.heap[b]? = w.heap[b]? := by
    intro b hb hx
    rcases hcase with ⟨_, h2, _⟩ | ⟨u, v, xs, _, hT, _, _, h2 | h2⟩
    · exact h2 b hb
    · exact h2.1 b hb
    · exact h2.2 b hb (hx _ hT)
  have hfresh : ∀ b, u'.ownBlock = some b → w.heap.size ≤ b ∨ ∃ u v, T k = some (.mvec u i.size v) ∧ u.ownBlock = some b := by
    intro b hb
    rcases hcase with ⟨_, _, h3⟩ | ⟨u, v, xs, _, hT, _, _, h2 | h2⟩
    · exact .inl (h3 b hb)
    · exact .inl (h2.2 b hb)
    · exact .inr ⟨u, v, hT, by rw [← h2.1]; exact hb⟩
  have hTk : ∀ k' x, T k' = some x → k' = k → ∃ u v, x = .mvec u i.size v ∧ v ≤ v' ∧ (v = v' → u' = u) := by
    intro k' x hx hkk
    subst hkk
    rcases hcase with ⟨h2, _⟩ | ⟨u, v, xs, hk, hT, hnn, hnu, _⟩
    · rw [h.non _ h2] at hx; cases hx
    · rw [hT] at hx; cases hx; exact ⟨u, v, rfl, hnn, hnu⟩
  have hcell : ∀ b o, I b o → w'.cell? ⟨b, o, none⟩ = w.cell? ⟨b, o, none⟩ := by
    intro b o hi'
    refine World.cell?_of_block (w := w) (hoth b (h.lt b o hi') fun x hx hb => ?_)
    obtain ⟨u, v, rfl, _⟩ := hTk k x hx rfl
    exact h.nmv k u _ v b o hx hb hi'
  have hext : Ext w I T w' I (setT T k (.mvec u' i.size v')) := by
    refine ⟨hos, htp, hout, hsz, fun b o hi' => ⟨hi', hcell b o hi'⟩, ⟨fun k' m hm => ?_, fun k' v e' s m hm => ?_, fun k' v s m hm => ?_⟩, fun b o hi' => .inl hi', fun k' x b hm hb => ?_, fun b hb hx => hoth b hb fun x hk => hx k x hk, hdr⟩
    · rw [setT_eq]
      split
      · rename_i hkk
        obtain ⟨u, v, hu, _⟩ := hTk k' _ hm hkk
        cases hu
      · exact hm
    · rw [setT_eq]
      split
      · rename_i hkk
        obtain ⟨u, v, hu, _⟩ := hTk k' _ hm hkk
        cases hu
      · exact ⟨v, e', s, m, hm, Nat.le_refl _, fun _ => rfl⟩
    · rw [setT_eq]
      split
      · rename_i hkk
        obtain ⟨u, v, hu, h3, h4⟩ := hTk k' _ hm hkk
        cases hu
        exact ⟨u', v', rfl, h3, h4⟩
      · exact ⟨v, m, hm, Nat.le_refl _, fun _ => rfl⟩
    · rw [setT_eq] at hm
      split at hm
      · cases hm
        rcases hfresh b hb with h3 | ⟨u, v, h3, h4⟩
        · exact .inl h3
        · exact .inr ⟨k, _, h3, h4⟩
      · exact .inr ⟨k', x, hm, hb⟩
  have hdiff : ∀ k' x b, k' ≠ k → T k' = some x → x.block = some b → u'.ownBlock ≠ some b := by
    intro k' x b hne hx hb hb'
    rcases hfresh b hb' with h3 | ⟨u, v, h3, h4⟩
    · have := h.blockLt hx hb; omega
    · exact hne (h.dist _ _ _ _ b hx h3 hb h4)
  have hkeep : ∀ k' x b, k' ≠ k → T k' = some x → x.block = some b → w'.heap[b]? = w.heap[b]? := fun k' x b hne hx hb =>
    hoth b (h.blockLt hx hb) fun y hy hyb => hne (h.dist _ _ _ _ b hx hy hb hyb)
  refine ⟨hext, fun k' hk' => ?_, fun k' cs hk' => ?_, fun k' e' m hk' => ?_, fun k' e' es xs v hk' => ?_, fun k' hk' => ?_, fun b o hi' => ?_, fun k' m o hm hi' => ?_, fun k' v e' es m b o hm hb hi' => ?_, fun k' v s m b o hm hb hi' => ?_, fun k1 k2 x1 x2 b hx1 hx2 hb1 hb2 => ?_⟩
  · rw [setH_eq] at hk'
    split at hk'
    · cases hk'
    · rw [setT_eq, if_neg ‹_›]; exact h.non k' hk'
  · rw [setH_eq] at hk'
    split at hk'
    · cases hk'
    · rename_i hne
      obtain ⟨m, row1, ty1, e1, e2, e3, e4, e5⟩ := h.cells k' cs hk'
      exact ⟨m, row1, ty1, by rw [setT_eq, if_neg hne]; exact e1, by rw [hkeep k' _ m hne e1 rfl]; exact e2, e3, e4, fun j c r hc hr => (e5 j c r hc hr).ext hext⟩
  · rw [setH_eq] at hk'
    split at hk'
    · cases hk'
    · rename_i hne
      obtain ⟨v, es, xs, i', e1, e2, e3, e4, e5⟩ := h.vec k' e' m hk'
      refine ⟨v, es, xs, i', by rw [setT_eq, if_neg hne]; exact e1, e2, e3, ⟨e4.1, ?_⟩, e5⟩
      rcases e4.2 with hn | ⟨g, cap, cur, rfl, hb, hgg, rest⟩
      · exact .inl hn
      · exact .inr ⟨g, cap, cur, rfl, hb, by rw [hkeep k' _ g hne e1 rfl]; exact hgg, rest⟩
  · rw [setH_eq] at hk'
    split at hk'
    · rename_i hkk; subst hkk
      cases hk'
      exact ⟨u', ys', i, by rw [setT_eq, if_pos rfl], hi, rfl, hown, h1, hsn, fun q x j c hx hc => (hrel q x j c hx hc).imp fun y hy => ⟨hy.1, hy.2.mono hext.ile (TLe.refl _)⟩⟩
    · rename_i hne
      exact h.mvKeep hext.ile hk' (fun x hx => by rw [setT_eq, if_neg hne]; exact hx) fun x b hx hb => hkeep k' _ b hne hx hb
  · rw [setH_eq] at hk'
    split at hk'
    · cases hk'
    · rename_i hne
      rw [setT_eq, if_neg hne]; exact h.gone k' hk'
  · have := h.lt b o hi'; omega
  · rw [setT_eq] at hm
    split at hm
    · cases hm
    · exact h.nblk k' m o hm hi'
  · rw [setT_eq] at hm
    split at hm
    · cases hm
    · exact h.nvec k' v e' es m b o hm hb hi'
  · rw [setT_eq] at hm
    split at hm
    · cases hm
      rcases hfresh b hb with h3 | ⟨u, v, h3, h4⟩
      · have := h.lt b o hi'; omega
      · exact h.nmv k u _ v b o h3 h4 hi'
    · exact h.nmv k' v s m b o hm hb hi'
  · rw [setT_eq] at hx1 hx2
    split at hx1 <;> split at hx2
    · omega
    · cases hx1; exact absurd hb1 (hdiff _ _ b ‹_› hx2 hb2)
    · cases hx2; exact absurd hb2 (hdiff _ _ b ‹_› hx1 hb1)
    · exact h.dist k1 k2 x1 x2 b hx1 hx2 hb1 hb2

/-- From here on nobody writes its elements any more. -/
theorem HR.freeze (h : HR P w I T hp) {k e es v : Nat} {xs : List GV} {u : Value} (hk : hp k = some (.mvec e es xs v)) (hT : T k = some (.mvec u es v)) :
    ∃ I' T', Ext w I T w I' T' ∧ HR P w I' T' (setH hp k (.mvec e es [] (v + 1))) ∧ VR w I' T' (.list es xs none) u := by
  obtain ⟨u0, ys, inf, h1, h2, h3, h4, h5, h6, h7⟩ := h.mvec k e es xs v hk
  rw [hT] at h1; cases h1
  subst h3
  let I' : Nat → Nat → Prop := fun b o => I b o ∨ (u.ownBlock = some b ∧ o < xs.length * inf.size)
  have hTk : ∀ k' x, k' ≠ k → T k' = some x → setT T k (.mvec (.slice none 0 0) inf.size (v + 1)) k' = some x := fun k' x hne hx => by rw [setT_eq, if_neg hne]; exact hx
  have hext : Ext w I T w I' (setT T k (.mvec (.slice none 0 0) inf.size (v + 1))) := by
    refine ⟨rfl, rfl, rfl, Nat.le_refl _, fun b o hi => ⟨.inl hi, rfl⟩, ⟨fun k' m hm => ?_, fun k' v' e' s m hm => ?_, fun k' v' s m hm => ?_⟩, fun b o hi => ?_, fun k' x b hm hb => ?_, fun b hb hx => rfl, Nat.le_refl _⟩
    · rw [setT_eq]
      split
      · rename_i hkk; subst hkk; rw [hT] at hm; cases hm
      · exact hm
    · rw [setT_eq]
      split
      · rename_i hkk; subst hkk; rw [hT] at hm; cases hm
      · exact ⟨v', e', s, m, hm, Nat.le_refl _, fun _ => rfl⟩
    · rw [setT_eq]
      split
      · rename_i hkk; subst hkk; rw [hT] at hm; cases hm
        exact ⟨_, _, rfl, by omega, fun e => by omega⟩
      · exact ⟨v', m, hm, Nat.le_refl _, fun _ => rfl⟩
    · rcases hi with hi | ⟨hb, _⟩
      · exact .inl hi
      · exact .inr (.inr ⟨k, _, hT, hb⟩)
    · rw [setT_eq] at hm
      split at hm
      · cases hm; cases hb
      · exact .inr ⟨k', x, hm, hb⟩
  have hdiff : ∀ k' x b, k' ≠ k → T k' = some x → x.block = some b → u.ownBlock ≠ some b := fun k' x b hne hx hb hb' => hne (h.dist _ _ _ _ b hx hT hb hb')
  refine ⟨I', _, hext, ⟨fun k' hk' => ?_, fun k' cs hk' => ?_, fun k' e' m hk' => ?_, fun k' e' es' xs' v' hk' => ?_, fun k' hk' => ?_, fun b o hi' => ?_, fun k' m o hm hi' => ?_, fun k' v' e' es' m b o hm hb hi' => ?_, fun k' v' s m b o hm hb hi' => ?_, fun k1 k2 x1 x2 b hx1 hx2 hb1 hb2 => ?_⟩, ?_⟩
  · rw [setH_eq] at hk'
    split at hk'
    · cases hk'
    · rw [setT_eq, if_neg ‹_›]; exact h.non k' hk'
  · rw [setH_eq] at hk'
    split at hk'
    · cases hk'
    · rename_i hne
      obtain ⟨m, row1, ty1, e1, e2, e3, e4, e5⟩ := h.cells k' cs hk'
      exact ⟨m, row1, ty1, hTk _ _ hne e1, e2, e3, e4, fun j c r hc hr => (e5 j c r hc hr).ext hext⟩
  · rw [setH_eq] at hk'
    split at hk'
    · cases hk'
    · rename_i hne
      obtain ⟨v', es', xs', i', e1, e2⟩ := h.vec k' e' m hk'
      exact ⟨v', es', xs', i', hTk _ _ hne e1, e2⟩
  · rw [setH_eq] at hk'
    split at hk'
    · rename_i hkk; subst hkk
      cases hk'
      exact ⟨.slice none 0 0, [], inf, by rw [setT_eq, if_pos rfl], h2, rfl, World.ownsRow_nil w 0 e inf.size, fun x hx => (by cases hx), fun x hx => (by cases hx), fun q x j c hx => (by simp at hx)⟩
    · rename_i hne
      exact h.mvKeep hext.ile hk' (fun x hx => hTk _ _ hne hx) fun x b hx hb => rfl
  · rw [setH_eq] at hk'
    split at hk'
    · cases hk'
    · rw [setT_eq, if_neg ‹_›]; exact h.gone k' hk'
  · rcases hi' with hi' | ⟨hb, _⟩
    · exact h.lt b o hi'
    · exact (h4.lt b hb).2
  · rw [setT_eq] at hm
    split at hm
    · cases hm
    · rename_i hne
      rcases hi' with hi' | ⟨hb, _⟩
      · exact h.nblk k' m o hm hi'
      · exact hdiff k' _ m hne hm rfl hb
  · rw [setT_eq] at hm
    split at hm
    · cases hm
    · rename_i hne
      rcases hi' with hi' | ⟨hb', _⟩
      · exact h.nvec k' v' e' es' m b o hm hb hi'
      · exact absurd hb' (hdiff k' _ b hne hm hb)
  · rw [setT_eq] at hm
    split at hm
    · cases hm; cases hb
    · rename_i hne
      rcases hi' with hi' | ⟨hb', _⟩
      · exact h.nmv k' v' s m b o hm hb hi'
      · exact absurd hb' (hdiff k' _ b hne hm hb)
  · rw [setT_eq] at hx1 hx2
    split at hx1 <;> split at hx2
    · omega
    · cases hx1; cases hb1
    · cases hx2; cases hb2
    · exact h.dist k1 k2 x1 x2 b hx1 hx2 hb1 hb2
  · rcases h4.2 with ⟨rfl, hn⟩ | ⟨g, cap, cur, rfl, _, hg, hnc, hcm, hcs, htk⟩
    · have : xs = [] := List.eq_nil_of_length_eq_zero hn
      subst this
      exact .nil (fun _ => rfl) fun k hk => (by cases hk)
    · refine .list g 0 cap (fun j => ys.getD j undef) hnc (fun x hx => (h6 x hx).1) (fun x hx => (h6 x hx).2) (fun j hj => ?_) (fun q x j c hx hc => ?_) fun k hk => (by cases hk)
      · have hj' : j < ys.length := by rw [h4.1]; exact hj
        have hg : ys[j]? = some (ys.getD j undef) := by simp [List.getD, hj']
        have hc := h4.cells (g := g) rfl j _ hg
        rw [Addr.add_lit] at hc
        refine ⟨.inr ⟨rfl, by simpa using hj⟩, hc, h5 _ (List.mem_of_getElem? hg)⟩
      · obtain ⟨y, e1, e2⟩ := h7 q x j c hx hc
        have : ys.getD (q * inf.size + j) undef = y := by simp [List.getD, e1]
        rw [this]
        exact e2.mono hext.ile (TLe.refl _)

/-- A slice's cells, one behind the other. -/
theorem VR.row {es : Nat} {xs : List GV} {own : Option Nat} {r : Value} (h : VR w I T (.list es xs own) r) :
    ∃ base cap, r = .slice base xs.length cap ∧ (base = none → xs = [] ∧ cap = 0) ∧ ∃ news : List Value, news.length = xs.length * es ∧ (∀ u, u ∈ news → u.oneCell' = true) ∧
      (∀ a j u, base = some a → news[j]? = some u → w.cell? (a.add j) = some u) ∧ (∀ x, x ∈ xs → x.cells.length = es ∧ x.sane = true) ∧
      (∀ (i : Nat) (x : GV) (j : Nat) (c : GV), xs[i]? = some x → x.cells[j]? = some c → ∃ u, news[i * es + j]? = some u ∧ VR w I (fun _ => none) c u) := by
  cases h with
  | nil hb hown => exact ⟨_, _, rfl, fun h => ⟨rfl, hb h⟩, [], by simp, by simp, by simp, by simp, by simp⟩
  | list b o cap row hcap hes hsane hcell hrel hown =>
    refine ⟨_, cap, rfl, fun h => (by cases h), (List.range (xs.length * es)).map row, by simp, ?_, ?_, fun x hx => ⟨hes x hx, hsane x hx⟩, ?_⟩
    · intro u hu
      obtain ⟨j, hj, rfl⟩ := List.mem_map.1 hu
      exact (hcell j (by simpa using hj)).2.2
    · intro a j u ha hu
      cases ha
      simp only [List.getElem?_map, Option.map_eq_some_iff] at hu
      obtain ⟨j', hj', rfl⟩ := hu
      obtain ⟨h1, h2⟩ := List.getElem?_eq_some_iff.1 hj'
      simp at h1 h2; subst h2
      rw [Addr.add_lit]
      exact (hcell j h1).2.1
    · intro i x j c hx hc
      have hxl := hes x (List.mem_of_getElem? hx)
      have hi := (List.getElem?_eq_some_iff.1 hx).1
      have hj := (List.getElem?_eq_some_iff.1 hc).1
      have hlt : i * es + j < xs.length * es := by
        calc i * es + j < i * es + es := by omega
          _ = (i + 1) * es := by rw [Nat.add_mul, Nat.one_mul]
          _ ≤ xs.length * es := Nat.mul_le_mul_right _ hi
      exact ⟨row (i * es + j), by simp [hlt], hrel i x j c hx hc⟩

/-- A slice out of its cells. -/
theorem VR.ofRow {es : Nat} {xs : List GV} {own : Option Nat} {b cap : Nat} {news : List Value} (hcap : xs.length ≤ cap) (hl : news.length = xs.length * es) (h1 : ∀ u, u ∈ news → u.oneCell' = true)
    (hc : ∀ j u, news[j]? = some u → I b j ∧ w.cell? ⟨b, j, none⟩ = some u) (hs : ∀ x, x ∈ xs → x.cells.length = es ∧ x.sane = true)
    (hr : ∀ (i : Nat) (x : GV) (j : Nat) (c : GV), xs[i]? = some x → x.cells[j]? = some c → ∃ u, news[i * es + j]? = some u ∧ VR w I (fun _ => none) c u)
    (hown : ∀ k, own = some k → ∃ u e s n, T k = some (.vec u e s n) ∧ xs.length ≤ n ∧ (xs.length = n → u = .slice (some ⟨b, 0, none⟩) xs.length cap)) :
    VR w I T (.list es xs own) (.slice (some ⟨b, 0, none⟩) xs.length cap) := by
  refine .list b 0 cap (fun j => news.getD j undef) hcap (fun x hx => (hs x hx).1) (fun x hx => (hs x hx).2) (fun j hj => ?_) (fun i x j c hx hcc => ?_) hown
  · have hj' : j < news.length := by omega
    have e : news[j]? = some (news.getD j undef) := by simp [List.getD, hj']
    rw [Nat.zero_add]
    refine ⟨(hc j _ e).1, (hc j _ e).2, h1 _ (List.mem_of_getElem? e)⟩
  · obtain ⟨u, hu, hv⟩ := hr i x j c hx hcc
    have : news.getD (i * es + j) undef = u := by simp [List.getD, hu]
    rw [this]; exact hv

end
end Go.Gh
