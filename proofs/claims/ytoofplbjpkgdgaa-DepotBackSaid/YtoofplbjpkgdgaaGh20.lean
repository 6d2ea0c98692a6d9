/- Ghost values and walks, bundle Gh20; proved for whatever the arguments' types allow, as each theorem says. -/
import Derived.Test.YtoofplbjpkgdgaaGh18

/- A block that is handed back, and that nobody changes from then on. -/
set_option linter.unusedVariables false
set_option linter.unusedSimpArgs false
namespace Go.Gh

variable {P : Program}
theorem renL_get {σ : Nat → Option Nat} : ∀ {cs : List GV}, GV.renL σ cs = cs → ∀ (j : Nat) (c : GV), cs[j]? = some c → c.ren σ = c := by
  intro cs h j c hc
  rw [renL_eq] at h
  have : (cs.map (GV.ren σ))[j]? = cs[j]? := by rw [h]
  rw [List.getElem?_map, hc] at this
  simpa using this

/-- A callee's new block, handed back by its first result: whose cells nobody changes any more. -/
theorem ICalls.still {f : FuncId} {args cs rest : List GV} (hcs : GV.renL (fun _ => none) cs = cs) (hrest : GV.renL (fun _ => none) rest = rest)
    (h : ICalls P f args [] (Done (.tup (.ptr 0 0 :: rest)) [.cells cs])) : ICalls P f args [] (Done (.tup (.ref cs 0 :: rest)) []) := by
  unfold ICalls at *
  refine ⟨h.1, fun w I T vals h1 h2 h3 => (h.2 w I T vals h1 h2 h3).mono ?_⟩
  rintro e w' ⟨v, hs', r, I', T', ⟨rfl, rfl⟩, he, hx, hv, hr⟩
  have hT : ∀ k, T k = none := fun k => h1.non k (by simp [hpL])
  obtain ⟨b, row, ty, b1, b2, b3, b4, b5⟩ := hr.cells 0 cs (by simp [hpL, GB.un])
  have hnew : w.heap.size ≤ b := by
    rcases hx.tb 0 _ b b1 rfl with h | ⟨k', x', h, _⟩
    · exact h
    · rw [hT] at h; cases h
  have hblt : b < w'.heap.size := by
    obtain ⟨h, _⟩ := Array.getElem?_eq_some_iff.1 b2; exact h
  let I'' : Nat → Nat → Prop := fun b' o => I' b' o ∨ (b' = b ∧ o < cs.length)
  have hile : ILe w' I' w' I'' := fun b' o hi => ⟨.inl hi, rfl⟩
  have hcell : ∀ j, (hj : j < row.size) → w'.cell? ⟨b, j, none⟩ = some row[j] := by
    intro j hj
    simp [World.cell?, b2, Array.getElem?_eq_getElem hj]
  refine ⟨_, _, r, I'', fun _ => none, ⟨⟨rfl, rfl⟩⟩, he, ?_, ?_, ?_⟩
  · refine ⟨hx.os, hx.tape, hx.output, hx.size, fun b' o hi => ?_, ⟨fun k n hk => ?_, fun k u e s n hk => ?_, fun k u s v hk => ?_⟩, fun b' o hi => ?_, fun k x b' hk => ?_, hx.frame, hx.drawn⟩
    · have := hx.ile b' o hi; exact ⟨.inl this.1, this.2⟩
    · rw [hT] at hk; cases hk
    · rw [hT] at hk; cases hk
    · rw [hT] at hk; cases hk
    · rcases hi with hi | ⟨rfl, _⟩
      · exact hx.inew b' o hi
      · exact .inr (.inl hnew)
    · cases hk
  · cases hv with
    | @tup _ _ rr hl hh =>
      refine .tup hl fun i c r hc hrr => ?_
      cases i with
      | zero =>
        simp only [List.getElem?_cons_zero, Option.some.injEq] at hc
        subst hc
        have h0 := hh 0 (.ptr 0 0) r rfl hrr
        cases h0 with
        | @ptr _ _ n _ hTn =>
          rw [b1] at hTn; cases hTn
          have := VR.ref (w := w') (I := I'') (T := fun _ => none) (cs := cs) (off := 0) b 0 (fun j => row[j]?.getD (.bool false)) (fun j hj => ?_) (fun j c hc => ?_)
          · simpa using this
          · have hjr : j < row.size := by omega
            have e : row[j]? = some row[j] := Array.getElem?_eq_getElem hjr
            rw [Nat.zero_add]
            exact ⟨.inr ⟨rfl, hj⟩, by rw [hcell j hjr, e]; rfl, by rw [e]; exact b4 j _ e⟩
          · have hj : j < cs.length := (List.getElem?_eq_some_iff.1 hc).1
            have hjr : j < row.size := by omega
            have e : row[j]? = some row[j] := Array.getElem?_eq_getElem hjr
            have h5 := (b5 j c row[j] hc e).ren (T' := fun _ => none) (fun _ => none) (fun k k' y hk => by cases hk)
            rw [renL_get hcs j c hc] at h5
            rw [e]
            exact h5.mono hile (TLe.refl _)
      | succ i =>
        simp only [List.getElem?_cons_succ] at hc
        have h5 := (hh (i + 1) c r (by simpa using hc) hrr).ren (T' := fun _ => none) (fun _ => none) (fun k k' y hk => by cases hk)
        rw [renL_get hrest i c hc] at h5
        exact h5.mono hile (TLe.refl _)
  · refine ⟨fun k _ => rfl, fun k cs hk => (by simp [hpL] at hk), fun k e n hk => (by simp [hpL] at hk), fun k e es xs v hk => (by simp [hpL] at hk), fun k hk => rfl, fun b' o hi => ?_, fun k n o hk => (by cases hk), fun k u e es n b o hk => (by cases hk), fun k u s v b o hk => (by cases hk), fun k k' x x' b hk => (by cases hk)⟩
    rcases hi with hi | ⟨rfl, _⟩
    · exact hr.lt b' o hi
    · exact hblt

end Go.Gh
