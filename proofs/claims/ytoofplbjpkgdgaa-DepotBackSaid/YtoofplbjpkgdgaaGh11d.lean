/- Ghost values and walks, bundle Gh11d; proved for whatever the arguments' types allow, as each theorem says. -/
import Derived.Test.YtoofplbjpkgdgaaGh11c

/- A region that draws its order, out of its walk in the order of the text. -/
set_option linter.unusedVariables false
set_option linter.unusedSimpArgs false
namespace Go.Gh

section
variable {P : Program} {N : Nat} {ms : List Nat} {wl : List (Nat × Nat)}

theorem wpAny_of_gAny {ops : Array Oper} {w0 : World} {I0 : Nat → Nat → Prop} {T0 : Tab} {K : GS → Prop} {Q : Exit → Act → World → Prop} (hQ : ∀ a w, QR P N w0 I0 T0 K a w → Q .normal a w) :
    ∀ (fuel : Nat) (listed : Array Bool) (w : World) (I : Nat → Nat → Prop) (T : Tab) (s : GS) (a : Act), Rel P N w I T s a → Ext w0 I0 T0 w I T → gAny P N ops ms wl K fuel listed s → wpAny P .any ops Q fuel listed a w
  | 0, listed, w, I, T, s, a, h, hx, hg => ⟨hg.1, hQ a w ⟨I, T, s, h, hx, hg.2⟩⟩
  | fuel + 1, listed, w, I, T, s, a, h, hx, hg => by
    refine ⟨fun he => hQ a w ⟨I, T, s, h, hx, hg.1 he⟩, fun i hi => ?_⟩
    obtain ⟨o, s', ho, hs, hn⟩ := hg.2 i hi
    unfold wpOp
    rw [ho]
    simp only
    obtain ⟨hd, ⟨hw, x, hp', h1, rfl⟩ | ⟨hw, rfl⟩⟩ := hs
    · rw [wantedG_ok h hw, if_pos rfl]
      refine .inl ?_
      unfold gEff at h1
      split at h1
      · rename_i g args hc
        obtain ⟨hk, v, hs', h2, h3, h4, rfl⟩ := h1
        obtain ⟨vals, e1, e2, e3⟩ := callOf_ok h hc
        obtain ⟨r1, r2⟩ := reach_ok s.hp 100 (keysL args) [] (by simp) (fun k hk => by cases hk)
        obtain ⟨c1, c2⟩ := call_ok (R := fun v' hs'' nk => v' = v ∧ hs'' = hs' ∧ nk = []) h.heap _ r1 r2 e2 e3 (h2.mono fun v' hs'' ⟨q1, q2⟩ => ⟨[], ⟨by rw [q2, List.append_nil]; exact h3, List.nodup_nil, fun k hk => by cases hk⟩, q1, q2, rfl⟩)
        unfold Oper.wp
        rw [e1, c1]
        refine c2.mono ?_
        rintro e w' ⟨v', hs'', nk, r, I', T', ⟨rfl, rfl, rfl⟩, rfl, hx', hv, hh⟩
        rw [List.append_nil] at hv hh
        rw [h4] at hv
        exact wpAny_of_gAny hQ fuel _ w' I' T' _ _ (h.put hd hx' hv hh) (hx.trans hx') hn
      · exact h1.elim
      · obtain ⟨_, u, h2, rfl⟩ := h1
        obtain ⟨r, w', I', T', h3, h4, h5, h6⟩ := opOutD_ok h.heap h.env h2
        exact upon_of h3 (wpAny_of_gAny hQ fuel _ w' I' T' _ _ (h.put hd h4 h5 h6) (hx.trans h4) hn)
    · rw [wantedG_ok h hw]
      simp only [Bool.false_eq_true, if_false]
      exact wpAny_of_gAny hQ fuel _ w I T _ _ (h.put hd (.refl _ _ _) VR.skip h.heap) hx hn

theorem goDraw_ok {id : Nat} {ops : Array Oper} {w0 w : World} {I0 I : Nat → Nat → Prop} {T0 T : Tab} {s : GS} {a : Act} {K : GS → Prop} {Q : Exit → Act → World → Prop} (hm : P.follows .mixedOrders = true)
    (hQ : ∀ a w, QR P N w0 I0 T0 K a w → Q .normal a w) (h : Rel P N w I T s a) (hx : Ext w0 I0 T0 w I T) (hg : goDraw P N ops.toList 0 ops.toList s K) : (Code.region id ops true).wp P Q a w := by
  obtain ⟨hB, hg⟩ := hg
  simp only [drawOk, Bool.and_eq_true] at hB
  refine wp_region_any hm ?_
  have h2 : gAny P N ops (masks ops.toList) (wOf ops.toList s.env 0 ops.toList) K ops.toList.length (Array.replicate ops.size false) s :=
    gAny_lex hB.1 ops.toList 0 _ s (fun j => by simp) (by simp) (by simp) (fun j hj => by simp [hj]) hg
  have h3 := wpAny_of_gAny (ms := masks ops.toList) hQ ops.toList.length (Array.replicate ops.size false) { w with drawn := w.drawn + 1 } I T s a
    ⟨h.size, h.nodef, fun t => (h.env t).ext (Ext.drew w I T _ (Nat.le_succ _)), h.heap.drew _⟩ (hx.trans (Ext.drew w I T _ (Nat.le_succ _))) h2
  simpa using h3

end
end Go.Gh
