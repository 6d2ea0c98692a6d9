/- Ghost values and walks, bundle Gh17; proved for whatever the arguments' types allow, as each theorem says. -/
import Derived.Test.YtoofplbjpkgdgaaGh16
import Derived.ChangeKeysEq

/- Arrays of plain cells, compared. -/
set_option linter.unusedVariables false
set_option linter.unusedSimpArgs false
namespace Go.Gh

def sameInts : List Value → List Value → Bool
  | [], [] => true
  | .int k _ :: xs, .int k' _ :: ys => (match decEq k k' with
      | .isTrue _ => true
      | .isFalse _ => false) && sameInts xs ys
  | _, _ => false

def arrT (P : Program) (t : TypeId) (xs ys : List Value) : Bool := match P.underlying t with
  | some (.array n e) => (match P.underlying e with
      | some (.int _) => true
      | _ => false) && ((match P.info? e with
      | some _ => true
      | none => false) && (Nat.beq (P.cellsOf e) 1 && (Nat.beq n xs.length && (sameInts xs ys && !(P.eqGuardType P.depth t)))))
  | _ => false

section
variable {P : Program} {w : World}

theorem eqItems_flat (d : Nat) {e : TypeId} {k0 : IntKind} (hu : P.underlying e = some (.int k0)) (X Y : Array Value) : ∀ (xs ys : List Value) (off : Nat), (∀ j, X[off + j]? = xs[j]?) → (∀ j, Y[off + j]? = ys[j]?) → sameInts xs ys = true →
    (Op.eqItems (d + 1) e 1 X Y (List.range' off xs.length)).run P w = .ok (flatEq xs ys) w := by
  intro xs
  induction xs with
  | nil =>
    intro ys off hX hY h
    cases ys <;> simp [sameInts] at h
    simp [Op.eqItems, flatEq]
  | cons x xs ih =>
    intro ys off hX hY h
    unfold sameInts at h
    split at h
    · rename_i h1; exact absurd h1 (by simp)
    · rename_i k a xs' k' b ys' h1
      cases h1
      simp only [Bool.and_eq_true] at h
      obtain ⟨hk, hr⟩ := h
      have hk : k = k' := by
        split at hk
        · assumption
        · cases hk
      subst hk
      have hag : tAgg P e = some false := by simp [tAgg, hu]
      have hx : X[off * 1]? = some (.int k a) := by simpa using hX 0
      have hy : Y[off * 1]? = some (.int k b) := by simpa using hY 0
      have hrest := ih _ (off + 1) (shift_row hX) (shift_row hY) hr
      simp only [List.length_cons, List.range'_succ, Op.eqItems, Sem.run_bind, part_plain (ag := false) hag hx, part_plain (ag := false) hag hy, Result.andThen_ok, run_equalIn_int w d e k k0 a b hu, Sem.run_ite, hrest, flatEq]
      cases (a == b) <;> simp
    · cases h

theorem EqRun.flatArr {t : TypeId} {xs ys : List Value} {b : Bool} (h : arrT P t xs ys = true) (hb : flatEq xs ys = b) : EqRun P t xs ys b := by
  unfold arrT at h
  split at h
  · rename_i n e hu
    simp only [Bool.and_eq_true, Bool.not_eq_true'] at h
    obtain ⟨h1, h2, h3, h4, h5, h6⟩ := h
    refine ⟨h6, fun w => ?_⟩
    obtain ⟨k0, he⟩ : ∃ k0, P.underlying e = some (.int k0) := by
      split at h1
      · exact ⟨_, by assumption⟩
      · cases h1
    obtain ⟨i, hi⟩ : ∃ i, P.info? e = some i := by
      split at h2
      · exact ⟨_, by assumption⟩
      · cases h2
    have e1 := Nat.eq_of_beq_eq_true h3
    have e2 := Nat.eq_of_beq_eq_true h4
    have e : (Op.equal t (.agg xs.toArray) (.agg ys.toArray)).run P w = (Op.equalIn (9999 + 1) t (.agg xs.toArray) (.agg ys.toArray)).run P w := by
      simp [Op.equal, Op.maxDepth]
    rw [e, run_equalIn_array w 9999 _ _ hu hi, e1, e2, List.range_eq_range', eqItems_flat 9998 he _ _ xs ys 0 (fun j => by simp) (fun j => by simp) h5, hb]
  · cases h

def plainEqT (P : Program) (t : TypeId) (xs ys : List Value) : Bool := flatT P t xs ys || arrT P t xs ys
theorem EqRun.plain {t : TypeId} {xs ys : List Value} {b : Bool} (h : plainEqT P t xs ys = true) (hb : flatEq xs ys = b) : EqRun P t xs ys b := by
  unfold plainEqT at h
  rcases (Bool.or_eq_true _ _).mp h with h | h
  · exact EqRun.flat h hb
  · exact EqRun.flatArr h hb

end
end Go.Gh
