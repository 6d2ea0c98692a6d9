/- Ghost values and walks, bundle Gh15; proved for whatever the arguments' types allow, as each theorem says. -/
import Derived.Test.YtoofplbjpkgdgaaGh14
import Derived.Laws.StructEq

/- Structs of plain cells, compared. -/
set_option linter.unusedVariables false
set_option linter.unusedSimpArgs false
namespace Go.Gh

/-- The cells of two rows go with the fields, and with each other. -/
def flatOk (P : Program) : List Field → Nat → List Value → List Value → Bool
  | [], _, [], [] => true
  | f :: fs, off, .int k a :: xs, .int k' b :: ys => (f.name != "_") && (Nat.beq f.offset off && ((match decEq k k' with
      | .isTrue _ => true
      | .isFalse _ => false) && ((match P.underlying f.type with
      | some (.int _) => true
      | _ => false) && flatOk P fs (off + 1) xs ys)))
  | f :: fs, off, .bool a :: xs, .bool b :: ys => (f.name != "_") && (Nat.beq f.offset off && ((match P.underlying f.type with
      | some .bool => true
      | _ => false) && flatOk P fs (off + 1) xs ys))
  | _, _, _, _ => false

def flatEq : List Value → List Value → Bool
  | .int _ a :: xs, .int _ b :: ys => a == b && flatEq xs ys
  | .bool a :: xs, .bool b :: ys => a == b && flatEq xs ys
  | _, _ => true

def flatT (P : Program) (t : TypeId) (xs ys : List Value) : Bool := match P.underlying t with
  | some (.struct fs) => !(P.stoodInHeld t) && (!(P.eqGuardType P.depth t) && flatOk P fs.toList 0 xs ys)
  | _ => false

section
variable {P : Program} {w : World}

theorem part_plain {t : TypeId} {ag : Bool} (hag : tAgg P t = some false) {X : Array Value} {off : Nat} {v : Value} (h : X[off]? = some v) : (part t X off).run P w = .ok v w := by
  simp [part, tAgg_run hag, h]

theorem shift_row {X : Array Value} {off : Nat} {v : Value} {xs : List Value} (h : ∀ j, X[off + j]? = (v :: xs)[j]?) : ∀ j, X[off + 1 + j]? = xs[j]? := fun j => by
  have := h (j + 1)
  rw [show off + (j + 1) = off + 1 + j by omega] at this
  simpa using this

theorem eqFields_flat (d : Nat) (X Y : Array Value) : ∀ (fs : List Field) (off : Nat) (xs ys : List Value), (∀ j, X[off + j]? = xs[j]?) → (∀ j, Y[off + j]? = ys[j]?) → flatOk P fs off xs ys = true →
    (Op.eqFields (d + 1) X Y fs).run P w = .ok (flatEq xs ys) w := by
  intro fs
  induction fs with
  | nil =>
    intro off xs ys hX hY h
    cases xs <;> cases ys <;> simp [flatOk] at h
    simp [Op.eqFields, flatEq]
  | cons f fs ih =>
    intro off xs ys hX hY h
    unfold flatOk at h
    split at h
    · rename_i h1; cases h1
    · rename_i f' fs' off' k a xs k' b ys h1
      cases h1
      simp only [Bool.and_eq_true] at h
      obtain ⟨hn, ho, hk, hu, hr⟩ := h
      have hk : k = k' := by
        split at hk
        · assumption
        · cases hk
      subst hk
      have ho := Nat.eq_of_beq_eq_true ho
      have hu : ∃ k0, P.underlying f.type = some (.int k0) := by
        split at hu
        · exact ⟨_, by assumption⟩
        · cases hu
      obtain ⟨k0, hu⟩ := hu
      have hag : tAgg P f.type = some false := by simp [tAgg, hu]
      have hx : X[f.offset]? = some (.int k a) := by rw [ho]; simpa using hX 0
      have hy : Y[f.offset]? = some (.int k b) := by rw [ho]; simpa using hY 0
      have hn : f.name ≠ "_" := by simpa using hn
      have hrest := ih _ xs ys (shift_row hX) (shift_row hY) hr
      simp only [Op.eqFields, if_pos hn, Sem.run_bind, part_plain (ag := false) hag hx, part_plain (ag := false) hag hy, Result.andThen_ok, run_equalIn_int w d f.type k k0 a b hu, Sem.run_ite, hrest, flatEq]
      cases (a == b) <;> simp
    · rename_i f' fs' off' a xs b ys h1
      cases h1
      simp only [Bool.and_eq_true] at h
      obtain ⟨hn, ho, hu, hr⟩ := h
      have ho := Nat.eq_of_beq_eq_true ho
      have hu : P.underlying f.type = some .bool := by
        split at hu
        · assumption
        · cases hu
      have hag : tAgg P f.type = some false := by simp [tAgg, hu]
      have hx : X[f.offset]? = some (.bool a) := by rw [ho]; simpa using hX 0
      have hy : Y[f.offset]? = some (.bool b) := by rw [ho]; simpa using hY 0
      have hn : f.name ≠ "_" := by simpa using hn
      have hrest := ih _ xs ys (shift_row hX) (shift_row hY) hr
      simp only [Op.eqFields, if_pos hn, Sem.run_bind, part_plain (ag := false) hag hx, part_plain (ag := false) hag hy, Result.andThen_ok, run_equalIn_bool' w d f.type a b hu, Sem.run_ite, hrest, flatEq]
      cases (a == b) <;> simp
    · cases h

theorem EqRun.flat {t : TypeId} {xs ys : List Value} {b : Bool} (h : flatT P t xs ys = true) (hb : flatEq xs ys = b) : EqRun P t xs ys b := by
  unfold flatT at h
  split at h
  · rename_i fs hu
    simp only [Bool.and_eq_true, Bool.not_eq_true'] at h
    obtain ⟨h1, h2, h3⟩ := h
    refine ⟨h2, fun w => ?_⟩
    have hf : P.fieldsOf t = fs := by unfold Program.fieldsOf; rw [hu]
    have e : (Op.equal t (.agg xs.toArray) (.agg ys.toArray)).run P w = (Op.equalIn (9999 + 1) t (.agg xs.toArray) (.agg ys.toArray)).run P w := by
      simp [Op.equal, Op.maxDepth]
    rw [e, run_equalIn_struct w 9999 t _ _ (by rw [hf]; exact hu) h1, hf, eqFields_flat 9998 _ _ fs.toList 0 xs ys (fun j => by simp) (fun j => by simp) h3, hb]
  · cases h

end
end Go.Gh
