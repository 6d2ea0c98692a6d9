/- Ghost values and walks, bundle Gh16; proved for whatever the arguments' types allow, as each theorem says. -/
import Derived.Test.YtoofplbjpkgdgaaGh15

/- Loops and joins by what turns in them alone: the other slots and blocks stay as they were. -/
set_option linter.unusedVariables false
set_option linter.unusedSimpArgs false
namespace Go.Gh

def lookE : List (Nat × GV) → Nat → GV → GV
  | [], _, d => d
  | (t, v) :: r, u, d => bif Nat.beq t u then v else lookE r u d
def overE (X : List (Nat × GV)) : List (Nat × GV) → List (Nat × GV)
  | [] => []
  | (t, v) :: r => (t, lookE X t v) :: overE X r
def lookH : List (Nat × GB) → Nat → Option GB → Option GB
  | [], _, d => d
  | (t, v) :: r, u, d => bif Nat.beq t u then some v else lookH r u d
def overH (Y : List (Nat × GB)) : List (Nat × Option GB) → List (Nat × Option GB)
  | [] => []
  | (t, v) :: r => (t, lookH Y t v) :: overH Y r
/-- The state that was there, but for what is told. -/
def ovS (X : List (Nat × GV)) (Y : List (Nat × GB)) (E : List (Nat × GV)) (H : List (Nat × Option GB)) : GS := ⟨envOf (overE X E), hpOf (overH Y H)⟩

def keepEL (L B : List Nat) (s : GS) : List (Nat × GV) := L.map fun t => (t, (s.env t).ren (keepS B))
def keepHL (B : List Nat) (s : GS) : List (Nat × Option GB) := B.map fun k => (k, match s.hp k with
    | some b => some (b.ren (keepS B))
    | none => none)
theorem keepG_eq (L B : List Nat) (s : GS) : keepG L B s = ⟨envOf (keepEL L B s), hpOf (keepHL B s)⟩ := rfl

/-- A round is over: the state is once more one of those. -/
structure Again {σ : Type} (X : σ → List (Nat × GV)) (Y : σ → List (Nat × GB)) (E : List (Nat × GV)) (H : List (Nat × Option GB)) (Inv : σ → Prop) (meas : σ → Nat) (x0 : σ) (S : GS) : Prop where
  ex : ∃ x, S = ovS (X x) (Y x) E H ∧ Inv x ∧ meas x < meas x0

structure Start {σ : Type} (P : Program) (N m : Nat) (pl : Nat → Option (List Nat × List Nat)) (c : Code) (L B : List Nat) (X : σ → List (Nat × GV)) (Y : σ → List (Nat × GB)) (Inv : σ → Prop) (meas : σ → Nat) (x0 : σ) (Q : GQ) (E : List (Nat × GV)) (H : List (Nat × Option GB)) : Prop where
  e0 : (⟨envOf E, hpOf H⟩ : GS) = ovS (X x0) (Y x0) E H
  i0 : Inv x0
  step : ∀ x, Inv x → iwp P N m pl c (ovS (X x) (Y x) E H) (seqQ (fun s' _ => keepW m (some (L, B)) s' (Again X Y E H Inv meas x)) Q)

theorem ILoop.ov {σ : Type} (tag : Nat) {P : Program} {N m : Nat} {pl : Nat → Option (List Nat × List Nat)} {c : Code} {L B : List Nat} {Q : GQ} {s : GS} (X : σ → List (Nat × GV)) (Y : σ → List (Nat × GB)) (Inv : σ → Prop) (meas : σ → Nat) (x0 : σ)
    (hB : allBelow m B = true)
    (h : forceE (keepEL (tag :: L) B s) fun E => forceH (keepHL B s) fun H => Start P N m pl c (tag :: L) B X Y Inv meas x0 Q E H) : ILoop P N pl c m (iwp P N m pl c) (some (tag :: L, B)) Q s := by
  rw [forceE_eq, forceH_eq] at h
  obtain ⟨e0, i0, step⟩ := h
  refine ILoop.inv (fun n S => ∃ x, S = ovS (X x) (Y x) (keepEL (tag :: L) B s) (keepHL B s) ∧ Inv x ∧ meas x = n) (meas x0) hB ⟨x0, e0, i0, rfl⟩ ?_
  rintro n S ⟨x, rfl, hx, rfl⟩
  refine iwp_mono c _ _ _ ?_ (step x hx)
  intro e s' he
  cases e with
  | normal =>
    simp only [seqQ] at he
    rw [keepW_eq] at he
    simp only [hB, cond_true] at he
    obtain ⟨x', h1, h2, h3⟩ := he.ex
    exact ⟨meas x', h3, x', h1, h2, rfl⟩
  | exit i => exact he
  | goto l => exact he
  | ret => exact he
  | panic ch => exact he
  | outgrown => exact he

/-- The state that is met is one of those. -/
structure Meets {σ : Type} (X : σ → List (Nat × GV)) (Y : σ → List (Nat × GB)) (E : List (Nat × GV)) (H : List (Nat × Option GB)) (Inv : σ → Prop) (S : GS) : Prop where
  ex : ∃ x, S = ovS (X x) (Y x) E H ∧ Inv x
def metQ {σ : Type} (m : Nat) (L B : List Nat) (X : σ → List (Nat × GV)) (Y : σ → List (Nat × GB)) (E : List (Nat × GV)) (H : List (Nat × Option GB)) (Inv : σ → Prop) (Q : GQ) : GQ := fun e s' => match e with
  | .normal => keepW m (some (L, B)) s' (Meets X Y E H Inv)
  | e => Q e s'
structure Meeting {σ : Type} (m : Nat) (L B : List Nat) (F : GQ → Prop) (G : GS → Prop) (X : σ → List (Nat × GV)) (Y : σ → List (Nat × GB)) (Inv : σ → Prop) (Q : GQ) (E : List (Nat × GV)) (H : List (Nat × Option GB)) : Prop where
  come : F (metQ m L B X Y E H Inv Q)
  go : ∀ x, Inv x → G (ovS (X x) (Y x) E H)

theorem Join.ov {σ : Type} (tag : Nat) {P : Program} {N m : Nat} {pl : Nat → Option (List Nat × List Nat)} {c : Code} {L B : List Nat} {s s0 : GS} {G : GS → Prop} {Q : GQ} (X : σ → List (Nat × GV)) (Y : σ → List (Nat × GB)) (Inv : σ → Prop)
    (h : forceE (keepEL (tag :: L) B s) fun E => forceH (keepHL B s) fun H => Meeting m (tag :: L) B (iwp P N m pl c s0) G X Y Inv Q E H) : Join P N pl c m (tag :: L) B s (iwp P N m pl c s0) G Q := by
  rw [forceE_eq, forceH_eq] at h
  obtain ⟨come, go⟩ := h
  refine Join.by (fun S => ∃ x, S = ovS (X x) (Y x) (keepEL (tag :: L) B s) (keepHL B s) ∧ Inv x) (iwp_mono c _ _ _ ?_ come) ?_
  · intro e s' he
    cases e with
    | normal =>
      simp only [metQ, joinQ] at *
      exact keepW_mono (fun S h => ⟨h.ex⟩) he
    | exit i => exact he
    | goto l => exact he
    | ret => exact he
    | panic ch => exact he
    | outgrown => exact he
  · rintro S ⟨x, rfl, hx⟩
    exact go x hx

/-! ### Plain hypotheses -/
theorem Br.dec {c : Prop} [Decidable c] {p q : Prop} (h1 : c → p) (h2 : ¬ c → q) : Br (decide c) p q := ⟨fun e => h1 (of_decide_eq_true e), fun e => h2 (of_decide_eq_false e)⟩
theorem Br.beqI {a b : Int} {p q : Prop} (h1 : a = b → p) (h2 : a ≠ b → q) : Br (a == b) p q := ⟨fun e => h1 (by simpa using e), fun e => h2 (by simpa using e)⟩
theorem Br.bneI {a b : Int} {p q : Prop} (h1 : a ≠ b → p) (h2 : a = b → q) : Br (a != b) p q := ⟨fun e => h1 (by simpa using e), fun e => h2 (by simpa using e)⟩
theorem Br.not {b : Bool} {p q : Prop} (h : Br b q p) : Br (!b) p q := ⟨fun e => h.f (by simpa using e), fun e => h.t (by simpa using e)⟩
theorem Elem.map {α : Type} {enc : α → GV} {xs : List α} {i : Int} {p : GV → Prop} (h0 : 0 ≤ i) (h1 : i < xs.length) (hp : ∀ x, xs[i.toNat]? = some x → p (enc x)) : Elem (xs.map enc) i p := by
  have hi : i.toNat < xs.length := by omega
  have e : xs[i.toNat]? = some xs[i.toNat] := by simp [hi]
  exact ⟨enc xs[i.toNat], ⟨h0, by simp [hi]⟩, hp _ e⟩
theorem Elem.mapN {α : Type} {enc : α → GV} {xs : List α} {i : Nat} {p : GV → Prop} (h1 : i < xs.length) (hp : ∀ x, xs[i]? = some x → p (enc x)) : Elem (xs.map enc) (i : Int) p :=
  Elem.map (by omega) (by omega) fun x hx => hp x (by simpa using hx)
theorem Elem.mapK {α : Type} {enc : α → GV} {xs : List α} {i : Nat} {x : α} {p : GV → Prop} (h : xs[i]? = some x) (hp : p (enc x)) : Elem (xs.map enc) (i : Int) p :=
  ⟨enc x, ⟨by omega, by simp [h]⟩, hp⟩
theorem Elem.mapI {α : Type} {enc : α → GV} {xs : List α} {i : Int} {x : α} {p : GV → Prop} (h0 : 0 ≤ i) (h : xs[i.toNat]? = some x) (hp : p (enc x)) : Elem (xs.map enc) i p :=
  ⟨enc x, ⟨h0, by simp [h]⟩, hp⟩
theorem Elem.dropM {α : Type} {enc : α → GV} {xs : List α} {n : Nat} {i : Int} {p : GV → Prop} (h : Elem ((xs.drop n).map enc) i p) : Elem ((xs.map enc).drop n) i p := by rw [← List.map_drop]; exact h
theorem Len.dropM {α : Type} {enc : α → GV} {xs : List α} {n : Nat} {p : Int → Prop} (h : Len ((xs.drop n).map enc) p) : Len ((xs.map enc).drop n) p := by rw [← List.map_drop]; exact h
theorem Elem.takeM {α : Type} {enc : α → GV} {xs : List α} {n : Nat} {i : Int} {p : GV → Prop} (h : Elem ((xs.take n).map enc) i p) : Elem ((xs.map enc).take n) i p := by rw [← List.map_take]; exact h
theorem Len.takeM {α : Type} {enc : α → GV} {xs : List α} {n : Nat} {p : Int → Prop} (h : Len ((xs.take n).map enc) p) : Len ((xs.map enc).take n) p := by rw [← List.map_take]; exact h
theorem app_need {a n c B : Nat} (h1 : a = n) (hB : B ≤ 4096) (h2 : a + c ≤ 10000000000) : a = n ∧ (a + c) * B ≤ 140737488355328 ∧ a + c ≤ maxLen := by
  refine ⟨h1, Nat.le_trans (Nat.mul_le_mul h2 hB) (by omega), by simp [maxLen]; omega⟩
theorem app_need0 {c B : Nat} (hB : B ≤ 4096) (h2 : c ≤ 10000000000) : c * B ≤ 140737488355328 ∧ c ≤ maxLen := by
  refine ⟨Nat.le_trans (Nat.mul_le_mul h2 hB) (by omega), by simp [maxLen]; omega⟩
theorem app_needM {v w a c B : Nat} (h1 : v = w) (hB : B ≤ 4096) (h2 : a + c ≤ 10000000000) : v = w ∧ (a + c) * B ≤ 140737488355328 ∧ a + c ≤ maxLen := by
  refine ⟨h1, Nat.le_trans (Nat.mul_le_mul h2 hB) (by omega), by simp [maxLen]; omega⟩
theorem zeros_need {m : Int} {B : Nat} (h0 : 0 < m) (hB : B ≤ 4096) (h2 : m ≤ 10000000000) : 0 < m ∧ m * (B : Int) ≤ 140737488355328 ∧ m ≤ 9223372036854775807 := by
  refine ⟨h0, ?_, by omega⟩
  have h1 : m * (B : Int) ≤ 10000000000 * 4096 := Int.mul_le_mul h2 (by omega) (by omega) (by omega)
  omega
theorem Len.map {α : Type} {enc : α → GV} {xs : List α} {p : Int → Prop} (hp : p xs.length) : Len (xs.map enc) p := ⟨_, by simp, hp⟩

end Go.Gh
