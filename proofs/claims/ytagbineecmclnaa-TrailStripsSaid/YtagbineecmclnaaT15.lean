/- Contracts of functions, bundle T15; proved for whatever the arguments' types allow, as each theorem says. -/
import Derived.Test.YtagbineecmclnaaT13

/- Chapter 20: what follows tasks: plain Lean.  -/
set_option linter.unusedVariables false
set_option linter.unusedSimpArgs false
namespace Go.Hl
open Go.Gh Go.Proofs

/-! ### Minutes that break nothing, and do all -/
def NB (l : List Task) : List Int → Spot → Int → Prop
  | [], s, _ => s.Task = l.length
  | k :: t, s, m => (minuteS l s m k).2 = ⟨false, false, false, false⟩ ∧ NB l t (minuteS l s m k).1 (m + 1)
theorem sel_none {b : Bool} {f m : Int} (hf : -1 ≤ f) (hm : 0 ≤ m) (h : sel true b f m = -1) : f = -1 ∧ b = false := by
  unfold sel at h
  cases b
  · simp at h; exact ⟨h, rfl⟩
  · exfalso
    by_cases h2 : f < 0
    · simp [h2] at h; omega
    · simp [h2] at h; omega
theorem ov_none {l : List Task} : ∀ (ks : List Int) (s : Spot) (m : Int) (F : F4), 0 ≤ m → F.Lo → (ov20 l ks s m F).2 = ⟨-1, -1, -1, -1⟩ → ((ov20 l ks s m F).1.Task = l.length) → F = ⟨-1, -1, -1, -1⟩ ∧ NB l ks s m
  | [], s, m, F, _, _, h, h2 => ⟨h, h2⟩
  | k :: t, s, m, F, hm, hF, h, h2 => by
    rw [ov20] at h h2
    obtain ⟨h3, h4⟩ := ov_none t _ _ _ (by omega) (hF.upd _ hm) h h2
    obtain ⟨f1, f2, f3, f4⟩ := hF
    have e := F4.mk.inj h3
    obtain ⟨a1, a2⟩ := sel_none f1 hm e.1
    obtain ⟨b1, b2⟩ := sel_none f2 hm e.2.1
    obtain ⟨c1, c2⟩ := sel_none f3 hm e.2.2.1
    obtain ⟨d1, d2⟩ := sel_none f4 hm e.2.2.2
    refine ⟨?_, ?_, h4⟩
    · obtain ⟨x, y, z, w⟩ := F; simp only at *; subst a1 b1 c1 d1; rfl
    · generalize (minuteS l s m k).2 = b at *
      obtain ⟨x, y, z, w⟩ := b; simp only at *; subst a2 b2 c2 d2; rfl
theorem fl1_nil {c a : Int} (h : fl1 c a = []) : ¬ 0 ≤ a := by unfold fl1 at h; split at h <;> simp_all
theorem follows_nb {l : List Task} {s : Spot} {R : List Rec} (he : chk20 l s R = 0) (h : (refT l s R).2 = []) : NB l (kindsOf R) s (beginOf R) := by
  unfold refT at h
  rw [if_pos he] at h
  obtain ⟨hs, hr⟩ := chk_0 he
  obtain ⟨ht, hf⟩ := check_fits hs
  have hc := chain_first hr
  have hbeg : 0 ≤ beginOf R := by
    cases R with
    | nil => exact Int.le_refl _
    | cons r t => have := recErr_inv hc.2.1; show 0 ≤ r.From; omega
  obtain ⟨h1, h2⟩ := List.append_eq_nil_iff.1 h
  change fl1 10 _ ++ (fl1 11 _ ++ (fl1 12 _ ++ fl1 13 _)) = [] at h1
  obtain ⟨g1, g⟩ := List.append_eq_nil_iff.1 h1
  obtain ⟨g2, g⟩ := List.append_eq_nil_iff.1 g
  obtain ⟨g3, g4⟩ := List.append_eq_nil_iff.1 g
  have hlo : (ov20 l (kindsOf R) s (beginOf R) ⟨-1, -1, -1, -1⟩).2.Lo := by
    have : ∀ (ks : List Int) (s : Spot) (m : Int) (F : F4), 0 ≤ m → F.Lo → (ov20 l ks s m F).2.Lo := by
      intro ks
      induction ks with
      | nil => intro s m F _ h; exact h
      | cons k t ih => intro s m F hm h; rw [ov20]; exact ih _ _ _ (by omega) (h.upd _ hm)
    exact this _ _ _ _ hbeg lo_none
  have hfit : fitsS l (ov20 l (kindsOf R) s (beginOf R) ⟨-1, -1, -1, -1⟩).1 = true := by
    have : ∀ (ks : List Int) (s : Spot) (m : Int) (F : F4), fitsS l s = true → fitsS l (ov20 l ks s m F).1 = true := by
      intro ks
      induction ks with
      | nil => intro s m F h; exact h
      | cons k t ih => intro s m F h; rw [ov20]; exact ih _ _ _ (minuteS_left (tasksErr_ok ht).2 h m k).1
    exact this _ _ _ _ hf
  refine (ov_none _ s _ ⟨-1, -1, -1, -1⟩ hbeg lo_none ?_ ?_).2
  · have e1 := fl1_nil g1
    have e2 := fl1_nil g2
    have e3 := fl1_nil g3
    have e4 := fl1_nil g4
    obtain ⟨q1, q2, q3, q4⟩ := hlo
    generalize (ov20 l (kindsOf R) s (beginOf R) ⟨-1, -1, -1, -1⟩).2 = F at *
    obtain ⟨x, y, z, w⟩ := F
    simp only at *
    rw [show x = -1 by omega, show y = -1 by omega, show z = -1 by omega, show w = -1 by omega]
  · have := (fits_in hfit).1
    by_cases hlt : (ov20 l (kindsOf R) s (beginOf R) ⟨-1, -1, -1, -1⟩).1.Task < l.length
    · rw [if_pos hlt] at h2; cases h2
    · omega

/-! ### Driving and work alone: what is left of the tasks -/
def addZ (out : List Int) (x : Int) : List Int := if x = 0 then out else addN out x
/-- Of the tasks from one on, all. -/
def sumA : List Task → List Int → List Int
  | [], out => out
  | t :: r, out => sumA r (addZ (addZ out t.Drive) (0 - t.Serve))
/-- What is left from a spot on. -/
def sumN (l : List Task) (s : Spot) (out : List Int) : List Int :=
  if s.Task < l.length then sumA (l.drop (s.Task.toNat + 1)) (addZ (addZ out ((tAt l s.Task).Drive - s.Driven)) (0 - ((tAt l s.Task).Serve - s.Served))) else out
theorem sumA_drop {l : List Task} {i : Int} (h0 : 0 ≤ i) (h : i < l.length) (out : List Int) : sumA (l.drop i.toNat) out = sumN l ⟨i, 0, 0⟩ out := by
  obtain ⟨t, hx⟩ : ∃ t, l[i.toNat]? = some t := ⟨_, List.getElem?_eq_getElem (by omega)⟩
  unfold sumN
  rw [if_pos h, drop_of_get hx, sumA]
  simp only [tAt_get hx, Int.sub_zero]
theorem sumN_next {l : List Task} {s : Spot} (h0 : 0 ≤ s.Task) (h : s.Task < l.length ∧ s.Driven = (tAt l s.Task).Drive ∧ s.Served = (tAt l s.Task).Serve) (out : List Int) : sumN l s out = sumN l ⟨s.Task + 1, 0, 0⟩ out := by
  unfold sumN
  rw [if_pos h.1, h.2.1, h.2.2]
  have e : addZ (addZ out ((tAt l s.Task).Drive - (tAt l s.Task).Drive)) (0 - ((tAt l s.Task).Serve - (tAt l s.Task).Serve)) = out := by
    unfold addZ; rw [if_pos (by omega), if_pos (by omega)]
  rw [e]
  by_cases h2 : s.Task + 1 < l.length
  · have := sumA_drop (l := l) (i := s.Task + 1) (by omega) h2 out
    rw [show (s.Task + 1).toNat = s.Task.toNat + 1 by omega] at this
    rw [this]; rfl
  · rw [List.drop_eq_nil_of_le (by omega), if_neg h2]; rfl
theorem sumN_pastN {l : List Task} : ∀ (n : Nat) (s : Spot) (out : List Int), 0 ≤ s.Task → sumN l (pastN l n s) out = sumN l s out
  | 0, s, out, _ => rfl
  | n + 1, s, out, h0 => by
    unfold pastN
    split
    · rename_i h
      rw [sumN_pastN n ⟨s.Task + 1, 0, 0⟩ out (by show 0 ≤ s.Task + 1; omega), ← sumN_next h0 h]
    · rfl
theorem addZ_one {out : List Int} {n : Int} (h : 0 < n) : addZ (addN out 1) (n - 1) = addZ out n := by
  unfold addZ
  rw [if_neg (by omega : ¬ n = 0)]
  by_cases h1 : n - 1 = 0
  · rw [if_pos h1, show n = 1 by omega]
  · rw [if_neg h1, addN_add _ _ _ (by simp; omega) (by decide) h1]
    congr 1; omega
theorem addZ_neg {out : List Int} {n : Int} (h : 0 < n) : addZ (addN out (-1)) (0 - (n - 1)) = addZ out (0 - n) := by
  unfold addZ
  rw [if_neg (by omega : ¬ 0 - n = 0)]
  by_cases h1 : 0 - (n - 1) = 0
  · rw [if_pos h1, show 0 - n = -1 by omega]
  · rw [if_neg h1, addN_add _ _ _ (by simp; omega) (by decide) h1]
    congr 1; omega
theorem addZ_0 (out : List Int) : addZ out 0 = out := if_pos rfl

theorem b4_drive {l : List Task} {s : Spot} {m : Int} (h : (minuteS l s m 3).2 = ⟨false, false, false, false⟩) : s.Driven < (tAt l s.Task).Drive ∧ ¬ 0 < s.Served ∧ (minuteS l s m 3).1 = pastS l ⟨s.Task, s.Driven + 1, s.Served⟩ := by
  unfold minuteS at *
  rw [if_pos rfl] at *
  by_cases h1 : s.Driven < (tAt l s.Task).Drive
  · rw [if_pos h1] at h
    rw [if_pos h1]
    have := (B4.mk.inj h).2.2.2
    exact ⟨h1, of_decide_eq_false this, rfl⟩
  · rw [if_neg h1] at h
    have := (B4.mk.inj h).1
    cases this
theorem b4_work {l : List Task} {s : Spot} {m : Int} (hs : fitsS l s = true) (h : (minuteS l s m 2).2 = ⟨false, false, false, false⟩) : mayWork l s ∧ (s.Served = 0 → hasL (tAt l s.Task).Open m = true) := by
  have hw : mayWork l s := (min_b1 hs).1 (by rw [h])
  refine ⟨hw, fun h0 => ?_⟩
  have hw' := hw
  unfold mayWork at hw'
  unfold minuteS at h
  rw [if_neg (by decide), if_pos rfl, if_pos hw'] at h
  have := (B4.mk.inj h).2.2.1
  simpa [h0] using this
theorem b4_else {l : List Task} {s : Spot} {m k : Int} (hs : fitsS l s = true) (h3 : ¬ k = 3) (h2 : ¬ k = 2) (h : (minuteS l s m k).2 = ⟨false, false, false, false⟩) : ¬ 0 < s.Served ∧ (minuteS l s m k).1 = s := by
  unfold minuteS at *
  rw [if_neg h3, if_neg h2] at *
  exact ⟨of_decide_eq_false (B4.mk.inj h).2.2.2, fits_stop hs⟩

theorem drive_in {l : List Task} {s : Spot} (h0 : 0 ≤ s.Driven) (h : s.Driven < (tAt l s.Task).Drive) : s.Task < l.length := by
  by_cases h1 : s.Task < l.length
  · exact h1
  · rw [tAt_out (by omega)] at h; simp only at h; omega
theorem strip_nb {l : List Task} (hm : ∀ t, t ∈ l → t.May) : ∀ (ks : List Int) (s : Spot) (m : Int) (out : List Int), fitsS l s = true → NB l ks s m → stripM ks out = sumN l s out
  | [], s, m, out, hs, h => by
    have h' : s.Task = l.length := h
    unfold sumN; rw [if_neg (by omega)]; rfl
  | k :: t, s, m, out, hs, ⟨h1, h2⟩ => by
    have hin := fits_in hs
    show stripM t (minN out k) = _
    rw [strip_nb hm t _ (m + 1) (minN out k) (minuteS_left hm hs m k).1 h2]
    by_cases h3 : k = 3
    · subst h3
      obtain ⟨d1, d2, d3⟩ := b4_drive h1
      have hlt := drive_in hin.2.1.1 d1
      rw [d3, pastS, sumN_pastN _ ⟨s.Task, s.Driven + 1, s.Served⟩ _ hin.1.1, minN_3 rfl]
      unfold sumN
      rw [if_pos hlt, if_pos hlt]
      simp only
      rw [show (tAt l s.Task).Drive - (s.Driven + 1) = (tAt l s.Task).Drive - s.Driven - 1 by omega, addZ_one (by omega)]
    · by_cases h4 : k = 2
      · subst h4
        obtain ⟨w1, w2⟩ := b4_work hs h1
        have hlt := mayWork_in hin.2.2.1.1 w1
        rw [(min_work w1).1, pastS, sumN_pastN _ ⟨s.Task, s.Driven, s.Served + 1⟩ _ hin.1.1, minN_2 rfl]
        unfold sumN
        rw [if_pos hlt, if_pos hlt]
        simp only
        rw [w1.1, Int.sub_self, addZ_0, addZ_0, show (tAt l s.Task).Serve - (s.Served + 1) = (tAt l s.Task).Serve - s.Served - 1 by omega, addZ_neg (by have := w1.2; omega)]
      · rw [(b4_else hs h3 h4 h1).2, minN_0 h3 h4]

end Go.Hl

/- Chapter 20: the visits of what follows tasks: plain Lean.  -/
set_option linter.unusedVariables false
set_option linter.unusedSimpArgs false
namespace Go.Hl
open Go.Gh Go.Proofs

/-- How many tasks have a service. -/
def cnt : List Task → Int
  | [] => 0
  | t :: r => (if 0 < t.Serve then 1 else 0) + cnt r
def cntF (l : List Task) (i : Int) : Int := cnt (l.drop i.toNat)
theorem cntF_at {l : List Task} {i : Int} (h0 : 0 ≤ i) (h : i < l.length) : cntF l i = (if 0 < (tAt l i).Serve then 1 else 0) + cntF l (i + 1) := by
  obtain ⟨t, hx⟩ : ∃ t, l[i.toNat]? = some t := ⟨_, List.getElem?_eq_getElem (by omega)⟩
  unfold cntF
  rw [drop_of_get hx, cnt, tAt_get hx, show (i + 1).toNat = i.toNat + 1 by omega]
theorem past_facts {l : List Task} : ∀ (n : Nat) (s : Spot), 0 ≤ s.Task → s.Served = 0 → (pastN l n s).Served = 0 ∧ cntF l (pastN l n s).Task = cntF l s.Task ∧ s.Task ≤ (pastN l n s).Task
  | 0, s, _, h => ⟨h, rfl, Int.le_refl _⟩
  | n + 1, s, h0, h => by
    unfold pastN
    split
    · rename_i hc
      obtain ⟨g1, g2, g3⟩ := past_facts (l := l) n ⟨s.Task + 1, 0, 0⟩ (by show 0 ≤ s.Task + 1; omega) rfl
      refine ⟨g1, g2.trans ?_, by simp only at g3; omega⟩
      rw [cntF_at h0 hc.1, if_neg (by omega)]
      simp only; omega
    · exact ⟨h, rfl, Int.le_refl _⟩

/-- What holds of a visit. -/
structure VisOk (l : List Task) (v : Vis) : Prop where
  task : 0 ≤ v.Task ∧ v.Task < l.length
  len : v.To - v.From = (tAt l v.Task).Serve
  opn : hasL (tAt l v.Task).Open v.From = true
  pos : 0 ≤ v.From ∧ v.From ≤ v.To
/-- What is known of the service that is under way. -/
def Beg (l : List Task) (s : Spot) (m b : Int) : Prop := s.Served = 0 ∨ b = -1 ∨ (0 ≤ b ∧ b = m - s.Served ∧ hasL (tAt l s.Task).Open b = true)
def wantV (l : List Task) (s : Spot) (b : Int) : Int := if s.Served = 0 ∨ 0 ≤ b then cntF l s.Task else cntF l (s.Task + 1)
def lowV (s : Spot) (m b : Int) : Int := if s.Served = 0 ∨ b < 0 then m else b
structure VsOk (l : List Task) (s : Spot) (m b : Int) (V : List Vis) : Prop where
  num : (V.length : Int) = wantV l s b
  all : ∀ v, v ∈ V → VisOk l v ∧ s.Task ≤ v.Task ∧ lowV s m b ≤ v.From
  pw : V.Pairwise fun u v => u.Task < v.Task ∧ u.To ≤ v.From

theorem visits_nb {l : List Task} (hm : ∀ t, t ∈ l → t.May) : ∀ (ks : List Int) (s : Spot) (m b : Int) (out : List Vis), fitsS l s = true → NB l ks s m → 0 ≤ m → Beg l s m b →
    ∃ V, (rvN l ks s m (out, b)).1 = out ++ V ∧ VsOk l s m b V
  | [], s, m, b, out, hs, h, hm0, hu => by
    have h' : s.Task = l.length := h
    refine ⟨[], (List.append_nil _).symm, ?_, fun v hv => (by cases hv), List.Pairwise.nil⟩
    unfold wantV cntF
    rw [List.drop_eq_nil_of_le (by omega), List.drop_eq_nil_of_le (by omega)]
    simp [cnt]
  | k :: t, s, m, b, out, hs, ⟨h1, h2⟩, hm0, hu => by
    have hin := fits_in hs
    have hs' := (minuteS_left hm hs m k).1
    rw [rvN]
    by_cases h4 : k = 2
    · subst h4
      obtain ⟨w1, w2⟩ := b4_work hs h1
      have hlt := mayWork_in hin.2.2.1.1 w1
      have hsv : 0 < (tAt l s.Task).Serve := by have := w1.2; omega
      rw [(min_work w1).1] at hs' h2 ⊢
      rw [if_pos rfl, vm, if_pos w1]
      have hcnt := cntF_at (l := l) hin.1.1 hlt
      rw [if_pos hsv] at hcnt
      -- when the service began
      have hb : begP s m b = -1 ∧ ¬ s.Served = 0 ∧ b = -1 ∨ (0 ≤ begP s m b ∧ begP s m b = m - s.Served ∧ hasL (tAt l s.Task).Open (begP s m b) = true ∧ (s.Served = 0 ∨ 0 ≤ b) ∧ lowV s m b = begP s m b) := by
        by_cases h0 : s.Served = 0
        · right
          rw [beg_yes h0]
          exact ⟨hm0, by omega, w2 h0, .inl h0, if_pos (.inl h0)⟩
        · rw [beg_no h0]
          rcases hu with hu | hu | ⟨u1, u2, u3⟩
          · exact absurd hu h0
          · exact .inl ⟨hu, h0, hu⟩
          · exact .inr ⟨u1, u2, u3, .inr u1, if_neg (by omega)⟩
      by_cases he : s.Served + 1 = (tAt l s.Task).Serve
      · rw [if_pos he]
        have hp : pastS l ⟨s.Task, s.Driven, s.Served + 1⟩ = pastS l ⟨s.Task + 1, 0, 0⟩ := pastS_next (s := ⟨s.Task, s.Driven, s.Served + 1⟩) hin.1.1 ⟨hlt, w1.1, he⟩
        rw [hp] at hs' h2 ⊢
        obtain ⟨p1, p2, p3⟩ := past_facts (l := l) (l.length - (s.Task + 1).toNat) ⟨s.Task + 1, 0, 0⟩ (by show 0 ≤ s.Task + 1; omega) rfl
        change (pastS l ⟨s.Task + 1, 0, 0⟩).Served = 0 at p1
        change cntF l (pastS l ⟨s.Task + 1, 0, 0⟩).Task = cntF l (s.Task + 1) at p2
        change s.Task + 1 ≤ (pastS l ⟨s.Task + 1, 0, 0⟩).Task at p3
        obtain ⟨V, hV, hn, ha, hpw⟩ := visits_nb hm t _ (m + 1) (-1) (putV s.Task (begP s m b) (m + 1) out) hs' h2 (by omega) (.inl p1)
        rw [wantV, if_pos (.inl p1), p2] at hn
        have hlow : lowV (pastS l ⟨s.Task + 1, 0, 0⟩) (m + 1) (-1) = m + 1 := if_pos (.inl p1)
        rw [hlow] at ha
        rcases hb with ⟨b1, b2, b3⟩ | ⟨b1, b2, b3, b4, b5⟩
        · refine ⟨V, ?_, ?_, fun v hv => ?_, hpw⟩
          · rw [hV, b1, put_no (by decide)]
          · rw [hn, wantV, if_neg (by omega)]
          · obtain ⟨a1, a2, a3⟩ := ha v hv
            refine ⟨a1, by omega, ?_⟩
            unfold lowV; rw [if_pos (.inr (by omega))]; omega
        · refine ⟨⟨s.Task, begP s m b, m + 1⟩ :: V, ?_, ?_, ?_, ?_⟩
          · rw [hV, put_yes b1]; simp
          · rw [List.length_cons, wantV, if_pos b4, hcnt]; omega
          · intro v hv
            rcases List.mem_cons.1 hv with rfl | hv
            · exact ⟨⟨⟨hin.1.1, hlt⟩, by simp only; omega, b3, by simp only; omega⟩, Int.le_refl _, by rw [b5]; exact Int.le_refl _⟩
            · obtain ⟨a1, a2, a3⟩ := ha v hv
              exact ⟨a1, by omega, by rw [b5]; omega⟩
          · refine List.pairwise_cons.2 ⟨fun v hv => ?_, hpw⟩
            obtain ⟨a1, a2, a3⟩ := ha v hv
            exact ⟨by simp only; omega, a3⟩
      · rw [if_neg he]
        have hp : pastS l ⟨s.Task, s.Driven, s.Served + 1⟩ = ⟨s.Task, s.Driven, s.Served + 1⟩ := pastS_stop (by rintro ⟨_, _, e⟩; exact he e)
        rw [hp] at hs' h2 ⊢
        have hu' : Beg l ⟨s.Task, s.Driven, s.Served + 1⟩ (m + 1) (begP s m b) := by
          rcases hb with ⟨b1, _⟩ | ⟨b1, b2, b3, _⟩
          · exact .inr (.inl b1)
          · exact .inr (.inr ⟨b1, by simp only; omega, b3⟩)
        obtain ⟨V, hV, hn, ha, hpw⟩ := visits_nb hm t _ (m + 1) (begP s m b) out hs' h2 (by omega) hu'
        refine ⟨V, hV, ?_, fun v hv => ?_, hpw⟩
        · rw [hn]
          unfold wantV
          simp only
          rcases hb with ⟨b1, b2, b3⟩ | ⟨b1, b2, b3, b4, b5⟩
          · rw [if_neg (by omega), if_neg (by omega)]
          · rw [if_pos (.inr b1), if_pos b4]
        · obtain ⟨a1, a2, a3⟩ := ha v hv
          refine ⟨a1, a2, ?_⟩
          rcases hb with ⟨b1, b2, b3⟩ | ⟨b1, b2, b3, b4, b5⟩
          · have : lowV s m b = m := if_pos (.inr (by omega))
            have h9 : lowV ⟨s.Task, s.Driven, s.Served + 1⟩ (m + 1) (begP s m b) = m + 1 := if_pos (.inr (by omega))
            omega
          · have h9 : lowV ⟨s.Task, s.Driven, s.Served + 1⟩ (m + 1) (begP s m b) = begP s m b := if_neg (by simp only; omega)
            omega
    · rw [if_neg h4]
      have hz : s.Served = 0 ∧ (minuteS l s m k).1.Served = 0 ∧ cntF l (minuteS l s m k).1.Task = cntF l s.Task ∧ s.Task ≤ (minuteS l s m k).1.Task := by
        by_cases h3 : k = 3
        · subst h3
          obtain ⟨d1, d2, d3⟩ := b4_drive h1
          have h0 : s.Served = 0 := by omega
          rw [d3]
          exact ⟨h0, past_facts _ ⟨s.Task, s.Driven + 1, s.Served⟩ hin.1.1 h0⟩
        · obtain ⟨e1, e2⟩ := b4_else hs h3 h4 h1
          rw [e2]
          exact ⟨by omega, by omega, rfl, Int.le_refl _⟩
      obtain ⟨z1, z2, z3, z4⟩ := hz
      obtain ⟨V, hV, hn, ha, hpw⟩ := visits_nb hm t _ (m + 1) b out hs' h2 (by omega) (.inl z2)
      refine ⟨V, hV, ?_, fun v hv => ?_, hpw⟩
      · rw [hn, wantV, wantV, if_pos (.inl z2), if_pos (.inl z1), z3]
      · obtain ⟨a1, a2, a3⟩ := ha v hv
        refine ⟨a1, by omega, ?_⟩
        have e1 : lowV s m b = m := if_pos (.inl z1)
        have e2 : lowV (minuteS l s m k).1 (m + 1) b = m + 1 := if_pos (.inl z2)
        omega

end Go.Hl
