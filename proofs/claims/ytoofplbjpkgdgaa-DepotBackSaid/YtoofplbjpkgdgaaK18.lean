/- Contracts of functions, bundle K18; proved for whatever the arguments' types allow, as each theorem says. -/
import Derived.Test.YtoofplbjpkgdgaaK15
import Derived.Test.YtoofplbjpkgdgaaK10
import Derived.Test.YtoofplbjpkgdgaaH20
import Derived.Test.YtoofplbjpkgdgaaF0

/- Chapter 30: what yards that may be are turned into: plain Lean.  -/
set_option linter.unusedVariables false
set_option linter.unusedSimpArgs false
namespace Go.Hl
open Go.Gh Go.Proofs

/-- All that is known of a depot that may be. -/
structure Depot.May (d : Depot) : Prop where
  book : d.Book.May
  chart : (chartE d.Ways).2.2 = 0
  ords : (rightOV d.Ways.length d.Orders).2 = 0
  trks : (rightV d.Ways.length d.Trucks).2 = 0
  meters : ∀ t, t ∈ d.Trucks → (truckMeter d.Book t.Past).2 = 0
theorem meterL_zero {b : Book} : ∀ (l : List Truck) (i : Int) (acc : List Meter), (∀ t, t ∈ l → (truckMeter b t.Past).2 = 0) → (meterL b i l acc).2 = (0, 0)
  | [], _, _, _ => rfl
  | x :: r, i, acc, h => by
    rw [meterL, if_neg (by simp [h x (List.mem_cons_self ..)])]
    exact meterL_zero r _ _ fun t ht => h t (List.mem_cons_of_mem _ ht)
theorem May_iff {d : Depot} : (depotE d).2.2 = 0 ↔ d.May := by
  constructor
  · intro h
    have hm := depotE_meters h
    unfold depotE at h
    split at h
    · rename_i h1; exact absurd h h1
    rename_i h1
    split at h
    · rename_i h2; exact absurd h h2
    rename_i h2
    split at h
    · rename_i h3; exact absurd h h3
    rename_i h3
    split at h
    · rename_i h4; exact absurd h h4
    rename_i h4
    refine ⟨?_, by simpa using h2, by simpa using h3, by simpa using h4, (meterL_ok d.Trucks 0 [] hm).2⟩
    unfold Book.code at h1
    by_cases hb : d.Book.May
    · exact hb
    · rw [if_neg hb] at h1; simp at h1
  · intro h
    unfold depotE
    have hc : d.Book.code = 0 := if_pos h.book
    have hm : (metersV d).2 = (0, 0) := meterL_zero d.Trucks 0 [] h.meters
    rw [if_neg (by simp [hc]), if_neg (by simp [h.chart]), if_neg (by simp [h.ords]), if_neg (by simp [h.trks]), if_neg (by rw [hm]; simp)]
theorem Depot.May.past {d : Depot} (h : d.May) {t : Truck} (ht : t ∈ d.Trucks) : pastErr t.Past = 0 := truckErr_past (rightV_all h.trks t ht)
theorem chain_short : ∀ (l : List Rec) (a : Int), Chain a l → l.length ≤ (kindsOf l).length
  | [], _, _ => Nat.zero_le _
  | r :: t, a, ⟨h1, h2, h3⟩ => by
    have h4 := recErr_inv h2
    have ih := chain_short t r.To h3
    have e : kindsOf (r :: t) = List.replicate (r.To - r.From).toNat r.Kind ++ kindsOf t := rfl
    rw [e, List.length_append, List.length_replicate, List.length_cons]
    omega
theorem past_short {l : List Rec} (h : pastErr l = 0) : (l.length : Int) ≤ 40320 := by
  have hc := past_chain h
  have := chain_short l 0 hc
  have := chain_len l 0 hc (by decide)
  omega
theorem Depot.May.short {d : Depot} (h : d.May) {t : Truck} (ht : t ∈ d.Trucks) : (t.Past.length : Int) ≤ 40320 := past_short (h.past ht)

/-! ### One truck's past goes on -/
theorem turnE_more {a : Int} {r : List Rec} : ∀ (l : List Truck) (j : Int) (k : Nat) (t : Truck), a = j + k → l[k]? = some t → turnE (moreF a r) j l = (moreV t (t.Past ++ r)).2
  | x :: q, j, 0, t, ha, ht => by
    simp only [List.getElem?_cons_zero, Option.some.injEq] at ht
    subst ht
    have hF : moreF a r j x = moreV x (x.Past ++ r) := if_neg (by omega)
    rw [turnE, hF]
    by_cases h : (moreV x (x.Past ++ r)).2 = 0
    · rw [if_neg (by simp [h]), h]
      have : ∀ (q : List Truck) (i : Int), a < i → turnE (moreF a r) i q = 0 := by
        intro q
        induction q with
        | nil => intro i _; rfl
        | cons y q ih =>
          intro i hi
          have : moreF a r i y = (y, 0) := if_pos (by omega)
          rw [turnE, this, if_neg (by simp)]
          exact ih (i + 1) (by omega)
      exact this q (j + 1) (by omega)
    · rw [if_pos h]
  | x :: q, j, k + 1, t, ha, ht => by
    simp only [List.getElem?_cons_succ] at ht
    have hF : moreF a r j x = (x, 0) := if_pos (by omega)
    rw [turnE, hF, if_neg (by simp)]
    exact turnE_more q (j + 1) k t (by omega) ht
theorem turnL_after {a : Int} {r : List Rec} : ∀ (l : List Truck) (j : Int), a < j → turnL (moreF a r) j l = l
  | [], _, _ => rfl
  | x :: q, j, h => by
    have hF : moreF a r j x = (x, 0) := if_pos (by omega)
    rw [turnL, hF, turnL_after q (j + 1) (by omega)]
theorem turnL_more {a : Int} {r : List Rec} : ∀ (l : List Truck) (j : Int) (k : Nat) (t : Truck), a = j + k → l[k]? = some t → turnL (moreF a r) j l = l.set k (moreV t (t.Past ++ r)).1
  | x :: q, j, 0, t, ha, ht => by
    simp only [List.getElem?_cons_zero, Option.some.injEq] at ht
    subst ht
    have hF : moreF a r j x = moreV x (x.Past ++ r) := if_neg (by omega)
    rw [turnL, hF, turnL_after q (j + 1) (by omega)]; rfl
  | x :: q, j, k + 1, t, ha, ht => by
    simp only [List.getElem?_cons_succ] at ht
    have hF : moreF a r j x = (x, 0) := if_pos (by omega)
    rw [turnL, hF, turnL_more q (j + 1) k t (by omega) ht]; rfl
theorem meterL_set {b : Book} {t' : Truck} : ∀ (l : List Truck) (i : Int) (acc : List Meter) (k : Nat), k < l.length → (∀ t, t ∈ l → (truckMeter b t.Past).2 = 0) → (meterL b i (l.set k t') acc).2.2 = (truckMeter b t'.Past).2
  | x :: r, i, acc, 0, _, h => by
    rw [List.set_cons_zero, meterL]
    by_cases h1 : (truckMeter b t'.Past).2 = 0
    · rw [if_neg (by simp [h1]), h1, meterL_zero r _ _ fun t ht => h t (List.mem_cons_of_mem _ ht)]
    · rw [if_pos h1]
  | x :: r, i, acc, k + 1, hk, h => by
    rw [List.set_cons_succ, meterL, if_neg (by simp [h x (List.mem_cons_self ..)])]
    exact meterL_set r _ _ k (by simpa using hk) fun t ht => h t (List.mem_cons_of_mem _ ht)
theorem more_set {d : Depot} {id : Int} {r : List Rec} {t : Truck} (h : 0 ≤ atT d id) (ht : d.Trucks[(atT d id).toNat]? = some t) : (moreD d id r) = ⟨d.Book, d.Ways, d.Orders, d.Trucks.set (atT d id).toNat (moreV t (t.Past ++ r)).1⟩ := by
  unfold moreD turnD
  rw [turnL_more d.Trucks 0 (atT d id).toNat t (by omega) ht]
theorem moreE_eq {d : Depot} {id : Int} {r : List Rec} {t : Truck} (hM : d.May) (h : 0 ≤ atT d id) (ht : d.Trucks[(atT d id).toNat]? = some t) :
    moreE d id r = if (moreV t (t.Past ++ r)).2 ≠ 0 then (moreV t (t.Past ++ r)).2 else (truckMeter d.Book (moreV t (t.Past ++ r)).1.Past).2 := by
  unfold moreE
  rw [if_neg (by omega), turnE_more d.Trucks 0 (atT d id).toNat t (by omega) ht]
  split
  · rfl
  · rw [more_set h ht]
    exact meterL_set d.Trucks 0 [] _ (List.getElem?_eq_some_iff.1 ht).1 hM.meters
theorem moreV_len (t : Truck) (l : List Rec) : ((moreV t l).1.Past.length : Int) ≤ l.length := by
  unfold moreV
  split
  · have := norm_le l; simp only; omega
  · simp [Truck.zero]
theorem more_Ok {d : Depot} (hd : d.Ok) (hM : d.May) (id : Int) {r : List Rec} (hr : (r.length : Int) ≤ 100000) : (moreD d id r).Ok := by
  refine ⟨hd.rows, hd.wl, hd.ol, hd.op, ?_, ?_⟩
  · show (((turnL (moreF (atT d id) r) 0 d.Trucks).length : Nat) : Int) ≤ _
    rw [turnL_len]; exact hd.tl
  · intro t ht
    obtain ⟨i, hi⟩ := List.getElem?_of_mem ht
    have hlt := (List.getElem?_eq_some_iff.1 hi).1
    change i < (turnL (moreF (atT d id) r) 0 d.Trucks).length at hlt
    rw [turnL_len] at hlt
    have e : d.Trucks[i]? = some d.Trucks[i] := List.getElem?_eq_getElem hlt
    have e2 := turnL_get (F := moreF (atT d id) r) d.Trucks 0 i _ e
    change (turnL (moreF (atT d id) r) 0 d.Trucks)[i]? = some t at hi
    rw [e2] at hi
    cases hi
    have hs := hM.short (List.mem_of_getElem? e)
    unfold moreF
    split
    · simp only; omega
    · have := moreV_len d.Trucks[i] (d.Trucks[i].Past ++ r)
      rw [List.length_append] at this
      push_cast at this
      omega

theorem May.all {d : Depot} (hM : d.May) : ∀ t, t ∈ d.Trucks → truckErr t d.Ways.length = 0 ∧ (truckMeter d.Book t.Past).2 = 0 := fun t ht => ⟨rightV_all hM.trks t ht, hM.meters t ht⟩
end Go.Hl

/- Chapter 30: the reference's turns.  -/
set_option linter.unusedVariables false
set_option linter.unusedSimpArgs false
namespace Go.Hl
open Go.Gh Go.Proofs

end Go.Hl

/- Chapter 30: the reference's turns: pasts that go on, rest.  -/
set_option linter.unusedVariables false
set_option linter.unusedSimpArgs false
namespace Go.Hl
open Go.Gh Go.Proofs

end Go.Hl
