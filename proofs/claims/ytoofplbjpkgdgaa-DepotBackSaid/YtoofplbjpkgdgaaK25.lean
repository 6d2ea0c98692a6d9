/- Contracts of functions, bundle K25; proved for whatever the arguments' types allow, as each theorem says. -/
import Derived.Test.YtoofplbjpkgdgaaK18
import Derived.Test.YtoofplbjpkgdgaaK22p

/- Chapter 30: what is made of a depot that may be may be: plain Lean.  -/
set_option linter.unusedVariables false
set_option linter.unusedSimpArgs false
namespace Go.Hl
open Go.Gh Go.Proofs

/-! ### Orders that rise -/
def IncO : Int → List Order → Prop
  | _, [] => True
  | last, o :: r => last < o.ID ∧ IncO o.ID r
theorem idx_none {α : Type} {p : α → Bool} : ∀ (l : List α) (i : Int), 0 ≤ i → idxFrom p i l < 0 → ∀ x, x ∈ l → p x = false
  | y :: r, i, hi, h, x, hx => by
    rw [idxFrom] at h
    split at h
    · omega
    · rename_i hn
      rcases List.mem_cons.1 hx with e | e
      · rw [e]; simpa using hn
      · exact idx_none r (i + 1) (by omega) h x e
/-! ### Trucks that rise -/
def IncT : Int → List Int → Prop
  | _, [] => True
  | last, o :: r => last < o ∧ IncT o r
theorem rightL_iff {p : Int} : ∀ (l : List Truck) (i last : Int), (rightL p i last l).2 = 0 ↔ (∀ o, o ∈ l → truckErr o p = 0) ∧ IncT last (l.map Truck.ID)
  | [], _, _ => ⟨fun _ => ⟨fun o h => (by cases h), trivial⟩, fun _ => rfl⟩
  | o :: r, i, last => by
    rw [rightL, List.map_cons]
    by_cases h1 : truckErr o p = 0
    case neg =>
      rw [if_pos h1]
      exact ⟨fun h => absurd h h1, fun h => absurd (h.1 o (List.mem_cons_self ..)) h1⟩
    case pos =>
    rw [if_neg (by simp [h1])]
    by_cases h2 : o.ID = last
    · rw [if_pos h2]
      exact ⟨fun h => (by cases h), fun h => (by have := h.2.1; omega)⟩
    rw [if_neg h2]
    by_cases h3 : o.ID < last
    · rw [if_pos h3]
      exact ⟨fun h => (by cases h), fun h => (by have := h.2.1; omega)⟩
    rw [if_neg h3, rightL_iff r]
    constructor
    · rintro ⟨g1, g2⟩
      refine ⟨fun x hx => ?_, by omega, g2⟩
      rcases List.mem_cons.1 hx with e | e
      · rw [e]; exact h1
      · exact g1 x e
    · rintro ⟨g1, g2, g3⟩
      exact ⟨fun x hx => g1 x (List.mem_cons_of_mem _ hx), g3⟩
theorem set_right {p : Int} {l : List Truck} {k : Nat} {t t' : Truck} (h : (rightV p l).2 = 0) (ht : l[k]? = some t) (hid : t'.ID = t.ID) (he : truckErr t' p = 0) : (rightV p (l.set k t')).2 = 0 := by
  unfold rightV at h ⊢
  rw [List.length_set]
  split at h
  · cases h
  rename_i h1
  rw [if_neg h1]
  rw [rightL_iff] at h ⊢
  refine ⟨fun x hx => ?_, ?_⟩
  · rcases List.mem_or_eq_of_mem_set hx with e | e
    · exact h.1 x e
    · rw [e]; exact he
  · rw [List.map_set, hid]
    have : (l.map Truck.ID).set k t.ID = l.map Truck.ID := by
      have e : (l.map Truck.ID)[k]? = some t.ID := by rw [List.getElem?_map, ht]; rfl
      obtain ⟨g1, g2⟩ := List.getElem?_eq_some_iff.1 e
      rw [← g2]; exact List.set_getElem_self g1
    rw [this]; exact h.2

/-! ### Steps -/
theorem more_truck {t : Truck} {r : List Rec} {p : Int} (he : truckErr t p = 0) (h : (moreV t (t.Past ++ r)).2 = 0) : pastErr (t.Past ++ r) = 0 ∧ truckErr (moreV t (t.Past ++ r)).1 p = 0 ∧ (moreV t (t.Past ++ r)).1.ID = t.ID := by
  have hq : pastErr (t.Past ++ r) = 0 := by
    unfold moreV at h
    split at h
    · rename_i h1; exact h1
    · exact h
  have := rest_check (R := (moreV t (t.Past ++ r)).1) (truckErr_past he) hq (by rw [moreV_0 hq]) (p := p) (by rw [he]; decide)
  exact ⟨hq, this.trans he, by rw [moreV_0 hq]⟩
theorem at_get {d : Depot} {id : Int} (h : 0 ≤ atT d id) : ∃ t, d.Trucks[(atT d id).toNat]? = some t := by
  have hlt := @pick_idx _ (isID id) d.Trucks _ rfl h
  exact ⟨_, List.getElem?_eq_getElem hlt⟩
theorem more_at {d : Depot} {id : Int} {r : List Rec} (h : moreE d id r = 0) : 0 ≤ atT d id := by
  by_cases ha : atT d id < 0
  · unfold moreE at h; rw [if_pos ha] at h; cases h
  · omega
theorem more_May {d : Depot} {id : Int} {r : List Rec} (hM : d.May) (h : moreE d id r = 0) : (moreD d id r).May := by
  have ha := more_at h
  obtain ⟨t, ht⟩ := at_get ha
  have hmem := List.mem_of_getElem? ht
  have hall := May.all hM t hmem
  rw [moreE_eq hM ha ht] at h
  have hz : (moreV t (t.Past ++ r)).2 = 0 := by
    by_cases hz : (moreV t (t.Past ++ r)).2 = 0
    · exact hz
    · rw [if_pos hz] at h; exact absurd h hz
  rw [if_neg (by simp [hz])] at h
  obtain ⟨g1, g2, g3⟩ := more_truck hall.1 hz
  rw [more_set ha ht]
  refine ⟨hM.book, hM.chart, hM.ords, set_right hM.trks ht g3 g2, fun x hx => ?_⟩
  rcases List.mem_or_eq_of_mem_set hx with e | e
  · exact hM.meters x e
  · rw [e]; exact h
end Go.Hl
