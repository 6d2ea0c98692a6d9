/- Contracts of functions, bundle K27; proved for whatever the arguments' types allow, as each theorem says. -/
import Derived.Test.YtoofplbjpkgdgaaK25

/- Chapter 30: what was added and dropped, what goes on in two parts: plain. -/
set_option linter.unusedVariables false
set_option linter.unusedSimpArgs false
namespace Go.Hl
open Go.Gh Go.Proofs

theorem idx_pre {α : Type} {p : α → Bool} {x : α} (hx : p x = true) : ∀ (a b : List α) (i : Int), (∀ y, y ∈ a → p y = false) → idxFrom p i (a ++ x :: b) = i + a.length
  | [], b, i, _ => by rw [List.nil_append, idxFrom, if_pos hx]; simp
  | y :: a, b, i, h => by
    rw [List.cons_append, idxFrom, if_neg (by rw [h y (List.mem_cons_self ..)]; simp), idx_pre hx a b (i + 1) (fun z hz => h z (List.mem_cons_of_mem _ hz)), List.length_cons]
    omega
theorem idx_set {α : Type} {p : α → Bool} {t t' : α} (e : p t' = p t) : ∀ (l : List α) (k : Nat) (i : Int), l[k]? = some t → idxFrom p i (l.set k t') = idxFrom p i l
  | [], k, i, h => by simp at h
  | x :: r, 0, i, h => by
    have hx : x = t := by simpa using h
    subst hx
    rw [List.set_cons_zero, idxFrom, idxFrom, e]
  | x :: r, k + 1, i, h => by
    rw [List.set_cons_succ, idxFrom, idxFrom, idx_set e r k (i + 1) (by simpa using h)]
theorem addO_back {l : List Order} {o : Order} (h : (addO l o).2 = 0) : dropsO (addO l o).1 [o.ID] = (l, 0) := by
  unfold addO at h ⊢
  split at h
  · cases h
  · rename_i h1
    split at h
    · cases h
    · rename_i h2
      rw [if_neg h1, if_neg h2]
      have hn := idx_none (p := isOID o.ID) l 0 (by omega) (by omega)
      obtain ⟨p0, p1⟩ := placeO_fit l o.ID
      have hi : idxFrom (isOID o.ID) 0 (insO l o) = ((placeO l o.ID).toNat : Int) := by
        unfold insO
        rw [idx_pre (by simp [isOID]) _ _ 0 (fun y hy => hn y (List.mem_of_mem_take hy)), List.length_take]
        omega
      have hd : dropO (insO l o) o.ID = (l, 0) := by
        unfold dropO
        rw [hi, if_neg (by omega), Int.toNat_natCast]
        unfold insO
        rw [List.eraseIdx_append_of_length_le (by rw [List.length_take]; omega), List.length_take, show (placeO l o.ID).toNat - min (placeO l o.ID).toNat l.length = 0 by omega, List.eraseIdx_cons_zero, List.take_append_drop]
      show dropsO (insO l o) [o.ID] = _
      rw [dropsO, hd]; rfl
theorem back_D {d : Depot} {o : Order} (h : addE d o = 0) : (dropsO (addD d o).Orders [o.ID]).2 = 0 ∧ dropD (addD d o) [o.ID] = d := by
  have := addO_back (addE_0 h).2
  show (dropsO (addO d.Orders o).1 [o.ID]).2 = 0 ∧ (⟨d.Book, d.Ways, (dropsO (addO d.Orders o).1 [o.ID]).1, d.Trucks⟩ : Depot) = d
  rw [this]; exact ⟨rfl, rfl⟩

theorem mrgL_app (acc a b : List Rec) : mrgL acc (a ++ b) = mrgL (mrgL acc a) b := by unfold mrgL; rw [List.foldl_append]
theorem norm_app {a b : List Rec} (ha : pastErr a = 0) (h : pastErr (normL a ++ b) = 0) : pastErr (a ++ b) = 0 ∧ normL (a ++ b) = normL (normL a ++ b) := by
  have ca := past_chain ha
  have na : normL a = mrgL [] a := by unfold normL; rw [if_pos (chain_codeR ca)]
  obtain ⟨g1, g2, g3, g4⟩ := mrgL_good a [] 0 trivial trivial ca
  have ch := past_chain h
  have c2 := ch
  rw [na] at c2
  have c3 := ((chain_app _ _ _).1 c2).2
  rw [g3] at c3
  have cab : Chain 0 (a ++ b) := (chain_app a b 0).2 ⟨ca, c3⟩
  refine ⟨chain_past cab, ?_⟩
  have e1 : normL (a ++ b) = mrgL [] (a ++ b) := by unfold normL; rw [if_pos (chain_codeR cab)]
  have e2 : normL (normL a ++ b) = mrgL [] (normL a ++ b) := by rw [normL, if_pos (chain_codeR ch)]
  rw [e1, e2, na, mrgL_app, mrgL_app, mrgL_id (mrgL [] a) [] g2, List.nil_append]
theorem more_parts {t : Truck} {r : List Rec} (h : (moreV t (t.Past ++ r)).2 = 0) : pastErr (t.Past ++ r) = 0 := by
  unfold moreV at h
  split at h
  · rename_i h1; exact h1
  · exact h
theorem more_two {d : Depot} {id : Int} {r s : List Rec} (hM : d.May) (h1 : moreE d id r = 0) (h2 : moreE (moreD d id r) id s = 0) : moreE d id (r ++ s) = 0 ∧ moreD d id (r ++ s) = moreD (moreD d id r) id s := by
  have ha := more_at h1
  obtain ⟨t, ht⟩ := at_get ha
  have hM1 := more_May hM h1
  rw [moreE_eq hM ha ht] at h1
  have hz : (moreV t (t.Past ++ r)).2 = 0 := by
    by_cases hz : (moreV t (t.Past ++ r)).2 = 0
    · exact hz
    · rw [if_pos hz] at h1; exact absurd h1 hz
  have p1 := more_parts hz
  have e1 : moreV t (t.Past ++ r) = (⟨t.ID, t.Home, t.Room, t.Fixed, t.Rate, normL (t.Past ++ r)⟩, 0) := moreV_0 p1
  have eD := more_set (r := r) ha ht
  rw [e1] at eD
  simp only at eD
  have hat : atT (moreD d id r) id = atT d id := by
    rw [eD]; exact idx_set (p := isID id) (by simp [isID]) d.Trucks _ 0 ht
  have hlt := (List.getElem?_eq_some_iff.1 ht).1
  have ht1 : (moreD d id r).Trucks[(atT (moreD d id r) id).toNat]? = some ⟨t.ID, t.Home, t.Room, t.Fixed, t.Rate, normL (t.Past ++ r)⟩ := by
    rw [hat, eD]; simp [hlt]
  have ha1 : 0 ≤ atT (moreD d id r) id := by omega
  rw [moreE_eq hM1 ha1 ht1] at h2
  have hz2 : (moreV ⟨t.ID, t.Home, t.Room, t.Fixed, t.Rate, normL (t.Past ++ r)⟩ (normL (t.Past ++ r) ++ s)).2 = 0 := by
    by_cases hz : (moreV ⟨t.ID, t.Home, t.Room, t.Fixed, t.Rate, normL (t.Past ++ r)⟩ (normL (t.Past ++ r) ++ s)).2 = 0
    · exact hz
    · rw [if_pos hz] at h2; exact absurd h2 hz
  have p2 := more_parts (t := ⟨t.ID, t.Home, t.Room, t.Fixed, t.Rate, normL (t.Past ++ r)⟩) hz2
  obtain ⟨p3, p4⟩ := norm_app p1 p2
  have e2 : moreV ⟨t.ID, t.Home, t.Room, t.Fixed, t.Rate, normL (t.Past ++ r)⟩ (normL (t.Past ++ r) ++ s) = (⟨t.ID, t.Home, t.Room, t.Fixed, t.Rate, normL (normL (t.Past ++ r) ++ s)⟩, 0) := moreV_0 p2
  have e3 : moreV t (t.Past ++ (r ++ s)) = (⟨t.ID, t.Home, t.Room, t.Fixed, t.Rate, normL (normL (t.Past ++ r) ++ s)⟩, 0) := by
    rw [← List.append_assoc, moreV_0 p3, p4]
  have eS := more_set (r := s) ha1 ht1
  constructor
  · rw [moreE_eq hM ha ht, e3]
    rw [e2, eD] at h2
    exact h2
  · rw [more_set (r := r ++ s) ha ht, e3, eS, e2, hat]
    rw [eD]
    simp
end Go.Hl
