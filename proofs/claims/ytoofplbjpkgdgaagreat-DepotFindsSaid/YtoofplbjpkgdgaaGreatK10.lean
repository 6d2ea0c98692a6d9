/- Contracts of functions, bundle K10; proved for whatever the arguments' types allow, as each theorem says. -/
import Derived.Test.YtoofplbjpkgdgaaGreatK9

/- Chapter 30: the law Finds.  -/
set_option linter.unusedVariables false
set_option linter.unusedSimpArgs false
namespace Go.Hl
open Go.Gh Go.Proofs

theorem chkF_sq {n : Int} : ∀ (w : List (List Int)) (r : Int), (chkF n r w).2.2 = 0 → ∀ l, l ∈ w → (l.length : Int) = n
  | [], _, _, l, h => by cases h
  | x :: t, r, h, l, hl => by
    rw [chkF] at h
    split at h
    · rename_i h1; exact absurd h h1
    · rename_i h1
      rcases List.mem_cons.1 hl with e | e
      · subst e
        unfold rowE at h1
        split at h1
        · simp at h1
        · omega
      · exact chkF_sq t _ h l e
theorem chartE_sq {w : List (List Int)} (h : (chartE w).2.2 = 0) : Square w := by
  unfold chartE at h
  split at h
  · cases h
  split at h
  · cases h
  · intro l hl; have := chkF_sq w 0 h l hl; omega
theorem depotE_sq {d : Depot} (h : (depotE d).2.2 = 0) : Square d.Ways := by
  unfold depotE at h
  split at h
  · rename_i h1; exact absurd h h1
  split at h
  · rename_i h1; exact absurd h h1
  · rename_i h1; exact chartE_sq (by simpa using h1)
theorem meterL_ok {b : Book} : ∀ (l : List Truck) (i : Int) (acc : List Meter), (meterL b i l acc).2.2 = 0 → (meterL b i l acc).1 = acc ++ l.map (fun t => (truckMeter b t.Past).1) ∧ ∀ t, t ∈ l → (truckMeter b t.Past).2 = 0
  | [], _, acc, _ => ⟨by simp [meterL], fun t h => by cases h⟩
  | x :: r, i, acc, h => by
    rw [meterL] at h ⊢
    by_cases h1 : (truckMeter b x.Past).2 ≠ 0
    · rw [if_pos h1] at h; exact absurd h h1
    · rw [if_neg h1] at h ⊢
      obtain ⟨h2, h3⟩ := meterL_ok r _ _ h
      refine ⟨by rw [h2]; simp, fun t ht => ?_⟩
      rcases List.mem_cons.1 ht with e | e
      · subst e; simpa using h1
      · exact h3 t e
theorem metersV_ok {d : Depot} (h : (metersV d).2.2 = 0) : (metersV d).1 = d.Trucks.map (fun t => (truckMeter d.Book t.Past).1) := by
  have := (meterL_ok d.Trucks 0 [] h).1
  rw [List.nil_append] at this
  exact this

set_option maxRecDepth 100000 in
theorem refPlace_ok (w : List (List Int)) (a : Int) : ICalls Tryz.prog 24 [.list 1 (waysG w) none, gi a] [] (Done (gb (decide (0 ≤ a) && decide (a < w.length))) []) := by
  refine ICalls.of_body Tryz.func24 rfl Tryz.call24 rfl (Nat.le_of_ble_eq_true rfl) (fun _ => none) rfl ?_
  repeat' ((conv => whnf); first
    | refine Br.yes rfl ?_
    | refine Br.no rfl ?_
    | refine Br.yes (beq_self_eq_true _) ?_
    | refine Br.not ?_
    | refine Br.yes (decide_eq_true (by assumption)) ?_
    | refine Br.no (decide_eq_false (by assumption)) ?_
    | refine Br.yes (beq_iff_eq.2 (by assumption)) ?_
    | refine Br.no (beq_eq_false_iff_ne.2 (by assumption)) ?_
    | refine Br.yes (bne_iff_ne.2 (by assumption)) ?_
    | (refine Br.dec (fun h => ?_) (fun h => ?_) <;> try dsimp only at h)
    | (refine Br.beqI (fun h => ?_) (fun h => ?_) <;> try dsimp only at h)
    | (refine Br.bneI (fun h => ?_) (fun h => ?_) <;> try dsimp only at h)
    | refine Br.mk (fun h => ?_) (fun h => ?_)
    | refine Need.mk (by first | kernel_rfl | exact ⟨of_decide_eq_true rfl, of_decide_eq_true rfl⟩ | omega) ?_
    | refine Len.mk ⟨_, by simp only [List.length_cons, List.length_nil, Nat.reduceAdd, Int.cast_ofNat_Int]; rfl, ?_⟩
    | refine Wr.lit _ (by simp only [Int.reduceAdd, Int.reduceSub, Int.reduceMul]; rfl) (by decide) ?_
    | refine Wr.fit (by omega) ?_
    | refine Wr.fit (by dsimp only; omega) ?_
    | refine Elem.mk ⟨_, ⟨of_decide_eq_true rfl, rfl⟩, ?_⟩
    | refine Len.map ?_
    | refine Len.dropM ?_
    | refine Elem.dropM ?_
    | refine Len.takeM ?_
    | refine Elem.takeM ?_
    | refine Elem.mapK (by assumption) ?_
    | refine Elem.mapI (by omega) (by assumption) ?_
    | refine Elem.mapN (by omega) (fun x hx => ?_)
    | refine Elem.map (by omega) (by omega) (fun x hx => ?_)
    | refine Done.mk ⟨rfl, rfl⟩
    | refine Done.mk ⟨congrArg gb ?_, rfl⟩
    | refine Done.mk ⟨?_, rfl⟩
    | refine Done.mk ⟨?_, ?_⟩)
  all_goals (simp [*]; done)

/-- A law's ID of an order, of a truck, and two places. -/
def namedTy : Ty := .agg [.int, .int, .int, .int]
theorem named_of {g : GV} (h : ArgOk namedTy g) : ∃ a b c d : Int, g = .agg [gi a, gi b, gi c, gi d] := by
  obtain ⟨⟨a, b, c, d⟩, h1, _⟩ := agg_of (α := Int × Int × Int × Int) (c := fun x => [gi x.1, gi x.2.1, gi x.2.2.1, gi x.2.2.2]) (Good := fun _ => True) (fs := [.int, .int, .int, .int]) (fun gs h => by
    obtain ⟨a, r, rfl, ha, h⟩ := WTs.int h
    obtain ⟨b, r, rfl, hb, h⟩ := WTs.int h
    obtain ⟨c, r, rfl, hc, h⟩ := WTs.int h
    obtain ⟨d, r, rfl, hd, h⟩ := WTs.int h
    cases WTs.nil h
    exact ⟨(a, b, c, d), rfl, trivial⟩) h
  exact ⟨a, b, c, d, h1⟩

theorem findO_idx {l : List Order} {id : Int} (h : 0 ≤ idxFrom (isOID id) 0 l) : ∃ t, l[(idxFrom (isOID id) 0 l).toNat]? = some t ∧ findO l id = (t, true) := by
  have hlt := @pick_idx _ (isOID id) l _ rfl h
  have e : l[(idxFrom (isOID id) 0 l).toNat]? = some (l[(idxFrom (isOID id) 0 l).toNat]) := List.getElem?_eq_getElem hlt
  exact ⟨_, e, findO_1 (by omega) e⟩
theorem findV_idx {l : List Truck} {id : Int} (h : 0 ≤ idxFrom (isID id) 0 l) : ∃ t, l[(idxFrom (isID id) 0 l).toNat]? = some t ∧ findV l id = (t, true) := by
  have hlt := @pick_idx _ (isID id) l _ rfl h
  have e : l[(idxFrom (isID id) 0 l).toNat]? = some (l[(idxFrom (isID id) 0 l).toNat]) := List.getElem?_eq_getElem hlt
  exact ⟨_, e, findV_1 (by omega) e⟩
theorem meterAt_idx {d : Depot} {id : Int} {t : Truck} (h : 0 ≤ idxFrom (isID id) 0 d.Trucks) (ht : d.Trucks[(idxFrom (isID id) 0 d.Trucks).toNat]? = some t) (hm : (metersV d).2.2 = 0) : meterAt d (metersV d).1 id = ((truckMeter d.Book t.Past).1, true) := by
  unfold meterAt
  rw [if_pos h, metersV_ok hm, List.getElem?_map, ht]; rfl
theorem meterAt_none {d : Depot} {id : Int} {ms : List Meter} (h : ¬ 0 ≤ idxFrom (isID id) 0 d.Trucks) : meterAt d ms id = (Meter.zero, false) := if_neg h
theorem idx_neg {α : Type} {p : α → Bool} : ∀ (l : List α) (i : Int), 0 ≤ i → ¬ 0 ≤ idxFrom p i l → idxFrom p i l = -1
  | [], i, h, _ => rfl
  | x :: r, i, hi, h => by
    rw [idxFrom] at h ⊢
    split
    · rename_i h1; rw [if_pos h1] at h; omega
    · rename_i h1; rw [if_neg h1] at h; exact idx_neg r _ (by omega) h

/-- The way, when there is one. -/
theorem way_some {w : List (List Int)} {a b : Int} (hsq : Square w) (h : 0 ≤ a ∧ a < w.length ∧ 0 ≤ b ∧ b < w.length) : ∃ r n, w[a.toNat]? = some r ∧ r[b.toNat]? = some n ∧ wayV w a b = (n, true) := by
  have e1 : w[a.toNat]? = some (w[a.toNat]'(by omega)) := List.getElem?_eq_getElem (by omega)
  have hl := hsq _ (List.mem_of_getElem? e1)
  have e2 : (w[a.toNat]'(by omega))[b.toNat]? = some ((w[a.toNat]'(by omega))[b.toNat]'(by omega)) := List.getElem?_eq_getElem (by omega)
  refine ⟨_, _, e1, e2, ?_⟩
  unfold wayV
  rw [if_pos h, e1]
  simp only [Option.getD_some]
  rw [e2]; rfl

end Go.Hl
