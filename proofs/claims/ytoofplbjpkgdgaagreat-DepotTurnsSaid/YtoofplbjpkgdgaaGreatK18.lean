/- Contracts of functions, bundle K18; proved for whatever the arguments' types allow, as each theorem says. -/
import Derived.Test.YtoofplbjpkgdgaaGreatK15
import Derived.Test.YtoofplbjpkgdgaaGreatK10
import Derived.Test.YtoofplbjpkgdgaaGreatH20
import Derived.Test.YtoofplbjpkgdgaaGreatF0

/- Chapter 30: what yards that may be are turned into: plain Lean.  -/
set_option linter.unusedVariables false
set_option linter.unusedSimpArgs false
namespace Go.Hl
open Go.Gh Go.Proofs

/-- All that is known of a depot that may be. -/
structure Depot.May (d : Depot) : Prop where
  book : d.Book.May
  chart : (chartE d.Ways).2.2 = 0
  ords : (rightOV d.Ways.length d.Orders).2 = 0
  trks : (rightV d.Ways.length d.Trucks).2 = 0
  meters : ∀ t, t ∈ d.Trucks → (truckMeter d.Book t.Past).2 = 0
theorem meterL_zero {b : Book} : ∀ (l : List Truck) (i : Int) (acc : List Meter), (∀ t, t ∈ l → (truckMeter b t.Past).2 = 0) → (meterL b i l acc).2 = (0, 0)
  | [], _, _, _ => rfl
  | x :: r, i, acc, h => by
    rw [meterL, if_neg (by simp [h x (List.mem_cons_self ..)])]
    exact meterL_zero r _ _ fun t ht => h t (List.mem_cons_of_mem _ ht)
theorem May_iff {d : Depot} : (depotE d).2.2 = 0 ↔ d.May := by
  constructor
  · intro h
    have hm := depotE_meters h
    unfold depotE at h
    split at h
    · rename_i h1; exact absurd h h1
    rename_i h1
    split at h
    · rename_i h2; exact absurd h h2
    rename_i h2
    split at h
    · rename_i h3; exact absurd h h3
    rename_i h3
    split at h
    · rename_i h4; exact absurd h h4
    rename_i h4
    refine ⟨?_, by simpa using h2, by simpa using h3, by simpa using h4, (meterL_ok d.Trucks 0 [] hm).2⟩
    unfold Book.code at h1
    by_cases hb : d.Book.May
    · exact hb
    · rw [if_neg hb] at h1; simp at h1
  · intro h
    unfold depotE
    have hc : d.Book.code = 0 := if_pos h.book
    have hm : (metersV d).2 = (0, 0) := meterL_zero d.Trucks 0 [] h.meters
    rw [if_neg (by simp [hc]), if_neg (by simp [h.chart]), if_neg (by simp [h.ords]), if_neg (by simp [h.trks]), if_neg (by rw [hm]; simp)]
theorem Depot.May.past {d : Depot} (h : d.May) {t : Truck} (ht : t ∈ d.Trucks) : pastErr t.Past = 0 := truckErr_past (rightV_all h.trks t ht)
theorem chain_short : ∀ (l : List Rec) (a : Int), Chain a l → l.length ≤ (kindsOf l).length
  | [], _, _ => Nat.zero_le _
  | r :: t, a, ⟨h1, h2, h3⟩ => by
    have h4 := recErr_inv h2
    have ih := chain_short t r.To h3
    have e : kindsOf (r :: t) = List.replicate (r.To - r.From).toNat r.Kind ++ kindsOf t := rfl
    rw [e, List.length_append, List.length_replicate, List.length_cons]
    omega
theorem past_short {l : List Rec} (h : pastErr l = 0) : (l.length : Int) ≤ 40320 := by
  have hc := past_chain h
  have := chain_short l 0 hc
  have := chain_len l 0 hc (by decide)
  omega
theorem Depot.May.short {d : Depot} (h : d.May) {t : Truck} (ht : t ∈ d.Trucks) : (t.Past.length : Int) ≤ 40320 := past_short (h.past ht)

/-! ### One truck's past goes on -/
theorem turnE_more {a : Int} {r : List Rec} : ∀ (l : List Truck) (j : Int) (k : Nat) (t : Truck), a = j + k → l[k]? = some t → turnE (moreF a r) j l = (moreV t (t.Past ++ r)).2
  | x :: q, j, 0, t, ha, ht => by
    simp only [List.getElem?_cons_zero, Option.some.injEq] at ht
    subst ht
    have hF : moreF a r j x = moreV x (x.Past ++ r) := if_neg (by omega)
    rw [turnE, hF]
    by_cases h : (moreV x (x.Past ++ r)).2 = 0
    · rw [if_neg (by simp [h]), h]
      have : ∀ (q : List Truck) (i : Int), a < i → turnE (moreF a r) i q = 0 := by
        intro q
        induction q with
        | nil => intro i _; rfl
        | cons y q ih =>
          intro i hi
          have : moreF a r i y = (y, 0) := if_pos (by omega)
          rw [turnE, this, if_neg (by simp)]
          exact ih (i + 1) (by omega)
      exact this q (j + 1) (by omega)
    · rw [if_pos h]
  | x :: q, j, k + 1, t, ha, ht => by
    simp only [List.getElem?_cons_succ] at ht
    have hF : moreF a r j x = (x, 0) := if_pos (by omega)
    rw [turnE, hF, if_neg (by simp)]
    exact turnE_more q (j + 1) k t (by omega) ht
theorem turnL_after {a : Int} {r : List Rec} : ∀ (l : List Truck) (j : Int), a < j → turnL (moreF a r) j l = l
  | [], _, _ => rfl
  | x :: q, j, h => by
    have hF : moreF a r j x = (x, 0) := if_pos (by omega)
    rw [turnL, hF, turnL_after q (j + 1) (by omega)]
theorem turnL_more {a : Int} {r : List Rec} : ∀ (l : List Truck) (j : Int) (k : Nat) (t : Truck), a = j + k → l[k]? = some t → turnL (moreF a r) j l = l.set k (moreV t (t.Past ++ r)).1
  | x :: q, j, 0, t, ha, ht => by
    simp only [List.getElem?_cons_zero, Option.some.injEq] at ht
    subst ht
    have hF : moreF a r j x = moreV x (x.Past ++ r) := if_neg (by omega)
    rw [turnL, hF, turnL_after q (j + 1) (by omega)]; rfl
  | x :: q, j, k + 1, t, ha, ht => by
    simp only [List.getElem?_cons_succ] at ht
    have hF : moreF a r j x = (x, 0) := if_pos (by omega)
    rw [turnL, hF, turnL_more q (j + 1) k t (by omega) ht]; rfl
theorem meterL_set {b : Book} {t' : Truck} : ∀ (l : List Truck) (i : Int) (acc : List Meter) (k : Nat), k < l.length → (∀ t, t ∈ l → (truckMeter b t.Past).2 = 0) → (meterL b i (l.set k t') acc).2.2 = (truckMeter b t'.Past).2
  | x :: r, i, acc, 0, _, h => by
    rw [List.set_cons_zero, meterL]
    by_cases h1 : (truckMeter b t'.Past).2 = 0
    · rw [if_neg (by simp [h1]), h1, meterL_zero r _ _ fun t ht => h t (List.mem_cons_of_mem _ ht)]
    · rw [if_pos h1]
  | x :: r, i, acc, k + 1, hk, h => by
    rw [List.set_cons_succ, meterL, if_neg (by simp [h x (List.mem_cons_self ..)])]
    exact meterL_set r _ _ k (by simpa using hk) fun t ht => h t (List.mem_cons_of_mem _ ht)
theorem more_set {d : Depot} {id : Int} {r : List Rec} {t : Truck} (h : 0 ≤ atT d id) (ht : d.Trucks[(atT d id).toNat]? = some t) : (moreD d id r) = ⟨d.Book, d.Ways, d.Orders, d.Trucks.set (atT d id).toNat (moreV t (t.Past ++ r)).1⟩ := by
  unfold moreD turnD
  rw [turnL_more d.Trucks 0 (atT d id).toNat t (by omega) ht]
theorem moreE_eq {d : Depot} {id : Int} {r : List Rec} {t : Truck} (hM : d.May) (h : 0 ≤ atT d id) (ht : d.Trucks[(atT d id).toNat]? = some t) :
    moreE d id r = if (moreV t (t.Past ++ r)).2 ≠ 0 then (moreV t (t.Past ++ r)).2 else (truckMeter d.Book (moreV t (t.Past ++ r)).1.Past).2 := by
  unfold moreE
  rw [if_neg (by omega), turnE_more d.Trucks 0 (atT d id).toNat t (by omega) ht]
  split
  · rfl
  · rw [more_set h ht]
    exact meterL_set d.Trucks 0 [] _ (List.getElem?_eq_some_iff.1 ht).1 hM.meters
theorem moreV_len (t : Truck) (l : List Rec) : ((moreV t l).1.Past.length : Int) ≤ l.length := by
  unfold moreV
  split
  · have := norm_le l; simp only; omega
  · simp [Truck.zero]
theorem more_Ok {d : Depot} (hd : d.Ok) (hM : d.May) (id : Int) {r : List Rec} (hr : (r.length : Int) ≤ 100000) : (moreD d id r).Ok := by
  refine ⟨hd.rows, hd.wl, hd.ol, hd.op, ?_, ?_⟩
  · show (((turnL (moreF (atT d id) r) 0 d.Trucks).length : Nat) : Int) ≤ _
    rw [turnL_len]; exact hd.tl
  · intro t ht
    obtain ⟨i, hi⟩ := List.getElem?_of_mem ht
    have hlt := (List.getElem?_eq_some_iff.1 hi).1
    change i < (turnL (moreF (atT d id) r) 0 d.Trucks).length at hlt
    rw [turnL_len] at hlt
    have e : d.Trucks[i]? = some d.Trucks[i] := List.getElem?_eq_getElem hlt
    have e2 := turnL_get (F := moreF (atT d id) r) d.Trucks 0 i _ e
    change (turnL (moreF (atT d id) r) 0 d.Trucks)[i]? = some t at hi
    rw [e2] at hi
    cases hi
    have hs := hM.short (List.mem_of_getElem? e)
    unfold moreF
    split
    · simp only; omega
    · have := moreV_len d.Trucks[i] (d.Trucks[i].Past ++ r)
      rw [List.length_append] at this
      push_cast at this
      omega

/-! ### All rest -/
theorem rest_good {b : Book} {t : Truck} {m p : Int} (hm : 0 ≤ m ∧ m ≤ 40320) (he : truckErr t p = 0) (hmt : (truckMeter b t.Past).2 = 0) :
    (restF m t).2 = 0 ∧ (truckMeter b (restF m t).1.Past).2 = 0 ∧ truckErr (restF m t).1 p = 0 ∧ (restF m t).1.ID = t.ID ∧ (restF m t).1 = (if endOf t.Past < m then (restedV t m).1 else t) := by
  have hp := truckErr_past he
  have hev : endV t.Past = endOf t.Past := by unfold endV; rw [if_pos hp]
  unfold restF
  by_cases h : m ≤ endV t.Past
  · rw [if_pos (.inr h)]
    exact ⟨hp, hmt, he, rfl, by rw [if_neg (by omega)]⟩
  · rw [if_neg (by rintro (e | e); · exact e hp
                   · exact h e)]
    have hc := past_chain hp
    have hend := chain_end t.Past 0 hc (by omega) (by omega)
    rw [← endOf_from] at hend
    have hq : pastErr (t.Past ++ [⟨0, endV t.Past, m⟩]) = 0 := by
      apply chain_past
      rw [chain_app]
      refine ⟨hc, ?_⟩
      rw [chain_one, ← endOf_from]
      refine ⟨hev, ?_⟩
      unfold recErr
      simp only
      grind
    have hR : restedV t m = (⟨t.ID, t.Home, t.Room, t.Fixed, t.Rate, normL (t.Past ++ [⟨0, endV t.Past, m⟩])⟩, 0) := by
      unfold restedV restP
      rw [if_neg (by simp [hp]), if_neg (by omega), if_neg (by omega), if_neg (by omega), moreV_0 hq]
    obtain ⟨Q, g1, g2, g3, g4, g5, g6, g7⟩ := rested_inv hp hR
    have hx : truckMeter b t.Past = ((truckMeter b t.Past).1, 0) := by rw [← hmt]
    obtain ⟨⟨y, y1, y2, y3⟩, _, _⟩ := rest_meter hx g2 g4 g5 g6
    have hce := rest_check hp g2 g1 (p := p) (by rw [he]; decide)
    rw [hR]
    rw [g1] at hce ⊢
    refine ⟨rfl, ?_, by rw [hce]; exact he, rfl, by rw [if_pos (by omega)]⟩
    simp only
    rw [y1]
theorem turnE_rest {b : Book} {m p : Int} (hm : 0 ≤ m ∧ m ≤ 40320) : ∀ (l : List Truck) (i : Int), (∀ t, t ∈ l → truckErr t p = 0 ∧ (truckMeter b t.Past).2 = 0) → turnE (fun _ => restF m) i l = 0
  | [], _, _ => rfl
  | x :: r, i, h => by
    have hx := h x (List.mem_cons_self ..)
    have := (rest_good hm hx.1 hx.2).1
    rw [turnE, if_neg (by simp [this])]
    exact turnE_rest hm r _ fun t ht => h t (List.mem_cons_of_mem _ ht)
theorem turnL_map {m : Int} : ∀ (l : List Truck) (i : Int), turnL (fun _ => restF m) i l = l.map fun t => (restF m t).1
  | [], _ => rfl
  | x :: r, i => by rw [turnL, turnL_map r]; rfl
theorem May.all {d : Depot} (hM : d.May) : ∀ t, t ∈ d.Trucks → truckErr t d.Ways.length = 0 ∧ (truckMeter d.Book t.Past).2 = 0 := fun t ht => ⟨rightV_all hM.trks t ht, hM.meters t ht⟩
/-- Trucks that keep their IDs, and are right, are right as before. -/
theorem rightL_map {p : Int} {f : Truck → Truck} : ∀ (l : List Truck) (i last : Int), (∀ t, t ∈ l → truckErr t p = 0 → truckErr (f t) p = 0 ∧ (f t).ID = t.ID) → (rightL p i last l).2 = 0 → (rightL p i last (l.map f)).2 = 0
  | [], _, _, _, h => h
  | x :: r, i, last, hf, h => by
    rw [rightL] at h
    rw [List.map_cons, rightL]
    split at h
    · rename_i h1; exact absurd h h1
    rename_i h1
    have hx := hf x (List.mem_cons_self ..) (by simpa using h1)
    rw [if_neg (by simp [hx.1]), hx.2]
    split at h
    · cases h
    rename_i h2
    rw [if_neg h2]
    split at h
    · cases h
    rename_i h3
    rw [if_neg h3]
    exact rightL_map r _ _ (fun t ht => hf t (List.mem_cons_of_mem _ ht)) h
theorem rightV_map {p : Int} {f : Truck → Truck} {l : List Truck} (hf : ∀ t, t ∈ l → truckErr t p = 0 → truckErr (f t) p = 0 ∧ (f t).ID = t.ID) (h : (rightV p l).2 = 0) : (rightV p (l.map f)).2 = 0 := by
  unfold rightV at h ⊢
  rw [List.length_map]
  split at h
  · cases h
  rename_i h1
  rw [if_neg h1]
  exact rightL_map l _ _ hf h
theorem rest_May {d : Depot} {m : Int} (hM : d.May) (hm : 0 ≤ m ∧ m ≤ 40320) : (restD d m).May := by
  have hall := May.all hM
  refine ⟨hM.book, hM.chart, hM.ords, ?_, ?_⟩
  · show (rightV d.Ways.length (turnL (fun _ => restF m) 0 d.Trucks)).2 = 0
    rw [turnL_map]
    exact rightV_map (fun t ht he => by
      have := rest_good (b := d.Book) hm he (hall t ht).2
      exact ⟨this.2.2.1, this.2.2.2.1⟩) hM.trks
  · intro t ht
    change t ∈ turnL (fun _ => restF m) 0 d.Trucks at ht
    rw [turnL_map] at ht
    obtain ⟨s, hs, rfl⟩ := List.mem_map.1 ht
    exact (rest_good (b := d.Book) hm (hall s hs).1 (hall s hs).2).2.1
theorem rest_Ok {d : Depot} {m : Int} (hd : d.Ok) (hM : d.May) (hm : 0 ≤ m ∧ m ≤ 40320) : (restD d m).Ok := by
  have hR := rest_May hM hm
  refine ⟨hd.rows, hd.wl, hd.ol, hd.op, ?_, fun t ht => by have := hR.short ht; omega⟩
  show (((turnL (fun _ => restF m) 0 d.Trucks).length : Nat) : Int) ≤ _
  rw [turnL_len]; exact hd.tl

end Go.Hl

/- Chapter 30: the reference's turns.  -/
set_option linter.unusedVariables false
set_option linter.unusedSimpArgs false
namespace Go.Hl
open Go.Gh Go.Proofs

theorem trucks_snoc (a : List Truck) (t : Truck) : trucks a ++ [t.g] = trucks (a ++ [t]) := by simp [trucks]
theorem set_next {l : List Truck} {k i : Nat} {t x : Truck} (hx : l[i]? = some x) (h : i ≠ k) : (l.set k t).take (i + 1) = (l.set k t).take i ++ [x] :=
  take_nextK (by rw [List.getElem?_set_ne (by omega)]; exact hx)
theorem set_hit {l : List Truck} {i : Nat} {t : Truck} (h : i < l.length) : (l.set i t).take (i + 1) = (l.set i t).take i ++ [t] :=
  take_nextK (by simp [h])

def pl_K19_1 : Nat → Option (List Nat × List Nat) := (fun k => bif Nat.beq k 3 then some ([1000003, 1, 3, 5, 6, 7, 8], [103, 105, 106, 107, 122, 130]) else none)
set_option maxRecDepth 100000 in
set_option maxHeartbeats 2000000 in
theorem refWith_ok (d : Depot) (k : Nat) (t : Truck) (hd : d.Ok) (hk : k < d.Trucks.length) : ICalls Tryz.prog 104 [d.g, gi k, t.g] [] (Done (⟨d.Book, d.Ways, d.Orders, d.Trucks.set k t⟩ : Depot).g []) := by
  have htl := hd.tl
  have hsn := fun a => trucks_snoc a t
  obtain ⟨b, w, oo, l⟩ := d
  obtain ⟨ta, tb, tc, td, te, tl⟩ := t
  simp only at *
  clear hd
  show ICalls _ _ [.agg (b.c ++ [.list 1 (w.map rowG) none, .list 5 (oo.map Order.g) none, .list 6 (l.map Truck.g) none]), gi k, Truck.g ⟨ta, tb, tc, td, te, tl⟩] _ _
  refine ICalls.of_body Tryz.func104 rfl Tryz.call104 rfl (Nat.le_of_ble_eq_true rfl) pl_K19_1 rfl ?_
  repeat' ((conv => whnf); first
    | refine Br.yes rfl ?_
    | refine Br.no rfl ?_
    | (refine Len.map ?_)
    | (refine Elem.mapN (by omega) (fun x hx => ?_))
    | (refine ILoop.ov 1000003 (fun ((g, i, n) : List GV × Nat × Nat) => [(8, gi i), (7, .list 6 g (some 107))]) (fun ((g, i, n) : List GV × Nat × Nat) => [(107, .vec 48 n)]) (fun ((g, i, n) : List GV × Nat × Nat) => (i ≤ l.length ∧ (n = g.length ∧ n ≤ i)) ∧ g = trucks ((l.set k ⟨ta, tb, tc, td, te, tl⟩).take i)) (fun ((g, i, n) : List GV × Nat × Nat) => l.length - i) (([], 0, 0)) (by exact rfl) ?_; (conv => whnf); refine Start.mk rfl ?_ ?_; (try dsimp only); rotate_left; rintro ⟨g, i, n⟩ ⟨⟨hi, hn⟩, hg⟩)
    | (refine Again.mk ⟨((_, i + 1, _)), rfl, ?_, ?_⟩ <;> try dsimp only)
    | refine Br.yes (beq_self_eq_true _) ?_
    | refine Br.not ?_
    | refine Br.yes (decide_eq_true (by assumption)) ?_
    | refine Br.no (decide_eq_false (by assumption)) ?_
    | refine Br.yes (beq_iff_eq.2 (by assumption)) ?_
    | refine Br.no (beq_eq_false_iff_ne.2 (by assumption)) ?_
    | refine Br.yes (bne_iff_ne.2 (by assumption)) ?_
    | (refine Br.dec (fun h => ?_) (fun h => ?_) <;> try dsimp only at h)
    | (refine Br.beqI (fun h => ?_) (fun h => ?_) <;> try dsimp only at h)
    | (refine Br.bneI (fun h => ?_) (fun h => ?_) <;> try dsimp only at h)
    | refine Br.mk (fun h => ?_) (fun h => ?_)
    | refine Need.mk (app_need (by first | (simp only [List.length_append, List.length_map, List.length_nil, List.length_cons, List.nil_append, Nat.zero_add, Nat.add_zero]; done) | (simp only [List.length_append, List.length_map, List.length_nil, List.length_cons, List.nil_append, Nat.zero_add, Nat.add_zero]; omega) | omega) (Nat.le_of_ble_eq_true rfl) (by first | (simp only [List.length_append, List.length_map, List.length_nil, List.length_cons, List.nil_append, Nat.zero_add, Nat.add_zero]; done) | (simp only [List.length_append, List.length_map, List.length_nil, List.length_cons, List.nil_append, Nat.zero_add, Nat.add_zero]; omega) | omega)) ?_
    | refine Need.mk (app_need0 (Nat.le_of_ble_eq_true rfl) (by first | (simp only [List.length_append, List.length_map, List.length_nil, List.length_cons, List.nil_append, Nat.zero_add, Nat.add_zero]; done) | (simp only [List.length_append, List.length_map, List.length_nil, List.length_cons, List.nil_append, Nat.zero_add, Nat.add_zero]; omega) | omega)) ?_
    | refine Need.mk (by first | kernel_rfl | exact ⟨of_decide_eq_true rfl, of_decide_eq_true rfl⟩ | omega) ?_
    | refine Len.mk ⟨_, by simp only [List.length_cons, List.length_nil, Nat.reduceAdd, Int.cast_ofNat_Int]; rfl, ?_⟩
    | refine Wr.lit _ (by simp only [Int.reduceAdd, Int.reduceSub, Int.reduceMul]; rfl) (by decide) ?_
    | refine Wr.fit (by omega) ?_
    | refine Wr.fit (by dsimp only; omega) ?_
    | refine Elem.mk ⟨_, ⟨of_decide_eq_true rfl, rfl⟩, ?_⟩
    | refine Len.map ?_
    | refine Len.dropM ?_
    | refine Elem.dropM ?_
    | refine Len.takeM ?_
    | refine Elem.takeM ?_
    | refine Elem.mapK (by assumption) ?_
    | refine Elem.mapI (by omega) (by assumption) ?_
    | refine Elem.mapN (by omega) (fun x hx => ?_)
    | refine Elem.map (by omega) (by omega) (fun x hx => ?_)
    | refine Done.mk ⟨rfl, rfl⟩
    | refine Done.mk ⟨congrArg gb ?_, rfl⟩
    | refine Done.mk ⟨?_, rfl⟩
    | refine Done.mk ⟨?_, ?_⟩)
  all_goals first
    | omega
    | exact ⟨⟨by omega, by simp; omega, by simp; omega⟩, by rw [hg, show k = i by omega, set_hit (by omega)]; exact hsn _⟩
    | exact ⟨⟨by omega, by simp; omega, by simp; omega⟩, by rw [hg, set_next hx (by omega)]; exact trucks_snoc _ x⟩
    | exact ⟨⟨Nat.zero_le _, rfl, Nat.le_refl _⟩, rfl⟩
    | (rw [hg, List.take_of_length_le (by simp; omega)]; rfl)

/-! ### Orders -/
set_option maxRecDepth 100000 in
set_option maxHeartbeats 2000000 in
theorem refAddD_ok (d : Depot) (o : Order) (hd : d.Ok) (he : addE d o = 0) : ICalls Tryz.prog 64 [d.g, o.g] [] (Done (.tup [(addD d o).g, gi 0]) []) := by
  have h1 := refOrderCheck_ok o d.Ways.length
  have h2 := refOrderAdd_ok d.Orders o hd.ol
  obtain ⟨e1, e2⟩ := addE_0 he
  unfold addD
  rw [e1] at h1
  generalize addO d.Orders o = q at *
  obtain ⟨q1, q2⟩ := q
  simp only at e2
  subst e2
  obtain ⟨b, w, oo, l⟩ := d
  obtain ⟨oa, ob, oc, od, ol⟩ := o
  simp only at *
  clear hd he
  show ICalls _ _ [.agg (b.c ++ [.list 1 (w.map rowG) none, .list 5 (oo.map Order.g) none, .list 6 (l.map Truck.g) none]), Order.g ⟨oa, ob, oc, od, ol⟩] _ _
  refine ICalls.of_body Tryz.func64 rfl Tryz.call64 rfl (Nat.le_of_ble_eq_true rfl) (fun _ => none) rfl ?_
  repeat' ((conv => whnf); first
    | refine Br.yes rfl ?_
    | refine Br.no rfl ?_
    | (refine Len.map ?_)
    | refine Br.yes (beq_self_eq_true _) ?_
    | refine Br.not ?_
    | refine Br.yes (decide_eq_true (by assumption)) ?_
    | refine Br.no (decide_eq_false (by assumption)) ?_
    | refine Br.yes (beq_iff_eq.2 (by assumption)) ?_
    | refine Br.no (beq_eq_false_iff_ne.2 (by assumption)) ?_
    | refine Br.yes (bne_iff_ne.2 (by assumption)) ?_
    | (refine Br.dec (fun h => ?_) (fun h => ?_) <;> try dsimp only at h)
    | (refine Br.beqI (fun h => ?_) (fun h => ?_) <;> try dsimp only at h)
    | (refine Br.bneI (fun h => ?_) (fun h => ?_) <;> try dsimp only at h)
    | refine Br.mk (fun h => ?_) (fun h => ?_)
    | refine Need.mk (by first | kernel_rfl | exact ⟨of_decide_eq_true rfl, of_decide_eq_true rfl⟩ | omega) ?_
    | refine Len.mk ⟨_, by simp only [List.length_cons, List.length_nil, Nat.reduceAdd, Int.cast_ofNat_Int]; rfl, ?_⟩
    | refine Wr.lit _ (by simp only [Int.reduceAdd, Int.reduceSub, Int.reduceMul]; rfl) (by decide) ?_
    | refine Wr.fit (by omega) ?_
    | refine Wr.fit (by dsimp only; omega) ?_
    | refine Elem.mk ⟨_, ⟨of_decide_eq_true rfl, rfl⟩, ?_⟩
    | refine Len.map ?_
    | refine Len.dropM ?_
    | refine Elem.dropM ?_
    | refine Len.takeM ?_
    | refine Elem.takeM ?_
    | refine Elem.mapK (by assumption) ?_
    | refine Elem.mapI (by omega) (by assumption) ?_
    | refine Elem.mapN (by omega) (fun x hx => ?_)
    | refine Elem.map (by omega) (by omega) (fun x hx => ?_)
    | refine (h1).use ⟨rfl, ?_⟩
    | refine (h2).use ⟨rfl, ?_⟩
    | refine CallX.mk ⟨_, _, (h1).x, rfl, ?_⟩
    | refine CallX.mk ⟨_, _, (h2).x, rfl, ?_⟩
    | refine Done.mk ⟨rfl, rfl⟩
    | refine Done.mk ⟨congrArg gb ?_, rfl⟩
    | refine Done.mk ⟨?_, rfl⟩
    | refine Done.mk ⟨?_, ?_⟩)
  all_goals first
    | omega
    | rfl
set_option maxRecDepth 100000 in
set_option maxHeartbeats 2000000 in
theorem refAddD_err (d : Depot) (o : Order) (hd : d.Ok) (he : ¬ addE d o = 0) : ICalls Tryz.prog 64 [d.g, o.g] [] (Done (.tup [.agg zeroD, gi (addE d o)]) []) := by
  have h1 := refOrderCheck_ok o d.Ways.length
  have h2 := refOrderAdd_ok d.Orders o hd.ol
  unfold addE at he ⊢
  generalize orderErr o d.Ways.length = e1 at *
  generalize addO d.Orders o = q at *
  obtain ⟨q1, q2⟩ := q
  obtain ⟨b, w, oo, l⟩ := d
  obtain ⟨oa, ob, oc, od, ol⟩ := o
  simp only at *
  clear hd
  show ICalls _ _ [.agg (b.c ++ [.list 1 (w.map rowG) none, .list 5 (oo.map Order.g) none, .list 6 (l.map Truck.g) none]), Order.g ⟨oa, ob, oc, od, ol⟩] _ _
  refine ICalls.of_body Tryz.func64 rfl Tryz.call64 rfl (Nat.le_of_ble_eq_true rfl) (fun _ => none) rfl ?_
  repeat' ((conv => whnf); first
    | refine Br.yes rfl ?_
    | refine Br.no rfl ?_
    | (refine Len.map ?_)
    | refine Br.yes (beq_self_eq_true _) ?_
    | refine Br.not ?_
    | refine Br.yes (decide_eq_true (by assumption)) ?_
    | refine Br.no (decide_eq_false (by assumption)) ?_
    | refine Br.yes (beq_iff_eq.2 (by assumption)) ?_
    | refine Br.no (beq_eq_false_iff_ne.2 (by assumption)) ?_
    | refine Br.yes (bne_iff_ne.2 (by assumption)) ?_
    | (refine Br.dec (fun h => ?_) (fun h => ?_) <;> try dsimp only at h)
    | (refine Br.beqI (fun h => ?_) (fun h => ?_) <;> try dsimp only at h)
    | (refine Br.bneI (fun h => ?_) (fun h => ?_) <;> try dsimp only at h)
    | refine Br.mk (fun h => ?_) (fun h => ?_)
    | refine Need.mk (by first | kernel_rfl | exact ⟨of_decide_eq_true rfl, of_decide_eq_true rfl⟩ | omega) ?_
    | refine Len.mk ⟨_, by simp only [List.length_cons, List.length_nil, Nat.reduceAdd, Int.cast_ofNat_Int]; rfl, ?_⟩
    | refine Wr.lit _ (by simp only [Int.reduceAdd, Int.reduceSub, Int.reduceMul]; rfl) (by decide) ?_
    | refine Wr.fit (by omega) ?_
    | refine Wr.fit (by dsimp only; omega) ?_
    | refine Elem.mk ⟨_, ⟨of_decide_eq_true rfl, rfl⟩, ?_⟩
    | refine Len.map ?_
    | refine Len.dropM ?_
    | refine Elem.dropM ?_
    | refine Len.takeM ?_
    | refine Elem.takeM ?_
    | refine Elem.mapK (by assumption) ?_
    | refine Elem.mapI (by omega) (by assumption) ?_
    | refine Elem.mapN (by omega) (fun x hx => ?_)
    | refine Elem.map (by omega) (by omega) (fun x hx => ?_)
    | refine (h1).use ⟨rfl, ?_⟩
    | refine (h2).use ⟨rfl, ?_⟩
    | refine CallX.mk ⟨_, _, (h1).x, rfl, ?_⟩
    | refine CallX.mk ⟨_, _, (h2).x, rfl, ?_⟩
    | refine Done.mk ⟨rfl, rfl⟩
    | refine Done.mk ⟨congrArg gb ?_, rfl⟩
    | refine Done.mk ⟨?_, rfl⟩
    | refine Done.mk ⟨?_, ?_⟩)
  all_goals first
    | omega
    | (rw [if_pos (by omega)]; rfl)
    | (rw [if_neg (by omega)]; rfl)
    | (rw [if_neg (by omega)] at he; exfalso; omega)
def pl_K19_2 : Nat → Option (List Nat × List Nat) := (fun k => bif Nat.beq k 2 then some ([1000002, 1, 2, 4, 6], [102, 104]) else none)
set_option maxRecDepth 100000 in
set_option maxHeartbeats 2000000 in
theorem refDropD_ok (d : Depot) (ids : List Int) (hd : d.Ok) (hi9 : (ids.length : Int) ≤ 1000000) (he : (dropsO d.Orders ids).2 = 0) : ICalls Tryz.prog 65 [d.g, .list 1 (ints ids) none] [] (Done (.tup [(dropD d ids).g, gi 0]) []) := by
  have hdr := fun l id h1 => refOrderDrop_ok l id h1
  have hol := hd.ol
  have hop := hd.op
  unfold dropD
  generalize hR : dropsO d.Orders ids = R at *
  obtain ⟨b, w, oo, l⟩ := d
  simp only at *
  clear hd
  show ICalls _ _ [.agg (b.c ++ [.list 1 (w.map rowG) none, .list 5 (oo.map Order.g) none, .list 6 (l.map Truck.g) none]), .list 1 (ints ids) none] _ _
  refine ICalls.of_body Tryz.func65 rfl Tryz.call65 rfl (Nat.le_of_ble_eq_true rfl) pl_K19_2 rfl ?_
  repeat' ((conv => whnf); first
    | refine Br.yes rfl ?_
    | refine Br.no rfl ?_
    | (refine Elem.mapN (by omega) (fun x hx => ?_))
    | (refine ILoop.ov 1000002 (fun ((cur, i) : List Order × Nat) => [(6, gi i)]) (fun ((cur, i) : List Order × Nat) => [(102, .cells (b.c ++ [.list 1 (w.map rowG) none, .list 5 (cur.map Order.g) none, .list 6 (l.map Truck.g) none]))]) (fun ((cur, i) : List Order × Nat) => (i ≤ ids.length ∧ (cur.length : Int) ≤ 1000000 ∧ Opens cur) ∧ dropsO cur (ids.drop i) = R) (fun ((cur, i) : List Order × Nat) => ids.length - i) ((oo, 0)) (by exact rfl) ?_; (conv => whnf); refine Start.mk rfl ?_ ?_; (try dsimp only); rotate_left; rintro ⟨cur, i⟩ ⟨⟨hi, hcl, hco⟩, hr⟩)
    | (refine Again.mk ⟨(((dropO cur x).1, i + 1)), rfl, ?_, ?_⟩ <;> try dsimp only)
    | refine Br.yes (beq_self_eq_true _) ?_
    | refine Br.not ?_
    | refine Br.yes (decide_eq_true (by assumption)) ?_
    | refine Br.no (decide_eq_false (by assumption)) ?_
    | refine Br.yes (beq_iff_eq.2 (by assumption)) ?_
    | refine Br.no (beq_eq_false_iff_ne.2 (by assumption)) ?_
    | refine Br.yes (bne_iff_ne.2 (by assumption)) ?_
    | (refine Br.dec (fun h => ?_) (fun h => ?_) <;> try dsimp only at h)
    | (refine Br.beqI (fun h => ?_) (fun h => ?_) <;> try dsimp only at h)
    | (refine Br.bneI (fun h => ?_) (fun h => ?_) <;> try dsimp only at h)
    | refine Br.mk (fun h => ?_) (fun h => ?_)
    | refine Need.mk (by first | kernel_rfl | exact ⟨of_decide_eq_true rfl, of_decide_eq_true rfl⟩ | omega) ?_
    | refine Len.mk ⟨_, by simp only [List.length_cons, List.length_nil, Nat.reduceAdd, Int.cast_ofNat_Int]; rfl, ?_⟩
    | refine Wr.lit _ (by simp only [Int.reduceAdd, Int.reduceSub, Int.reduceMul]; rfl) (by decide) ?_
    | refine Wr.fit (by omega) ?_
    | refine Wr.fit (by dsimp only; omega) ?_
    | refine Elem.mk ⟨_, ⟨of_decide_eq_true rfl, rfl⟩, ?_⟩
    | refine Len.map ?_
    | refine Len.dropM ?_
    | refine Elem.dropM ?_
    | refine Len.takeM ?_
    | refine Elem.takeM ?_
    | refine Elem.mapK (by assumption) ?_
    | refine Elem.mapI (by omega) (by assumption) ?_
    | refine Elem.mapN (by omega) (fun x hx => ?_)
    | refine Elem.map (by omega) (by omega) (fun x hx => ?_)
    | refine (hdr cur x hcl).use ⟨rfl, ?_⟩
    | refine CallX.mk ⟨_, _, (hdr cur x hcl).x, rfl, ?_⟩
    | refine Done.mk ⟨rfl, rfl⟩
    | refine Done.mk ⟨congrArg gb ?_, rfl⟩
    | refine Done.mk ⟨?_, rfl⟩
    | refine Done.mk ⟨?_, ?_⟩)
  all_goals first
    | omega
    | (have e := drops_bad hx hr (by assumption); rw [e] at he; exact absurd he (by decide))
    | exact ⟨⟨by omega, dropO_fits hcl hco⟩, drops_go hx hr (by omega)⟩
    | (rw [drops_end (by assumption) hr]; rfl)
    | exact ⟨⟨Nat.zero_le _, hol, hop⟩, hR⟩
    | rfl
def pl_K19_3 : Nat → Option (List Nat × List Nat) := (fun k => bif Nat.beq k 2 then some ([1000002, 1, 2, 4, 6], [102, 104]) else none)
set_option maxRecDepth 100000 in
set_option maxHeartbeats 2000000 in
theorem refDropD_err (d : Depot) (ids : List Int) (hd : d.Ok) (hi9 : (ids.length : Int) ≤ 1000000) (he : ¬ (dropsO d.Orders ids).2 = 0) : ICalls Tryz.prog 65 [d.g, .list 1 (ints ids) none] [] (Done (.tup [.agg zeroD, gi (dropsO d.Orders ids).2]) []) := by
  have hdr := fun l id h1 => refOrderDrop_ok l id h1
  have hol := hd.ol
  have hop := hd.op
  generalize hR : dropsO d.Orders ids = R at *
  obtain ⟨b, w, oo, l⟩ := d
  simp only at *
  clear hd
  show ICalls _ _ [.agg (b.c ++ [.list 1 (w.map rowG) none, .list 5 (oo.map Order.g) none, .list 6 (l.map Truck.g) none]), .list 1 (ints ids) none] _ _
  refine ICalls.of_body Tryz.func65 rfl Tryz.call65 rfl (Nat.le_of_ble_eq_true rfl) pl_K19_3 rfl ?_
  repeat' ((conv => whnf); first
    | refine Br.yes rfl ?_
    | refine Br.no rfl ?_
    | (refine Elem.mapN (by omega) (fun x hx => ?_))
    | (refine ILoop.ov 1000002 (fun ((cur, i) : List Order × Nat) => [(6, gi i)]) (fun ((cur, i) : List Order × Nat) => [(102, .cells (b.c ++ [.list 1 (w.map rowG) none, .list 5 (cur.map Order.g) none, .list 6 (l.map Truck.g) none]))]) (fun ((cur, i) : List Order × Nat) => (i ≤ ids.length ∧ (cur.length : Int) ≤ 1000000 ∧ Opens cur) ∧ dropsO cur (ids.drop i) = R) (fun ((cur, i) : List Order × Nat) => ids.length - i) ((oo, 0)) (by exact rfl) ?_; (conv => whnf); refine Start.mk rfl ?_ ?_; (try dsimp only); rotate_left; rintro ⟨cur, i⟩ ⟨⟨hi, hcl, hco⟩, hr⟩)
    | (refine Again.mk ⟨(((dropO cur x).1, i + 1)), rfl, ?_, ?_⟩ <;> try dsimp only)
    | refine Br.yes (beq_self_eq_true _) ?_
    | refine Br.not ?_
    | refine Br.yes (decide_eq_true (by assumption)) ?_
    | refine Br.no (decide_eq_false (by assumption)) ?_
    | refine Br.yes (beq_iff_eq.2 (by assumption)) ?_
    | refine Br.no (beq_eq_false_iff_ne.2 (by assumption)) ?_
    | refine Br.yes (bne_iff_ne.2 (by assumption)) ?_
    | (refine Br.dec (fun h => ?_) (fun h => ?_) <;> try dsimp only at h)
    | (refine Br.beqI (fun h => ?_) (fun h => ?_) <;> try dsimp only at h)
    | (refine Br.bneI (fun h => ?_) (fun h => ?_) <;> try dsimp only at h)
    | refine Br.mk (fun h => ?_) (fun h => ?_)
    | refine Need.mk (by first | kernel_rfl | exact ⟨of_decide_eq_true rfl, of_decide_eq_true rfl⟩ | omega) ?_
    | refine Len.mk ⟨_, by simp only [List.length_cons, List.length_nil, Nat.reduceAdd, Int.cast_ofNat_Int]; rfl, ?_⟩
    | refine Wr.lit _ (by simp only [Int.reduceAdd, Int.reduceSub, Int.reduceMul]; rfl) (by decide) ?_
    | refine Wr.fit (by omega) ?_
    | refine Wr.fit (by dsimp only; omega) ?_
    | refine Elem.mk ⟨_, ⟨of_decide_eq_true rfl, rfl⟩, ?_⟩
    | refine Len.map ?_
    | refine Len.dropM ?_
    | refine Elem.dropM ?_
    | refine Len.takeM ?_
    | refine Elem.takeM ?_
    | refine Elem.mapK (by assumption) ?_
    | refine Elem.mapI (by omega) (by assumption) ?_
    | refine Elem.mapN (by omega) (fun x hx => ?_)
    | refine Elem.map (by omega) (by omega) (fun x hx => ?_)
    | refine (hdr cur x hcl).use ⟨rfl, ?_⟩
    | refine CallX.mk ⟨_, _, (hdr cur x hcl).x, rfl, ?_⟩
    | refine Done.mk ⟨rfl, rfl⟩
    | refine Done.mk ⟨congrArg gb ?_, rfl⟩
    | refine Done.mk ⟨?_, rfl⟩
    | refine Done.mk ⟨?_, ?_⟩)
  all_goals first
    | omega
    | (rw [drops_bad hx hr (by assumption)]; rfl)
    | exact ⟨⟨by omega, dropO_fits hcl hco⟩, drops_go hx hr (by omega)⟩
    | (have e := drops_end (by assumption) hr; rw [e] at he; exact absurd rfl he)
    | exact ⟨⟨Nat.zero_le _, hol, hop⟩, hR⟩
    | rfl

end Go.Hl

/- Chapter 30: the reference's turns: pasts that go on, rest.  -/
set_option linter.unusedVariables false
set_option linter.unusedSimpArgs false
namespace Go.Hl
open Go.Gh Go.Proofs

set_option maxRecDepth 100000 in
set_option maxHeartbeats 2000000 in
theorem refMoreD_none (d : Depot) (id : Int) (r : List Rec) (hd : d.Ok) (h : atT d id < 0) : ICalls Tryz.prog 66 [d.g, gi id, .list 3 (recs r) none] [] (Done (.tup [.agg zeroD, gi 10]) []) := by
  have h1 := refAt_ok d.Trucks id (by have := hd.tl; omega)
  change ICalls _ _ _ _ (Done (gi (atT d id)) _) at h1
  generalize atT d id = ix at *
  obtain ⟨b, w, oo, l⟩ := d
  simp only at *
  clear hd
  show ICalls _ _ [.agg (b.c ++ [.list 1 (w.map rowG) none, .list 5 (oo.map Order.g) none, .list 6 (l.map Truck.g) none]), gi id, .list 3 (recs r) none] _ _
  refine ICalls.of_body Tryz.func66 rfl Tryz.call66 rfl (Nat.le_of_ble_eq_true rfl) (fun _ => none) rfl ?_
  repeat' ((conv => whnf); first
    | refine Br.yes rfl ?_
    | refine Br.no rfl ?_
    | refine Br.yes (beq_self_eq_true _) ?_
    | refine Br.not ?_
    | refine Br.yes (decide_eq_true (by assumption)) ?_
    | refine Br.no (decide_eq_false (by assumption)) ?_
    | refine Br.yes (beq_iff_eq.2 (by assumption)) ?_
    | refine Br.no (beq_eq_false_iff_ne.2 (by assumption)) ?_
    | refine Br.yes (bne_iff_ne.2 (by assumption)) ?_
    | (refine Br.dec (fun h => ?_) (fun h => ?_) <;> try dsimp only at h)
    | (refine Br.beqI (fun h => ?_) (fun h => ?_) <;> try dsimp only at h)
    | (refine Br.bneI (fun h => ?_) (fun h => ?_) <;> try dsimp only at h)
    | refine Br.mk (fun h => ?_) (fun h => ?_)
    | refine Need.mk (by first | kernel_rfl | exact ⟨of_decide_eq_true rfl, of_decide_eq_true rfl⟩ | omega) ?_
    | refine Len.mk ⟨_, by simp only [List.length_cons, List.length_nil, Nat.reduceAdd, Int.cast_ofNat_Int]; rfl, ?_⟩
    | refine Wr.lit _ (by simp only [Int.reduceAdd, Int.reduceSub, Int.reduceMul]; rfl) (by decide) ?_
    | refine Wr.fit (by omega) ?_
    | refine Wr.fit (by dsimp only; omega) ?_
    | refine Elem.mk ⟨_, ⟨of_decide_eq_true rfl, rfl⟩, ?_⟩
    | refine Len.map ?_
    | refine Len.dropM ?_
    | refine Elem.dropM ?_
    | refine Len.takeM ?_
    | refine Elem.takeM ?_
    | refine Elem.mapK (by assumption) ?_
    | refine Elem.mapI (by omega) (by assumption) ?_
    | refine Elem.mapN (by omega) (fun x hx => ?_)
    | refine Elem.map (by omega) (by omega) (fun x hx => ?_)
    | refine (h1).use ⟨rfl, ?_⟩
    | refine CallX.mk ⟨_, _, (h1).x, rfl, ?_⟩
    | refine Done.mk ⟨rfl, rfl⟩
    | refine Done.mk ⟨congrArg gb ?_, rfl⟩
    | refine Done.mk ⟨?_, rfl⟩
    | refine Done.mk ⟨?_, ?_⟩)
  all_goals first
    | omega
    | rfl
set_option maxRecDepth 100000 in
set_option maxHeartbeats 2000000 in
theorem refMoreD_err (d : Depot) (id : Int) (r : List Rec) (t : Truck) (hd : d.Ok) (hM : d.May) (hr9 : (r.length : Int) ≤ 100000) (h : 0 ≤ atT d id) (ht : d.Trucks[(atT d id).toNat]? = some t) (he : ¬ moreE d id r = 0) : ICalls Tryz.prog 66 [d.g, gi id, .list 3 (recs r) none] [] (Done (.tup [.agg zeroD, gi (moreE d id r)]) []) := by
  have h1 := refAt_ok d.Trucks id (by have := hd.tl; omega)
  change ICalls _ _ _ _ (Done (gi (atT d id)) _) at h1
  have hs := hM.short (List.mem_of_getElem? ht)
  have h2 := refMore_ok t r (by omega) (by omega)
  have h3 := refTruckMeter_ok d.Book (moreV t (t.Past ++ r)).1 (by have := moreV_len t (t.Past ++ r); rw [List.length_append] at this; push_cast at this; omega)
  rw [moreE_eq hM h ht] at he ⊢
  generalize moreV t (t.Past ++ r) = q at *
  obtain ⟨q1, q2⟩ := q
  simp only at *
  generalize truckMeter d.Book q1.Past = mm at *
  obtain ⟨m1, m2⟩ := mm
  generalize atT d id = ix at *
  obtain ⟨b, w, oo, l⟩ := d
  simp only at *
  clear hd hM
  show ICalls _ _ [.agg (b.c ++ [.list 1 (w.map rowG) none, .list 5 (oo.map Order.g) none, .list 6 (l.map Truck.g) none]), gi id, .list 3 (recs r) none] _ _
  refine ICalls.of_body Tryz.func66 rfl Tryz.call66 rfl (Nat.le_of_ble_eq_true rfl) (fun _ => none) rfl ?_
  repeat' ((conv => whnf); first
    | refine Br.yes rfl ?_
    | refine Br.no rfl ?_
    | (refine Elem.mapI (by omega) ht ?_)
    | refine Br.yes (beq_self_eq_true _) ?_
    | refine Br.not ?_
    | refine Br.yes (decide_eq_true (by assumption)) ?_
    | refine Br.no (decide_eq_false (by assumption)) ?_
    | refine Br.yes (beq_iff_eq.2 (by assumption)) ?_
    | refine Br.no (beq_eq_false_iff_ne.2 (by assumption)) ?_
    | refine Br.yes (bne_iff_ne.2 (by assumption)) ?_
    | (refine Br.dec (fun h => ?_) (fun h => ?_) <;> try dsimp only at h)
    | (refine Br.beqI (fun h => ?_) (fun h => ?_) <;> try dsimp only at h)
    | (refine Br.bneI (fun h => ?_) (fun h => ?_) <;> try dsimp only at h)
    | refine Br.mk (fun h => ?_) (fun h => ?_)
    | refine Need.mk (by first | kernel_rfl | exact ⟨of_decide_eq_true rfl, of_decide_eq_true rfl⟩ | omega) ?_
    | refine Len.mk ⟨_, by simp only [List.length_cons, List.length_nil, Nat.reduceAdd, Int.cast_ofNat_Int]; rfl, ?_⟩
    | refine Wr.lit _ (by simp only [Int.reduceAdd, Int.reduceSub, Int.reduceMul]; rfl) (by decide) ?_
    | refine Wr.fit (by omega) ?_
    | refine Wr.fit (by dsimp only; omega) ?_
    | refine Elem.mk ⟨_, ⟨of_decide_eq_true rfl, rfl⟩, ?_⟩
    | refine Len.map ?_
    | refine Len.dropM ?_
    | refine Elem.dropM ?_
    | refine Len.takeM ?_
    | refine Elem.takeM ?_
    | refine Elem.mapK (by assumption) ?_
    | refine Elem.mapI (by omega) (by assumption) ?_
    | refine Elem.mapN (by omega) (fun x hx => ?_)
    | refine Elem.map (by omega) (by omega) (fun x hx => ?_)
    | refine (h1).use ⟨rfl, ?_⟩
    | refine (h2).use ⟨rfl, ?_⟩
    | refine (h3).use ⟨rfl, ?_⟩
    | refine CallX.mk ⟨_, _, (h1).x, rfl, ?_⟩
    | refine CallX.mk ⟨_, _, (h2).x, rfl, ?_⟩
    | refine CallX.mk ⟨_, _, (h3).x, rfl, ?_⟩
    | refine Done.mk ⟨rfl, rfl⟩
    | refine Done.mk ⟨congrArg gb ?_, rfl⟩
    | refine Done.mk ⟨?_, rfl⟩
    | refine Done.mk ⟨?_, ?_⟩)
  all_goals first
    | omega
    | (rw [if_pos (by omega)]; rfl)
    | (rw [if_neg (by omega)]; rfl)
    | (rw [if_neg (by omega)] at he; exfalso; omega)
set_option maxRecDepth 100000 in
set_option maxHeartbeats 2000000 in
theorem refMoreD_ok (d : Depot) (id : Int) (r : List Rec) (t : Truck) (hd : d.Ok) (hM : d.May) (hr9 : (r.length : Int) ≤ 100000) (h : 0 ≤ atT d id) (ht : d.Trucks[(atT d id).toNat]? = some t) (he : moreE d id r = 0) : ICalls Tryz.prog 66 [d.g, gi id, .list 3 (recs r) none] [] (Done (.tup [(moreD d id r).g, gi 0]) []) := by
  have h1 := refAt_ok d.Trucks id (by have := hd.tl; omega)
  change ICalls _ _ _ _ (Done (gi (atT d id)) _) at h1
  have hs := hM.short (List.mem_of_getElem? ht)
  have h2 := refMore_ok t r (by omega) (by omega)
  have h3 := refTruckMeter_ok d.Book (moreV t (t.Past ++ r)).1 (by have := moreV_len t (t.Past ++ r); rw [List.length_append] at this; push_cast at this; omega)
  have hlt := (List.getElem?_eq_some_iff.1 ht).1
  have h4 := refWith_ok d (atT d id).toNat (moreV t (t.Past ++ r)).1 hd hlt
  rw [show (((atT d id).toNat : Nat) : Int) = atT d id by omega] at h4
  rw [more_set h ht]
  rw [moreE_eq hM h ht] at he
  generalize moreV t (t.Past ++ r) = q at *
  obtain ⟨q1, q2⟩ := q
  simp only at *
  generalize truckMeter d.Book q1.Past = mm at *
  obtain ⟨m1, m2⟩ := mm
  generalize atT d id = ix at *
  generalize (⟨d.Book, d.Ways, d.Orders, d.Trucks.set ix.toNat q1⟩ : Depot) = D at *
  obtain ⟨b, w, oo, l⟩ := d
  obtain ⟨b', w', oo', l'⟩ := D
  simp only at *
  clear hd hM
  have hq2 : q2 = 0 := by
    by_cases hz : q2 = 0
    · exact hz
    · rw [if_pos hz] at he; exact absurd he hz
  subst hq2
  have he : m2 = 0 := by simpa using he
  subst he
  show ICalls _ _ [.agg (b.c ++ [.list 1 (w.map rowG) none, .list 5 (oo.map Order.g) none, .list 6 (l.map Truck.g) none]), gi id, .list 3 (recs r) none] _ _
  refine ICalls.of_body Tryz.func66 rfl Tryz.call66 rfl (Nat.le_of_ble_eq_true rfl) (fun _ => none) rfl ?_
  repeat' ((conv => whnf); first
    | refine Br.yes rfl ?_
    | refine Br.no rfl ?_
    | (refine Elem.mapI (by omega) ht ?_)
    | refine Br.yes (beq_self_eq_true _) ?_
    | refine Br.not ?_
    | refine Br.yes (decide_eq_true (by assumption)) ?_
    | refine Br.no (decide_eq_false (by assumption)) ?_
    | refine Br.yes (beq_iff_eq.2 (by assumption)) ?_
    | refine Br.no (beq_eq_false_iff_ne.2 (by assumption)) ?_
    | refine Br.yes (bne_iff_ne.2 (by assumption)) ?_
    | (refine Br.dec (fun h => ?_) (fun h => ?_) <;> try dsimp only at h)
    | (refine Br.beqI (fun h => ?_) (fun h => ?_) <;> try dsimp only at h)
    | (refine Br.bneI (fun h => ?_) (fun h => ?_) <;> try dsimp only at h)
    | refine Br.mk (fun h => ?_) (fun h => ?_)
    | refine Need.mk (by first | kernel_rfl | exact ⟨of_decide_eq_true rfl, of_decide_eq_true rfl⟩ | omega) ?_
    | refine Len.mk ⟨_, by simp only [List.length_cons, List.length_nil, Nat.reduceAdd, Int.cast_ofNat_Int]; rfl, ?_⟩
    | refine Wr.lit _ (by simp only [Int.reduceAdd, Int.reduceSub, Int.reduceMul]; rfl) (by decide) ?_
    | refine Wr.fit (by omega) ?_
    | refine Wr.fit (by dsimp only; omega) ?_
    | refine Elem.mk ⟨_, ⟨of_decide_eq_true rfl, rfl⟩, ?_⟩
    | refine Len.map ?_
    | refine Len.dropM ?_
    | refine Elem.dropM ?_
    | refine Len.takeM ?_
    | refine Elem.takeM ?_
    | refine Elem.mapK (by assumption) ?_
    | refine Elem.mapI (by omega) (by assumption) ?_
    | refine Elem.mapN (by omega) (fun x hx => ?_)
    | refine Elem.map (by omega) (by omega) (fun x hx => ?_)
    | refine (h1).use ⟨rfl, ?_⟩
    | refine (h2).use ⟨rfl, ?_⟩
    | refine (h3).use ⟨rfl, ?_⟩
    | refine (h4).use ⟨rfl, ?_⟩
    | refine CallX.mk ⟨_, _, (h1).x, rfl, ?_⟩
    | refine CallX.mk ⟨_, _, (h2).x, rfl, ?_⟩
    | refine CallX.mk ⟨_, _, (h3).x, rfl, ?_⟩
    | refine CallX.mk ⟨_, _, (h4).x, rfl, ?_⟩
    | refine Done.mk ⟨rfl, rfl⟩
    | refine Done.mk ⟨congrArg gb ?_, rfl⟩
    | refine Done.mk ⟨?_, rfl⟩
    | refine Done.mk ⟨?_, ?_⟩)
  all_goals first
    | omega
    | rfl

theorem set_same {l : List Truck} {i : Nat} {t : Truck} (h : l[i]? = some t) : l.set i t = l := by
  obtain ⟨h1, h2⟩ := List.getElem?_eq_some_iff.1 h
  rw [← h2]; exact List.set_getElem_self h1
def pl_K20_1 : Nat → Option (List Nat × List Nat) := (fun k => bif Nat.beq k 4 then some ([1000004, 1, 2, 4, 6], [102, 104]) else none)
set_option maxRecDepth 100000 in
set_option maxHeartbeats 4000000 in
theorem refRestD_ok (d : Depot) (m : Int) (hd : d.Ok) (hM : d.May) (hm : 0 ≤ m ∧ m ≤ 40320) : ICalls Tryz.prog 67 [d.g, gi m] [] (Done (.tup [(restD d m).g, gi 0]) []) := by
  have hall := May.all hM
  have hst : ∀ (i : Nat) (t : Truck), d.Trucks[i]? = some t → (t.Past.length : Int) ≤ 40320 := fun i t ht => hM.short (List.mem_of_getElem? ht)
  have h1 := fun (i : Nat) (t : Truck) (ht : d.Trucks[i]? = some t) => refEnd_ok t.Past (by have := hst i t ht; omega)
  have h2 := fun (i : Nat) (t : Truck) (ht : d.Trucks[i]? = some t) => refRested_ok t m (by have := hst i t ht; omega)
  have hf := fun (i : Nat) (t : Truck) (ht : d.Trucks[i]? = some t) => (rest_good (b := d.Book) hm (hall t (List.mem_of_getElem? ht)).1 (hall t (List.mem_of_getElem? ht)).2).2.2.2.2
  have h3 := fun (cur : List Truck) (i : Nat) (t : Truck) (hI : TurnI (fun _ => restF m) d.Trucks cur i) (hi : i < d.Trucks.length) => refWith_ok ⟨d.Book, d.Ways, d.Orders, cur⟩ i t ⟨hd.rows, hd.wl, hd.ol, hd.op, by rw [hI.len]; exact hd.tl, fun s hs => by
    change s ∈ cur at hs
    rw [hI.eq] at hs
    rcases List.mem_append.1 hs with hs | hs
    · have hs := List.mem_of_mem_take hs
      rw [turnL_map] at hs
      obtain ⟨q, hq, rfl⟩ := List.mem_map.1 hs
      have hg := rest_good (b := d.Book) hm (hall q hq).1 (hall q hq).2
      have := past_short (truckErr_past hg.2.2.1); omega
    · have := hM.short (List.mem_of_mem_drop hs); omega⟩ (by rw [hI.len]; exact hi)
  have htl := hd.tl
  unfold restD turnD
  obtain ⟨b, w, oo, l⟩ := d
  simp only at *
  clear hd hM hall
  show ICalls _ _ [.agg (b.c ++ [.list 1 (w.map rowG) none, .list 5 (oo.map Order.g) none, .list 6 (l.map Truck.g) none]), gi m] _ _
  refine ICalls.of_body Tryz.func67 rfl Tryz.call67 rfl (Nat.le_of_ble_eq_true rfl) pl_K20_1 rfl ?_
  repeat' ((conv => whnf); first
    | refine Br.yes rfl ?_
    | refine Br.no rfl ?_
    | (refine Len.map ?_)
    | (refine Elem.mapK hcur ?_)
    | (refine Elem.mapN (by have := hI.len; omega) (fun t hcur => ?_); have ht := hI.get.symm.trans hcur)
    | (refine ILoop.ov 1000004 (fun ((cur, i) : List Truck × Nat) => [(6, gi i)]) (fun ((cur, i) : List Truck × Nat) => [(102, .cells (b.c ++ [.list 1 (w.map rowG) none, .list 5 (oo.map Order.g) none, .list 6 (cur.map Truck.g) none]))]) (fun ((cur, i) : List Truck × Nat) => TurnI (fun _ => restF m) l cur i) (fun ((cur, i) : List Truck × Nat) => l.length - i) ((l, 0)) (by exact rfl) ?_; (conv => whnf); refine Start.mk rfl ?_ ?_; (try dsimp only); rotate_left; rintro ⟨cur, i⟩ hI; (have hcl := hI.len; have hle := hI.le))
    | (refine Again.mk ⟨((cur.set i (restedV t m).1, i + 1)), rfl, ?_, ?_⟩ <;> try dsimp only)
    | (refine Again.mk ⟨((cur, i + 1)), rfl, ?_, ?_⟩ <;> try dsimp only)
    | refine Br.yes (beq_self_eq_true _) ?_
    | refine Br.not ?_
    | refine Br.yes (decide_eq_true (by assumption)) ?_
    | refine Br.no (decide_eq_false (by assumption)) ?_
    | refine Br.yes (beq_iff_eq.2 (by assumption)) ?_
    | refine Br.no (beq_eq_false_iff_ne.2 (by assumption)) ?_
    | refine Br.yes (bne_iff_ne.2 (by assumption)) ?_
    | (refine Br.dec (fun h => ?_) (fun h => ?_) <;> try dsimp only at h)
    | (refine Br.beqI (fun h => ?_) (fun h => ?_) <;> try dsimp only at h)
    | (refine Br.bneI (fun h => ?_) (fun h => ?_) <;> try dsimp only at h)
    | refine Br.mk (fun h => ?_) (fun h => ?_)
    | refine Need.mk (by first | kernel_rfl | exact ⟨of_decide_eq_true rfl, of_decide_eq_true rfl⟩ | omega) ?_
    | refine Len.mk ⟨_, by simp only [List.length_cons, List.length_nil, Nat.reduceAdd, Int.cast_ofNat_Int]; rfl, ?_⟩
    | refine Wr.lit _ (by simp only [Int.reduceAdd, Int.reduceSub, Int.reduceMul]; rfl) (by decide) ?_
    | refine Wr.fit (by omega) ?_
    | refine Wr.fit (by dsimp only; omega) ?_
    | refine Elem.mk ⟨_, ⟨of_decide_eq_true rfl, rfl⟩, ?_⟩
    | refine Len.map ?_
    | refine Len.dropM ?_
    | refine Elem.dropM ?_
    | refine Len.takeM ?_
    | refine Elem.takeM ?_
    | refine Elem.mapK (by assumption) ?_
    | refine Elem.mapI (by omega) (by assumption) ?_
    | refine Elem.mapN (by omega) (fun x hx => ?_)
    | refine Elem.map (by omega) (by omega) (fun x hx => ?_)
    | refine (h1 i t ht).use ⟨rfl, ?_⟩
    | refine (h2 i t ht).use ⟨rfl, ?_⟩
    | refine (h3 cur i (restedV t m).1 hI (by omega)).use ⟨rfl, ?_⟩
    | refine CallX.mk ⟨_, _, (h1 i t ht).x, rfl, ?_⟩
    | refine CallX.mk ⟨_, _, (h2 i t ht).x, rfl, ?_⟩
    | refine CallX.mk ⟨_, _, (h3 cur i (restedV t m).1 hI (by omega)).x, rfl, ?_⟩
    | refine Done.mk ⟨rfl, rfl⟩
    | refine Done.mk ⟨congrArg gb ?_, rfl⟩
    | refine Done.mk ⟨?_, rfl⟩
    | refine Done.mk ⟨?_, ?_⟩)
  all_goals first
    | omega
    | exact .start _ _
    | (have e := hI.next ht; have e2 := hf i t ht; rw [if_pos (by omega)] at e2; rw [e2] at e; exact e)
    | (have e := hI.next ht; have e2 := hf i t ht; rw [if_neg (by omega)] at e2; rw [e2, set_same hcur] at e; exact e)
    | (rw [hI.fin (by omega)]; rfl)
    | (exfalso; omega)
def pl_K20_2 : Nat → Option (List Nat × List Nat) := (fun k => bif Nat.beq k 4 then some ([1000004, 1, 2, 4, 6], [102, 104]) else none)
set_option maxRecDepth 100000 in
set_option maxHeartbeats 2000000 in
theorem refRestD_err (d : Depot) (m : Int) (hm : ¬ (0 ≤ m ∧ m ≤ 40320)) : ICalls Tryz.prog 67 [d.g, gi m] [] (Done (.tup [.agg zeroD, gi 4]) []) := by
  obtain ⟨b, w, oo, l⟩ := d
  show ICalls _ _ [.agg (b.c ++ [.list 1 (w.map rowG) none, .list 5 (oo.map Order.g) none, .list 6 (l.map Truck.g) none]), gi m] _ _
  refine ICalls.of_body Tryz.func67 rfl Tryz.call67 rfl (Nat.le_of_ble_eq_true rfl) pl_K20_2 rfl ?_
  repeat' ((conv => whnf); first
    | refine Br.yes rfl ?_
    | refine Br.no rfl ?_
    | refine Br.yes (beq_self_eq_true _) ?_
    | refine Br.not ?_
    | refine Br.yes (decide_eq_true (by assumption)) ?_
    | refine Br.no (decide_eq_false (by assumption)) ?_
    | refine Br.yes (beq_iff_eq.2 (by assumption)) ?_
    | refine Br.no (beq_eq_false_iff_ne.2 (by assumption)) ?_
    | refine Br.yes (bne_iff_ne.2 (by assumption)) ?_
    | (refine Br.dec (fun h => ?_) (fun h => ?_) <;> try dsimp only at h)
    | (refine Br.beqI (fun h => ?_) (fun h => ?_) <;> try dsimp only at h)
    | (refine Br.bneI (fun h => ?_) (fun h => ?_) <;> try dsimp only at h)
    | refine Br.mk (fun h => ?_) (fun h => ?_)
    | refine Need.mk (by first | kernel_rfl | exact ⟨of_decide_eq_true rfl, of_decide_eq_true rfl⟩ | omega) ?_
    | refine Len.mk ⟨_, by simp only [List.length_cons, List.length_nil, Nat.reduceAdd, Int.cast_ofNat_Int]; rfl, ?_⟩
    | refine Wr.lit _ (by simp only [Int.reduceAdd, Int.reduceSub, Int.reduceMul]; rfl) (by decide) ?_
    | refine Wr.fit (by omega) ?_
    | refine Wr.fit (by dsimp only; omega) ?_
    | refine Elem.mk ⟨_, ⟨of_decide_eq_true rfl, rfl⟩, ?_⟩
    | refine Len.map ?_
    | refine Len.dropM ?_
    | refine Elem.dropM ?_
    | refine Len.takeM ?_
    | refine Elem.takeM ?_
    | refine Elem.mapK (by assumption) ?_
    | refine Elem.mapI (by omega) (by assumption) ?_
    | refine Elem.mapN (by omega) (fun x hx => ?_)
    | refine Elem.map (by omega) (by omega) (fun x hx => ?_)
    | refine Done.mk ⟨rfl, rfl⟩
    | refine Done.mk ⟨congrArg gb ?_, rfl⟩
    | refine Done.mk ⟨?_, rfl⟩
    | refine Done.mk ⟨?_, ?_⟩)
  all_goals first
    | omega
    | rfl
    | (exfalso; omega)

end Go.Hl
