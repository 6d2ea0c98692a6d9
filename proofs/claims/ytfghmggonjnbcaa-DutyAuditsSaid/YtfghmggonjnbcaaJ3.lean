/- Contracts of functions, bundle J3; proved for whatever the arguments' types allow, as each theorem says. -/
import Derived.Test.YtfghmggonjnbcaaJ1
import Derived.Test.YtfghmggonjnbcaaH9

/- Chapter 16: the reference, looking back: does a minute break a clause?  -/
set_option linter.unusedVariables false
set_option linter.unusedSimpArgs false
namespace Go.Hl
open Go.Gh Go.Proofs

theorem rests_near {ks : List Int} : ∀ (m : Nat) (s : Span), s ∈ restsF ks m → 0 ≤ s.From ∧ s.From < s.To ∧ s.To ≤ m
  | 0, s, h => by cases h
  | m + 1, s, h => by
    rw [restsF] at h
    split at h
    · split at h
      · rcases List.eq_nil_or_concat (restsF ks m) with e | ⟨l, x, e⟩
        · rw [e] at h; cases h
        · rw [e, List.concat_eq_append, extL_snoc] at h
          rcases List.mem_append.1 h with h | h
          · have := rests_near m s (by rw [e, List.concat_eq_append]; exact List.mem_append_left _ h); omega
          · rw [List.mem_singleton.1 h]
            have := rests_near m x (by rw [e, List.concat_eq_append]; exact List.mem_append_right _ (List.mem_singleton.2 rfl))
            simp only; omega
      · rcases List.mem_append.1 h with h | h
        · have := rests_near m s h; omega
        · rw [List.mem_singleton.1 h]; simp only; omega
    · have := rests_near m s h; omega
theorem beF_range (b : Book) : ∀ (l : List Span) (a : Int) (f : Bool), Near l → 0 ≤ a ∧ a ≤ 1000000 → 0 ≤ beF b l a f ∧ beF b l a f ≤ 1000000
  | [], a, _, _, h => h
  | s :: t, a, f, hn, h => by
    have hs := hn s (List.mem_cons_self ..)
    have ht : Near t := fun x hx => hn x (List.mem_cons_of_mem _ hx)
    rw [beF]
    split
    · exact beF_range b t _ _ ht (by omega)
    · split
      · exact beF_range b t _ _ ht h
      · exact beF_range b t _ _ ht h
/-- Does the last spell end at the minute? -/
def endsB (l : List Span) (m : Int) : Bool := match l.getLast? with
  | none => false
  | some s => decide (s.To = m)
def redC (b : Book) (l : List Span) (sab : Int) : Nat → Nat → Int
  | 0, _ => 0
  | n + 1, i => (match l[i]? with | some x => if sab < x.To ∧ redF b l i = true then 1 else 0 | none => 0) + redC b l sab n (i + 1)
def brK (b : Book) (ahead : Int) (l : List Span) : Nat → Nat → Bool
  | 0, _ => false
  | n + 1, i => (match l[i]? with | some x => decide (0 < ahead) && (decide (x.To = ahead) && decide (x.To - x.From < b.Weekly)) | none => false) || brK b ahead l n (i + 1)
def brkF (b : Book) (ks : List Int) (m : Nat) (c : Int) : Bool :=
  if c = 5 then decide (b.Round - b.Reduced ≤ (m : Int) - lastF b.Reduced m (restsF ks m) 0)
  else if c = 7 then decide (b.Rounds ≤ (m : Int) - lastF b.Short m (restsF ks m) 0)
  else if c = 0 then decide (ks[m]? = some 3) && decide (b.Drive < countK ks 3 3 (beF b (restsF ks m) 0 false) m)
  else if c = 1 then decide (ks[m]? = some 3) && decide (b.Longer < countK ks 3 3 (lastF b.Reduced m (restsF ks m) 0) m)
  else if c = 2 then decide (ks[m]? = some 3) && (decide (countK ks 3 3 (lastF b.Reduced m (restsF ks m) 0) m = b.Day + 1) && decide (b.Longers < lgF b ks (lastF b.Short m (restsF ks m) 0) m (restsF ks m) (lastF b.Short m (restsF ks m) 0) 0))
  else if c = 3 then decide (ks[m]? = some 3) && decide (b.Week < countK ks 3 3 ((m : Int) - (m : Int).tmod b.Length) m)
  else if c = 4 then decide (ks[m]? = some 3) && decide (b.Fortnight < countK ks 3 3 ((m : Int) - (m : Int).tmod b.Length - b.Length) m)
  else if c = 9 then (decide (ks[m]? = some 3) || decide (ks[m]? = some 2)) && decide (b.Labour < countK ks 3 2 ((m : Int) - (m : Int).tmod b.Length) m)
  else if c = 6 then endsB (restsF ks m) m && (redF b (restsF ks m) ((restsF ks m).length - 1) && decide (b.Reduces < redC b (restsF ks m) (lastF b.Short m (restsF ks m) 0) (restsF ks m).length 0))
  else if c = 8 then endsB (restsF ks m) m && (match (restsF ks m).getLast? with | none => false | some s => (decide (b.Short ≤ s.To - s.From) && decide (s.To - s.From < b.Weekly)) && brK b (lastF b.Short m ((restsF ks m).take (((restsF ks m).length : Int) - 1).toNat) 0) (restsF ks m) (((restsF ks m).length : Int) - 1).toNat 0)
  else false

theorem tmod_fitJ {a n : Int} (ha : 0 ≤ a) (hn : 0 < n) : 0 ≤ a.tmod n ∧ a.tmod n ≤ a := by
  rw [Int.tmod_eq_emod_of_nonneg ha]
  have h1 := Int.mul_ediv_add_emod a n
  have h2 := Int.mul_nonneg (show 0 ≤ n by omega) (Int.ediv_nonneg ha (show 0 ≤ n by omega))
  exact ⟨Int.emod_nonneg a (by omega), by omega⟩
theorem breakEnd_facts {ks : List Int} {m : Nat} (hm : m ≤ ks.length) (hks : (ks.length : Int) ≤ 1000000) : Near (restsF ks m) ∧ ((restsF ks m).length : Int) ≤ 1000000 ∧ (∀ s, s ∈ restsF ks m → s.To ≤ ks.length) := by
  have h1 := restsF_len ks m
  refine ⟨fun s hs => ?_, by omega, fun s hs => ?_⟩
  · have := rests_near m s hs; omega
  · have := rests_near m s hs; omega
def pl_J3_1 : Nat → Option (List Nat × List Nat) := (fun k => bif Nat.beq k 26 then some ([1000026, 4, 9, 11, 14, 15, 16], [104]) else bif Nat.beq k 38 then some ([1000038, 4, 9, 17, 18, 19, 20], [104, 117]) else none)
set_option maxRecDepth 100000 in
set_option maxHeartbeats 4000000 in
theorem breaks8_ok (b : Book) (ks : List Int) (m : Nat) (k : Int) (hkm : ks[m]? = some k) (hks : (ks.length : Int) ≤ 1000000) (hb : b.May) (c : Int) (hc : c = 0 ∨ c = 1 ∨ c = 2 ∨ c = 3 ∨ c = 4 ∨ c = 5 ∨ c = 7 ∨ c = 9) :
    ICalls Try.prog 20 [b.g, .list 1 (ints ks) none, gi m, gi c] [] (Done (gb (brkF b ks m c)) []) := by
  have hml : (m : Int) < ks.length := by have := (List.getElem?_eq_some_iff.1 hkm).1; omega
  obtain ⟨hn, hl, hin⟩ := breakEnd_facts (ks := ks) (m := m) (by omega) hks
  have h1 := rests_ok ks m (by omega) hks
  have h2 := last16_ok (restsF ks m) b.Reduced m hl hn
  have h3 := last16_ok (restsF ks m) b.Short m hl hn
  have h4 := breakEnd_ok b (restsF ks m) hl hn
  have r2 := lastF_range (long := b.Reduced) (m := m) (restsF ks m) 0 hn (by omega)
  have r3 := lastF_range (long := b.Short) (m := m) (restsF ks m) 0 hn (by omega)
  have r4 := beF_range b (restsF ks m) 0 false hn (by omega)
  have h5 := longers16_ok b ks (restsF ks m) (lastF b.Short m (restsF ks m) 0) m hks hl hn hin r3.1 ⟨by omega, hml⟩
  have hw := hb.within
  unfold Book.within at hw
  have hmod := tmod_fitJ (a := (m : Int)) (n := b.Length) (by omega) (by omega)
  have c1 := count16_ok ks 3 3 (beF b (restsF ks m) 0 false) m hks (by omega) hml
  have c2 := count16_ok ks 3 3 (lastF b.Reduced m (restsF ks m) 0) m hks (by omega) hml
  have c3 := count16_ok ks 3 3 ((m : Int) - (m : Int).tmod b.Length) m hks (by omega) hml
  have c4 := count16_ok ks 3 3 ((m : Int) - (m : Int).tmod b.Length - b.Length) m hks (by omega) hml
  have c5 := count16_ok ks 3 2 ((m : Int) - (m : Int).tmod b.Length) m hks (by omega) hml
  unfold brkF
  rw [hkm]
  generalize countK ks 3 3 (beF b (restsF ks m) 0 false) m = n1 at *
  generalize countK ks 3 3 (lastF b.Reduced m (restsF ks m) 0) m = n2 at *
  generalize countK ks 3 3 ((m : Int) - (m : Int).tmod b.Length) m = n3 at *
  generalize countK ks 3 3 ((m : Int) - (m : Int).tmod b.Length - b.Length) m = n4 at *
  generalize countK ks 3 2 ((m : Int) - (m : Int).tmod b.Length) m = n5 at *
  generalize lgF b ks (lastF b.Short m (restsF ks m) 0) m (restsF ks m) (lastF b.Short m (restsF ks m) 0) 0 = n6 at *
  generalize beF b (restsF ks m) 0 false = e1 at *
  generalize hd2 : lastF b.Reduced m (restsF ks m) 0 = d2 at *
  generalize hd3 : lastF b.Short m (restsF ks m) 0 = d3 at *
  generalize redF b (restsF ks m) ((restsF ks m).length - 1) = z1
  generalize endsB (restsF ks m) m = z2
  generalize restsF ks m = L at *
  clear hb hin
  rcases hc with rfl | rfl | rfl | rfl | rfl | rfl | rfl | rfl <;>
  {
  refine ICalls.of_body Try.func20 rfl Try.call20 rfl (Nat.le_of_ble_eq_true rfl) pl_J3_1 rfl ?_
  repeat' ((conv => whnf); first
    | refine Br.yes rfl ?_
    | refine Br.no rfl ?_
    | (refine Elem.mapK (by assumption) ?_)
    | (refine Elem.mapI (by omega) (by assumption) ?_)
    | (refine Elem.map (by omega) (by omega) (fun s hx => ?_))
    | refine Br.yes (beq_self_eq_true _) ?_
    | refine Br.not ?_
    | refine Br.yes (decide_eq_true (by assumption)) ?_
    | refine Br.no (decide_eq_false (by assumption)) ?_
    | refine Br.yes (beq_iff_eq.2 (by assumption)) ?_
    | refine Br.no (beq_eq_false_iff_ne.2 (by assumption)) ?_
    | refine Br.yes (bne_iff_ne.2 (by assumption)) ?_
    | (refine Br.dec (fun h => ?_) (fun h => ?_) <;> try dsimp only at h)
    | (refine Br.beqI (fun h => ?_) (fun h => ?_) <;> try dsimp only at h)
    | (refine Br.bneI (fun h => ?_) (fun h => ?_) <;> try dsimp only at h)
    | refine Br.mk (fun h => ?_) (fun h => ?_)
    | refine Need.mk (by first | kernel_rfl | exact ⟨of_decide_eq_true rfl, of_decide_eq_true rfl⟩ | omega) ?_
    | refine Len.mk ⟨_, by simp only [List.length_cons, List.length_nil, Nat.reduceAdd, Int.cast_ofNat_Int]; rfl, ?_⟩
    | refine Wr.lit _ (by simp only [Int.reduceAdd, Int.reduceSub, Int.reduceMul]; rfl) (by decide) ?_
    | refine Wr.fit (by omega) ?_
    | refine Wr.fit (by dsimp only; omega) ?_
    | refine Elem.mk ⟨_, ⟨of_decide_eq_true rfl, rfl⟩, ?_⟩
    | refine Len.map ?_
    | refine Len.dropM ?_
    | refine Elem.dropM ?_
    | refine Len.takeM ?_
    | refine Elem.takeM ?_
    | refine Elem.mapK (by assumption) ?_
    | refine Elem.mapI (by omega) (by assumption) ?_
    | refine Elem.mapN (by omega) (fun x hx => ?_)
    | refine Elem.map (by omega) (by omega) (fun x hx => ?_)
    | refine (h1).use ⟨rfl, ?_⟩
    | refine (h2).use ⟨rfl, ?_⟩
    | refine (h3).use ⟨rfl, ?_⟩
    | refine (h4).use ⟨rfl, ?_⟩
    | refine (h5).use ⟨rfl, ?_⟩
    | refine (c1).use ⟨rfl, ?_⟩
    | refine (c2).use ⟨rfl, ?_⟩
    | refine (c3).use ⟨rfl, ?_⟩
    | refine (c4).use ⟨rfl, ?_⟩
    | refine (c5).use ⟨rfl, ?_⟩
    | refine CallX.mk ⟨_, _, (h1).x, rfl, ?_⟩
    | refine CallX.mk ⟨_, _, (h2).x, rfl, ?_⟩
    | refine CallX.mk ⟨_, _, (h3).x, rfl, ?_⟩
    | refine CallX.mk ⟨_, _, (h4).x, rfl, ?_⟩
    | refine CallX.mk ⟨_, _, (h5).x, rfl, ?_⟩
    | refine CallX.mk ⟨_, _, (c1).x, rfl, ?_⟩
    | refine CallX.mk ⟨_, _, (c2).x, rfl, ?_⟩
    | refine CallX.mk ⟨_, _, (c3).x, rfl, ?_⟩
    | refine CallX.mk ⟨_, _, (c4).x, rfl, ?_⟩
    | refine CallX.mk ⟨_, _, (c5).x, rfl, ?_⟩
    | refine Done.mk ⟨rfl, rfl⟩
    | refine Done.mk ⟨congrArg gb ?_, rfl⟩
    | refine Done.mk ⟨?_, rfl⟩
    | refine Done.mk ⟨?_, ?_⟩)
  all_goals first
    | omega
    | (simp_all; done)
  }

end Go.Hl

/- Chapter 16: the reference, looking back: from where on a finding counts; its errors.  -/
set_option linter.unusedVariables false
set_option linter.unusedSimpArgs false
namespace Go.Hl
open Go.Gh Go.Proofs

/-- The spells ahead of the one that ends at the minute. -/
def aheadL (l : List Span) (m : Int) : List Span := if endsB l m = true then l.take ((l.length : Int) - 1).toNat else l
def sinF (b : Book) (ks : List Int) (m : Nat) (c : Int) : Int :=
  if c = 0 then beF b (aheadL (restsF ks m) m) 0 false
  else if c = 1 ∨ c = 5 then lastF b.Reduced m (aheadL (restsF ks m) m) 0
  else if c = 3 ∨ c = 9 then (m : Int) - (m : Int).tmod b.Length
  else if c = 4 then (if (m : Int) - (m : Int).tmod b.Length < b.Length then 0 else (m : Int) - (m : Int).tmod b.Length - b.Length)
  else lastF b.Short m (aheadL (restsF ks m) m) 0
theorem endsB_of {l : List Span} {m : Int} {s : Span} (h : l[((l.length : Int) - 1).toNat]? = some s) : endsB l m = decide (s.To = m) := by
  unfold endsB
  rcases List.eq_nil_or_concat l with rfl | ⟨k, x, rfl⟩
  · simp at h
  · have e : (((k.concat x).length : Int) - 1).toNat = k.length := by simp
    rw [e] at h
    simp at h
    subst h
    simp
set_option maxRecDepth 100000 in
set_option maxHeartbeats 4000000 in
theorem since16_ok (b : Book) (ks : List Int) (m : Nat) (hm : m < ks.length) (hks : (ks.length : Int) ≤ 1000000) (hb : b.May) (c : Int) :
    ICalls Try.prog 21 [b.g, .list 1 (ints ks) none, gi m, gi c] [] (Done (gi (sinF b ks m c)) []) := by
  obtain ⟨hn, hl, hin⟩ := breakEnd_facts (ks := ks) (m := m) (by omega) hks
  have h1 := rests_ok ks m (by omega) hks
  have ht : Near ((restsF ks m).take (((restsF ks m).length : Int) - 1).toNat) := fun s hs => hn s (List.mem_of_mem_take hs)
  have htl : ((((restsF ks m).take (((restsF ks m).length : Int) - 1).toNat)).length : Int) ≤ 1000000 := by rw [List.length_take]; omega
  have a1 := breakEnd_ok b (restsF ks m) hl hn
  have a2 := last16_ok (restsF ks m) b.Reduced m hl hn
  have a3 := last16_ok (restsF ks m) b.Short m hl hn
  have e1 := breakEnd_ok b _ htl ht
  have e2 := last16_ok _ b.Reduced m htl ht
  have e3 := last16_ok _ b.Short m htl ht
  have hw := hb.within
  unfold Book.within at hw
  have hmod := tmod_fitJ (a := (m : Int)) (n := b.Length) (by omega) (by omega)
  rw [show spans ((restsF ks m).take (((restsF ks m).length : Int) - 1).toNat) = (spans (restsF ks m)).take (((restsF ks m).length : Int) - 1).toNat from List.map_take] at e1 e2 e3
  unfold sinF aheadL
  have hends := fun s h => endsB_of (l := restsF ks m) (m := m) (s := s) h
  have hz : (restsF ks m).length = 0 → endsB (restsF ks m) m = false := by
    intro h
    rw [List.length_eq_zero_iff.1 h]; rfl
  generalize restsF ks m = L at *
  generalize hE : endsB L m = E at *
  clear hb hin
  cases E with
  | true =>
    simp only [if_true]
    have hpos : 0 < (L.length : Int) := by
      by_cases h : L.length = 0
      · have := hz h; cases this
      · omega
    have hends2 : ∀ s, L[((L.length : Int) - 1).toNat]? = some s → s.To = m := fun s h => of_decide_eq_true (hends s h).symm
    clear hends hz hE
    generalize beF b (L.take ((L.length : Int) - 1).toNat) 0 false = x1 at *
    generalize lastF b.Reduced m (L.take ((L.length : Int) - 1).toNat) 0 = x2 at *
    generalize lastF b.Short m (L.take ((L.length : Int) - 1).toNat) 0 = x3 at *
    refine ICalls.of_body Try.func21 rfl Try.call21 rfl (Nat.le_of_ble_eq_true rfl) (fun _ => none) rfl ?_
    repeat' ((conv => whnf); first
      | refine Br.yes rfl ?_
      | refine Br.no rfl ?_
      | (refine Need.mk ⟨by omega, by rw [List.length_map]; omega⟩ ?_)
      | (refine Elem.mapI (by omega) (by assumption) ?_)
      | (refine Elem.map (by omega) (by omega) (fun s hx => ?_); have hes := hends2 s hx)
      | refine Br.yes (beq_self_eq_true _) ?_
      | refine Br.not ?_
      | refine Br.yes (decide_eq_true (by assumption)) ?_
      | refine Br.no (decide_eq_false (by assumption)) ?_
      | refine Br.yes (beq_iff_eq.2 (by assumption)) ?_
      | refine Br.no (beq_eq_false_iff_ne.2 (by assumption)) ?_
      | refine Br.yes (bne_iff_ne.2 (by assumption)) ?_
      | (refine Br.dec (fun h => ?_) (fun h => ?_) <;> try dsimp only at h)
      | (refine Br.beqI (fun h => ?_) (fun h => ?_) <;> try dsimp only at h)
      | (refine Br.bneI (fun h => ?_) (fun h => ?_) <;> try dsimp only at h)
      | refine Br.mk (fun h => ?_) (fun h => ?_)
      | refine Need.mk (by first | kernel_rfl | exact ⟨of_decide_eq_true rfl, of_decide_eq_true rfl⟩ | omega) ?_
      | refine Len.mk ⟨_, by simp only [List.length_cons, List.length_nil, Nat.reduceAdd, Int.cast_ofNat_Int]; rfl, ?_⟩
      | refine Wr.lit _ (by simp only [Int.reduceAdd, Int.reduceSub, Int.reduceMul]; rfl) (by decide) ?_
      | refine Wr.fit (by omega) ?_
      | refine Wr.fit (by dsimp only; omega) ?_
      | refine Elem.mk ⟨_, ⟨of_decide_eq_true rfl, rfl⟩, ?_⟩
      | refine Len.map ?_
      | refine Len.dropM ?_
      | refine Elem.dropM ?_
      | refine Len.takeM ?_
      | refine Elem.takeM ?_
      | refine Elem.mapK (by assumption) ?_
      | refine Elem.mapI (by omega) (by assumption) ?_
      | refine Elem.mapN (by omega) (fun x hx => ?_)
      | refine Elem.map (by omega) (by omega) (fun x hx => ?_)
      | refine (h1).use ⟨rfl, ?_⟩
      | refine (e1).use ⟨rfl, ?_⟩
      | refine (e2).use ⟨rfl, ?_⟩
      | refine (e3).use ⟨rfl, ?_⟩
      | refine CallX.mk ⟨_, _, (h1).x, rfl, ?_⟩
      | refine CallX.mk ⟨_, _, (e1).x, rfl, ?_⟩
      | refine CallX.mk ⟨_, _, (e2).x, rfl, ?_⟩
      | refine CallX.mk ⟨_, _, (e3).x, rfl, ?_⟩
      | refine Done.mk ⟨rfl, rfl⟩
      | refine Done.mk ⟨congrArg gb ?_, rfl⟩
      | refine Done.mk ⟨?_, rfl⟩
      | refine Done.mk ⟨?_, ?_⟩)
    all_goals first
      | omega
      | (simp_all; done)
      | (rw [if_neg (by assumption), if_neg (by omega), if_neg (by omega), if_pos (by assumption), if_neg (by assumption)])
      | (rw [if_neg (by omega), if_neg (by omega), if_neg (by omega), if_pos (by omega), if_pos (by assumption)])
  | false =>
    simp only [Bool.false_eq_true, if_false]
    have hends2 : ∀ s, L[((L.length : Int) - 1).toNat]? = some s → ¬ s.To = m := fun s h => of_decide_eq_false (hends s h).symm
    clear hends hz hE
    generalize beF b L 0 false = x1 at *
    generalize lastF b.Reduced m L 0 = x2 at *
    generalize lastF b.Short m L 0 = x3 at *
    refine ICalls.of_body Try.func21 rfl Try.call21 rfl (Nat.le_of_ble_eq_true rfl) (fun _ => none) rfl ?_
    repeat' ((conv => whnf); first
      | refine Br.yes rfl ?_
      | refine Br.no rfl ?_
      | (refine Elem.mapI (by omega) (by assumption) ?_)
      | (refine Elem.map (by omega) (by omega) (fun s hx => ?_); have hes := hends2 s hx)
      | refine Br.yes (beq_self_eq_true _) ?_
      | refine Br.not ?_
      | refine Br.yes (decide_eq_true (by assumption)) ?_
      | refine Br.no (decide_eq_false (by assumption)) ?_
      | refine Br.yes (beq_iff_eq.2 (by assumption)) ?_
      | refine Br.no (beq_eq_false_iff_ne.2 (by assumption)) ?_
      | refine Br.yes (bne_iff_ne.2 (by assumption)) ?_
      | (refine Br.dec (fun h => ?_) (fun h => ?_) <;> try dsimp only at h)
      | (refine Br.beqI (fun h => ?_) (fun h => ?_) <;> try dsimp only at h)
      | (refine Br.bneI (fun h => ?_) (fun h => ?_) <;> try dsimp only at h)
      | refine Br.mk (fun h => ?_) (fun h => ?_)
      | refine Need.mk (by first | kernel_rfl | exact ⟨of_decide_eq_true rfl, of_decide_eq_true rfl⟩ | omega) ?_
      | refine Len.mk ⟨_, by simp only [List.length_cons, List.length_nil, Nat.reduceAdd, Int.cast_ofNat_Int]; rfl, ?_⟩
      | refine Wr.lit _ (by simp only [Int.reduceAdd, Int.reduceSub, Int.reduceMul]; rfl) (by decide) ?_
      | refine Wr.fit (by omega) ?_
      | refine Wr.fit (by dsimp only; omega) ?_
      | refine Elem.mk ⟨_, ⟨of_decide_eq_true rfl, rfl⟩, ?_⟩
      | refine Len.map ?_
      | refine Len.dropM ?_
      | refine Elem.dropM ?_
      | refine Len.takeM ?_
      | refine Elem.takeM ?_
      | refine Elem.mapK (by assumption) ?_
      | refine Elem.mapI (by omega) (by assumption) ?_
      | refine Elem.mapN (by omega) (fun x hx => ?_)
      | refine Elem.map (by omega) (by omega) (fun x hx => ?_)
      | refine (h1).use ⟨rfl, ?_⟩
      | refine (a1).use ⟨rfl, ?_⟩
      | refine (a2).use ⟨rfl, ?_⟩
      | refine (a3).use ⟨rfl, ?_⟩
      | refine CallX.mk ⟨_, _, (h1).x, rfl, ?_⟩
      | refine CallX.mk ⟨_, _, (a1).x, rfl, ?_⟩
      | refine CallX.mk ⟨_, _, (a2).x, rfl, ?_⟩
      | refine CallX.mk ⟨_, _, (a3).x, rfl, ?_⟩
      | refine Done.mk ⟨rfl, rfl⟩
      | refine Done.mk ⟨congrArg gb ?_, rfl⟩
      | refine Done.mk ⟨?_, rfl⟩
      | refine Done.mk ⟨?_, ?_⟩)
    all_goals first
      | omega
      | (simp_all; done)
      | (rw [if_neg (by assumption), if_neg (by omega), if_neg (by omega), if_pos (by assumption), if_neg (by assumption)])
      | (rw [if_neg (by omega), if_neg (by omega), if_neg (by omega), if_pos (by omega), if_pos (by assumption)])

end Go.Hl
