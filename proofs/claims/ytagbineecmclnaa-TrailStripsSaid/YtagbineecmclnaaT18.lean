/- Contracts of functions, bundle T18; proved for whatever the arguments' types allow, as each theorem says. -/
import Derived.Test.YtagbineecmclnaaT17

/- Chapter 20: TrailStrips.  -/
set_option linter.unusedVariables false
set_option linter.unusedSimpArgs false
namespace Go.Hl
open Go.Gh Go.Proofs

def restW (l : List Task) (s : Spot) (i : Int) : Int := if i = s.Task ∧ ¬ s.Served = 0 then cntF l (i + 1) else cntF l i
theorem restW_at {l : List Task} {s : Spot} {i : Int} {t : Task} (h0 : 0 ≤ s.Task) (hi : s.Task ≤ i) (h : i < l.length) (ht : tAt l i = t) : restW l s i = (if 0 < t.Serve ∧ (s.Task < i ∨ s.Served = 0) then 1 else 0) + restW l s (i + 1) := by
  have h1 : restW l s (i + 1) = cntF l (i + 1) := if_neg (by omega)
  rw [h1]
  unfold restW
  by_cases h2 : i = s.Task ∧ ¬ s.Served = 0
  · rw [if_pos h2, if_neg (by omega)]; omega
  · rw [if_neg h2, cntF_at (by omega) h, ht]
    by_cases h3 : 0 < t.Serve
    · rw [if_pos h3, if_pos ⟨h3, by omega⟩]
    · rw [if_neg h3, if_neg (by omega)]
theorem restW_yes {l : List Task} {s : Spot} {i n W : Int} {t : Task} (h0 : 0 ≤ s.Task) (hi : s.Task ≤ i) (h : i < l.length) (ht : tAt l i = t) (hr : n + restW l s i = W) (h1 : 0 < t.Serve) (h2 : s.Task < i ∨ s.Served = 0) : n + 1 + restW l s (i + 1) = W := by
  rw [restW_at h0 hi h ht, if_pos ⟨h1, h2⟩] at hr; omega
theorem restW_no {l : List Task} {s : Spot} {i n W : Int} {t : Task} (h0 : 0 ≤ s.Task) (hi : s.Task ≤ i) (h : i < l.length) (ht : tAt l i = t) (hr : n + restW l s i = W) (h1 : ¬ (0 < t.Serve ∧ (s.Task < i ∨ s.Served = 0))) : n + restW l s (i + 1) = W := by
  rw [restW_at h0 hi h ht, if_neg h1] at hr; omega
theorem restW_end {l : List Task} {s : Spot} {i n W : Int} (h : ¬ i < l.length) (hr : n + restW l s i = W) : n = W := by
  have : restW l s i = 0 := by
    unfold restW cntF
    rw [List.drop_eq_nil_of_le (by omega), List.drop_eq_nil_of_le (by omega)]; simp [cnt]
  omega
theorem restW_start {l : List Task} {s : Spot} : (0 : Int) + restW l s s.Task = wantV l s (-1) := by
  unfold restW wantV
  by_cases h : s.Served = 0
  · rw [if_neg (by omega), if_pos (.inl h)]; omega
  · rw [if_pos ⟨rfl, h⟩, if_neg (by omega)]; omega

def opn (b : Bool) (l : List Span) (m : Int) : Prop := (b || hasL l m) = true
theorem opn_yes {b : Bool} {l : List Span} {m : Int} (h : b = true) : opn true l m := by subst h; rfl
theorem opn_next {l : List Span} {i : Nat} {o : Span} {b b' : Bool} {m : Int} (hx : l[i]? = some o) (h : opn b (l.drop i) m) (hb : b = false) (hb' : b' = o.has m) : opn b' (l.drop (i + 1)) m := by
  subst hb hb'
  unfold opn hasL at *
  rw [drop_of_get hx, List.any_cons] at h
  simpa using h
theorem opn_end {l : List Span} {i : Nat} {b : Bool} {m : Int} (hi : ¬ (i : Int) < l.length) (h : opn b (l.drop i) m) : b = true := by
  unfold opn hasL at h
  rw [List.drop_eq_nil_of_le (by omega)] at h
  simpa using h

def pl_T18_1 : Nat → Option (List Nat × List Nat) := (fun k => bif Nat.beq k 9 then some ([1000009, 0, 4, 9, 11, 12], [104]) else bif Nat.beq k 16 then some ([1000016, 0, 9, 93, 94, 95], []) else bif Nat.beq k 22 then some ([1000022, 0, 9, 14, 15, 93, 94, 95, 155, 156, 157], [114]) else none)
def pl_T18_2 : Nat → Option (List Nat × List Nat) := (fun k => bif Nat.beq k 9 then some ([1000009, 0, 4, 9, 11, 12], [104]) else bif Nat.beq k 16 then some ([1000016, 0, 9, 93, 94, 95], []) else bif Nat.beq k 22 then some ([1000022, 0, 9, 14, 15, 93, 94, 95, 155, 156, 157], [114]) else none)
def pl_T18_3 : Nat → Option (List Nat × List Nat) := (fun k => bif Nat.beq k 9 then some ([1000009, 0, 4, 9, 11, 12], [104]) else bif Nat.beq k 16 then some ([1000016, 0, 9, 93, 94, 95], []) else bif Nat.beq k 22 then some ([1000022, 0, 9, 14, 15, 93, 94, 95, 155, 156, 157], [114]) else none)
set_option maxRecDepth 100000 in
set_option maxHeartbeats 4000000 in
theorem trailStrips_ok (l : List Task) (s : Spot) (R : List Rec) : ICalls Try.prog 7 [.list 3 (tasks l) none, s.g, .list 3 (recs R) none] [] (Done (gb true) []) := by
  by_cases hb : light20 l R = true
  case neg =>
    refine ICalls.of_body Try.func7 rfl Try.call7 rfl (Nat.le_of_ble_eq_true rfl) pl_T18_1 rfl ?_
    repeat' ((conv => whnf); first
      | refine Br.yes rfl ?_
      | refine Br.no rfl ?_
      | refine Br.yes (beq_self_eq_true _) ?_
      | refine Br.not ?_
      | refine Br.yes (decide_eq_true (by assumption)) ?_
      | refine Br.no (decide_eq_false (by assumption)) ?_
      | refine Br.yes (beq_iff_eq.2 (by assumption)) ?_
      | refine Br.no (beq_eq_false_iff_ne.2 (by assumption)) ?_
      | refine Br.yes (bne_iff_ne.2 (by assumption)) ?_
      | (refine Br.dec (fun h => ?_) (fun h => ?_) <;> try dsimp only at h)
      | (refine Br.beqI (fun h => ?_) (fun h => ?_) <;> try dsimp only at h)
      | (refine Br.bneI (fun h => ?_) (fun h => ?_) <;> try dsimp only at h)
      | refine Br.mk (fun h => ?_) (fun h => ?_)
      | refine Need.mk (app_need (by first | (simp only [List.length_append, List.length_map, List.length_nil, List.length_cons, List.nil_append, Nat.zero_add, Nat.add_zero]; done) | (simp only [List.length_append, List.length_map, List.length_nil, List.length_cons, List.nil_append, Nat.zero_add, Nat.add_zero]; omega) | omega) (Nat.le_of_ble_eq_true rfl) (by first | (simp only [List.length_append, List.length_map, List.length_nil, List.length_cons, List.nil_append, Nat.zero_add, Nat.add_zero]; done) | (simp only [List.length_append, List.length_map, List.length_nil, List.length_cons, List.nil_append, Nat.zero_add, Nat.add_zero]; omega) | omega)) ?_
      | refine Need.mk (app_need0 (Nat.le_of_ble_eq_true rfl) (by first | (simp only [List.length_append, List.length_map, List.length_nil, List.length_cons, List.nil_append, Nat.zero_add, Nat.add_zero]; done) | (simp only [List.length_append, List.length_map, List.length_nil, List.length_cons, List.nil_append, Nat.zero_add, Nat.add_zero]; omega) | omega)) ?_
      | refine Need.mk (by first | kernel_rfl | exact ⟨of_decide_eq_true rfl, of_decide_eq_true rfl⟩ | omega) ?_
      | refine Len.mk ⟨_, by simp only [List.length_cons, List.length_nil, Nat.reduceAdd, Int.cast_ofNat_Int]; rfl, ?_⟩
      | refine Wr.lit _ (by simp only [Int.reduceAdd, Int.reduceSub, Int.reduceMul]; rfl) (by decide) ?_
      | refine Wr.fit (by omega) ?_
      | refine Wr.fit (by dsimp only; omega) ?_
      | refine Elem.mk ⟨_, ⟨of_decide_eq_true rfl, rfl⟩, ?_⟩
      | refine Len.map ?_
      | refine Len.dropM ?_
      | refine Elem.dropM ?_
      | refine Len.takeM ?_
      | refine Elem.takeM ?_
      | refine Elem.mapK (by assumption) ?_
      | refine Elem.mapI (by omega) (by assumption) ?_
      | refine Elem.mapN (by omega) (fun x hx => ?_)
      | refine Elem.map (by omega) (by omega) (fun x hx => ?_)
      | refine ((light20_ok l R).to (congrArg gb (Bool.eq_false_iff.2 hb))).use ⟨rfl, ?_⟩
      | refine (alive20_ok).use ⟨rfl, ?_⟩
      | refine CallX.mk ⟨_, _, ((light20_ok l R).to (congrArg gb (Bool.eq_false_iff.2 hb))).x, rfl, ?_⟩
      | refine CallX.mk ⟨_, _, (alive20_ok).x, rfl, ?_⟩
      | refine Done.mk ⟨rfl, rfl⟩
      | refine Done.mk ⟨congrArg gb ?_, rfl⟩
      | refine Done.mk ⟨?_, rfl⟩
      | refine Done.mk ⟨?_, ?_⟩)
  case pos =>
    have hlen := light20_len hb
    have h0 := (light20_ok l R).to (congrArg gb hb)
    have h3 := follows_ok l s R (by omega)
    by_cases hf : (decide (chk20 l s R = 0) && decide ((audT l s R).2 = [])) = true
    case neg =>
      rw [Bool.eq_false_iff.2 hf] at h3
      clear hb hf
      refine ICalls.of_body Try.func7 rfl Try.call7 rfl (Nat.le_of_ble_eq_true rfl) pl_T18_2 rfl ?_
      repeat' ((conv => whnf); first
        | refine Br.yes rfl ?_
        | refine Br.no rfl ?_
        | refine Br.yes (beq_self_eq_true _) ?_
        | refine Br.not ?_
        | refine Br.yes (decide_eq_true (by assumption)) ?_
        | refine Br.no (decide_eq_false (by assumption)) ?_
        | refine Br.yes (beq_iff_eq.2 (by assumption)) ?_
        | refine Br.no (beq_eq_false_iff_ne.2 (by assumption)) ?_
        | refine Br.yes (bne_iff_ne.2 (by assumption)) ?_
        | (refine Br.dec (fun h => ?_) (fun h => ?_) <;> try dsimp only at h)
        | (refine Br.beqI (fun h => ?_) (fun h => ?_) <;> try dsimp only at h)
        | (refine Br.bneI (fun h => ?_) (fun h => ?_) <;> try dsimp only at h)
        | refine Br.mk (fun h => ?_) (fun h => ?_)
        | refine Need.mk (app_need (by first | (simp only [List.length_append, List.length_map, List.length_nil, List.length_cons, List.nil_append, Nat.zero_add, Nat.add_zero]; done) | (simp only [List.length_append, List.length_map, List.length_nil, List.length_cons, List.nil_append, Nat.zero_add, Nat.add_zero]; omega) | omega) (Nat.le_of_ble_eq_true rfl) (by first | (simp only [List.length_append, List.length_map, List.length_nil, List.length_cons, List.nil_append, Nat.zero_add, Nat.add_zero]; done) | (simp only [List.length_append, List.length_map, List.length_nil, List.length_cons, List.nil_append, Nat.zero_add, Nat.add_zero]; omega) | omega)) ?_
        | refine Need.mk (app_need0 (Nat.le_of_ble_eq_true rfl) (by first | (simp only [List.length_append, List.length_map, List.length_nil, List.length_cons, List.nil_append, Nat.zero_add, Nat.add_zero]; done) | (simp only [List.length_append, List.length_map, List.length_nil, List.length_cons, List.nil_append, Nat.zero_add, Nat.add_zero]; omega) | omega)) ?_
        | refine Need.mk (by first | kernel_rfl | exact ⟨of_decide_eq_true rfl, of_decide_eq_true rfl⟩ | omega) ?_
        | refine Len.mk ⟨_, by simp only [List.length_cons, List.length_nil, Nat.reduceAdd, Int.cast_ofNat_Int]; rfl, ?_⟩
        | refine Wr.lit _ (by simp only [Int.reduceAdd, Int.reduceSub, Int.reduceMul]; rfl) (by decide) ?_
        | refine Wr.fit (by omega) ?_
        | refine Wr.fit (by dsimp only; omega) ?_
        | refine Elem.mk ⟨_, ⟨of_decide_eq_true rfl, rfl⟩, ?_⟩
        | refine Len.map ?_
        | refine Len.dropM ?_
        | refine Elem.dropM ?_
        | refine Len.takeM ?_
        | refine Elem.takeM ?_
        | refine Elem.mapK (by assumption) ?_
        | refine Elem.mapI (by omega) (by assumption) ?_
        | refine Elem.mapN (by omega) (fun x hx => ?_)
        | refine Elem.map (by omega) (by omega) (fun x hx => ?_)
        | refine (h0).use ⟨rfl, ?_⟩
        | refine (h3).use ⟨rfl, ?_⟩
        | refine (alive20_ok).use ⟨rfl, ?_⟩
        | refine CallX.mk ⟨_, _, (h0).x, rfl, ?_⟩
        | refine CallX.mk ⟨_, _, (h3).x, rfl, ?_⟩
        | refine CallX.mk ⟨_, _, (alive20_ok).x, rfl, ?_⟩
        | refine Done.mk ⟨rfl, rfl⟩
        | refine Done.mk ⟨congrArg gb ?_, rfl⟩
        | refine Done.mk ⟨?_, rfl⟩
        | refine Done.mk ⟨?_, ?_⟩)
    case pos =>
      rw [hf] at h3
      have h1 := visits_ok l s R (by omega)
      have h2 := strip_ok R (by omega)
      simp only [Bool.and_eq_true, decide_eq_true_eq] at hf
      obtain ⟨he, hfo⟩ := hf
      rw [aud_ref] at hfo
      have hnb := follows_nb he hfo
      obtain ⟨hs, hr⟩ := chk_0 he
      obtain ⟨ht, hfit⟩ := check_fits hs
      have hm := (tasksErr_ok ht).2
      have hin := fits_in hfit
      have hbeg : 0 ≤ beginOf R := by
        cases R with
        | nil => exact Int.le_refl _
        | cons r t => have := recErr_inv (chain_first hr).2.1; show 0 ≤ r.From; omega
      obtain ⟨V, hV, hvs⟩ := visits_nb hm (kindsOf R) s (beginOf R) (-1) [] hfit hnb hbeg (.inr (.inl rfl))
      rw [visT_eq he, hV, List.nil_append, he] at h1
      have hstrip : stripT R = sumT l s := by
        unfold stripT
        rw [if_pos hr, strip_min R _ [] (chain_first hr), strip_nb hm _ s _ [] hfit hnb, sumT_N hin.1.1 hin.1.2]
      have h6 := sameInt_self (stripT R) (by have := stripT_len R; omega)
      have h5 := refSum_ok l s (by omega) hm hfit
      rw [hstrip, hr] at h2
      rw [hstrip] at h6
      have h7 := refFits_ok l s (by omega)
      rw [hfit] at h7
      have hVl : (V.length : Int) ≤ 40320 := by
        have := visT_len (l := l) (s := s) (R := R)
        rw [visT_eq he, hV, List.nil_append] at this; exact this
      have hnum := hvs.num
      have hall : ∀ (i : Nat) (v : Vis), V[i]? = some v → VisOk l v := fun i v hx => (hvs.all v (List.mem_of_getElem? hx)).1
      have hpw : ∀ (i : Nat) (u v : Vis), V[((i : Int) - 1).toNat]? = some u → V[i]? = some v → 0 < (i : Int) → u.Task < v.Task ∧ u.To ≤ v.From := by
        intro i u v hu hv hi
        obtain ⟨h1, rfl⟩ := List.getElem?_eq_some_iff.1 hu
        obtain ⟨h2, rfl⟩ := List.getElem?_eq_some_iff.1 hv
        exact List.pairwise_iff_getElem.1 hvs.pw _ _ h1 h2 (by omega)
      have hmay : ∀ i : Int, (tAt l i).May := fun i => tAt_may hm i
      generalize sumT l s = Z at *
      generalize hW : wantV l s (-1) = W at *
      have hst := restW_start (l := l) (s := s)
      rw [hW] at hst
      clear hb hfo hnb hs hr ht hV hvs he hstrip hfit
      refine ICalls.of_body Try.func7 rfl Try.call7 rfl (Nat.le_of_ble_eq_true rfl) pl_T18_3 rfl ?_
      repeat' ((conv => whnf); first
        | refine Br.yes rfl ?_
        | refine Br.no rfl ?_
        | (refine Elem.mapK (by assumption) ?_)
        | (refine Elem.mapI (by omega) (by assumption) ?_)
        | (refine Elem.mapN (by omega) (fun v hx => ?_); have hv := hall i v hx; have hvt := hv.task; have hvp := hv.pos; have hvl := hv.len; have hvo := hv.opn; have hvm := hmay v.Task; have hvd := hvm.drive; have hvs := hvm.serve)
        | (refine Elem.mapN (by omega) (fun o ho => ?_))
        | (refine Elem.map (by omega) (by omega) (fun u hu => ?_); have huv := hpw i u v hu hx (by omega))
        | (refine Elem.map (by omega) (by omega) (fun t ht => ?_); have htt := tAt_get ht; have hto := (hm t (List.mem_of_getElem? ht)).len; try rw [htt] at hvl; try rw [htt] at hvo)
        | (refine ILoop.ov 1000022 (fun ((j, b) : Nat × Bool) => [(157, gi j), (15, gb b)]) (fun ((j, b) : Nat × Bool) => []) (fun ((j, b) : Nat × Bool) => j ≤ t.Open.length ∧ opn b (t.Open.drop j) v.From) (fun ((j, b) : Nat × Bool) => t.Open.length - j) ((0, false)) (by exact rfl) ?_; (conv => whnf); refine Start.mk rfl ?_ ?_; (try dsimp only); rotate_left; rintro ⟨j, b⟩ ⟨hj, hop⟩)
        | (refine Again.mk ⟨((j + 1, true)), rfl, ?_, ?_⟩ <;> try dsimp only)
        | (refine Again.mk ⟨((j + 1, decide (v.From < o.To))), rfl, ?_, ?_⟩ <;> try dsimp only)
        | (refine Again.mk ⟨((j + 1, false)), rfl, ?_, ?_⟩ <;> try dsimp only)
        | (refine ILoop.ov 1000016 (fun (i : Nat) => [(95, gi i)]) (fun (i : Nat) => []) (fun (i : Nat) => i ≤ V.length) (fun (i : Nat) => V.length - i) (0) (by exact rfl) ?_; (conv => whnf); refine Start.mk rfl ?_ ?_; (try dsimp only); rotate_left; rintro i hi)
        | (refine Again.mk ⟨(i + 1), rfl, ?_, ?_⟩ <;> try dsimp only)
        | (refine ILoop.ov 1000009 (fun ((i, n) : Int × Int) => [(12, gi i), (11, gi n)]) (fun ((i, n) : Int × Int) => []) (fun ((i, n) : Int × Int) => (s.Task ≤ i ∧ i ≤ l.length) ∧ (0 ≤ n ∧ n ≤ i) ∧ n + restW l s i = W) (fun ((i, n) : Int × Int) => (l.length - i).toNat) ((s.Task, 0)) (by exact rfl) ?_; (conv => whnf); refine Start.mk rfl ?_ ?_; (try dsimp only); rotate_left; rintro ⟨i, n⟩ ⟨hi, hn, hr⟩)
        | (refine Again.mk ⟨((i + 1, n + 1)), rfl, ?_, ?_⟩ <;> try dsimp only)
        | (refine Again.mk ⟨((i + 1, n)), rfl, ?_, ?_⟩ <;> try dsimp only)
        | refine Br.yes (beq_self_eq_true _) ?_
        | refine Br.not ?_
        | refine Br.yes (decide_eq_true (by assumption)) ?_
        | refine Br.no (decide_eq_false (by assumption)) ?_
        | refine Br.yes (beq_iff_eq.2 (by assumption)) ?_
        | refine Br.no (beq_eq_false_iff_ne.2 (by assumption)) ?_
        | refine Br.yes (bne_iff_ne.2 (by assumption)) ?_
        | (refine Br.dec (fun h => ?_) (fun h => ?_) <;> try dsimp only at h)
        | (refine Br.beqI (fun h => ?_) (fun h => ?_) <;> try dsimp only at h)
        | (refine Br.bneI (fun h => ?_) (fun h => ?_) <;> try dsimp only at h)
        | refine Br.mk (fun h => ?_) (fun h => ?_)
        | refine Need.mk (app_need (by first | (simp only [List.length_append, List.length_map, List.length_nil, List.length_cons, List.nil_append, Nat.zero_add, Nat.add_zero]; done) | (simp only [List.length_append, List.length_map, List.length_nil, List.length_cons, List.nil_append, Nat.zero_add, Nat.add_zero]; omega) | omega) (Nat.le_of_ble_eq_true rfl) (by first | (simp only [List.length_append, List.length_map, List.length_nil, List.length_cons, List.nil_append, Nat.zero_add, Nat.add_zero]; done) | (simp only [List.length_append, List.length_map, List.length_nil, List.length_cons, List.nil_append, Nat.zero_add, Nat.add_zero]; omega) | omega)) ?_
        | refine Need.mk (app_need0 (Nat.le_of_ble_eq_true rfl) (by first | (simp only [List.length_append, List.length_map, List.length_nil, List.length_cons, List.nil_append, Nat.zero_add, Nat.add_zero]; done) | (simp only [List.length_append, List.length_map, List.length_nil, List.length_cons, List.nil_append, Nat.zero_add, Nat.add_zero]; omega) | omega)) ?_
        | refine Need.mk (by first | kernel_rfl | exact ⟨of_decide_eq_true rfl, of_decide_eq_true rfl⟩ | omega) ?_
        | refine Len.mk ⟨_, by simp only [List.length_cons, List.length_nil, Nat.reduceAdd, Int.cast_ofNat_Int]; rfl, ?_⟩
        | refine Wr.lit _ (by simp only [Int.reduceAdd, Int.reduceSub, Int.reduceMul]; rfl) (by decide) ?_
        | refine Wr.fit (by omega) ?_
        | refine Wr.fit (by dsimp only; omega) ?_
        | refine Elem.mk ⟨_, ⟨of_decide_eq_true rfl, rfl⟩, ?_⟩
        | refine Len.map ?_
        | refine Len.dropM ?_
        | refine Elem.dropM ?_
        | refine Len.takeM ?_
        | refine Elem.takeM ?_
        | refine Elem.mapK (by assumption) ?_
        | refine Elem.mapI (by omega) (by assumption) ?_
        | refine Elem.mapN (by omega) (fun x hx => ?_)
        | refine Elem.map (by omega) (by omega) (fun x hx => ?_)
        | refine (h0).use ⟨rfl, ?_⟩
        | refine (h1).use ⟨rfl, ?_⟩
        | refine (h2).use ⟨rfl, ?_⟩
        | refine (h3).use ⟨rfl, ?_⟩
        | refine (h5).use ⟨rfl, ?_⟩
        | refine (h6).use ⟨rfl, ?_⟩
        | refine (h7).use ⟨rfl, ?_⟩
        | refine (alive20_ok).use ⟨rfl, ?_⟩
        | refine CallX.mk ⟨_, _, (h0).x, rfl, ?_⟩
        | refine CallX.mk ⟨_, _, (h1).x, rfl, ?_⟩
        | refine CallX.mk ⟨_, _, (h2).x, rfl, ?_⟩
        | refine CallX.mk ⟨_, _, (h3).x, rfl, ?_⟩
        | refine CallX.mk ⟨_, _, (h5).x, rfl, ?_⟩
        | refine CallX.mk ⟨_, _, (h6).x, rfl, ?_⟩
        | refine CallX.mk ⟨_, _, (h7).x, rfl, ?_⟩
        | refine CallX.mk ⟨_, _, (alive20_ok).x, rfl, ?_⟩
        | refine Done.mk ⟨rfl, rfl⟩
        | refine Done.mk ⟨congrArg gb ?_, rfl⟩
        | refine Done.mk ⟨?_, rfl⟩
        | refine Done.mk ⟨?_, ?_⟩)
      all_goals first
        | omega
        | exact ⟨by omega, by omega, restW_yes hin.1.1 hi.1 (by assumption) htt hr (by assumption) (by omega)⟩
        | exact ⟨by omega, by omega, restW_no hin.1.1 hi.1 (by assumption) htt hr (by omega)⟩
        | exact ⟨by omega, by omega, hst⟩
        | exact ⟨by omega, hvo⟩
        | exact ⟨by omega, opn_yes (b := true) rfl⟩
        | exact ⟨by omega, opn_next ho hop (by assumption) (by unfold Span.has; rw [show decide (o.From ≤ v.From) = true from decide_eq_true (by assumption), Bool.true_and])⟩
        | exact ⟨by omega, opn_next ho hop (by assumption) (by unfold Span.has; rw [show decide (o.From ≤ v.From) = false from decide_eq_false (by assumption), Bool.false_and])⟩
        | (exfalso; have := opn_end (by assumption) hop; simp_all; done)
        | (exfalso; have := restW_end (by assumption) hr; omega)

theorem trailStrips_law (g0 : GV) (h0 : ArgOk (.list taskTy) g0) (g1 : GV) (h1 : ArgOk spotTy g1) (g2 : GV) (h2 : ArgOk (.list recTy) g2) :
    ICalls Try.prog 7 [g0, g1, g2] [] (Done (gb true) []) := by
  obtain ⟨l, rfl, _⟩ := list_of el_task h0
  obtain ⟨s, rfl, hs⟩ := spot_of h1
  obtain ⟨r, rfl, _⟩ := list_of el_rec h2
  exact trailStrips_ok l s r

end Go.Hl
