/- Contracts of functions, bundle T9; proved for whatever the arguments' types allow, as each theorem says. -/
import Derived.Test.YtagbineecmclnaaT5
import Derived.Test.YtagbineecmclnaaT3

/- Chapter 20: what is served when, minute by minute: plain Lean.  -/
set_option linter.unusedVariables false
set_option linter.unusedSimpArgs false
namespace Go.Hl
open Go.Gh Go.Proofs

def mayWork (l : List Task) (s : Spot) : Prop := s.Driven = (tAt l s.Task).Drive ∧ s.Served < (tAt l s.Task).Serve
instance (l : List Task) (s : Spot) : Decidable (mayWork l s) := by unfold mayWork; infer_instance
def begP (s : Spot) (m b : Int) : Int := if s.Served = 0 then m else b
def putV (t b m : Int) (o : List Vis) : List Vis := if 0 ≤ b then o ++ [⟨t, b, m⟩] else o
/-- What a minute of work makes of a visitor: what is served, when the service under way began. -/
def vm (l : List Task) (s : Spot) (m : Int) (p : List Vis × Int) : List Vis × Int :=
  if mayWork l s then (if s.Served + 1 = (tAt l s.Task).Serve then (putV s.Task (begP s m p.2) (m + 1) p.1, -1) else (p.1, begP s m p.2)) else p
def vmN (l : List Task) : Nat → Spot → Int → List Vis × Int → List Vis × Int
  | 0, _, _, p => p
  | n + 1, s, m, p => vmN l n (minuteS l s m 2).1 (m + 1) (vm l s m p)
def VSt.p (x : VSt) : List Vis × Int := (x.out, x.beg)
def pieceP (l : List Task) (s : Spot) (a n : Int) (p : List Vis × Int) : List Vis × Int :=
  if s.Served + n < (tAt l s.Task).Serve then (p.1, begP s a p.2) else (putV s.Task (begP s a p.2) (a + n) p.1, -1)
theorem pieceV_p (l : List Task) (s : Spot) (a n : Int) (x : VSt) : (pieceV l s a n x).p = pieceP l s a n x.p := by
  unfold pieceV pieceP VSt.p putV begV begP
  by_cases h : s.Served + n < (tAt l s.Task).Serve
  · rw [if_pos h, if_pos h]
  · rw [if_neg h, if_neg h]
    simp only
    by_cases h2 : (0 : Int) ≤ if s.Served = 0 then a else x.beg
    · rw [if_pos h2, if_pos h2]
    · rw [if_neg h2, if_neg h2]

theorem min_idle {l : List Task} {s : Spot} {m : Int} (h : ¬ mayWork l s) (hp : pastS l s = s) : (minuteS l s m 2).1 = s ∧ (minuteS l s m 2).2.b1 = true := by
  unfold mayWork at h
  unfold minuteS
  rw [if_neg (by decide), if_pos rfl, if_neg h]
  exact ⟨hp, rfl⟩
theorem min_work {l : List Task} {s : Spot} {m : Int} (h : mayWork l s) : (minuteS l s m 2).1 = pastS l ⟨s.Task, s.Driven, s.Served + 1⟩ ∧ (minuteS l s m 2).2.b1 = false := by
  unfold mayWork at h
  unfold minuteS
  rw [if_neg (by decide), if_pos rfl, if_pos h]
  exact ⟨rfl, rfl⟩
theorem vmN_idle {l : List Task} {s : Spot} (h : ¬ mayWork l s) (hp : pastS l s = s) : ∀ (n : Nat) (m : Int) (p : List Vis × Int), vmN l n s m p = p
  | 0, _, _ => rfl
  | n + 1, m, p => by rw [vmN, (min_idle h hp).1, vm, if_neg h]; exact vmN_idle h hp n _ p
theorem mayWork_in {l : List Task} {s : Spot} (hs : 0 ≤ s.Served) (h : mayWork l s) : s.Task < l.length := by
  by_cases h1 : s.Task < l.length
  · exact h1
  · have := h.2; rw [tAt_out (by omega)] at this; simp only at this; omega

/-- So many minutes of work at one task. -/
theorem vmN_piece {l : List Task} {r : Nat} : ∀ (n : Nat) (s : Spot) (a : Int) (p : List Vis × Int), 0 ≤ s.Task → 0 ≤ s.Served → mayWork l s → s.Served + (n + 1 : Nat) ≤ (tAt l s.Task).Serve →
    vmN l (n + 1 + r) s a p = vmN l r (if s.Served + (n + 1 : Nat) = (tAt l s.Task).Serve then pastS l ⟨s.Task + 1, 0, 0⟩ else ⟨s.Task, s.Driven, s.Served + (n + 1 : Nat)⟩) (a + (n + 1 : Nat)) (pieceP l s a (n + 1 : Nat) p)
  | 0, s, a, p, ht, h0, hw, hn => by
    have hin := mayWork_in h0 hw
    rw [show 0 + 1 + r = r + 1 by omega, vmN, (min_work hw).1, vm, if_pos hw]
    unfold pieceP
    by_cases he : s.Served + 1 = (tAt l s.Task).Serve
    · rw [if_pos he, if_pos (by simpa using he), if_neg (by simp; omega)]
      rw [pastS_next (s := ⟨s.Task, s.Driven, s.Served + 1⟩) ht ⟨hin, hw.1, he⟩]
      rfl
    · rw [if_neg he, if_neg (by simpa using he), if_pos (by simp at hn ⊢; omega)]
      rw [pastS_stop (by rintro ⟨_, _, e⟩; exact he e)]
      rfl
  | n + 1, s, a, p, ht, h0, hw, hn => by
    have hin := mayWork_in h0 hw
    have hne : ¬ s.Served + 1 = (tAt l s.Task).Serve := by omega
    rw [show n + 1 + 1 + r = (n + 1 + r) + 1 by omega, vmN, (min_work hw).1, vm, if_pos hw, if_neg hne, pastS_stop (by rintro ⟨_, _, e⟩; exact hne e)]
    rw [vmN_piece n ⟨s.Task, s.Driven, s.Served + 1⟩ (a + 1) (p.1, begP s a p.2) ht (by show 0 ≤ s.Served + 1; omega) ⟨hw.1, by show s.Served + 1 < (tAt l s.Task).Serve; omega⟩ (by show s.Served + 1 + _ ≤ (tAt l s.Task).Serve; omega)]
    have e1 : s.Served + 1 + ((n + 1 : Nat) : Int) = s.Served + ((n + 1 + 1 : Nat) : Int) := by omega
    have e2 : a + 1 + ((n + 1 : Nat) : Int) = a + ((n + 1 + 1 : Nat) : Int) := by omega
    have e3 : begP ⟨s.Task, s.Driven, s.Served + 1⟩ (a + 1) (begP s a p.2) = begP s a p.2 := if_neg (by show ¬ s.Served + 1 = 0; omega)
    unfold pieceP
    simp only [e1, e2, e3]

theorem mid_succ {l : List Task} (hm : ∀ t, t ∈ l → t.May) {s : Spot} (h0 : 0 ≤ s.Task) (h : s.Task < l.length) : Mid l ⟨s.Task + 1, 0, 0⟩ := by
  have h1 := tAt_may hm (s.Task + 1)
  exact ⟨by show 0 ≤ s.Task + 1 ∧ s.Task + 1 ≤ _; omega, ⟨Int.le_refl _, h1.drive.1⟩, ⟨Int.le_refl _, h1.serve.1⟩, .inl rfl⟩
theorem work_min {l : List Task} (hm : ∀ t, t ∈ l → t.May) {to : Int} : ∀ (k : Nat) (s : Spot) (a : Int) (x : VSt), Mid l s → (l.length : Int) - s.Task < k → (workN l to k s a x).p = vmN l (to - a).toNat (pastS l s) a x.p
  | 0, s, a, x, hM, hk => by have := hM.task; omega
  | k + 1, s, a, x, hM, hk => by
    obtain ⟨m1, m2, m3, m4⟩ := hM
    rw [workN]
    by_cases h1 : a < to ∧ s.Task < l.length
    case neg =>
      rw [if_neg h1]
      by_cases h2 : a < to
      · have hout : (l.length : Int) ≤ s.Task := by omega
        have hp : pastS l s = s := pastS_stop (by rintro ⟨e, _⟩; omega)
        rw [hp, vmN_idle (fun e => by have := mayWork_in m3.1 e; omega) hp]
      · rw [show (to - a).toNat = 0 by omega]; rfl
    case pos =>
      rw [if_pos h1]
      by_cases h2 : s.Driven < (tAt l s.Task).Drive
      · rw [if_pos h2]
        have hp : pastS l s = s := pastS_stop (by rintro ⟨_, e, _⟩; omega)
        rw [hp, vmN_idle (fun e => by have := e.1; omega) hp]
      · rw [if_neg h2]
        have hmn := mnI_ok ((tAt l s.Task).Serve - s.Served) (to - a)
        generalize hn : mnI ((tAt l s.Task).Serve - s.Served) (to - a) = n at *
        have hn' : (if to - a < (tAt l s.Task).Serve - s.Served then to - a else (tAt l s.Task).Serve - s.Served) = n := hn
        rw [hn'] at hmn
        by_cases h3 : 0 < n
        · rw [if_pos h3]
          have hw : mayWork l s := ⟨by omega, by omega⟩
          have hp : pastS l s = s := pastS_stop (by rintro ⟨_, _, e⟩; omega)
          have hpc := vmN_piece (l := l) (r := (to - (a + n)).toNat) (n.toNat - 1) s a x.p m1.1 m3.1 hw (by omega)
          rw [show ((n.toNat - 1 + 1 : Nat) : Int) = n by omega, show n.toNat - 1 + 1 + (to - (a + n)).toNat = (to - a).toNat by omega] at hpc
          rw [hp, hpc]
          by_cases h4 : s.Served + n < (tAt l s.Task).Serve
          · rw [if_neg (by unfold pieceB; simp [h4]), if_neg (by omega), show (to - (a + n)).toNat = 0 by omega, vmN, pieceV_p]
          · rw [if_pos (by unfold pieceB; simp [h4]), if_pos (by omega), ← pieceV_p]
            exact work_min hm k _ _ _ (mid_succ hm m1.1 h1.2) (by show (l.length : Int) - (s.Task + 1) < k; omega)
        · rw [if_neg h3]
          have hn0 : n = 0 := by omega
          subst hn0
          rw [pastS_next m1.1 ⟨h1.2, by omega, by omega⟩, Int.add_zero]
          exact work_min hm k _ _ _ (mid_succ hm m1.1 h1.2) (by show (l.length : Int) - (s.Task + 1) < k; omega)
/-! ### All minutes -/
def rvN (l : List Task) : List Int → Spot → Int → List Vis × Int → List Vis × Int
  | [], _, _, p => p
  | k :: t, s, m, p => rvN l t (minuteS l s m k).1 (m + 1) (if k = 2 then vm l s m p else p)
theorem overN_fst {l : List Task} {k : Int} : ∀ (n : Nat) (s : Spot) (m : Int) (F G : F4), (overN l k n s m F).1 = (overN l k n s m G).1
  | 0, _, _, _, _ => rfl
  | n + 1, s, m, F, G => by rw [overN, overN]; exact overN_fst n _ _ _ _
theorem rv_rep {l : List Task} {k : Int} {r : List Int} {F : F4} : ∀ (n : Nat) (s : Spot) (m : Int) (p : List Vis × Int), rvN l (List.replicate n k ++ r) s m p = rvN l r (overN l k n s m F).1 (m + n) (if k = 2 then vmN l n s m p else p)
  | 0, s, m, p => by simp [overN, vmN]
  | n + 1, s, m, p => by
    rw [List.replicate_succ, List.cons_append, rvN, rv_rep n (F := F), overN, overN_fst n _ (m + 1) (F.upd _ m) F, show m + 1 + (n : Int) = m + ((n + 1 : Nat) : Int) by omega]
    by_cases hk : k = 2
    · subst hk; simp only [if_true]; rfl
    · rw [if_neg hk, if_neg hk, if_neg hk]
theorem workV_rv {l : List Task} (hm : ∀ t, t ∈ l → t.May) {s : Spot} (hs : fitsS l s = true) (r : Rec) (x : VSt) : (workV l s r x).p = vmN l (r.To - r.From).toNat s r.From x.p := by
  have hM := fits_mid hs
  unfold workV
  rw [work_min hm _ s r.From x hM (by have := hM.task; omega), fits_stop hs]
theorem vis_rv {l : List Task} : ∀ (R : List Rec) (s : Spot) (x : VSt) (a : Int), Chain a R → errCheck l s = 0 → (visAll l R s x).p = rvN l (kindsOf R) s a x.p
  | [], _, _, _, _, _ => rfl
  | r :: R, s, x, a, ⟨c1, c2, c3⟩, hs => by
    have hi := recErr_inv c2
    obtain ⟨ht, hf⟩ := check_fits hs
    have e : kindsOf (r :: R) = List.replicate (r.To - r.From).toNat r.Kind ++ kindsOf R := rfl
    have ho : overAll l s r = overN l r.Kind (r.To - r.From).toNat s r.From ⟨-1, -1, -1, -1⟩ := if_pos (overErr_0 hs c2)
    rw [e, rv_rep (F := ⟨-1, -1, -1, -1⟩), ← c1, ← ho, show r.From + (((r.To - r.From).toNat : Nat) : Int) = r.To by omega, visAll, vis_rv R _ _ r.To c3 (overAll_ok hs c2).1]
    congr 1
    unfold visRec
    split
    · exact workV_rv (tasksErr_ok ht).2 hf r x
    · rfl

end Go.Hl

/- Chapter 20: the reference's visits.  -/
set_option linter.unusedVariables false
set_option linter.unusedSimpArgs false
namespace Go.Hl
open Go.Gh Go.Proofs

/-- The same, as the reference tells it: by where the spot is behind the minute. -/
def rm (l : List Task) (s : Spot) (m k : Int) (p : List Vis × Int) : List Vis × Int := if k = 2 then vm l s m p else p
theorem rm_not {l : List Task} {s : Spot} {m k : Int} {p : List Vis × Int} (h : ¬ k = 2) : rm l s m k p = p := if_neg h
theorem pastS_ge {l : List Task} : ∀ (n : Nat) (s : Spot), s.Task ≤ (pastN l n s).Task
  | 0, s => Int.le_refl _
  | n + 1, s => by
    unfold pastN
    split
    · have := pastS_ge (l := l) n ⟨s.Task + 1, 0, 0⟩
      simp only at this
      omega
    · exact Int.le_refl _
theorem min_b1 {l : List Task} {s : Spot} {m : Int} (hs : fitsS l s = true) : (minuteS l s m 2).2.b1 = false ↔ mayWork l s := by
  by_cases h : mayWork l s
  · exact ⟨fun _ => h, fun _ => (min_work h).2⟩
  · exact ⟨fun e => (by rw [(min_idle h (fits_stop hs)).2] at e; cases e), fun e => absurd e h⟩
theorem rm_idle {l : List Task} {s : Spot} {m k : Int} {p : List Vis × Int} (hs : fitsS l s = true) (hk : k = 2) (h : ¬ (minuteS l s m k).2.b1 = false) : rm l s m k p = p := by
  subst hk
  unfold rm; rw [if_pos rfl, vm, if_neg (fun e => h ((min_b1 hs).2 e))]
theorem min_task {l : List Task} {s : Spot} {m : Int} (hs : fitsS l s = true) (h : (minuteS l s m 2).2.b1 = false) : s.Task < (minuteS l s m 2).1.Task ↔ s.Served + 1 = (tAt l s.Task).Serve := by
  have hw := (min_b1 hs).1 h
  have hin := fits_in hs
  rw [(min_work hw).1]
  by_cases he : s.Served + 1 = (tAt l s.Task).Serve
  · rw [pastS_next (s := ⟨s.Task, s.Driven, s.Served + 1⟩) hin.1.1 ⟨mayWork_in (s := s) hin.2.2.1.1 hw, hw.1, he⟩]
    have := pastS_ge (l := l) (l.length - (s.Task + 1).toNat) ⟨s.Task + 1, 0, 0⟩
    unfold pastS
    simp only at this ⊢
    exact ⟨fun _ => he, fun _ => by omega⟩
  · rw [pastS_stop (by rintro ⟨_, _, e⟩; exact he e)]
    simp only
    exact ⟨fun e => by omega, fun e => absurd e he⟩
theorem rm_go {l : List Task} {s : Spot} {m k : Int} {p : List Vis × Int} (hs : fitsS l s = true) (hk : k = 2) (h : (minuteS l s m k).2.b1 = false) (ht : ¬ s.Task < (minuteS l s m k).1.Task) : rm l s m k p = (p.1, begP s m p.2) := by
  subst hk
  unfold rm; rw [if_pos rfl, vm, if_pos ((min_b1 hs).1 h), if_neg (fun e => ht ((min_task hs h).2 e))]
theorem rm_end {l : List Task} {s : Spot} {m k : Int} {p : List Vis × Int} (hs : fitsS l s = true) (hk : k = 2) (h : (minuteS l s m k).2.b1 = false) (ht : s.Task < (minuteS l s m k).1.Task) : rm l s m k p = (putV s.Task (begP s m p.2) (m + 1) p.1, -1) := by
  subst hk
  unfold rm; rw [if_pos rfl, vm, if_pos ((min_b1 hs).1 h), if_pos ((min_task hs h).1 ht)]

/-- What is noted so far, and what comes of it. -/
def RV (l : List Task) (ks : List Int) (m : Int) (s : Spot) (b : Int) (W : List Vis) (g : List GV) : Prop := ∃ out, g = viss out ∧ (rvN l ks s m (out, b)).1 = W
theorem RV.step {l : List Task} {ks : List Int} {i : Nat} {k m b b' : Int} {s : Spot} {W : List Vis} {g g' : List GV} (h : RV l (ks.drop i) m s b W g) (hx : ks[i]? = some k)
    (hq : ∀ out, g = viss out → ∃ out', g' = viss out' ∧ rm l s m k (out, b) = (out', b')) : RV l (ks.drop (i + 1)) (m + 1) (minuteS l s m k).1 b' W g' := by
  obtain ⟨out, h1, h2⟩ := h
  obtain ⟨out', h3, h4⟩ := hq out h1
  refine ⟨out', h3, ?_⟩
  rw [drop_of_get hx, rvN] at h2
  rw [← h4]; exact h2
theorem RV.fin {l : List Task} {ks : List Int} {i : Nat} {m b : Int} {s : Spot} {W : List Vis} {g : List GV} (h : RV l (ks.drop i) m s b W g) (hi : ¬ (i : Int) < ks.length) : g = viss W := by
  obtain ⟨out, h1, h2⟩ := h
  rw [List.drop_eq_nil_of_le (by omega), rvN] at h2
  rw [h1, ← h2]

theorem viss_snoc {out : List Vis} {g : List GV} {t b m : Int} (h : g = viss out) : g ++ [.agg [gi t, gi b, gi m]] = viss (out ++ [⟨t, b, m⟩]) := by subst h; simp [viss, Vis.g, Vis.c]
theorem put_yes {t b m : Int} {o : List Vis} (h : 0 ≤ b) : putV t b m o = o ++ [⟨t, b, m⟩] := if_pos h
theorem put_no {t b m : Int} {o : List Vis} (h : ¬ 0 ≤ b) : putV t b m o = o := if_neg h
theorem beg_yes {s : Spot} {m b : Int} (h : s.Served = 0) : begP s m b = m := if_pos h
theorem beg_no {s : Spot} {m b : Int} (h : ¬ s.Served = 0) : begP s m b = b := if_neg h

def pl_T10_1 : Nat → Option (List Nat × List Nat) := (fun k => bif Nat.beq k 6 then some ([1000006, 0, 4, 7, 8, 9, 10, 11], [104, 109, 172]) else none)
set_option maxRecDepth 100000 in
set_option maxHeartbeats 4000000 in
theorem refVisits_ok (l : List Task) (s0 : Spot) (R : List Rec) (hl : (R.length : Int) ≤ 1000) (he : chk20 l s0 R = 0) : ICalls Try.prog 31 [.list 3 (tasks l) none, s0.g, .list 3 (recs R) none] [] (Done (.list 3 (viss (rvN l (kindsOf R) s0 (beginOf R) ([], -1)).1) none) []) := by
  obtain ⟨hs0, hrs⟩ := chk_0 he
  obtain ⟨ht, hf0⟩ := check_fits hs0
  have hc := chain_first hrs
  have hbeg : 0 ≤ beginOf R ∧ beginOf R ≤ 40320 := by
    cases R with
    | nil => exact ⟨Int.le_refl _, by decide⟩
    | cons r t => have := recErr_inv hc.2.1; exact ⟨by show 0 ≤ r.From; omega, by show r.From ≤ 40320; omega⟩
  have hlen := chain_len R (beginOf R) hc hbeg.2
  have hall := chain_all R _ hc
  have h2 := refKinds_ok R (by omega) (fun r hr => by have := recErr_inv (hall r hr); omega) (by omega)
  have h3 := refBegin_ok R
  generalize kindsOf R = ks at *
  generalize beginOf R = at0 at *
  generalize hW : (rvN l ks s0 at0 ([], -1)).1 = W
  clear he hc hall hrs
  refine ICalls.of_body Try.func31 rfl Try.call31 rfl (Nat.le_of_ble_eq_true rfl) pl_T10_1 rfl ?_
  repeat' ((conv => whnf); first
    | refine Br.yes rfl ?_
    | refine Br.no rfl ?_
    | (refine Elem.mapK (by assumption) ?_)
    | (refine Elem.mapN (by omega) (fun k hx => ?_); have hmt := (minuteS_left (tasksErr_ok ht).2 hs' (at0 + i) k).1; have hmi := fits_in hmt; have hsi := fits_in hs')
    | (refine ILoop.ov 1000006 (fun ((i, s, b, g, n) : Nat × Spot × Int × List GV × Nat) => [(11, gi i), (10, gi b), (9, .list 3 g (some 109))]) (fun ((i, s, b, g, n) : Nat × Spot × Int × List GV × Nat) => [(104, .cells (s.c)), (109, .vec 64 n)]) (fun ((i, s, b, g, n) : Nat × Spot × Int × List GV × Nat) => i ≤ ks.length ∧ fitsS l s = true ∧ (-1 ≤ b ∧ b ≤ 40320) ∧ (n = g.length ∧ n ≤ i) ∧ RV l (ks.drop i) (at0 + i) s b W g) (fun ((i, s, b, g, n) : Nat × Spot × Int × List GV × Nat) => ks.length - i) ((0, s0, -1, [], 0)) (by exact rfl) ?_; (conv => whnf); refine Start.mk rfl ?_ ?_; (try dsimp only); rotate_left; rintro ⟨i, s, b, g, n⟩ ⟨hi, hs', hb, ⟨hn, hni⟩, hr⟩)
    | (refine Again.mk ⟨((i + 1, (minuteS l s (at0 + i) k).1, _, _, _)), rfl, ?_, ?_⟩ <;> try dsimp only)
    | refine Br.yes (beq_self_eq_true _) ?_
    | refine Br.not ?_
    | refine Br.yes (decide_eq_true (by assumption)) ?_
    | refine Br.no (decide_eq_false (by assumption)) ?_
    | refine Br.yes (beq_iff_eq.2 (by assumption)) ?_
    | refine Br.no (beq_eq_false_iff_ne.2 (by assumption)) ?_
    | refine Br.yes (bne_iff_ne.2 (by assumption)) ?_
    | (refine Br.dec (fun h => ?_) (fun h => ?_) <;> try dsimp only at h)
    | (refine Br.beqI (fun h => ?_) (fun h => ?_) <;> try dsimp only at h)
    | (refine Br.bneI (fun h => ?_) (fun h => ?_) <;> try dsimp only at h)
    | refine Br.mk (fun h => ?_) (fun h => ?_)
    | refine Need.mk (app_need (by first | (simp only [List.length_append, List.length_map, List.length_nil, List.length_cons, List.nil_append, Nat.zero_add, Nat.add_zero]; done) | (simp only [List.length_append, List.length_map, List.length_nil, List.length_cons, List.nil_append, Nat.zero_add, Nat.add_zero]; omega) | omega) (Nat.le_of_ble_eq_true rfl) (by first | (simp only [List.length_append, List.length_map, List.length_nil, List.length_cons, List.nil_append, Nat.zero_add, Nat.add_zero]; done) | (simp only [List.length_append, List.length_map, List.length_nil, List.length_cons, List.nil_append, Nat.zero_add, Nat.add_zero]; omega) | omega)) ?_
    | refine Need.mk (app_need0 (Nat.le_of_ble_eq_true rfl) (by first | (simp only [List.length_append, List.length_map, List.length_nil, List.length_cons, List.nil_append, Nat.zero_add, Nat.add_zero]; done) | (simp only [List.length_append, List.length_map, List.length_nil, List.length_cons, List.nil_append, Nat.zero_add, Nat.add_zero]; omega) | omega)) ?_
    | refine Need.mk (by first | kernel_rfl | exact ⟨of_decide_eq_true rfl, of_decide_eq_true rfl⟩ | omega) ?_
    | refine Len.mk ⟨_, by simp only [List.length_cons, List.length_nil, Nat.reduceAdd, Int.cast_ofNat_Int]; rfl, ?_⟩
    | refine Wr.lit _ (by simp only [Int.reduceAdd, Int.reduceSub, Int.reduceMul]; rfl) (by decide) ?_
    | refine Wr.fit (by omega) ?_
    | refine Wr.fit (by dsimp only; omega) ?_
    | refine Elem.mk ⟨_, ⟨of_decide_eq_true rfl, rfl⟩, ?_⟩
    | refine Len.map ?_
    | refine Len.dropM ?_
    | refine Elem.dropM ?_
    | refine Len.takeM ?_
    | refine Elem.takeM ?_
    | refine Elem.mapK (by assumption) ?_
    | refine Elem.mapI (by omega) (by assumption) ?_
    | refine Elem.mapN (by omega) (fun x hx => ?_)
    | refine Elem.map (by omega) (by omega) (fun x hx => ?_)
    | refine (h2).use ⟨rfl, ?_⟩
    | refine (h3).use ⟨rfl, ?_⟩
    | refine (refStep19_ok l s (at0 + i) k (errCheck_of ht hs')).use ⟨rfl, ?_⟩
    | refine CallX.mk ⟨_, _, (h2).x, rfl, ?_⟩
    | refine CallX.mk ⟨_, _, (h3).x, rfl, ?_⟩
    | refine CallX.mk ⟨_, _, (refStep19_ok l s (at0 + i) k (errCheck_of ht hs')).x, rfl, ?_⟩
    | refine Done.mk ⟨rfl, rfl⟩
    | refine Done.mk ⟨congrArg gb ?_, rfl⟩
    | refine Done.mk ⟨?_, rfl⟩
    | refine Done.mk ⟨?_, ?_⟩)
  all_goals first
    | omega
    | exact ⟨by omega, hf0, by omega, ⟨rfl, Nat.le_refl _⟩, [], rfl, by rw [Int.add_comm]; simpa using hW⟩
    | exact congrArg (fun q => GV.list 3 q none) (hr.fin (by assumption))
    | (rw [show at0 + ((i + 1 : Nat) : Int) = at0 + i + 1 by omega]
       first
       | exact ⟨by omega, hmt, by omega, by omega, hr.step hx fun out ho => ⟨out, ho, rm_not (by assumption)⟩⟩
       | exact ⟨by omega, hmt, by omega, by omega, hr.step hx fun out ho => ⟨out, ho, rm_idle hs' (by assumption) (by rw [show (minuteS l s (at0 + i) k).2.b1 = true by assumption]; decide)⟩⟩
       | exact ⟨by omega, hmt, by omega, by omega, hr.step hx fun out ho => ⟨out, ho, (rm_go hs' (by assumption) (by assumption) (by omega)).trans (by rw [beg_yes (by assumption)])⟩⟩
       | exact ⟨by omega, hmt, by omega, by omega, hr.step hx fun out ho => ⟨out, ho, (rm_go hs' (by assumption) (by assumption) (by omega)).trans (by rw [beg_no (by assumption)])⟩⟩
       | exact ⟨by omega, hmt, by omega, ⟨by simp only [List.length_append, List.length_cons, List.length_nil]; omega, by simp only [List.length_append, List.length_cons, List.length_nil]; omega⟩, hr.step hx fun out ho => ⟨_, viss_snoc ho, (rm_end hs' (by assumption) (by assumption) (by omega)).trans (by rw [beg_yes (by assumption), put_yes (by omega)])⟩⟩
       | exact ⟨by omega, hmt, by omega, ⟨by simp only [List.length_append, List.length_cons, List.length_nil]; omega, by simp only [List.length_append, List.length_cons, List.length_nil]; omega⟩, hr.step hx fun out ho => ⟨_, viss_snoc ho, (rm_end hs' (by assumption) (by assumption) (by omega)).trans (by rw [beg_no (by assumption), put_yes (by assumption)])⟩⟩
       | exact ⟨by omega, hmt, by omega, by omega, hr.step hx fun out ho => ⟨out, ho, (rm_end hs' (by assumption) (by assumption) (by omega)).trans (by rw [beg_no (by assumption), put_no (by assumption)])⟩⟩)

end Go.Hl
