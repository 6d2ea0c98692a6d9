/- Contracts of functions, bundle Y3; proved for whatever the arguments' types allow, as each theorem says. -/
import Derived.Test.YtfbiaihhdbkefaaGreatDoorW3
import Derived.Test.YtfbiaihhdbkefaaGreatDoorT5
import Derived.Test.YtfbiaihhdbkefaaGreatDoorX1
import Derived.Test.YtfbiaihhdbkefaaGreatDoorY1
import Derived.Test.YtfbiaihhdbkefaaGreatDoorH15

/- Chapter 22: all that a case breaks: plain Lean.  -/
set_option linter.unusedVariables false
set_option linter.unusedSimpArgs false
namespace Go.Hl
open Go.Gh Go.Proofs

structure Case where
  Book : Book
  Past : List Rec
  Plan : List Rec
  Tasks : List Task
  Spot : Spot
  Loads : List Int
  Room : Int
def Case.whole (c : Case) : List Rec := c.Past ++ c.Plan
def caseErr (c : Case) : Int := if c.Book.code ≠ 0 then c.Book.code else if tasksErr c.Tasks ≠ 0 then tasksErr c.Tasks else if errCheck c.Tasks c.Spot ≠ 0 then 1 else
  if (recsErr 0 none c.whole).2 ≠ 0 then (recsErr 0 none c.whole).2 else if late0 c.whole = true then 5 else loadErr c.Loads
def planAt (l : List Rec) : Int := if spanOk l = true then beginOf l else 0
def loadF (c : Case) : List Fnd := if fitsL c.Room c.Loads = true then [] else [⟨15, planAt c.Plan, planAt c.Plan + 1⟩]
def caseE (c : Case) : Int := if caseErr c ≠ 0 then caseErr c else if dutyErr c.Book c.whole ≠ 0 then dutyErr c.Book c.whole else chk20 c.Tasks c.Spot c.Plan
def caseL (c : Case) : List Fnd := auditF c.Book c.whole ++ ((audT c.Tasks c.Spot c.Plan).2 ++ loadF c)
def caseF (c : Case) : List Fnd := if caseE c = 0 then sortF (caseL c) else []

/-! ### The clauses of each part -/
theorem duty_cl {b : Book} {l : List Rec} {f : Fnd} (hf : f ∈ auditF b l) : 0 ≤ f.Clause ∧ f.Clause < 10 := by
  unfold auditF at hf
  split at hf
  case isFalse => cases hf
  rename_i h
  obtain ⟨hb, _, _, hc⟩ := dutyErr_0 h
  have key : ∀ (l : List Rec) (w : SW), (∀ f, f ∈ w.x.out → 0 ≤ f.Clause ∧ f.Clause < 10) → ∀ f, f ∈ (swAll b l w).x.out → 0 ≤ f.Clause ∧ f.Clause < 10 := by
    intro l
    induction l with
    | nil => intro w h; exact h
    | cons r t ih =>
      intro w h
      refine ih _ ?_
      have hB : ∀ (k n : Int) (w : SW), (∀ f, f ∈ w.x.out → 0 ≤ f.Clause ∧ f.Clause < 10) → ∀ f, f ∈ (bS b k n w).x.out → 0 ≤ f.Clause ∧ f.Clause < 10 := by
        intro k n w h f hf
        rcases bS_mem.1 hf with g | ⟨d, h1, _, _, rfl⟩
        · exact h f g
        · simp only; omega
      unfold sweptS
      split
      · exact hB _ _ _ (hB _ _ _ h)
      · exact hB _ _ _ h
  exact key l SW.start (fun f h => by cases h) f (sortF_mem.1 hf)
theorem strict_of {l : List Fnd} (h : ∀ (i j : Nat), i < j → ∀ (x y : Fnd), l[i]? = some x → l[j]? = some y → x.Clause < y.Clause) : l.Pairwise fun f g => f.Clause < g.Clause := by
  rw [List.pairwise_iff_getElem]
  intro i j hi hj hij
  exact h i j hij _ _ (by simp [hi]) (by simp [hj])
theorem duty_strict (b : Book) (l : List Rec) : (auditF b l).Pairwise fun f g => f.Clause < g.Clause := strict_of fun i j hij x y hx hy => audit_lt i j hij x y hx hy
theorem refT_cl {l : List Task} {s : Spot} {R : List Rec} {f : Fnd} (hf : f ∈ (refT l s R).2) : 10 ≤ f.Clause ∧ f.Clause < 15 := by
  unfold refT at hf
  split at hf
  case isFalse => cases hf
  rcases List.mem_append.1 hf with h | h
  · change f ∈ fl1 10 _ ++ (fl1 11 _ ++ (fl1 12 _ ++ fl1 13 _)) at h
    rcases List.mem_append.1 h with h | h
    · rw [fl1_cl h]; decide
    rcases List.mem_append.1 h with h | h
    · rw [fl1_cl h]; decide
    rcases List.mem_append.1 h with h | h
    · rw [fl1_cl h]; decide
    · rw [fl1_cl h]; decide
  · split at h
    · rw [List.mem_singleton.1 h]; simp only; decide
    · cases h
theorem refT_strict (l : List Task) (s : Spot) (R : List Rec) : (refT l s R).2.Pairwise fun f g => f.Clause < g.Clause := by
  unfold refT
  split
  · refine flN_pw _ _ ?_ ?_
    · split
      · exact List.pairwise_singleton ..
      · exact List.Pairwise.nil
    · intro g hg
      split at hg
      · rw [List.mem_singleton.1 hg]; simp only; decide
      · cases hg
  · exact List.Pairwise.nil
theorem case_strict (c : Case) : (caseL c).Pairwise fun f g => f.Clause < g.Clause := by
  unfold caseL
  rw [aud_ref]
  refine List.pairwise_append.2 ⟨duty_strict _ _, List.pairwise_append.2 ⟨refT_strict _ _ _, ?_, ?_⟩, ?_⟩
  · unfold loadF; split
    · exact List.Pairwise.nil
    · exact List.pairwise_singleton ..
  · intro f hf g hg
    have := refT_cl hf
    unfold loadF at hg; split at hg
    · cases hg
    · rw [List.mem_singleton.1 hg]; simp only; omega
  · intro f hf g hg
    have h1 := duty_cl hf
    rcases List.mem_append.1 hg with hg | hg
    · have := refT_cl hg; omega
    · unfold loadF at hg; split at hg
      · cases hg
      · rw [List.mem_singleton.1 hg]; simp only; omega
theorem strict_len : ∀ (l : List Fnd) (a : Int), l.Pairwise (fun f g => f.Clause < g.Clause) → (∀ f, f ∈ l → a ≤ f.Clause ∧ f.Clause < 16) → (l.length : Int) ≤ if a ≤ 16 then 16 - a else 0
  | [], a, _, _ => by simp; split <;> omega
  | f :: t, a, hp, h => by
    obtain ⟨h1, h2⟩ := List.pairwise_cons.1 hp
    have hf := h f (List.mem_cons_self ..)
    have ih := strict_len t (f.Clause + 1) h2 fun g hg => ⟨by have := h1 g hg; omega, (h g (List.mem_cons_of_mem _ hg)).2⟩
    rw [List.length_cons, if_pos (by omega)]
    rw [if_pos (by omega)] at ih
    omega
theorem case_cl {c : Case} {f : Fnd} (h : f ∈ caseL c) : 0 ≤ f.Clause ∧ f.Clause < 16 := by
  unfold caseL at h
  rw [aud_ref] at h
  rcases List.mem_append.1 h with h | h
  · have := duty_cl h; omega
  rcases List.mem_append.1 h with h | h
  · have := refT_cl h; omega
  · unfold loadF at h; split at h
    · cases h
    · rw [List.mem_singleton.1 h]; simp only; omega
theorem case_len (c : Case) : ((caseL c).length : Int) ≤ 16 := by
  have := strict_len (caseL c) 0 (case_strict c) fun f hf => case_cl hf
  simpa using this
theorem begin_range {l : List Rec} (h : Chain (beginOf l) l) : 0 ≤ beginOf l ∧ beginOf l ≤ 40320 := by
  cases l with
  | nil => exact ⟨Int.le_refl _, by decide⟩
  | cons r t => have := recErr_inv h.2.1; exact ⟨by show 0 ≤ r.From; omega, by show r.From ≤ 40320; omega⟩
theorem strict_nodup {l : List Fnd} (h : l.Pairwise fun f g => f.Clause < g.Clause) : l.Nodup := h.imp fun h e => by subst e; omega

/-- A case passes just if nothing is found. -/
theorem duty_none {b : Book} {l : List Rec} : accB b l = true ↔ dutyErr b l = 0 ∧ auditF b l = [] := by
  unfold accB
  rw [decide_eq_true_eq]
  constructor
  · rintro ⟨h1, h2⟩
    refine ⟨h1, ?_⟩
    rw [audit_run h1] at h2
    simp only at h2
    have h3 : setN (auditF b l) = 0 := by omega
    cases hl : auditF b l with
    | nil => rfl
    | cons f t =>
      exfalso
      have hf : f ∈ auditF b l := by rw [hl]; exact List.mem_cons_self ..
      have hc := duty_cl hf
      have := (setN_bits (auditF b l) 0 f.Clause.toNat).2 (.inr ⟨by omega, f, hf, by omega⟩)
      unfold setN at h3
      rw [h3] at this; simp at this
  · rintro ⟨h1, h2⟩
    refine ⟨h1, ?_⟩
    rw [audit_run h1, h2]; rfl
theorem sortF_nil {l : List Fnd} : sortF l = [] ↔ l = [] := by
  constructor
  · intro h
    have := sortF_len l
    rw [h] at this
    exact List.length_eq_zero_iff.1 this.symm
  · rintro rfl; simp [sortF]
theorem case_pass (c : Case) : (decide (caseE c = 0) && decide (caseF c = [])) = (accB c.Book c.whole && ((decide (chk20 c.Tasks c.Spot c.Plan = 0) && decide ((audT c.Tasks c.Spot c.Plan).2 = [])) && fitsL c.Room c.Loads)) := by
  apply Bool.eq_iff_iff.2
  simp only [Bool.and_eq_true, decide_eq_true_eq, duty_none]
  have hL : loadF c = [] ↔ fitsL c.Room c.Loads = true := by
    unfold loadF
    split
    · rename_i h; exact ⟨fun _ => h, fun _ => rfl⟩
    · rename_i h; exact ⟨fun e => by simp at e, fun e => absurd e h⟩
  constructor
  · rintro ⟨h1, h2⟩
    unfold caseF at h2
    rw [if_pos h1, sortF_nil] at h2
    unfold caseL at h2
    obtain ⟨a1, a2⟩ := List.append_eq_nil_iff.1 h2
    obtain ⟨a2, a3⟩ := List.append_eq_nil_iff.1 a2
    unfold caseE at h1
    by_cases e1 : caseErr c = 0
    · rw [if_neg (by omega)] at h1
      by_cases e2 : dutyErr c.Book c.whole = 0
      · rw [if_neg (by omega)] at h1
        exact ⟨⟨e2, a1⟩, ⟨h1, a2⟩, hL.1 a3⟩
      · rw [if_pos e2] at h1; exact absurd h1 e2
    · rw [if_pos e1] at h1; exact absurd h1 e1
  · rintro ⟨⟨d1, d2⟩, ⟨t1, t2⟩, f1⟩
    have hce : caseErr c = 0 := by
      obtain ⟨hs, hr⟩ := chk_0 t1
      obtain ⟨ht, hf⟩ := check_fits hs
      unfold dutyErr at d1
      unfold fitsL at f1
      simp only [Bool.and_eq_true, decide_eq_true_eq] at f1
      unfold caseErr
      by_cases c1 : c.Book.code = 0
      · rw [if_pos c1] at d1
        by_cases c2 : (recsErr 0 none c.whole).2 = 0
        · rw [if_pos c2] at d1
          rw [if_neg (by omega), if_neg (by omega), if_neg (by omega), if_neg (by omega)]
          cases c3 : late0 c.whole with
          | true => rw [c3] at d1; simp at d1
          | false => rw [if_neg (by decide)]; exact f1.1
        · rw [if_neg c2] at d1; exact absurd d1 c2
      · rw [if_neg c1] at d1; exact absurd d1 c1
    have he : caseE c = 0 := by unfold caseE; rw [if_neg (by omega), if_neg (by omega)]; exact t1
    refine ⟨he, ?_⟩
    unfold caseF
    rw [if_pos he, sortF_nil]
    unfold caseL
    rw [d2, t2, hL.2 f1]; rfl

end Go.Hl

/- Chapter 22: all that a case breaks.  -/
set_option linter.unusedVariables false
set_option linter.unusedSimpArgs false
namespace Go.Hl
open Go.Gh Go.Proofs

def Case.g (c : Case) : GV := .agg (c.Book.c ++ [.list 3 (recs c.Past) none, .list 3 (recs c.Plan) none, .list 3 (tasks c.Tasks) none, gi c.Spot.Task, gi c.Spot.Driven, gi c.Spot.Served, .list 1 (ints c.Loads) none, gi c.Room])
structure Case.Light (c : Case) : Prop where
  past : (c.Past.length : Int) ≤ 60
  plan : (c.Plan.length : Int) ≤ 60
  loads : (c.Loads.length : Int) ≤ 100
theorem whole_len {c : Case} (h : c.Light) : (c.whole.length : Int) ≤ 120 := by
  have := h.past; have := h.plan
  unfold Case.whole; rw [List.length_append]; omega

set_option maxRecDepth 100000 in
theorem whole_ok (c : Case) (h : c.Light) : ICalls Tryz.prog 21 [c.g] [] (Done (.list 3 (recs c.whole) none) []) := by
  have h1 := h.past
  have h2 := h.plan
  have h3 := (concatRec_ok [c.Past, c.Plan] (by simp) (by simp; omega)).to (congrArg (fun q => GV.list 3 (recs q) none) (show [c.Past, c.Plan].flatten = c.whole by simp [Case.whole]))
  obtain ⟨b, p, q, t, s, l, r⟩ := c
  refine ICalls.of_body Tryz.func21 rfl Tryz.call21 rfl (Nat.le_of_ble_eq_true rfl) (fun _ => none) rfl ?_
  repeat' ((conv => whnf); first
    | refine Br.yes rfl ?_
    | refine Br.no rfl ?_
    | refine Br.yes (beq_self_eq_true _) ?_
    | refine Br.not ?_
    | refine Br.yes (decide_eq_true (by assumption)) ?_
    | refine Br.no (decide_eq_false (by assumption)) ?_
    | refine Br.yes (beq_iff_eq.2 (by assumption)) ?_
    | refine Br.no (beq_eq_false_iff_ne.2 (by assumption)) ?_
    | refine Br.yes (bne_iff_ne.2 (by assumption)) ?_
    | (refine Br.dec (fun h => ?_) (fun h => ?_) <;> try dsimp only at h)
    | (refine Br.beqI (fun h => ?_) (fun h => ?_) <;> try dsimp only at h)
    | (refine Br.bneI (fun h => ?_) (fun h => ?_) <;> try dsimp only at h)
    | refine Br.mk (fun h => ?_) (fun h => ?_)
    | refine Need.mk (by first | kernel_rfl | exact ⟨of_decide_eq_true rfl, of_decide_eq_true rfl⟩ | omega) ?_
    | refine Len.mk ⟨_, by simp only [List.length_cons, List.length_nil, Nat.reduceAdd, Int.cast_ofNat_Int]; rfl, ?_⟩
    | refine Wr.lit _ (by simp only [Int.reduceAdd, Int.reduceSub, Int.reduceMul]; rfl) (by decide) ?_
    | refine Wr.fit (by omega) ?_
    | refine Wr.fit (by dsimp only; omega) ?_
    | refine Elem.mk ⟨_, ⟨of_decide_eq_true rfl, rfl⟩, ?_⟩
    | refine Len.map ?_
    | refine Len.dropM ?_
    | refine Elem.dropM ?_
    | refine Len.takeM ?_
    | refine Elem.takeM ?_
    | refine Elem.mapK (by assumption) ?_
    | refine Elem.mapI (by omega) (by assumption) ?_
    | refine Elem.mapN (by omega) (fun x hx => ?_)
    | refine Elem.map (by omega) (by omega) (fun x hx => ?_)
    | refine (h3).use ⟨rfl, ?_⟩
    | refine CallX.mk ⟨_, _, (h3).x, rfl, ?_⟩
    | refine Done.mk ⟨rfl, rfl⟩
    | refine Done.mk ⟨congrArg gb ?_, rfl⟩
    | refine Done.mk ⟨?_, rfl⟩
    | refine Done.mk ⟨?_, ?_⟩)
set_option maxRecDepth 100000 in
theorem refWhole_ok (c : Case) (h : c.Light) : ICalls Tryz.prog 8 [c.g] [] (Done (.list 3 (recs c.whole) none) []) := by
  have h1 := h.past
  have h2 := h.plan
  obtain ⟨b, p, q, t, s, l, r⟩ := c
  simp only at h1 h2
  show ICalls _ _ _ _ (Done (.list 3 (recs (p ++ q)) none) [])
  rw [show recs (p ++ q) = recs p ++ recs q by simp [recs]]
  refine ICalls.of_body Tryz.func8 rfl Tryz.call8 rfl (Nat.le_of_ble_eq_true rfl) (fun _ => none) rfl ?_
  repeat' ((conv => whnf); first
    | refine Br.yes rfl ?_
    | refine Br.no rfl ?_
    | refine Br.yes (beq_self_eq_true _) ?_
    | refine Br.not ?_
    | refine Br.yes (decide_eq_true (by assumption)) ?_
    | refine Br.no (decide_eq_false (by assumption)) ?_
    | refine Br.yes (beq_iff_eq.2 (by assumption)) ?_
    | refine Br.no (beq_eq_false_iff_ne.2 (by assumption)) ?_
    | refine Br.yes (bne_iff_ne.2 (by assumption)) ?_
    | (refine Br.dec (fun h => ?_) (fun h => ?_) <;> try dsimp only at h)
    | (refine Br.beqI (fun h => ?_) (fun h => ?_) <;> try dsimp only at h)
    | (refine Br.bneI (fun h => ?_) (fun h => ?_) <;> try dsimp only at h)
    | refine Br.mk (fun h => ?_) (fun h => ?_)
    | refine Need.mk (app_need (by first | (simp only [List.length_append, List.length_map, List.length_nil, List.length_cons, List.nil_append, Nat.zero_add, Nat.add_zero]; done) | (simp only [List.length_append, List.length_map, List.length_nil, List.length_cons, List.nil_append, Nat.zero_add, Nat.add_zero]; omega) | omega) (Nat.le_of_ble_eq_true rfl) (by first | (simp only [List.length_append, List.length_map, List.length_nil, List.length_cons, List.nil_append, Nat.zero_add, Nat.add_zero]; done) | (simp only [List.length_append, List.length_map, List.length_nil, List.length_cons, List.nil_append, Nat.zero_add, Nat.add_zero]; omega) | omega)) ?_
    | refine Need.mk (app_need0 (Nat.le_of_ble_eq_true rfl) (by first | (simp only [List.length_append, List.length_map, List.length_nil, List.length_cons, List.nil_append, Nat.zero_add, Nat.add_zero]; done) | (simp only [List.length_append, List.length_map, List.length_nil, List.length_cons, List.nil_append, Nat.zero_add, Nat.add_zero]; omega) | omega)) ?_
    | refine Need.mk (by first | kernel_rfl | exact ⟨of_decide_eq_true rfl, of_decide_eq_true rfl⟩ | omega) ?_
    | refine Len.mk ⟨_, by simp only [List.length_cons, List.length_nil, Nat.reduceAdd, Int.cast_ofNat_Int]; rfl, ?_⟩
    | refine Wr.lit _ (by simp only [Int.reduceAdd, Int.reduceSub, Int.reduceMul]; rfl) (by decide) ?_
    | refine Wr.fit (by omega) ?_
    | refine Wr.fit (by dsimp only; omega) ?_
    | refine Elem.mk ⟨_, ⟨of_decide_eq_true rfl, rfl⟩, ?_⟩
    | refine Len.map ?_
    | refine Len.dropM ?_
    | refine Elem.dropM ?_
    | refine Len.takeM ?_
    | refine Elem.takeM ?_
    | refine Elem.mapK (by assumption) ?_
    | refine Elem.mapI (by omega) (by assumption) ?_
    | refine Elem.mapN (by omega) (fun x hx => ?_)
    | refine Elem.map (by omega) (by omega) (fun x hx => ?_)
    | refine Done.mk ⟨rfl, rfl⟩
    | refine Done.mk ⟨congrArg gb ?_, rfl⟩
    | refine Done.mk ⟨?_, rfl⟩
    | refine Done.mk ⟨?_, ?_⟩)

set_option maxRecDepth 100000 in
set_option maxHeartbeats 4000000 in
theorem caseCheck_ok (c : Case) (h : c.Light) : ICalls Tryz.prog 19 [c.g] [] (Done (gi (caseErr c)) []) := by
  have hl := whole_len h
  have h1 := bookCheck_ok c.Book
  have h2 := tasksCheck_ok c.Tasks
  have h3 := errRight_ok c.Tasks c.Spot
  have h4 := whole_ok c h
  have h5 := recCheck_ok c.whole (by omega)
  unfold pairG at h5
  have h6 := legs_ok c.Loads (by have := h.loads; omega)
  unfold caseErr
  generalize hw : c.whole = w at *
  generalize loadErr c.Loads = e6 at *
  generalize (if e6 = 0 then legsT c.Loads else []) = W at *
  generalize c.Book.code = e1 at *
  generalize tasksErr c.Tasks = e2 at *
  generalize errCheck c.Tasks c.Spot = e3 at *
  generalize recsErr 0 none w = z at *
  obtain ⟨z1, z2⟩ := z
  simp only at h5
  clear hl h hw
  cases w with
  | nil =>
    refine ICalls.of_body Tryz.func19 rfl Tryz.call19 rfl (Nat.le_of_ble_eq_true rfl) (fun _ => none) rfl ?_
    repeat' ((conv => whnf); first
      | refine Br.yes rfl ?_
      | refine Br.no rfl ?_
      | refine Br.yes (beq_self_eq_true _) ?_
      | refine Br.not ?_
      | refine Br.yes (decide_eq_true (by assumption)) ?_
      | refine Br.no (decide_eq_false (by assumption)) ?_
      | refine Br.yes (beq_iff_eq.2 (by assumption)) ?_
      | refine Br.no (beq_eq_false_iff_ne.2 (by assumption)) ?_
      | refine Br.yes (bne_iff_ne.2 (by assumption)) ?_
      | (refine Br.dec (fun h => ?_) (fun h => ?_) <;> try dsimp only at h)
      | (refine Br.beqI (fun h => ?_) (fun h => ?_) <;> try dsimp only at h)
      | (refine Br.bneI (fun h => ?_) (fun h => ?_) <;> try dsimp only at h)
      | refine Br.mk (fun h => ?_) (fun h => ?_)
      | refine Need.mk (by first | kernel_rfl | exact ⟨of_decide_eq_true rfl, of_decide_eq_true rfl⟩ | omega) ?_
      | refine Len.mk ⟨_, by simp only [List.length_cons, List.length_nil, Nat.reduceAdd, Int.cast_ofNat_Int]; rfl, ?_⟩
      | refine Wr.lit _ (by simp only [Int.reduceAdd, Int.reduceSub, Int.reduceMul]; rfl) (by decide) ?_
      | refine Wr.fit (by omega) ?_
      | refine Wr.fit (by dsimp only; omega) ?_
      | refine Elem.mk ⟨_, ⟨of_decide_eq_true rfl, rfl⟩, ?_⟩
      | refine Len.map ?_
      | refine Len.dropM ?_
      | refine Elem.dropM ?_
      | refine Len.takeM ?_
      | refine Elem.takeM ?_
      | refine Elem.mapK (by assumption) ?_
      | refine Elem.mapI (by omega) (by assumption) ?_
      | refine Elem.mapN (by omega) (fun x hx => ?_)
      | refine Elem.map (by omega) (by omega) (fun x hx => ?_)
      | refine (h1).use ⟨rfl, ?_⟩
      | refine (h2).use ⟨rfl, ?_⟩
      | refine (h3).use ⟨rfl, ?_⟩
      | refine (h4).use ⟨rfl, ?_⟩
      | refine (h5).use ⟨rfl, ?_⟩
      | refine (h6).use ⟨rfl, ?_⟩
      | refine CallX.mk ⟨_, _, (h1).x, rfl, ?_⟩
      | refine CallX.mk ⟨_, _, (h2).x, rfl, ?_⟩
      | refine CallX.mk ⟨_, _, (h3).x, rfl, ?_⟩
      | refine CallX.mk ⟨_, _, (h4).x, rfl, ?_⟩
      | refine CallX.mk ⟨_, _, (h5).x, rfl, ?_⟩
      | refine CallX.mk ⟨_, _, (h6).x, rfl, ?_⟩
      | refine Done.mk ⟨rfl, rfl⟩
      | refine Done.mk ⟨congrArg gb ?_, rfl⟩
      | refine Done.mk ⟨?_, rfl⟩
      | refine Done.mk ⟨?_, ?_⟩)
    all_goals simp_all [late0]
  | cons r t =>
    refine ICalls.of_body Tryz.func19 rfl Tryz.call19 rfl (Nat.le_of_ble_eq_true rfl) (fun _ => none) rfl ?_
    repeat' ((conv => whnf); first
      | refine Br.yes rfl ?_
      | refine Br.no rfl ?_
      | refine Br.yes (beq_self_eq_true _) ?_
      | refine Br.not ?_
      | refine Br.yes (decide_eq_true (by assumption)) ?_
      | refine Br.no (decide_eq_false (by assumption)) ?_
      | refine Br.yes (beq_iff_eq.2 (by assumption)) ?_
      | refine Br.no (beq_eq_false_iff_ne.2 (by assumption)) ?_
      | refine Br.yes (bne_iff_ne.2 (by assumption)) ?_
      | (refine Br.dec (fun h => ?_) (fun h => ?_) <;> try dsimp only at h)
      | (refine Br.beqI (fun h => ?_) (fun h => ?_) <;> try dsimp only at h)
      | (refine Br.bneI (fun h => ?_) (fun h => ?_) <;> try dsimp only at h)
      | refine Br.mk (fun h => ?_) (fun h => ?_)
      | refine Need.mk (by first | kernel_rfl | exact ⟨of_decide_eq_true rfl, of_decide_eq_true rfl⟩ | omega) ?_
      | refine Len.mk ⟨_, by simp only [List.length_cons, List.length_nil, Nat.reduceAdd, Int.cast_ofNat_Int]; rfl, ?_⟩
      | refine Wr.lit _ (by simp only [Int.reduceAdd, Int.reduceSub, Int.reduceMul]; rfl) (by decide) ?_
      | refine Wr.fit (by omega) ?_
      | refine Wr.fit (by dsimp only; omega) ?_
      | refine Elem.mk ⟨_, ⟨of_decide_eq_true rfl, rfl⟩, ?_⟩
      | refine Len.map ?_
      | refine Len.dropM ?_
      | refine Elem.dropM ?_
      | refine Len.takeM ?_
      | refine Elem.takeM ?_
      | refine Elem.mapK (by assumption) ?_
      | refine Elem.mapI (by omega) (by assumption) ?_
      | refine Elem.mapN (by omega) (fun x hx => ?_)
      | refine Elem.map (by omega) (by omega) (fun x hx => ?_)
      | refine (h1).use ⟨rfl, ?_⟩
      | refine (h2).use ⟨rfl, ?_⟩
      | refine (h3).use ⟨rfl, ?_⟩
      | refine (h4).use ⟨rfl, ?_⟩
      | refine (h5).use ⟨rfl, ?_⟩
      | refine (h6).use ⟨rfl, ?_⟩
      | refine CallX.mk ⟨_, _, (h1).x, rfl, ?_⟩
      | refine CallX.mk ⟨_, _, (h2).x, rfl, ?_⟩
      | refine CallX.mk ⟨_, _, (h3).x, rfl, ?_⟩
      | refine CallX.mk ⟨_, _, (h4).x, rfl, ?_⟩
      | refine CallX.mk ⟨_, _, (h5).x, rfl, ?_⟩
      | refine CallX.mk ⟨_, _, (h6).x, rfl, ?_⟩
      | refine Done.mk ⟨rfl, rfl⟩
      | refine Done.mk ⟨congrArg gb ?_, rfl⟩
      | refine Done.mk ⟨?_, rfl⟩
      | refine Done.mk ⟨?_, ?_⟩)
    all_goals simp_all [late0]

set_option maxRecDepth 100000 in
set_option maxHeartbeats 1000000 in
theorem loaded_ok (c : Case) (h : c.Light) : ICalls Tryz.prog 24 [c.g] [] (Done (.list 3 (fnds (loadF c)) none) []) := by
  have h1 := fits21_ok c.Room c.Loads (by have := h.loads; omega)
  have h2 := recSpan_ok c.Plan (by have := h.plan; omega)
  unfold loadF planAt
  unfold spanG at h2
  have hb : spanOk c.Plan = true → 0 ≤ beginOf c.Plan ∧ beginOf c.Plan ≤ 40320 := by
    intro hs
    unfold spanOk at hs
    simp only [Bool.and_eq_true, decide_eq_true_eq] at hs
    exact begin_range (chain_first hs.1)
  generalize fitsL c.Room c.Loads = f at *
  generalize spanOk c.Plan = s at *
  generalize beginOf c.Plan = a at *
  cases f with
  | true =>
    refine ICalls.of_body Tryz.func24 rfl Tryz.call24 rfl (Nat.le_of_ble_eq_true rfl) (fun _ => none) rfl ?_
    repeat' ((conv => whnf); first
      | refine Br.yes rfl ?_
      | refine Br.no rfl ?_
      | refine Br.yes (beq_self_eq_true _) ?_
      | refine Br.not ?_
      | refine Br.yes (decide_eq_true (by assumption)) ?_
      | refine Br.no (decide_eq_false (by assumption)) ?_
      | refine Br.yes (beq_iff_eq.2 (by assumption)) ?_
      | refine Br.no (beq_eq_false_iff_ne.2 (by assumption)) ?_
      | refine Br.yes (bne_iff_ne.2 (by assumption)) ?_
      | (refine Br.dec (fun h => ?_) (fun h => ?_) <;> try dsimp only at h)
      | (refine Br.beqI (fun h => ?_) (fun h => ?_) <;> try dsimp only at h)
      | (refine Br.bneI (fun h => ?_) (fun h => ?_) <;> try dsimp only at h)
      | refine Br.mk (fun h => ?_) (fun h => ?_)
      | refine Need.mk (by first | kernel_rfl | exact ⟨of_decide_eq_true rfl, of_decide_eq_true rfl⟩ | omega) ?_
      | refine Len.mk ⟨_, by simp only [List.length_cons, List.length_nil, Nat.reduceAdd, Int.cast_ofNat_Int]; rfl, ?_⟩
      | refine Wr.lit _ (by simp only [Int.reduceAdd, Int.reduceSub, Int.reduceMul]; rfl) (by decide) ?_
      | refine Wr.fit (by omega) ?_
      | refine Wr.fit (by dsimp only; omega) ?_
      | refine Elem.mk ⟨_, ⟨of_decide_eq_true rfl, rfl⟩, ?_⟩
      | refine Len.map ?_
      | refine Len.dropM ?_
      | refine Elem.dropM ?_
      | refine Len.takeM ?_
      | refine Elem.takeM ?_
      | refine Elem.mapK (by assumption) ?_
      | refine Elem.mapI (by omega) (by assumption) ?_
      | refine Elem.mapN (by omega) (fun x hx => ?_)
      | refine Elem.map (by omega) (by omega) (fun x hx => ?_)
      | refine (h1).use ⟨rfl, ?_⟩
      | refine CallX.mk ⟨_, _, (h1).x, rfl, ?_⟩
      | refine Done.mk ⟨rfl, rfl⟩
      | refine Done.mk ⟨congrArg gb ?_, rfl⟩
      | refine Done.mk ⟨?_, rfl⟩
      | refine Done.mk ⟨?_, ?_⟩)
  | false =>
    cases s with
    | true =>
      have := hb rfl
      simp only [if_true] at h2 ⊢
      refine ICalls.of_body Tryz.func24 rfl Tryz.call24 rfl (Nat.le_of_ble_eq_true rfl) (fun _ => none) rfl ?_
      repeat' ((conv => whnf); first
        | refine Br.yes rfl ?_
        | refine Br.no rfl ?_
        | refine Br.yes (beq_self_eq_true _) ?_
        | refine Br.not ?_
        | refine Br.yes (decide_eq_true (by assumption)) ?_
        | refine Br.no (decide_eq_false (by assumption)) ?_
        | refine Br.yes (beq_iff_eq.2 (by assumption)) ?_
        | refine Br.no (beq_eq_false_iff_ne.2 (by assumption)) ?_
        | refine Br.yes (bne_iff_ne.2 (by assumption)) ?_
        | (refine Br.dec (fun h => ?_) (fun h => ?_) <;> try dsimp only at h)
        | (refine Br.beqI (fun h => ?_) (fun h => ?_) <;> try dsimp only at h)
        | (refine Br.bneI (fun h => ?_) (fun h => ?_) <;> try dsimp only at h)
        | refine Br.mk (fun h => ?_) (fun h => ?_)
        | refine Need.mk (by first | kernel_rfl | exact ⟨of_decide_eq_true rfl, of_decide_eq_true rfl⟩ | omega) ?_
        | refine Len.mk ⟨_, by simp only [List.length_cons, List.length_nil, Nat.reduceAdd, Int.cast_ofNat_Int]; rfl, ?_⟩
        | refine Wr.lit _ (by simp only [Int.reduceAdd, Int.reduceSub, Int.reduceMul]; rfl) (by decide) ?_
        | refine Wr.fit (by omega) ?_
        | refine Wr.fit (by dsimp only; omega) ?_
        | refine Elem.mk ⟨_, ⟨of_decide_eq_true rfl, rfl⟩, ?_⟩
        | refine Len.map ?_
        | refine Len.dropM ?_
        | refine Elem.dropM ?_
        | refine Len.takeM ?_
        | refine Elem.takeM ?_
        | refine Elem.mapK (by assumption) ?_
        | refine Elem.mapI (by omega) (by assumption) ?_
        | refine Elem.mapN (by omega) (fun x hx => ?_)
        | refine Elem.map (by omega) (by omega) (fun x hx => ?_)
        | refine (h1).use ⟨rfl, ?_⟩
        | refine (h2).use ⟨rfl, ?_⟩
        | refine CallX.mk ⟨_, _, (h1).x, rfl, ?_⟩
        | refine CallX.mk ⟨_, _, (h2).x, rfl, ?_⟩
        | refine Done.mk ⟨rfl, rfl⟩
        | refine Done.mk ⟨congrArg gb ?_, rfl⟩
        | refine Done.mk ⟨?_, rfl⟩
        | refine Done.mk ⟨?_, ?_⟩)
      all_goals first | omega | rfl
    | false =>
      simp only [Bool.false_eq_true, if_false] at h2 ⊢
      refine ICalls.of_body Tryz.func24 rfl Tryz.call24 rfl (Nat.le_of_ble_eq_true rfl) (fun _ => none) rfl ?_
      repeat' ((conv => whnf); first
        | refine Br.yes rfl ?_
        | refine Br.no rfl ?_
        | refine Br.yes (beq_self_eq_true _) ?_
        | refine Br.not ?_
        | refine Br.yes (decide_eq_true (by assumption)) ?_
        | refine Br.no (decide_eq_false (by assumption)) ?_
        | refine Br.yes (beq_iff_eq.2 (by assumption)) ?_
        | refine Br.no (beq_eq_false_iff_ne.2 (by assumption)) ?_
        | refine Br.yes (bne_iff_ne.2 (by assumption)) ?_
        | (refine Br.dec (fun h => ?_) (fun h => ?_) <;> try dsimp only at h)
        | (refine Br.beqI (fun h => ?_) (fun h => ?_) <;> try dsimp only at h)
        | (refine Br.bneI (fun h => ?_) (fun h => ?_) <;> try dsimp only at h)
        | refine Br.mk (fun h => ?_) (fun h => ?_)
        | refine Need.mk (by first | kernel_rfl | exact ⟨of_decide_eq_true rfl, of_decide_eq_true rfl⟩ | omega) ?_
        | refine Len.mk ⟨_, by simp only [List.length_cons, List.length_nil, Nat.reduceAdd, Int.cast_ofNat_Int]; rfl, ?_⟩
        | refine Wr.lit _ (by simp only [Int.reduceAdd, Int.reduceSub, Int.reduceMul]; rfl) (by decide) ?_
        | refine Wr.fit (by omega) ?_
        | refine Wr.fit (by dsimp only; omega) ?_
        | refine Elem.mk ⟨_, ⟨of_decide_eq_true rfl, rfl⟩, ?_⟩
        | refine Len.map ?_
        | refine Len.dropM ?_
        | refine Elem.dropM ?_
        | refine Len.takeM ?_
        | refine Elem.takeM ?_
        | refine Elem.mapK (by assumption) ?_
        | refine Elem.mapI (by omega) (by assumption) ?_
        | refine Elem.mapN (by omega) (fun x hx => ?_)
        | refine Elem.map (by omega) (by omega) (fun x hx => ?_)
        | refine (h1).use ⟨rfl, ?_⟩
        | refine (h2).use ⟨rfl, ?_⟩
        | refine CallX.mk ⟨_, _, (h1).x, rfl, ?_⟩
        | refine CallX.mk ⟨_, _, (h2).x, rfl, ?_⟩
        | refine Done.mk ⟨rfl, rfl⟩
        | refine Done.mk ⟨congrArg gb ?_, rfl⟩
        | refine Done.mk ⟨?_, rfl⟩
        | refine Done.mk ⟨?_, ?_⟩)
      all_goals first | omega | rfl

def vOut (e1 e2 e3 : Int) (SL : List Fnd) : GV := .tup [.list 3 (fnds (if (if e1 ≠ 0 then e1 else if e2 ≠ 0 then e2 else e3) = 0 then SL else [])) none, gi (if e1 ≠ 0 then e1 else if e2 ≠ 0 then e2 else e3)]
theorem vOut0 {e1 e2 e3 e : Int} {SL : List Fnd} (he : (if e1 ≠ 0 then e1 else if e2 ≠ 0 then e2 else e3) = e) : vOut e1 e2 e3 SL = .tup [.list 3 (fnds (if e = 0 then SL else [])) none, gi e] := by unfold vOut; rw [he]
theorem vOut1 {e1 e2 e3 : Int} {SL : List Fnd} (h : ¬ e1 = 0) : GV.tup [.list 3 [] none, gi e1] = vOut e1 e2 e3 SL := by rw [vOut0 (e := e1) (by simp [h]), if_neg h]; rfl
theorem vOut2 {e1 e2 e3 : Int} {SL : List Fnd} (h1 : e1 = 0) (h : ¬ e2 = 0) : GV.tup [.list 3 [] none, gi e2] = vOut e1 e2 e3 SL := by rw [vOut0 (e := e2) (by simp [h1, h]), if_neg h]; rfl
theorem vOut3 {e1 e2 e3 : Int} {SL : List Fnd} (h1 : e1 = 0) (h2 : e2 = 0) (h : ¬ e3 = 0) : GV.tup [.list 3 [] none, gi e3] = vOut e1 e2 e3 SL := by rw [vOut0 (e := e3) (by simp [h1, h2]), if_neg h]; rfl
theorem vOut4 {e1 e2 e3 : Int} {SL : List Fnd} (h1 : e1 = 0) (h2 : e2 = 0) (h : e3 = 0) : GV.tup [.list 3 (fnds SL) none, gi 0] = vOut e1 e2 e3 SL := by rw [vOut0 (e := 0) (by simp [h1, h2, h]), if_pos rfl]

set_option maxRecDepth 100000 in
set_option maxHeartbeats 4000000 in
theorem vAudit_ok (c : Case) (h : c.Light) : ICalls Tryz.prog 12 [c.g] [] (Done (.tup [.list 3 (fnds (caseF c)) none, gi (caseE c)]) []) := by
  have hl := whole_len h
  have h1 := caseCheck_ok c h
  have h2 := whole_ok c h
  have h3 := audit_ok c.Book c.whole (by omega)
  have h4 := trailAudit_ok c.Tasks c.Spot c.Plan (by have := h.plan; omega)
  have h5 := loaded_ok c h
  have hlen := case_len c
  have h6 := (concatFnd_ok [auditF c.Book c.whole, (audT c.Tasks c.Spot c.Plan).2, loadF c] (by simp) (by unfold caseL at hlen; simp at hlen ⊢; omega)).to (congrArg (fun q => GV.list 3 (fnds q) none) (show [auditF c.Book c.whole, (audT c.Tasks c.Spot c.Plan).2, loadF c].flatten = caseL c by simp [caseL]))
  have h7 := clauseSort_ok (caseL c) (by omega) (strict_nodup (case_strict c))
  unfold caseF caseE
  generalize caseErr c = e1 at *
  generalize dutyErr c.Book c.whole = e2 at *
  generalize chk20 c.Tasks c.Spot c.Plan = e3 at *
  generalize caseL c = L at *
  generalize sortF L = SL at *
  generalize auditF c.Book c.whole = A at *
  generalize audT c.Tasks c.Spot c.Plan = B at *
  generalize loadF c = C at *
  generalize c.whole = w at *
  clear hl hlen
  show ICalls _ _ _ _ (Done (vOut e1 e2 e3 SL) [])
  refine ICalls.of_body Tryz.func12 rfl Tryz.call12 rfl (Nat.le_of_ble_eq_true rfl) (fun _ => none) rfl ?_
  repeat' ((conv => whnf); first
    | refine Br.yes rfl ?_
    | refine Br.no rfl ?_
    | refine Br.yes (beq_self_eq_true _) ?_
    | refine Br.not ?_
    | refine Br.yes (decide_eq_true (by assumption)) ?_
    | refine Br.no (decide_eq_false (by assumption)) ?_
    | refine Br.yes (beq_iff_eq.2 (by assumption)) ?_
    | refine Br.no (beq_eq_false_iff_ne.2 (by assumption)) ?_
    | refine Br.yes (bne_iff_ne.2 (by assumption)) ?_
    | (refine Br.dec (fun h => ?_) (fun h => ?_) <;> try dsimp only at h)
    | (refine Br.beqI (fun h => ?_) (fun h => ?_) <;> try dsimp only at h)
    | (refine Br.bneI (fun h => ?_) (fun h => ?_) <;> try dsimp only at h)
    | refine Br.mk (fun h => ?_) (fun h => ?_)
    | refine Need.mk (by first | kernel_rfl | exact ⟨of_decide_eq_true rfl, of_decide_eq_true rfl⟩ | omega) ?_
    | refine Len.mk ⟨_, by simp only [List.length_cons, List.length_nil, Nat.reduceAdd, Int.cast_ofNat_Int]; rfl, ?_⟩
    | refine Wr.lit _ (by simp only [Int.reduceAdd, Int.reduceSub, Int.reduceMul]; rfl) (by decide) ?_
    | refine Wr.fit (by omega) ?_
    | refine Wr.fit (by dsimp only; omega) ?_
    | refine Elem.mk ⟨_, ⟨of_decide_eq_true rfl, rfl⟩, ?_⟩
    | refine Len.map ?_
    | refine Len.dropM ?_
    | refine Elem.dropM ?_
    | refine Len.takeM ?_
    | refine Elem.takeM ?_
    | refine Elem.mapK (by assumption) ?_
    | refine Elem.mapI (by omega) (by assumption) ?_
    | refine Elem.mapN (by omega) (fun x hx => ?_)
    | refine Elem.map (by omega) (by omega) (fun x hx => ?_)
    | refine (h1).use ⟨rfl, ?_⟩
    | refine (h2).use ⟨rfl, ?_⟩
    | refine (h3).use ⟨rfl, ?_⟩
    | refine (h4).use ⟨rfl, ?_⟩
    | refine (h5).use ⟨rfl, ?_⟩
    | refine (h6).use ⟨rfl, ?_⟩
    | refine (h7).use ⟨rfl, ?_⟩
    | refine CallX.mk ⟨_, _, (h1).x, rfl, ?_⟩
    | refine CallX.mk ⟨_, _, (h2).x, rfl, ?_⟩
    | refine CallX.mk ⟨_, _, (h3).x, rfl, ?_⟩
    | refine CallX.mk ⟨_, _, (h4).x, rfl, ?_⟩
    | refine CallX.mk ⟨_, _, (h5).x, rfl, ?_⟩
    | refine CallX.mk ⟨_, _, (h6).x, rfl, ?_⟩
    | refine CallX.mk ⟨_, _, (h7).x, rfl, ?_⟩
    | refine Done.mk ⟨rfl, rfl⟩
    | refine Done.mk ⟨congrArg gb ?_, rfl⟩
    | refine Done.mk ⟨?_, rfl⟩
    | refine Done.mk ⟨?_, ?_⟩)
  all_goals first
    | exact vOut1 (by assumption)
    | exact vOut2 (by assumption) (by assumption)
    | exact vOut3 (by assumption) (by assumption) (by assumption)
    | exact vOut4 (by assumption) (by assumption) (by assumption)
   

set_option maxRecDepth 100000 in
theorem passes_ok (c : Case) (h : c.Light) : ICalls Tryz.prog 11 [c.g] [] (Done (gb (decide (caseE c = 0) && decide (caseF c = []))) []) := by
  have h1 := vAudit_ok c h
  generalize caseE c = e at *
  generalize caseF c = F at *
  cases F with
  | nil =>
    refine ICalls.of_body Tryz.func11 rfl Tryz.call11 rfl (Nat.le_of_ble_eq_true rfl) (fun _ => none) rfl ?_
    repeat' ((conv => whnf); first
      | refine Br.yes rfl ?_
      | refine Br.no rfl ?_
      | refine Br.yes (beq_self_eq_true _) ?_
      | refine Br.not ?_
      | refine Br.yes (decide_eq_true (by assumption)) ?_
      | refine Br.no (decide_eq_false (by assumption)) ?_
      | refine Br.yes (beq_iff_eq.2 (by assumption)) ?_
      | refine Br.no (beq_eq_false_iff_ne.2 (by assumption)) ?_
      | refine Br.yes (bne_iff_ne.2 (by assumption)) ?_
      | (refine Br.dec (fun h => ?_) (fun h => ?_) <;> try dsimp only at h)
      | (refine Br.beqI (fun h => ?_) (fun h => ?_) <;> try dsimp only at h)
      | (refine Br.bneI (fun h => ?_) (fun h => ?_) <;> try dsimp only at h)
      | refine Br.mk (fun h => ?_) (fun h => ?_)
      | refine Need.mk (by first | kernel_rfl | exact ⟨of_decide_eq_true rfl, of_decide_eq_true rfl⟩ | omega) ?_
      | refine Len.mk ⟨_, by simp only [List.length_cons, List.length_nil, Nat.reduceAdd, Int.cast_ofNat_Int]; rfl, ?_⟩
      | refine Wr.lit _ (by simp only [Int.reduceAdd, Int.reduceSub, Int.reduceMul]; rfl) (by decide) ?_
      | refine Wr.fit (by omega) ?_
      | refine Wr.fit (by dsimp only; omega) ?_
      | refine Elem.mk ⟨_, ⟨of_decide_eq_true rfl, rfl⟩, ?_⟩
      | refine Len.map ?_
      | refine Len.dropM ?_
      | refine Elem.dropM ?_
      | refine Len.takeM ?_
      | refine Elem.takeM ?_
      | refine Elem.mapK (by assumption) ?_
      | refine Elem.mapI (by omega) (by assumption) ?_
      | refine Elem.mapN (by omega) (fun x hx => ?_)
      | refine Elem.map (by omega) (by omega) (fun x hx => ?_)
      | refine (h1).use ⟨rfl, ?_⟩
      | refine CallX.mk ⟨_, _, (h1).x, rfl, ?_⟩
      | refine Done.mk ⟨rfl, rfl⟩
      | refine Done.mk ⟨congrArg gb ?_, rfl⟩
      | refine Done.mk ⟨?_, rfl⟩
      | refine Done.mk ⟨?_, ?_⟩)
    all_goals first | (simp_all; done)
  | cons f t =>
    refine ICalls.of_body Tryz.func11 rfl Tryz.call11 rfl (Nat.le_of_ble_eq_true rfl) (fun _ => none) rfl ?_
    repeat' ((conv => whnf); first
      | refine Br.yes rfl ?_
      | refine Br.no rfl ?_
      | refine Br.yes (beq_self_eq_true _) ?_
      | refine Br.not ?_
      | refine Br.yes (decide_eq_true (by assumption)) ?_
      | refine Br.no (decide_eq_false (by assumption)) ?_
      | refine Br.yes (beq_iff_eq.2 (by assumption)) ?_
      | refine Br.no (beq_eq_false_iff_ne.2 (by assumption)) ?_
      | refine Br.yes (bne_iff_ne.2 (by assumption)) ?_
      | (refine Br.dec (fun h => ?_) (fun h => ?_) <;> try dsimp only at h)
      | (refine Br.beqI (fun h => ?_) (fun h => ?_) <;> try dsimp only at h)
      | (refine Br.bneI (fun h => ?_) (fun h => ?_) <;> try dsimp only at h)
      | refine Br.mk (fun h => ?_) (fun h => ?_)
      | refine Need.mk (by first | kernel_rfl | exact ⟨of_decide_eq_true rfl, of_decide_eq_true rfl⟩ | omega) ?_
      | refine Len.mk ⟨_, by simp only [List.length_cons, List.length_nil, Nat.reduceAdd, Int.cast_ofNat_Int]; rfl, ?_⟩
      | refine Wr.lit _ (by simp only [Int.reduceAdd, Int.reduceSub, Int.reduceMul]; rfl) (by decide) ?_
      | refine Wr.fit (by omega) ?_
      | refine Wr.fit (by dsimp only; omega) ?_
      | refine Elem.mk ⟨_, ⟨of_decide_eq_true rfl, rfl⟩, ?_⟩
      | refine Len.map ?_
      | refine Len.dropM ?_
      | refine Elem.dropM ?_
      | refine Len.takeM ?_
      | refine Elem.takeM ?_
      | refine Elem.mapK (by assumption) ?_
      | refine Elem.mapI (by omega) (by assumption) ?_
      | refine Elem.mapN (by omega) (fun x hx => ?_)
      | refine Elem.map (by omega) (by omega) (fun x hx => ?_)
      | refine (h1).use ⟨rfl, ?_⟩
      | refine CallX.mk ⟨_, _, (h1).x, rfl, ?_⟩
      | refine Done.mk ⟨rfl, rfl⟩
      | refine Done.mk ⟨congrArg gb ?_, rfl⟩
      | refine Done.mk ⟨?_, rfl⟩
      | refine Done.mk ⟨?_, ?_⟩)
    all_goals first | (simp_all; done) | (simp_all; omega)

end Go.Hl
