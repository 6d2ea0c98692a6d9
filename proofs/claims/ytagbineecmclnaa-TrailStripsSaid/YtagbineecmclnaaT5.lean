/- Contracts of functions, bundle T5; proved for whatever the arguments' types allow, as each theorem says. -/
import Derived.Test.YtagbineecmclnaaT1
import Derived.Test.YtagbineecmclnaaT3

/- Chapter 20: visits; what follows.  -/
set_option linter.unusedVariables false
set_option linter.unusedSimpArgs false
namespace Go.Hl
open Go.Gh Go.Proofs

structure Vis where
  Task : Int
  From : Int
  To : Int
  deriving DecidableEq
def Vis.c (v : Vis) : List GV := [gi v.Task, gi v.From, gi v.To]
def Vis.g (v : Vis) : GV := .agg v.c
abbrev viss (l : List Vis) : List GV := l.map Vis.g
theorem viss_len (l : List Vis) : (viss l).length = l.length := List.length_map ..

/-- The lesser one, as the program tells it. -/
abbrev mnI (a b : Int) : Int := if b < a then b else a
theorem mnI_ok (a b : Int) : (if b < a then b else a) ≤ a ∧ (if b < a then b else a) ≤ b ∧ ((if b < a then b else a) = a ∨ (if b < a then b else a) = b) := by split <;> omega
/-- A visitor: what is served, how often that was laid anew, when the service under way began. -/
structure VSt where
  out : List Vis
  v : Nat
  beg : Int
def begV (s : Spot) (a : Int) (x : VSt) : Int := if s.Served = 0 then a else x.beg
def pieceB (l : List Task) (s : Spot) (n : Int) : Bool := decide (¬ s.Served + n < (tAt l s.Task).Serve)
theorem pieceB_of {l : List Task} {s : Spot} {n : Int} {t : Task} (h : tAt l s.Task = t) : pieceB l s n = decide (¬ s.Served + n < t.Serve) := by rw [pieceB, h]
def pieceV (l : List Task) (s : Spot) (a n : Int) (x : VSt) : VSt :=
  if s.Served + n < (tAt l s.Task).Serve then ⟨x.out, x.v, begV s a x⟩
  else if 0 ≤ begV s a x then ⟨x.out ++ [⟨s.Task, begV s a x, a + n⟩], x.v + 1, -1⟩ else ⟨x.out, x.v, -1⟩
def workN (l : List Task) (to : Int) : Nat → Spot → Int → VSt → VSt
  | 0, _, _, x => x
  | k + 1, s, a, x =>
    if a < to ∧ s.Task < l.length then
      (if s.Driven < (tAt l s.Task).Drive then x
       else if 0 < mnI ((tAt l s.Task).Serve - s.Served) (to - a) then
        (if pieceB l s (mnI ((tAt l s.Task).Serve - s.Served) (to - a)) = true then workN l to k ⟨s.Task + 1, 0, 0⟩ (a + mnI ((tAt l s.Task).Serve - s.Served) (to - a)) (pieceV l s a (mnI ((tAt l s.Task).Serve - s.Served) (to - a)) x)
         else pieceV l s a (mnI ((tAt l s.Task).Serve - s.Served) (to - a)) x)
       else workN l to k ⟨s.Task + 1, 0, 0⟩ (a + mnI ((tAt l s.Task).Serve - s.Served) (to - a)) x)
    else x
def workV (l : List Task) (s : Spot) (r : Rec) (x : VSt) : VSt := workN l r.To ((l.length - s.Task).toNat + 1) s r.From x
def visRec (l : List Task) (s : Spot) (r : Rec) (x : VSt) : VSt := if r.Kind = 2 then workV l s r x else x
def visAll (l : List Task) : List Rec → Spot → VSt → VSt
  | [], _, x => x
  | r :: t, s, x => visAll l t (overAll l s r).1 (visRec l s r x)
def visT (l : List Task) (s : Spot) (R : List Rec) : List Vis := if chk20 l s R = 0 then (visAll l R s ⟨[], 0, -1⟩).out else []
def visB (l : List Task) (x : VSt) (k : Nat) : List GB := [.cells [.list 3 (tasks l) none, .ms 3 k x.v x.out.length, gi x.beg], .mvec 65 3 (viss x.out) x.v]

theorem task_at {l : List Task} {s : Spot} {t : Task} (h : l[s.Task.toNat]? = some t) : tAt l s.Task = t := by unfold tAt; rw [h]; rfl

set_option maxRecDepth 100000 in
set_option maxHeartbeats 1000000 in
theorem piece_ok (l : List Task) (s : Spot) (a n : Int) (x : VSt) (hl : l.length ≤ 2001) (hs : 0 ≤ s.Task ∧ s.Task < l.length) (hv : 0 ≤ s.Served ∧ s.Served ≤ 100000) (hn : 0 ≤ n ∧ n ≤ 100000) (ha : 0 ≤ a ∧ a ≤ 100000) (hx : x.out.length ≤ 100000000) :
    ICalls Try.prog 78 [.ptr 0 0, s.g, gi a, gi n] (visB l x 1) (Done (gb (pieceB l s n)) (visB l (pieceV l s a n x) 1)) := by
  obtain ⟨out, v, beg⟩ := x
  simp only at hx
  have e1 : ∀ (b : Int) (t : Task), tAt l s.Task = t → begV s a ⟨out, v, beg⟩ = b → s.Served + n < t.Serve → pieceB l s n = false ∧ visB l (pieceV l s a n ⟨out, v, beg⟩) 1 = visB l ⟨out, v, b⟩ 1 := by
    rintro b t rfl rfl h
    exact ⟨decide_eq_false (fun e => e h), by rw [pieceV, if_pos h]⟩
  have e2 : ∀ (b : Int) (t : Task), tAt l s.Task = t → begV s a ⟨out, v, beg⟩ = b → ¬ s.Served + n < t.Serve → 0 ≤ b → pieceB l s n = true ∧ visB l (pieceV l s a n ⟨out, v, beg⟩) 1 = [.cells [.list 3 (tasks l) none, .ms 3 1 (v + 1) ((viss out).length + 1), gi (-1)], .mvec 65 3 (viss out ++ [.agg [gi s.Task, gi b, gi (a + n)]]) (v + 1)] := by
    rintro b t rfl rfl h hb
    refine ⟨decide_eq_true h, ?_⟩
    rw [pieceV, if_neg h, if_pos hb]
    unfold visB
    simp [viss, Vis.g, Vis.c]
  have e3 : ∀ (b : Int) (t : Task), tAt l s.Task = t → begV s a ⟨out, v, beg⟩ = b → ¬ s.Served + n < t.Serve → ¬ 0 ≤ b → pieceB l s n = true ∧ visB l (pieceV l s a n ⟨out, v, beg⟩) 1 = visB l ⟨out, v, -1⟩ 1 := by
    rintro b t rfl rfl h hb
    exact ⟨decide_eq_true h, by rw [pieceV, if_neg h, if_neg hb]⟩
  have b1 : s.Served = 0 → begV s a ⟨out, v, beg⟩ = a := fun h => if_pos h
  have b2 : ¬ s.Served = 0 → begV s a ⟨out, v, beg⟩ = beg := fun h => if_neg h
  generalize pieceV l s a n ⟨out, v, beg⟩ = X at *
  generalize pieceB l s n = B at *
  generalize begV s a ⟨out, v, beg⟩ = bb at *
  show ICalls _ _ _ [.cells [.list 3 (tasks l) none, .ms 3 1 v out.length, gi beg], .mvec 65 3 (viss out) v] _
  generalize hY : visB l X 1 = Y at *
  refine ICalls.of_body Try.func78 rfl Try.call78 rfl (Nat.le_of_ble_eq_true rfl) (fun _ => none) rfl ?_
  repeat' ((conv => whnf); first
    | refine Br.yes rfl ?_
    | refine Br.no rfl ?_
    | (refine Elem.map (by omega) (by omega) (fun t ht => ?_))
    | (refine Need.mk (app_needM rfl (Nat.le_of_ble_eq_true rfl) (by rw [viss_len]; simp only [List.length_cons, List.length_nil]; omega)) ?_)
    | refine Br.yes (beq_self_eq_true _) ?_
    | refine Br.not ?_
    | refine Br.yes (decide_eq_true (by assumption)) ?_
    | refine Br.no (decide_eq_false (by assumption)) ?_
    | refine Br.yes (beq_iff_eq.2 (by assumption)) ?_
    | refine Br.no (beq_eq_false_iff_ne.2 (by assumption)) ?_
    | refine Br.yes (bne_iff_ne.2 (by assumption)) ?_
    | (refine Br.dec (fun h => ?_) (fun h => ?_) <;> try dsimp only at h)
    | (refine Br.beqI (fun h => ?_) (fun h => ?_) <;> try dsimp only at h)
    | (refine Br.bneI (fun h => ?_) (fun h => ?_) <;> try dsimp only at h)
    | refine Br.mk (fun h => ?_) (fun h => ?_)
    | refine Need.mk (app_need (by first | (simp only [List.length_append, List.length_map, List.length_nil, List.length_cons, List.nil_append, Nat.zero_add, Nat.add_zero]; done) | (simp only [List.length_append, List.length_map, List.length_nil, List.length_cons, List.nil_append, Nat.zero_add, Nat.add_zero]; omega) | omega) (Nat.le_of_ble_eq_true rfl) (by first | (simp only [List.length_append, List.length_map, List.length_nil, List.length_cons, List.nil_append, Nat.zero_add, Nat.add_zero]; done) | (simp only [List.length_append, List.length_map, List.length_nil, List.length_cons, List.nil_append, Nat.zero_add, Nat.add_zero]; omega) | omega)) ?_
    | refine Need.mk (app_need0 (Nat.le_of_ble_eq_true rfl) (by first | (simp only [List.length_append, List.length_map, List.length_nil, List.length_cons, List.nil_append, Nat.zero_add, Nat.add_zero]; done) | (simp only [List.length_append, List.length_map, List.length_nil, List.length_cons, List.nil_append, Nat.zero_add, Nat.add_zero]; omega) | omega)) ?_
    | refine Need.mk (by first | kernel_rfl | exact ⟨of_decide_eq_true rfl, of_decide_eq_true rfl⟩ | omega) ?_
    | refine Len.mk ⟨_, by simp only [List.length_cons, List.length_nil, Nat.reduceAdd, Int.cast_ofNat_Int]; rfl, ?_⟩
    | refine Wr.lit _ (by simp only [Int.reduceAdd, Int.reduceSub, Int.reduceMul]; rfl) (by decide) ?_
    | refine Wr.fit (by omega) ?_
    | refine Wr.fit (by dsimp only; omega) ?_
    | refine Elem.mk ⟨_, ⟨of_decide_eq_true rfl, rfl⟩, ?_⟩
    | refine Len.map ?_
    | refine Len.dropM ?_
    | refine Elem.dropM ?_
    | refine Len.takeM ?_
    | refine Elem.takeM ?_
    | refine Elem.mapK (by assumption) ?_
    | refine Elem.mapI (by omega) (by assumption) ?_
    | refine Elem.mapN (by omega) (fun x hx => ?_)
    | refine Elem.map (by omega) (by omega) (fun x hx => ?_)
    | refine Done.mk ⟨rfl, rfl⟩
    | refine Done.mk ⟨congrArg gb ?_, rfl⟩
    | refine Done.mk ⟨?_, rfl⟩
    | refine Done.mk ⟨?_, ?_⟩)
  all_goals first
    | omega
    | exact congrArg gb (e1 _ t (task_at ht) (b1 (by assumption)) (by assumption)).1.symm
    | exact (e1 _ t (task_at ht) (b1 (by assumption)) (by assumption)).2.symm
    | exact congrArg gb (e1 _ t (task_at ht) (b2 (by assumption)) (by assumption)).1.symm
    | exact (e1 _ t (task_at ht) (b2 (by assumption)) (by assumption)).2.symm
    | exact congrArg gb (e2 _ t (task_at ht) (b1 (by assumption)) (by assumption) (by assumption)).1.symm
    | exact (e2 _ t (task_at ht) (b1 (by assumption)) (by assumption) (by assumption)).2.symm
    | exact congrArg gb (e2 _ t (task_at ht) (b2 (by assumption)) (by assumption) (by assumption)).1.symm
    | exact (e2 _ t (task_at ht) (b2 (by assumption)) (by assumption) (by assumption)).2.symm
    | exact congrArg gb (e3 _ t (task_at ht) (b1 (by assumption)) (by assumption) (by assumption)).1.symm
    | exact (e3 _ t (task_at ht) (b1 (by assumption)) (by assumption) (by assumption)).2.symm
    | exact congrArg gb (e3 _ t (task_at ht) (b2 (by assumption)) (by assumption) (by assumption)).1.symm
    | exact (e3 _ t (task_at ht) (b2 (by assumption)) (by assumption) (by assumption)).2.symm

end Go.Hl

/- Chapter 20: a record of work, visits; what follows; the chapter's examples.  -/
set_option linter.unusedVariables false
set_option linter.unusedSimpArgs false
namespace Go.Hl
open Go.Gh Go.Proofs

theorem wk_stop {l : List Task} {to a : Int} {k : Nat} {s : Spot} {x W : VSt} (hr : workN l to (k + 1) s a x = W) (h : ¬ (a < to ∧ s.Task < l.length)) : x = W := by
  rw [workN, if_neg h] at hr; exact hr
theorem wk_ret {l : List Task} {to a : Int} {k : Nat} {s : Spot} {x W : VSt} (hr : workN l to (k + 1) s a x = W) (h : a < to ∧ s.Task < l.length) (h2 : s.Driven < (tAt l s.Task).Drive) : x = W := by
  rw [workN, if_pos h, if_pos h2] at hr; exact hr
theorem wk_no {l : List Task} {to a n : Int} {k : Nat} {s : Spot} {x W : VSt} (hr : workN l to (k + 1) s a x = W) (h : a < to ∧ s.Task < l.length) (h2 : ¬ s.Driven < (tAt l s.Task).Drive) (hn : mnI ((tAt l s.Task).Serve - s.Served) (to - a) = n) (h3 : 0 < n) (h4 : pieceB l s n = false) : pieceV l s a n x = W := by
  rw [workN, if_pos h, if_neg h2, hn, if_pos h3, h4] at hr; simpa using hr
theorem wk_yes {l : List Task} {to a n : Int} {k : Nat} {s : Spot} {x W : VSt} (hr : workN l to (k + 1) s a x = W) (h : a < to ∧ s.Task < l.length) (h2 : ¬ s.Driven < (tAt l s.Task).Drive) (hn : mnI ((tAt l s.Task).Serve - s.Served) (to - a) = n) (h3 : 0 < n) (h4 : pieceB l s n = true) : workN l to k ⟨s.Task + 1, 0, 0⟩ (a + n) (pieceV l s a n x) = W := by
  rw [workN, if_pos h, if_neg h2, hn, if_pos h3, h4, if_pos rfl] at hr; exact hr
theorem wk_zero {l : List Task} {to a n : Int} {k : Nat} {s : Spot} {x W : VSt} (hr : workN l to (k + 1) s a x = W) (h : a < to ∧ s.Task < l.length) (h2 : ¬ s.Driven < (tAt l s.Task).Drive) (hn : mnI ((tAt l s.Task).Serve - s.Served) (to - a) = n) (h3 : ¬ 0 < n) : workN l to k ⟨s.Task + 1, 0, 0⟩ (a + n) x = W := by
  rw [workN, if_pos h, if_neg h2, hn, if_neg h3] at hr; exact hr

theorem pieceV_len {l : List Task} {s : Spot} {a n : Int} {x : VSt} : (pieceV l s a n x).out.length ≤ x.out.length + 1 := by
  unfold pieceV
  split
  · simp
  · split <;> simp
theorem workN_len {l : List Task} {to : Int} : ∀ (k : Nat) (s : Spot) (a : Int) (x : VSt), (workN l to k s a x).out.length ≤ x.out.length + k
  | 0, s, a, x => by simp [workN]
  | k + 1, s, a, x => by
    rw [workN]
    generalize mnI ((tAt l s.Task).Serve - s.Served) (to - a) = n
    have h1 := @pieceV_len l s a n x
    have h2 := workN_len (l := l) (to := to) k ⟨s.Task + 1, 0, 0⟩ (a + n) (pieceV l s a n x)
    have h3 := workN_len (l := l) (to := to) k ⟨s.Task + 1, 0, 0⟩ (a + n) x
    repeat' split
    all_goals omega

def pl_T6_1 : Nat → Option (List Nat × List Nat) := (fun k => bif Nat.beq k 2 then some ([1000002, 0, 4, 5, 6], [0, 1, 104, 105]) else none)
set_option maxRecDepth 100000 in
set_option maxHeartbeats 2000000 in
theorem work_ok (l : List Task) (s : Spot) (r : Rec) (x : VSt) (hs : errCheck l s = 0) (hr : recErr r = 0) (hx : x.out.length ≤ 10000000) : ICalls Try.prog 53 [.ptr 0 0, s.g, r.g] (visB l x 1) (Done (.tup []) (visB l (workV l s r x) 1)) := by
  obtain ⟨ht, hf⟩ := check_fits hs
  obtain ⟨hl, hm⟩ := tasksErr_ok ht
  have hi := recErr_inv hr
  have hs0 := fits_in hf
  have hmt0 : ∀ t, l[s.Task.toNat]? = some t → s.Served ≤ t.Serve ∧ t.Serve ≤ 1440 := fun t h => by
    have e := task_at h
    have := (hm t (List.mem_of_getElem? h)).serve
    rw [e] at hs0; omega
  have hk : ((l.length - s.Task).toNat : Int) = l.length - s.Task := by omega
  unfold visB
  generalize hW : workV l s r x = W
  unfold workV at hW
  generalize (l.length - s.Task).toNat = k0 at *
  clear hs ht hf
  refine ICalls.of_body Try.func53 rfl Try.call53 rfl (Nat.le_of_ble_eq_true rfl) pl_T6_1 rfl ?_
  repeat' ((conv => whnf); first
    | refine Br.yes rfl ?_
    | refine Br.no rfl ?_
    | (refine Elem.map (by omega) (by omega) (fun t ht => ?_); have hmt' := hmt t ht; have htt := task_at ht; have hmn := mnI_ok (t.Serve - s'.Served) (r.To - a))
    | (refine ILoop.ov 1000002 (fun ((a, s', x', k) : Int × Spot × VSt × Nat) => [(6, gi a)]) (fun ((a, s', x', k) : Int × Spot × VSt × Nat) => [(104, .cells (s'.c)), (0, .cells ([.list 3 (tasks l) none, .ms 3 1 x'.v x'.out.length, gi x'.beg])), (1, .mvec 65 3 (viss x'.out) x'.v)]) (fun ((a, s', x', k) : Int × Spot × VSt × Nat) => ((k : Int) = l.length - s'.Task ∧ 0 ≤ s'.Task) ∧ (0 ≤ s'.Served ∧ ∀ t, l[s'.Task.toNat]? = some t → s'.Served ≤ t.Serve ∧ t.Serve ≤ 1440) ∧ (r.From ≤ a ∧ a ≤ r.To) ∧ x'.out.length + k ≤ 10010000 ∧ workN l r.To (k + 1) s' a x' = W) (fun ((a, s', x', k) : Int × Spot × VSt × Nat) => k) ((r.From, s, x, k0)) (by exact rfl) ?_; (conv => whnf); refine Start.mk rfl ?_ ?_; (try dsimp only); rotate_left; rintro ⟨a, s', x', k⟩ ⟨hk', ⟨hsv, hmt⟩, ha, hlen, hw⟩)
    | (refine Again.mk ⟨((a + mnI (t.Serve - s'.Served) (r.To - a), ⟨s'.Task + 1, 0, 0⟩, pieceV l s' a (mnI (t.Serve - s'.Served) (r.To - a)) x', k - 1)), rfl, ?_, ?_⟩ <;> try dsimp only)
    | (refine Again.mk ⟨((a + mnI (t.Serve - s'.Served) (r.To - a), ⟨s'.Task + 1, 0, 0⟩, x', k - 1)), rfl, ?_, ?_⟩ <;> try dsimp only)
    | refine Br.yes (beq_self_eq_true _) ?_
    | refine Br.not ?_
    | refine Br.yes (decide_eq_true (by assumption)) ?_
    | refine Br.no (decide_eq_false (by assumption)) ?_
    | refine Br.yes (beq_iff_eq.2 (by assumption)) ?_
    | refine Br.no (beq_eq_false_iff_ne.2 (by assumption)) ?_
    | refine Br.yes (bne_iff_ne.2 (by assumption)) ?_
    | (refine Br.dec (fun h => ?_) (fun h => ?_) <;> try dsimp only at h)
    | (refine Br.beqI (fun h => ?_) (fun h => ?_) <;> try dsimp only at h)
    | (refine Br.bneI (fun h => ?_) (fun h => ?_) <;> try dsimp only at h)
    | refine Br.mk (fun h => ?_) (fun h => ?_)
    | refine Need.mk (app_need (by first | (simp only [List.length_append, List.length_map, List.length_nil, List.length_cons, List.nil_append, Nat.zero_add, Nat.add_zero]; done) | (simp only [List.length_append, List.length_map, List.length_nil, List.length_cons, List.nil_append, Nat.zero_add, Nat.add_zero]; omega) | omega) (Nat.le_of_ble_eq_true rfl) (by first | (simp only [List.length_append, List.length_map, List.length_nil, List.length_cons, List.nil_append, Nat.zero_add, Nat.add_zero]; done) | (simp only [List.length_append, List.length_map, List.length_nil, List.length_cons, List.nil_append, Nat.zero_add, Nat.add_zero]; omega) | omega)) ?_
    | refine Need.mk (app_need0 (Nat.le_of_ble_eq_true rfl) (by first | (simp only [List.length_append, List.length_map, List.length_nil, List.length_cons, List.nil_append, Nat.zero_add, Nat.add_zero]; done) | (simp only [List.length_append, List.length_map, List.length_nil, List.length_cons, List.nil_append, Nat.zero_add, Nat.add_zero]; omega) | omega)) ?_
    | refine Need.mk (by first | kernel_rfl | exact ⟨of_decide_eq_true rfl, of_decide_eq_true rfl⟩ | omega) ?_
    | refine Len.mk ⟨_, by simp only [List.length_cons, List.length_nil, Nat.reduceAdd, Int.cast_ofNat_Int]; rfl, ?_⟩
    | refine Wr.lit _ (by simp only [Int.reduceAdd, Int.reduceSub, Int.reduceMul]; rfl) (by decide) ?_
    | refine Wr.fit (by omega) ?_
    | refine Wr.fit (by dsimp only; omega) ?_
    | refine Elem.mk ⟨_, ⟨of_decide_eq_true rfl, rfl⟩, ?_⟩
    | refine Len.map ?_
    | refine Len.dropM ?_
    | refine Elem.dropM ?_
    | refine Len.takeM ?_
    | refine Elem.takeM ?_
    | refine Elem.mapK (by assumption) ?_
    | refine Elem.mapI (by omega) (by assumption) ?_
    | refine Elem.mapN (by omega) (fun x hx => ?_)
    | refine Elem.map (by omega) (by omega) (fun x hx => ?_)
    | refine ((piece_ok l s' a (mnI (t.Serve - s'.Served) (r.To - a)) x' hl ⟨by omega, by omega⟩ (by omega) (by unfold mnI; omega) (by omega) (by omega)).to (congrArg gb (pieceB_of htt))).use ⟨rfl, ?_⟩
    | refine CallX.mk ⟨_, _, ((piece_ok l s' a (mnI (t.Serve - s'.Served) (r.To - a)) x' hl ⟨by omega, by omega⟩ (by omega) (by unfold mnI; omega) (by omega) (by omega)).to (congrArg gb (pieceB_of htt))).x, rfl, ?_⟩
    | refine Done.mk ⟨rfl, rfl⟩
    | refine Done.mk ⟨congrArg gb ?_, rfl⟩
    | refine Done.mk ⟨?_, rfl⟩
    | refine Done.mk ⟨?_, ?_⟩)

  all_goals first
    | omega
    | rfl
    | (have e := wk_stop hw (by omega); subst e; rfl)
    | (have e := wk_ret hw ⟨by omega, by omega⟩ (by rw [htt]; assumption); subst e; rfl)
    | (have e := wk_no hw ⟨by omega, by omega⟩ (by rw [htt]; assumption) (by rw [htt]) (by assumption) (by rw [pieceB_of htt]; exact decide_eq_false (by omega)); subst e; rfl)
    | exact ⟨by omega, ⟨by omega, hmt0⟩, by omega, by omega, hW⟩
    | (refine ⟨by omega, ⟨by omega, fun q hq => by have := (hm q (List.mem_of_getElem? hq)).serve; omega⟩, by unfold mnI; omega, by have := @pieceV_len l s' a (mnI (t.Serve - s'.Served) (r.To - a)) x'; omega, ?_⟩
       rw [show k - 1 + 1 = k by omega]
       exact wk_yes hw ⟨by omega, by omega⟩ (by rw [htt]; assumption) (by rw [htt]) (by assumption) (by rw [pieceB_of htt]; exact decide_eq_true (by omega)))
    | (refine ⟨by omega, ⟨by omega, fun q hq => by have := (hm q (List.mem_of_getElem? hq)).serve; omega⟩, by unfold mnI; omega, by omega, ?_⟩
       rw [show k - 1 + 1 = k by omega]
       exact wk_zero hw ⟨by omega, by omega⟩ (by rw [htt]; assumption) (by rw [htt]) (by assumption))

set_option maxRecDepth 100000 in
theorem follows_ok (l : List Task) (s0 : Spot) (R : List Rec) (hl : (R.length : Int) ≤ 1000) : ICalls Try.prog 24 [.list 3 (tasks l) none, s0.g, .list 3 (recs R) none] [] (Done (gb (decide (chk20 l s0 R = 0) && decide ((audT l s0 R).2 = []))) []) := by
  have h1 := trailAudit_ok l s0 R hl
  generalize audT l s0 R = q at *
  generalize chk20 l s0 R = e at *
  obtain ⟨q1, q2⟩ := q
  simp only at h1 ⊢
  cases q2 with
  | nil =>
    refine ICalls.of_body Try.func24 rfl Try.call24 rfl (Nat.le_of_ble_eq_true rfl) (fun _ => none) rfl ?_
    repeat' ((conv => whnf); first
      | refine Br.yes rfl ?_
      | refine Br.no rfl ?_
      | refine Br.yes (beq_self_eq_true _) ?_
      | refine Br.not ?_
      | refine Br.yes (decide_eq_true (by assumption)) ?_
      | refine Br.no (decide_eq_false (by assumption)) ?_
      | refine Br.yes (beq_iff_eq.2 (by assumption)) ?_
      | refine Br.no (beq_eq_false_iff_ne.2 (by assumption)) ?_
      | refine Br.yes (bne_iff_ne.2 (by assumption)) ?_
      | (refine Br.dec (fun h => ?_) (fun h => ?_) <;> try dsimp only at h)
      | (refine Br.beqI (fun h => ?_) (fun h => ?_) <;> try dsimp only at h)
      | (refine Br.bneI (fun h => ?_) (fun h => ?_) <;> try dsimp only at h)
      | refine Br.mk (fun h => ?_) (fun h => ?_)
      | refine Need.mk (app_need (by first | (simp only [List.length_append, List.length_map, List.length_nil, List.length_cons, List.nil_append, Nat.zero_add, Nat.add_zero]; done) | (simp only [List.length_append, List.length_map, List.length_nil, List.length_cons, List.nil_append, Nat.zero_add, Nat.add_zero]; omega) | omega) (Nat.le_of_ble_eq_true rfl) (by first | (simp only [List.length_append, List.length_map, List.length_nil, List.length_cons, List.nil_append, Nat.zero_add, Nat.add_zero]; done) | (simp only [List.length_append, List.length_map, List.length_nil, List.length_cons, List.nil_append, Nat.zero_add, Nat.add_zero]; omega) | omega)) ?_
      | refine Need.mk (app_need0 (Nat.le_of_ble_eq_true rfl) (by first | (simp only [List.length_append, List.length_map, List.length_nil, List.length_cons, List.nil_append, Nat.zero_add, Nat.add_zero]; done) | (simp only [List.length_append, List.length_map, List.length_nil, List.length_cons, List.nil_append, Nat.zero_add, Nat.add_zero]; omega) | omega)) ?_
      | refine Need.mk (by first | kernel_rfl | exact ⟨of_decide_eq_true rfl, of_decide_eq_true rfl⟩ | omega) ?_
      | refine Len.mk ⟨_, by simp only [List.length_cons, List.length_nil, Nat.reduceAdd, Int.cast_ofNat_Int]; rfl, ?_⟩
      | refine Wr.lit _ (by simp only [Int.reduceAdd, Int.reduceSub, Int.reduceMul]; rfl) (by decide) ?_
      | refine Wr.fit (by omega) ?_
      | refine Wr.fit (by dsimp only; omega) ?_
      | refine Elem.mk ⟨_, ⟨of_decide_eq_true rfl, rfl⟩, ?_⟩
      | refine Len.map ?_
      | refine Len.dropM ?_
      | refine Elem.dropM ?_
      | refine Len.takeM ?_
      | refine Elem.takeM ?_
      | refine Elem.mapK (by assumption) ?_
      | refine Elem.mapI (by omega) (by assumption) ?_
      | refine Elem.mapN (by omega) (fun x hx => ?_)
      | refine Elem.map (by omega) (by omega) (fun x hx => ?_)
      | refine (h1).use ⟨rfl, ?_⟩
      | refine CallX.mk ⟨_, _, (h1).x, rfl, ?_⟩
      | refine Done.mk ⟨rfl, rfl⟩
      | refine Done.mk ⟨congrArg gb ?_, rfl⟩
      | refine Done.mk ⟨?_, rfl⟩
      | refine Done.mk ⟨?_, ?_⟩)
    all_goals first | (simp_all; done) | (simp_all; omega)
  | cons f t =>
    refine ICalls.of_body Try.func24 rfl Try.call24 rfl (Nat.le_of_ble_eq_true rfl) (fun _ => none) rfl ?_
    repeat' ((conv => whnf); first
      | refine Br.yes rfl ?_
      | refine Br.no rfl ?_
      | refine Br.yes (beq_self_eq_true _) ?_
      | refine Br.not ?_
      | refine Br.yes (decide_eq_true (by assumption)) ?_
      | refine Br.no (decide_eq_false (by assumption)) ?_
      | refine Br.yes (beq_iff_eq.2 (by assumption)) ?_
      | refine Br.no (beq_eq_false_iff_ne.2 (by assumption)) ?_
      | refine Br.yes (bne_iff_ne.2 (by assumption)) ?_
      | (refine Br.dec (fun h => ?_) (fun h => ?_) <;> try dsimp only at h)
      | (refine Br.beqI (fun h => ?_) (fun h => ?_) <;> try dsimp only at h)
      | (refine Br.bneI (fun h => ?_) (fun h => ?_) <;> try dsimp only at h)
      | refine Br.mk (fun h => ?_) (fun h => ?_)
      | refine Need.mk (app_need (by first | (simp only [List.length_append, List.length_map, List.length_nil, List.length_cons, List.nil_append, Nat.zero_add, Nat.add_zero]; done) | (simp only [List.length_append, List.length_map, List.length_nil, List.length_cons, List.nil_append, Nat.zero_add, Nat.add_zero]; omega) | omega) (Nat.le_of_ble_eq_true rfl) (by first | (simp only [List.length_append, List.length_map, List.length_nil, List.length_cons, List.nil_append, Nat.zero_add, Nat.add_zero]; done) | (simp only [List.length_append, List.length_map, List.length_nil, List.length_cons, List.nil_append, Nat.zero_add, Nat.add_zero]; omega) | omega)) ?_
      | refine Need.mk (app_need0 (Nat.le_of_ble_eq_true rfl) (by first | (simp only [List.length_append, List.length_map, List.length_nil, List.length_cons, List.nil_append, Nat.zero_add, Nat.add_zero]; done) | (simp only [List.length_append, List.length_map, List.length_nil, List.length_cons, List.nil_append, Nat.zero_add, Nat.add_zero]; omega) | omega)) ?_
      | refine Need.mk (by first | kernel_rfl | exact ⟨of_decide_eq_true rfl, of_decide_eq_true rfl⟩ | omega) ?_
      | refine Len.mk ⟨_, by simp only [List.length_cons, List.length_nil, Nat.reduceAdd, Int.cast_ofNat_Int]; rfl, ?_⟩
      | refine Wr.lit _ (by simp only [Int.reduceAdd, Int.reduceSub, Int.reduceMul]; rfl) (by decide) ?_
      | refine Wr.fit (by omega) ?_
      | refine Wr.fit (by dsimp only; omega) ?_
      | refine Elem.mk ⟨_, ⟨of_decide_eq_true rfl, rfl⟩, ?_⟩
      | refine Len.map ?_
      | refine Len.dropM ?_
      | refine Elem.dropM ?_
      | refine Len.takeM ?_
      | refine Elem.takeM ?_
      | refine Elem.mapK (by assumption) ?_
      | refine Elem.mapI (by omega) (by assumption) ?_
      | refine Elem.mapN (by omega) (fun x hx => ?_)
      | refine Elem.map (by omega) (by omega) (fun x hx => ?_)
      | refine (h1).use ⟨rfl, ?_⟩
      | refine CallX.mk ⟨_, _, (h1).x, rfl, ?_⟩
      | refine Done.mk ⟨rfl, rfl⟩
      | refine Done.mk ⟨congrArg gb ?_, rfl⟩
      | refine Done.mk ⟨?_, rfl⟩
      | refine Done.mk ⟨?_, ?_⟩)
    all_goals first | (simp_all; done) | (simp_all; omega)

end Go.Hl

/- Chapter 20: visits, the chapter's examples.  -/
set_option linter.unusedVariables false
set_option linter.unusedSimpArgs false
namespace Go.Hl
open Go.Gh Go.Proofs

theorem workV_len {l : List Task} {s : Spot} {r : Rec} {x : VSt} (hl : l.length ≤ 2001) (hs : 0 ≤ s.Task) : (workV l s r x).out.length ≤ x.out.length + 2002 := by
  unfold workV
  have := @workN_len l r.To ((l.length - s.Task).toNat + 1) s r.From x
  omega
theorem vis_end {l : List Task} {R : List Rec} {i : Nat} {s : Spot} {x : VSt} {W : List Vis} (hi : ¬ (i : Int) < R.length) (h : (visAll l (R.drop i) s x).out = W) : x.out = W := by
  rw [List.drop_eq_nil_of_le (by omega), visAll] at h; exact h
theorem vis_work {l : List Task} {R : List Rec} {i : Nat} {q : Rec} {s : Spot} {x : VSt} {W : List Vis} (hx : R[i]? = some q) (h : (visAll l (R.drop i) s x).out = W) (hk : q.Kind = 2) : (visAll l (R.drop (i + 1)) (overAll l s q).1 (workV l s q x)).out = W := by
  rw [drop_of_get hx, visAll, visRec, if_pos hk] at h; exact h
theorem vis_pass {l : List Task} {R : List Rec} {i : Nat} {q : Rec} {s : Spot} {x : VSt} {W : List Vis} (hx : R[i]? = some q) (h : (visAll l (R.drop i) s x).out = W) (hk : ¬ q.Kind = 2) : (visAll l (R.drop (i + 1)) (overAll l s q).1 x).out = W := by
  rw [drop_of_get hx, visAll, visRec, if_neg hk] at h; exact h

def pl_T7_1 : Nat → Option (List Nat × List Nat) := (fun k => bif Nat.beq k 6 then some ([1000006, 0, 4, 9, 25, 26, 27], [104, 124]) else none)
def pl_T7_2 : Nat → Option (List Nat × List Nat) := (fun k => bif Nat.beq k 6 then some ([1000006, 0, 4, 9, 25, 26, 27, 5100024, 6000054], [104, 124, 50124]) else bif Nat.beq k 5100024 then some ([], []) else bif Nat.beq k 6000054 then some ([], []) else none)
set_option maxRecDepth 100000 in
set_option maxHeartbeats 4000000 in
theorem visits_ok (l : List Task) (s0 : Spot) (R : List Rec) (hl : (R.length : Int) ≤ 1000) : ICalls Try.prog 25 [.list 3 (tasks l) none, s0.g, .list 3 (recs R) none] [] (Done (.tup [.list 3 (viss (visT l s0 R)) none, gi (chk20 l s0 R)]) []) := by
  have h1 := trailCheck_ok l s0 R (by omega)
  unfold visT
  by_cases he : chk20 l s0 R = 0
  case neg =>
    rw [if_neg he]
    generalize chk20 l s0 R = e at *
    refine ICalls.of_body Try.func25 rfl Try.call25 rfl (Nat.le_of_ble_eq_true rfl) pl_T7_1 rfl ?_
    repeat' ((conv => whnf); first
      | refine Br.yes rfl ?_
      | refine Br.no rfl ?_
      | refine Br.yes (beq_self_eq_true _) ?_
      | refine Br.not ?_
      | refine Br.yes (decide_eq_true (by assumption)) ?_
      | refine Br.no (decide_eq_false (by assumption)) ?_
      | refine Br.yes (beq_iff_eq.2 (by assumption)) ?_
      | refine Br.no (beq_eq_false_iff_ne.2 (by assumption)) ?_
      | refine Br.yes (bne_iff_ne.2 (by assumption)) ?_
      | (refine Br.dec (fun h => ?_) (fun h => ?_) <;> try dsimp only at h)
      | (refine Br.beqI (fun h => ?_) (fun h => ?_) <;> try dsimp only at h)
      | (refine Br.bneI (fun h => ?_) (fun h => ?_) <;> try dsimp only at h)
      | refine Br.mk (fun h => ?_) (fun h => ?_)
      | refine Need.mk (app_need (by first | (simp only [List.length_append, List.length_map, List.length_nil, List.length_cons, List.nil_append, Nat.zero_add, Nat.add_zero]; done) | (simp only [List.length_append, List.length_map, List.length_nil, List.length_cons, List.nil_append, Nat.zero_add, Nat.add_zero]; omega) | omega) (Nat.le_of_ble_eq_true rfl) (by first | (simp only [List.length_append, List.length_map, List.length_nil, List.length_cons, List.nil_append, Nat.zero_add, Nat.add_zero]; done) | (simp only [List.length_append, List.length_map, List.length_nil, List.length_cons, List.nil_append, Nat.zero_add, Nat.add_zero]; omega) | omega)) ?_
      | refine Need.mk (app_need0 (Nat.le_of_ble_eq_true rfl) (by first | (simp only [List.length_append, List.length_map, List.length_nil, List.length_cons, List.nil_append, Nat.zero_add, Nat.add_zero]; done) | (simp only [List.length_append, List.length_map, List.length_nil, List.length_cons, List.nil_append, Nat.zero_add, Nat.add_zero]; omega) | omega)) ?_
      | refine Need.mk (app_needM rfl (Nat.le_of_ble_eq_true rfl) (by first | (simp only [List.length_append, List.length_map, List.length_nil, List.length_cons, List.nil_append, Nat.zero_add, Nat.add_zero]; done) | (simp only [List.length_append, List.length_map, List.length_nil, List.length_cons, List.nil_append, Nat.zero_add, Nat.add_zero]; omega) | omega)) ?_
      | refine Need.mk (zeros_need (by omega) (Nat.le_of_ble_eq_true rfl) (by omega)) ?_
      | refine Need.mk (by first | kernel_rfl | exact ⟨of_decide_eq_true rfl, of_decide_eq_true rfl⟩ | omega) ?_
      | refine Len.mk ⟨_, by simp only [List.length_cons, List.length_nil, Nat.reduceAdd, Int.cast_ofNat_Int]; rfl, ?_⟩
      | refine Wr.lit _ (by simp only [Int.reduceAdd, Int.reduceSub, Int.reduceMul]; rfl) (by decide) ?_
      | refine Wr.fit (by omega) ?_
      | refine Wr.fit (by dsimp only; omega) ?_
      | refine Elem.mk ⟨_, ⟨of_decide_eq_true rfl, rfl⟩, ?_⟩
      | refine Len.map ?_
      | refine Len.dropM ?_
      | refine Elem.dropM ?_
      | refine Len.takeM ?_
      | refine Elem.takeM ?_
      | refine Elem.mapK (by assumption) ?_
      | refine Elem.mapI (by omega) (by assumption) ?_
      | refine Elem.mapN (by omega) (fun x hx => ?_)
      | refine Elem.map (by omega) (by omega) (fun x hx => ?_)
      | refine (h1).use ⟨rfl, ?_⟩
      | refine CallX.mk ⟨_, _, (h1).x, rfl, ?_⟩
      | refine Done.mk ⟨rfl, rfl⟩
      | refine Done.mk ⟨congrArg gb ?_, rfl⟩
      | refine Done.mk ⟨?_, rfl⟩
      | refine Done.mk ⟨?_, ?_⟩)
    all_goals first | omega | rfl
  case pos =>
    rw [if_pos he, he]
    rw [he] at h1
    obtain ⟨hs0, hrs⟩ := chk_0 he
    have hc := chain_first hrs
    have hq : ∀ (i : Nat) (q : Rec), R[i]? = some q → recErr q = 0 := fun i q hx => chain_all R _ hc q (List.mem_of_getElem? hx)
    have hll := (tasksErr_ok (check_fits hs0).1).1
    have hov : ∀ (s : Spot) (q : Rec), errCheck l s = 0 → recErr q = 0 → errCheck l (overAll l s q).1 = 0 ∧ 0 ≤ s.Task := fun s q h1 h2 => ⟨(overAll_ok h1 h2).1, (fits_in (check_fits h1).2).1.1⟩
    clear he hc hrs
    generalize hW : (visAll l R s0 ⟨[], 0, -1⟩).out = W
    refine ICalls.of_body Try.func25 rfl Try.call25 rfl (Nat.le_of_ble_eq_true rfl) pl_T7_2 rfl ?_
    repeat' ((conv => whnf); first
      | refine Br.yes rfl ?_
      | refine Br.no rfl ?_
      | (refine Elem.mapN (by omega) (fun q hx => ?_); have hqi := recErr_inv (hq i q hx))
      | (refine ILoop.ov 1000006 (fun ((i, s, x) : Nat × Spot × VSt) => [(27, gi i)]) (fun ((i, s, x) : Nat × Spot × VSt) => [(104, .cells (s.c)), (124, .cells ([.list 3 (tasks l) none, .ms 3 50124 x.v x.out.length, gi x.beg])), (50124, .mvec 65 3 (viss x.out) x.v)]) (fun ((i, s, x) : Nat × Spot × VSt) => i ≤ R.length ∧ errCheck l s = 0 ∧ x.out.length ≤ 2002 * i ∧ (visAll l (R.drop i) s x).out = W) (fun ((i, s, x) : Nat × Spot × VSt) => R.length - i) ((0, s0, ⟨[], 0, -1⟩)) (by exact rfl) ?_; (conv => whnf); refine Start.mk rfl ?_ ?_; (try dsimp only); rotate_left; rintro ⟨i, s, x⟩ ⟨hi, hs, hxl, hw⟩)
      | (refine Again.mk ⟨((i + 1, (overAll l s q).1, workV l s q x)), rfl, ?_, ?_⟩ <;> try dsimp only)
      | (refine Again.mk ⟨((i + 1, (overAll l s q).1, x)), rfl, ?_, ?_⟩ <;> try dsimp only)
      | refine Br.yes (beq_self_eq_true _) ?_
      | refine Br.not ?_
      | refine Br.yes (decide_eq_true (by assumption)) ?_
      | refine Br.no (decide_eq_false (by assumption)) ?_
      | refine Br.yes (beq_iff_eq.2 (by assumption)) ?_
      | refine Br.no (beq_eq_false_iff_ne.2 (by assumption)) ?_
      | refine Br.yes (bne_iff_ne.2 (by assumption)) ?_
      | (refine Br.dec (fun h => ?_) (fun h => ?_) <;> try dsimp only at h)
      | (refine Br.beqI (fun h => ?_) (fun h => ?_) <;> try dsimp only at h)
      | (refine Br.bneI (fun h => ?_) (fun h => ?_) <;> try dsimp only at h)
      | refine Br.mk (fun h => ?_) (fun h => ?_)
      | refine Need.mk (app_need (by first | (simp only [List.length_append, List.length_map, List.length_nil, List.length_cons, List.nil_append, Nat.zero_add, Nat.add_zero]; done) | (simp only [List.length_append, List.length_map, List.length_nil, List.length_cons, List.nil_append, Nat.zero_add, Nat.add_zero]; omega) | omega) (Nat.le_of_ble_eq_true rfl) (by first | (simp only [List.length_append, List.length_map, List.length_nil, List.length_cons, List.nil_append, Nat.zero_add, Nat.add_zero]; done) | (simp only [List.length_append, List.length_map, List.length_nil, List.length_cons, List.nil_append, Nat.zero_add, Nat.add_zero]; omega) | omega)) ?_
      | refine Need.mk (app_need0 (Nat.le_of_ble_eq_true rfl) (by first | (simp only [List.length_append, List.length_map, List.length_nil, List.length_cons, List.nil_append, Nat.zero_add, Nat.add_zero]; done) | (simp only [List.length_append, List.length_map, List.length_nil, List.length_cons, List.nil_append, Nat.zero_add, Nat.add_zero]; omega) | omega)) ?_
      | refine Need.mk (app_needM rfl (Nat.le_of_ble_eq_true rfl) (by first | (simp only [List.length_append, List.length_map, List.length_nil, List.length_cons, List.nil_append, Nat.zero_add, Nat.add_zero]; done) | (simp only [List.length_append, List.length_map, List.length_nil, List.length_cons, List.nil_append, Nat.zero_add, Nat.add_zero]; omega) | omega)) ?_
      | refine Need.mk (zeros_need (by omega) (Nat.le_of_ble_eq_true rfl) (by omega)) ?_
      | refine Need.mk (by first | kernel_rfl | exact ⟨of_decide_eq_true rfl, of_decide_eq_true rfl⟩ | omega) ?_
      | refine Len.mk ⟨_, by simp only [List.length_cons, List.length_nil, Nat.reduceAdd, Int.cast_ofNat_Int]; rfl, ?_⟩
      | refine Wr.lit _ (by simp only [Int.reduceAdd, Int.reduceSub, Int.reduceMul]; rfl) (by decide) ?_
      | refine Wr.fit (by omega) ?_
      | refine Wr.fit (by dsimp only; omega) ?_
      | refine Elem.mk ⟨_, ⟨of_decide_eq_true rfl, rfl⟩, ?_⟩
      | refine Len.map ?_
      | refine Len.dropM ?_
      | refine Elem.dropM ?_
      | refine Len.takeM ?_
      | refine Elem.takeM ?_
      | refine Elem.mapK (by assumption) ?_
      | refine Elem.mapI (by omega) (by assumption) ?_
      | refine Elem.mapN (by omega) (fun x hx => ?_)
      | refine Elem.map (by omega) (by omega) (fun x hx => ?_)
      | refine (h1).use ⟨rfl, ?_⟩
      | refine (work_ok l s q x hs (hq i q hx) (by omega)).use ⟨rfl, ?_⟩
      | refine (errOver0_ok hs (hq i q hx)).use ⟨rfl, ?_⟩
      | refine CallX.mk ⟨_, _, (h1).x, rfl, ?_⟩
      | refine CallX.mk ⟨_, _, (work_ok l s q x hs (hq i q hx) (by omega)).x, rfl, ?_⟩
      | refine CallX.mk ⟨_, _, (errOver0_ok hs (hq i q hx)).x, rfl, ?_⟩
      | refine Done.mk ⟨rfl, rfl⟩
      | refine Done.mk ⟨congrArg gb ?_, rfl⟩
      | refine Done.mk ⟨?_, rfl⟩
      | refine Done.mk ⟨?_, ?_⟩)
    all_goals first
      | omega
      | exact ⟨by omega, hs0, Nat.le_refl _, hW⟩
      | exact ⟨by omega, (hov s q hs (hq i q hx)).1, by have := @workV_len l s q x hll (hov s q hs (hq i q hx)).2; omega, vis_work hx hw (by omega)⟩
      | exact ⟨by omega, (hov s q hs (hq i q hx)).1, by omega, vis_pass hx hw (by omega)⟩
      | (rw [← vis_end (by assumption) hw]; rfl)

def al20R : List Rec := [⟨3, 0, 2⟩, ⟨0, 2, 5⟩, ⟨2, 5, 6⟩]
def al20T : List Task := [⟨2, 1, [⟨5, 9⟩]⟩]
theorem al20_0 : (visT al20T ⟨0, 0, 0⟩ al20R, chk20 al20T ⟨0, 0, 0⟩ al20R) = ([⟨0, 5, 6⟩], 0) := by decide +kernel
theorem al20_1 : (decide (chk20 al20T ⟨0, 0, 0⟩ al20R = 0) && decide ((audT al20T ⟨0, 0, 0⟩ al20R).2 = [])) = true := by
  rw [aud_ref]; decide +kernel
def tupV (r : List Vis × Int) : GV := .tup [.list 3 (viss r.1) none, gi r.2]
set_option maxRecDepth 100000 in
set_option maxHeartbeats 4000000 in
theorem alive20_ok : ICalls Try.prog 21 [] [] (Done (gb true) []) := by
  have h1 := (visits_ok al20T ⟨0, 0, 0⟩ al20R (by decide)).to (congrArg tupV al20_0)
  have h2 := (follows_ok al20T ⟨0, 0, 0⟩ al20R (by decide)).to (congrArg gb al20_1)
  refine ICalls.of_body Try.func21 rfl Try.call21 rfl (Nat.le_of_ble_eq_true rfl) (fun _ => none) rfl ?_
  repeat' ((conv => whnf); first
    | refine Br.yes rfl ?_
    | refine Br.no rfl ?_
    | refine Need.mk (EqRun.flat (by kernel_rfl) rfl) ?_
    | refine Br.yes (beq_self_eq_true _) ?_
    | refine Br.not ?_
    | refine Br.yes (decide_eq_true (by assumption)) ?_
    | refine Br.no (decide_eq_false (by assumption)) ?_
    | refine Br.yes (beq_iff_eq.2 (by assumption)) ?_
    | refine Br.no (beq_eq_false_iff_ne.2 (by assumption)) ?_
    | refine Br.yes (bne_iff_ne.2 (by assumption)) ?_
    | (refine Br.dec (fun h => ?_) (fun h => ?_) <;> try dsimp only at h)
    | (refine Br.beqI (fun h => ?_) (fun h => ?_) <;> try dsimp only at h)
    | (refine Br.bneI (fun h => ?_) (fun h => ?_) <;> try dsimp only at h)
    | refine Br.mk (fun h => ?_) (fun h => ?_)
    | refine Need.mk (app_need (by first | (simp only [List.length_append, List.length_map, List.length_nil, List.length_cons, List.nil_append, Nat.zero_add, Nat.add_zero]; done) | (simp only [List.length_append, List.length_map, List.length_nil, List.length_cons, List.nil_append, Nat.zero_add, Nat.add_zero]; omega) | omega) (Nat.le_of_ble_eq_true rfl) (by first | (simp only [List.length_append, List.length_map, List.length_nil, List.length_cons, List.nil_append, Nat.zero_add, Nat.add_zero]; done) | (simp only [List.length_append, List.length_map, List.length_nil, List.length_cons, List.nil_append, Nat.zero_add, Nat.add_zero]; omega) | omega)) ?_
    | refine Need.mk (app_need0 (Nat.le_of_ble_eq_true rfl) (by first | (simp only [List.length_append, List.length_map, List.length_nil, List.length_cons, List.nil_append, Nat.zero_add, Nat.add_zero]; done) | (simp only [List.length_append, List.length_map, List.length_nil, List.length_cons, List.nil_append, Nat.zero_add, Nat.add_zero]; omega) | omega)) ?_
    | refine Need.mk (app_needM rfl (Nat.le_of_ble_eq_true rfl) (by first | (simp only [List.length_append, List.length_map, List.length_nil, List.length_cons, List.nil_append, Nat.zero_add, Nat.add_zero]; done) | (simp only [List.length_append, List.length_map, List.length_nil, List.length_cons, List.nil_append, Nat.zero_add, Nat.add_zero]; omega) | omega)) ?_
    | refine Need.mk (zeros_need (by omega) (Nat.le_of_ble_eq_true rfl) (by omega)) ?_
    | refine Need.mk (by first | kernel_rfl | exact ⟨of_decide_eq_true rfl, of_decide_eq_true rfl⟩ | omega) ?_
    | refine Len.mk ⟨_, by simp only [List.length_cons, List.length_nil, Nat.reduceAdd, Int.cast_ofNat_Int]; rfl, ?_⟩
    | refine Wr.lit _ (by simp only [Int.reduceAdd, Int.reduceSub, Int.reduceMul]; rfl) (by decide) ?_
    | refine Wr.fit (by omega) ?_
    | refine Wr.fit (by dsimp only; omega) ?_
    | refine Elem.mk ⟨_, ⟨of_decide_eq_true rfl, rfl⟩, ?_⟩
    | refine Len.map ?_
    | refine Len.dropM ?_
    | refine Elem.dropM ?_
    | refine Len.takeM ?_
    | refine Elem.takeM ?_
    | refine Elem.mapK (by assumption) ?_
    | refine Elem.mapI (by omega) (by assumption) ?_
    | refine Elem.mapN (by omega) (fun x hx => ?_)
    | refine Elem.map (by omega) (by omega) (fun x hx => ?_)
    | refine (h1).use ⟨rfl, ?_⟩
    | refine (h2).use ⟨rfl, ?_⟩
    | refine CallX.mk ⟨_, _, (h1).x, rfl, ?_⟩
    | refine CallX.mk ⟨_, _, (h2).x, rfl, ?_⟩
    | refine Done.mk ⟨rfl, rfl⟩
    | refine Done.mk ⟨congrArg gb ?_, rfl⟩
    | refine Done.mk ⟨?_, rfl⟩
    | refine Done.mk ⟨?_, ?_⟩)

def pl_T7_3 : Nat → Option (List Nat × List Nat) := (fun k => bif Nat.beq k 4 then some ([1000004, 0, 1, 5], []) else none)
set_option maxRecDepth 100000 in
set_option maxHeartbeats 1000000 in
theorem sameFnd_self (a : List Fnd) (ha : (a.length : Int) ≤ 1000000000) : ICalls Try.prog 17 [.list 3 (fnds a) none, .list 3 (fnds a) none] [] (Done (gb true) []) := by
  refine ICalls.of_body Try.func17 rfl Try.call17 rfl (Nat.le_of_ble_eq_true rfl) pl_T7_3 rfl ?_
  repeat' ((conv => whnf); first
    | refine Br.yes rfl ?_
    | refine Br.no rfl ?_
    | refine Need.mk (EqRun.flat (by kernel_rfl) rfl) ?_
    | (refine ILoop.ov 1000004 (fun (i : Nat) => [(5, gi i)]) (fun (i : Nat) => []) (fun (i : Nat) => i ≤ a.length) (fun (i : Nat) => a.length - i) (0) (by exact rfl) ?_; (conv => whnf); refine Start.mk rfl ?_ ?_; (try dsimp only); rotate_left; rintro i hi)
    | (refine Again.mk ⟨(i + 1), rfl, ?_, ?_⟩ <;> try dsimp only)
    | refine Br.yes (beq_self_eq_true _) ?_
    | refine Br.not ?_
    | refine Br.yes (decide_eq_true (by assumption)) ?_
    | refine Br.no (decide_eq_false (by assumption)) ?_
    | refine Br.yes (beq_iff_eq.2 (by assumption)) ?_
    | refine Br.no (beq_eq_false_iff_ne.2 (by assumption)) ?_
    | refine Br.yes (bne_iff_ne.2 (by assumption)) ?_
    | (refine Br.dec (fun h => ?_) (fun h => ?_) <;> try dsimp only at h)
    | (refine Br.beqI (fun h => ?_) (fun h => ?_) <;> try dsimp only at h)
    | (refine Br.bneI (fun h => ?_) (fun h => ?_) <;> try dsimp only at h)
    | refine Br.mk (fun h => ?_) (fun h => ?_)
    | refine Need.mk (app_need (by first | (simp only [List.length_append, List.length_map, List.length_nil, List.length_cons, List.nil_append, Nat.zero_add, Nat.add_zero]; done) | (simp only [List.length_append, List.length_map, List.length_nil, List.length_cons, List.nil_append, Nat.zero_add, Nat.add_zero]; omega) | omega) (Nat.le_of_ble_eq_true rfl) (by first | (simp only [List.length_append, List.length_map, List.length_nil, List.length_cons, List.nil_append, Nat.zero_add, Nat.add_zero]; done) | (simp only [List.length_append, List.length_map, List.length_nil, List.length_cons, List.nil_append, Nat.zero_add, Nat.add_zero]; omega) | omega)) ?_
    | refine Need.mk (app_need0 (Nat.le_of_ble_eq_true rfl) (by first | (simp only [List.length_append, List.length_map, List.length_nil, List.length_cons, List.nil_append, Nat.zero_add, Nat.add_zero]; done) | (simp only [List.length_append, List.length_map, List.length_nil, List.length_cons, List.nil_append, Nat.zero_add, Nat.add_zero]; omega) | omega)) ?_
    | refine Need.mk (app_needM rfl (Nat.le_of_ble_eq_true rfl) (by first | (simp only [List.length_append, List.length_map, List.length_nil, List.length_cons, List.nil_append, Nat.zero_add, Nat.add_zero]; done) | (simp only [List.length_append, List.length_map, List.length_nil, List.length_cons, List.nil_append, Nat.zero_add, Nat.add_zero]; omega) | omega)) ?_
    | refine Need.mk (zeros_need (by omega) (Nat.le_of_ble_eq_true rfl) (by omega)) ?_
    | refine Need.mk (by first | kernel_rfl | exact ⟨of_decide_eq_true rfl, of_decide_eq_true rfl⟩ | omega) ?_
    | refine Len.mk ⟨_, by simp only [List.length_cons, List.length_nil, Nat.reduceAdd, Int.cast_ofNat_Int]; rfl, ?_⟩
    | refine Wr.lit _ (by simp only [Int.reduceAdd, Int.reduceSub, Int.reduceMul]; rfl) (by decide) ?_
    | refine Wr.fit (by omega) ?_
    | refine Wr.fit (by dsimp only; omega) ?_
    | refine Elem.mk ⟨_, ⟨of_decide_eq_true rfl, rfl⟩, ?_⟩
    | refine Len.map ?_
    | refine Len.dropM ?_
    | refine Elem.dropM ?_
    | refine Len.takeM ?_
    | refine Elem.takeM ?_
    | refine Elem.mapK (by assumption) ?_
    | refine Elem.mapI (by omega) (by assumption) ?_
    | refine Elem.mapN (by omega) (fun x hx => ?_)
    | refine Elem.map (by omega) (by omega) (fun x hx => ?_)
    | refine Done.mk ⟨rfl, rfl⟩
    | refine Done.mk ⟨congrArg gb ?_, rfl⟩
    | refine Done.mk ⟨?_, rfl⟩
    | refine Done.mk ⟨?_, ?_⟩)
  all_goals first
    | omega
    | rfl
    | (simp at *; done)

end Go.Hl
