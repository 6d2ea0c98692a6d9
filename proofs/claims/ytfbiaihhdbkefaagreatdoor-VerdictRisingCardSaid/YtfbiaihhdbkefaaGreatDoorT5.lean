/- Contracts of functions, bundle T5; proved for whatever the arguments' types allow, as each theorem says. -/
import Derived.Test.YtfbiaihhdbkefaaGreatDoorT1

/- Chapter 20: visits; what follows.  -/
set_option linter.unusedVariables false
set_option linter.unusedSimpArgs false
namespace Go.Hl
open Go.Gh Go.Proofs

structure Vis where
  Task : Int
  From : Int
  To : Int
  deriving DecidableEq
def Vis.c (v : Vis) : List GV := [gi v.Task, gi v.From, gi v.To]
def Vis.g (v : Vis) : GV := .agg v.c
abbrev viss (l : List Vis) : List GV := l.map Vis.g
/-- The lesser one, as the program tells it. -/
abbrev mnI (a b : Int) : Int := if b < a then b else a
/-- A visitor: what is served, how often that was laid anew, when the service under way began. -/
structure VSt where
  out : List Vis
  v : Nat
  beg : Int
def begV (s : Spot) (a : Int) (x : VSt) : Int := if s.Served = 0 then a else x.beg
def pieceB (l : List Task) (s : Spot) (n : Int) : Bool := decide (¬ s.Served + n < (tAt l s.Task).Serve)
def pieceV (l : List Task) (s : Spot) (a n : Int) (x : VSt) : VSt :=
  if s.Served + n < (tAt l s.Task).Serve then ⟨x.out, x.v, begV s a x⟩
  else if 0 ≤ begV s a x then ⟨x.out ++ [⟨s.Task, begV s a x, a + n⟩], x.v + 1, -1⟩ else ⟨x.out, x.v, -1⟩
def workN (l : List Task) (to : Int) : Nat → Spot → Int → VSt → VSt
  | 0, _, _, x => x
  | k + 1, s, a, x =>
    if a < to ∧ s.Task < l.length then
      (if s.Driven < (tAt l s.Task).Drive then x
       else if 0 < mnI ((tAt l s.Task).Serve - s.Served) (to - a) then
        (if pieceB l s (mnI ((tAt l s.Task).Serve - s.Served) (to - a)) = true then workN l to k ⟨s.Task + 1, 0, 0⟩ (a + mnI ((tAt l s.Task).Serve - s.Served) (to - a)) (pieceV l s a (mnI ((tAt l s.Task).Serve - s.Served) (to - a)) x)
         else pieceV l s a (mnI ((tAt l s.Task).Serve - s.Served) (to - a)) x)
       else workN l to k ⟨s.Task + 1, 0, 0⟩ (a + mnI ((tAt l s.Task).Serve - s.Served) (to - a)) x)
    else x
def workV (l : List Task) (s : Spot) (r : Rec) (x : VSt) : VSt := workN l r.To ((l.length - s.Task).toNat + 1) s r.From x
def visRec (l : List Task) (s : Spot) (r : Rec) (x : VSt) : VSt := if r.Kind = 2 then workV l s r x else x
def visAll (l : List Task) : List Rec → Spot → VSt → VSt
  | [], _, x => x
  | r :: t, s, x => visAll l t (overAll l s r).1 (visRec l s r x)
def visT (l : List Task) (s : Spot) (R : List Rec) : List Vis := if chk20 l s R = 0 then (visAll l R s ⟨[], 0, -1⟩).out else []
end Go.Hl

/- Chapter 20: a record of work, visits; what follows; the chapter's examples.  -/
set_option linter.unusedVariables false
set_option linter.unusedSimpArgs false
namespace Go.Hl
open Go.Gh Go.Proofs

set_option maxRecDepth 100000 in
theorem follows_ok (l : List Task) (s0 : Spot) (R : List Rec) (hl : (R.length : Int) ≤ 1000) : ICalls Tryz.prog 9 [.list 3 (tasks l) none, s0.g, .list 3 (recs R) none] [] (Done (gb (decide (chk20 l s0 R = 0) && decide ((audT l s0 R).2 = []))) []) := by
  have h1 := trailAudit_ok l s0 R hl
  generalize audT l s0 R = q at *
  generalize chk20 l s0 R = e at *
  obtain ⟨q1, q2⟩ := q
  simp only at h1 ⊢
  cases q2 with
  | nil =>
    refine ICalls.of_body Tryz.func9 rfl Tryz.call9 rfl (Nat.le_of_ble_eq_true rfl) (fun _ => none) rfl ?_
    repeat' ((conv => whnf); first
      | refine Br.yes rfl ?_
      | refine Br.no rfl ?_
      | refine Br.yes (beq_self_eq_true _) ?_
      | refine Br.not ?_
      | refine Br.yes (decide_eq_true (by assumption)) ?_
      | refine Br.no (decide_eq_false (by assumption)) ?_
      | refine Br.yes (beq_iff_eq.2 (by assumption)) ?_
      | refine Br.no (beq_eq_false_iff_ne.2 (by assumption)) ?_
      | refine Br.yes (bne_iff_ne.2 (by assumption)) ?_
      | (refine Br.dec (fun h => ?_) (fun h => ?_) <;> try dsimp only at h)
      | (refine Br.beqI (fun h => ?_) (fun h => ?_) <;> try dsimp only at h)
      | (refine Br.bneI (fun h => ?_) (fun h => ?_) <;> try dsimp only at h)
      | refine Br.mk (fun h => ?_) (fun h => ?_)
      | refine Need.mk (by first | kernel_rfl | exact ⟨of_decide_eq_true rfl, of_decide_eq_true rfl⟩ | omega) ?_
      | refine Len.mk ⟨_, by simp only [List.length_cons, List.length_nil, Nat.reduceAdd, Int.cast_ofNat_Int]; rfl, ?_⟩
      | refine Wr.lit _ (by simp only [Int.reduceAdd, Int.reduceSub, Int.reduceMul]; rfl) (by decide) ?_
      | refine Wr.fit (by omega) ?_
      | refine Wr.fit (by dsimp only; omega) ?_
      | refine Elem.mk ⟨_, ⟨of_decide_eq_true rfl, rfl⟩, ?_⟩
      | refine Len.map ?_
      | refine Len.dropM ?_
      | refine Elem.dropM ?_
      | refine Len.takeM ?_
      | refine Elem.takeM ?_
      | refine Elem.mapK (by assumption) ?_
      | refine Elem.mapI (by omega) (by assumption) ?_
      | refine Elem.mapN (by omega) (fun x hx => ?_)
      | refine Elem.map (by omega) (by omega) (fun x hx => ?_)
      | refine (h1).use ⟨rfl, ?_⟩
      | refine CallX.mk ⟨_, _, (h1).x, rfl, ?_⟩
      | refine Done.mk ⟨rfl, rfl⟩
      | refine Done.mk ⟨congrArg gb ?_, rfl⟩
      | refine Done.mk ⟨?_, rfl⟩
      | refine Done.mk ⟨?_, ?_⟩)
    all_goals first | (simp_all; done) | (simp_all; omega)
  | cons f t =>
    refine ICalls.of_body Tryz.func9 rfl Tryz.call9 rfl (Nat.le_of_ble_eq_true rfl) (fun _ => none) rfl ?_
    repeat' ((conv => whnf); first
      | refine Br.yes rfl ?_
      | refine Br.no rfl ?_
      | refine Br.yes (beq_self_eq_true _) ?_
      | refine Br.not ?_
      | refine Br.yes (decide_eq_true (by assumption)) ?_
      | refine Br.no (decide_eq_false (by assumption)) ?_
      | refine Br.yes (beq_iff_eq.2 (by assumption)) ?_
      | refine Br.no (beq_eq_false_iff_ne.2 (by assumption)) ?_
      | refine Br.yes (bne_iff_ne.2 (by assumption)) ?_
      | (refine Br.dec (fun h => ?_) (fun h => ?_) <;> try dsimp only at h)
      | (refine Br.beqI (fun h => ?_) (fun h => ?_) <;> try dsimp only at h)
      | (refine Br.bneI (fun h => ?_) (fun h => ?_) <;> try dsimp only at h)
      | refine Br.mk (fun h => ?_) (fun h => ?_)
      | refine Need.mk (by first | kernel_rfl | exact ⟨of_decide_eq_true rfl, of_decide_eq_true rfl⟩ | omega) ?_
      | refine Len.mk ⟨_, by simp only [List.length_cons, List.length_nil, Nat.reduceAdd, Int.cast_ofNat_Int]; rfl, ?_⟩
      | refine Wr.lit _ (by simp only [Int.reduceAdd, Int.reduceSub, Int.reduceMul]; rfl) (by decide) ?_
      | refine Wr.fit (by omega) ?_
      | refine Wr.fit (by dsimp only; omega) ?_
      | refine Elem.mk ⟨_, ⟨of_decide_eq_true rfl, rfl⟩, ?_⟩
      | refine Len.map ?_
      | refine Len.dropM ?_
      | refine Elem.dropM ?_
      | refine Len.takeM ?_
      | refine Elem.takeM ?_
      | refine Elem.mapK (by assumption) ?_
      | refine Elem.mapI (by omega) (by assumption) ?_
      | refine Elem.mapN (by omega) (fun x hx => ?_)
      | refine Elem.map (by omega) (by omega) (fun x hx => ?_)
      | refine (h1).use ⟨rfl, ?_⟩
      | refine CallX.mk ⟨_, _, (h1).x, rfl, ?_⟩
      | refine Done.mk ⟨rfl, rfl⟩
      | refine Done.mk ⟨congrArg gb ?_, rfl⟩
      | refine Done.mk ⟨?_, rfl⟩
      | refine Done.mk ⟨?_, ?_⟩)
    all_goals first | (simp_all; done) | (simp_all; omega)

end Go.Hl
