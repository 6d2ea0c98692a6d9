/- Contracts of functions, bundle T1; proved for whatever the arguments' types allow, as each theorem says. -/
import Derived.Test.YtfbiaihhdbkefaaGreatDoorPV
import Derived.Test.YtfbiaihhdbkefaaGreatDoorH9
import Derived.Test.YtfbiaihhdbkefaaGreatDoorH8
import Derived.Test.YtfbiaihhdbkefaaGreatDoorF0

/- Chapter 20: what can be audited; a finding noted; light timelines.  -/
set_option linter.unusedVariables false
set_option linter.unusedSimpArgs false
namespace Go.Hl
open Go.Gh Go.Proofs

def chk20 (l : List Task) (s : Spot) (r : List Rec) : Int := if errCheck l s ≠ 0 then errCheck l s else (recsErr 0 none r).2
set_option maxRecDepth 100000 in
theorem trailCheck_ok (l : List Task) (s : Spot) (r : List Rec) (hr : (r.length : Int) ≤ 1000000000) : ICalls Tryz.prog 31 [.list 3 (tasks l) none, s.g, .list 3 (recs r) none] [] (Done (gi (chk20 l s r)) []) := by
  have h1 := tasksCheck_ok l
  have h2 := errRight_ok l s
  have h3 := recCheck_ok r hr
  unfold pairG at h3
  have e : errCheck l s = if tasksErr l ≠ 0 then tasksErr l else if fitsS l s = true then 0 else 1 := rfl
  by_cases ha : tasksErr l = 0
  case neg =>
    rw [show chk20 l s r = tasksErr l by unfold chk20; rw [e, if_pos ha, if_pos ha]]
    generalize tasksErr l = a at *
    refine ICalls.of_body Tryz.func31 rfl Tryz.call31 rfl (Nat.le_of_ble_eq_true rfl) (fun _ => none) rfl ?_
    repeat' ((conv => whnf); first
      | refine Br.yes rfl ?_
      | refine Br.no rfl ?_
      | refine Br.yes (beq_self_eq_true _) ?_
      | refine Br.not ?_
      | refine Br.yes (decide_eq_true (by assumption)) ?_
      | refine Br.no (decide_eq_false (by assumption)) ?_
      | refine Br.yes (beq_iff_eq.2 (by assumption)) ?_
      | refine Br.no (beq_eq_false_iff_ne.2 (by assumption)) ?_
      | refine Br.yes (bne_iff_ne.2 (by assumption)) ?_
      | (refine Br.dec (fun h => ?_) (fun h => ?_) <;> try dsimp only at h)
      | (refine Br.beqI (fun h => ?_) (fun h => ?_) <;> try dsimp only at h)
      | (refine Br.bneI (fun h => ?_) (fun h => ?_) <;> try dsimp only at h)
      | refine Br.mk (fun h => ?_) (fun h => ?_)
      | refine Need.mk (by first | kernel_rfl | exact ⟨of_decide_eq_true rfl, of_decide_eq_true rfl⟩ | omega) ?_
      | refine Len.mk ⟨_, by simp only [List.length_cons, List.length_nil, Nat.reduceAdd, Int.cast_ofNat_Int]; rfl, ?_⟩
      | refine Wr.lit _ (by simp only [Int.reduceAdd, Int.reduceSub, Int.reduceMul]; rfl) (by decide) ?_
      | refine Wr.fit (by omega) ?_
      | refine Wr.fit (by dsimp only; omega) ?_
      | refine Elem.mk ⟨_, ⟨of_decide_eq_true rfl, rfl⟩, ?_⟩
      | refine Len.map ?_
      | refine Len.dropM ?_
      | refine Elem.dropM ?_
      | refine Len.takeM ?_
      | refine Elem.takeM ?_
      | refine Elem.mapK (by assumption) ?_
      | refine Elem.mapI (by omega) (by assumption) ?_
      | refine Elem.mapN (by omega) (fun x hx => ?_)
      | refine Elem.map (by omega) (by omega) (fun x hx => ?_)
      | refine (h1).use ⟨rfl, ?_⟩
      | refine CallX.mk ⟨_, _, (h1).x, rfl, ?_⟩
      | refine Done.mk ⟨rfl, rfl⟩
      | refine Done.mk ⟨congrArg gb ?_, rfl⟩
      | refine Done.mk ⟨?_, rfl⟩
      | refine Done.mk ⟨?_, ?_⟩)
    all_goals first | omega | rfl
  case pos =>
    cases hb : fitsS l s with
    | false =>
      have e2 : errCheck l s = 1 := by rw [e, if_neg (fun h => h ha), hb]; rfl
      rw [show chk20 l s r = 1 by unfold chk20; rw [e2]; rfl]
      rw [e2] at h2
      rw [ha] at h1
      refine ICalls.of_body Tryz.func31 rfl Tryz.call31 rfl (Nat.le_of_ble_eq_true rfl) (fun _ => none) rfl ?_
      repeat' ((conv => whnf); first
        | refine Br.yes rfl ?_
        | refine Br.no rfl ?_
        | refine Br.yes (beq_self_eq_true _) ?_
        | refine Br.not ?_
        | refine Br.yes (decide_eq_true (by assumption)) ?_
        | refine Br.no (decide_eq_false (by assumption)) ?_
        | refine Br.yes (beq_iff_eq.2 (by assumption)) ?_
        | refine Br.no (beq_eq_false_iff_ne.2 (by assumption)) ?_
        | refine Br.yes (bne_iff_ne.2 (by assumption)) ?_
        | (refine Br.dec (fun h => ?_) (fun h => ?_) <;> try dsimp only at h)
        | (refine Br.beqI (fun h => ?_) (fun h => ?_) <;> try dsimp only at h)
        | (refine Br.bneI (fun h => ?_) (fun h => ?_) <;> try dsimp only at h)
        | refine Br.mk (fun h => ?_) (fun h => ?_)
        | refine Need.mk (by first | kernel_rfl | exact ⟨of_decide_eq_true rfl, of_decide_eq_true rfl⟩ | omega) ?_
        | refine Len.mk ⟨_, by simp only [List.length_cons, List.length_nil, Nat.reduceAdd, Int.cast_ofNat_Int]; rfl, ?_⟩
        | refine Wr.lit _ (by simp only [Int.reduceAdd, Int.reduceSub, Int.reduceMul]; rfl) (by decide) ?_
        | refine Wr.fit (by omega) ?_
        | refine Wr.fit (by dsimp only; omega) ?_
        | refine Elem.mk ⟨_, ⟨of_decide_eq_true rfl, rfl⟩, ?_⟩
        | refine Len.map ?_
        | refine Len.dropM ?_
        | refine Elem.dropM ?_
        | refine Len.takeM ?_
        | refine Elem.takeM ?_
        | refine Elem.mapK (by assumption) ?_
        | refine Elem.mapI (by omega) (by assumption) ?_
        | refine Elem.mapN (by omega) (fun x hx => ?_)
        | refine Elem.map (by omega) (by omega) (fun x hx => ?_)
        | refine (h1).use ⟨rfl, ?_⟩
        | refine (h2).use ⟨rfl, ?_⟩
        | refine CallX.mk ⟨_, _, (h1).x, rfl, ?_⟩
        | refine CallX.mk ⟨_, _, (h2).x, rfl, ?_⟩
        | refine Done.mk ⟨rfl, rfl⟩
        | refine Done.mk ⟨congrArg gb ?_, rfl⟩
        | refine Done.mk ⟨?_, rfl⟩
        | refine Done.mk ⟨?_, ?_⟩)
      all_goals first | omega | rfl
    | true =>
      have e2 : errCheck l s = 0 := by rw [e, if_neg (fun h => h ha), hb]; rfl
      rw [show chk20 l s r = (recsErr 0 none r).2 by unfold chk20; rw [e2]; rfl]
      rw [e2] at h2
      rw [ha] at h1
      generalize recsErr 0 none r = w at *
      obtain ⟨w1, w2⟩ := w
      refine ICalls.of_body Tryz.func31 rfl Tryz.call31 rfl (Nat.le_of_ble_eq_true rfl) (fun _ => none) rfl ?_
      repeat' ((conv => whnf); first
        | refine Br.yes rfl ?_
        | refine Br.no rfl ?_
        | refine Br.yes (beq_self_eq_true _) ?_
        | refine Br.not ?_
        | refine Br.yes (decide_eq_true (by assumption)) ?_
        | refine Br.no (decide_eq_false (by assumption)) ?_
        | refine Br.yes (beq_iff_eq.2 (by assumption)) ?_
        | refine Br.no (beq_eq_false_iff_ne.2 (by assumption)) ?_
        | refine Br.yes (bne_iff_ne.2 (by assumption)) ?_
        | (refine Br.dec (fun h => ?_) (fun h => ?_) <;> try dsimp only at h)
        | (refine Br.beqI (fun h => ?_) (fun h => ?_) <;> try dsimp only at h)
        | (refine Br.bneI (fun h => ?_) (fun h => ?_) <;> try dsimp only at h)
        | refine Br.mk (fun h => ?_) (fun h => ?_)
        | refine Need.mk (by first | kernel_rfl | exact ⟨of_decide_eq_true rfl, of_decide_eq_true rfl⟩ | omega) ?_
        | refine Len.mk ⟨_, by simp only [List.length_cons, List.length_nil, Nat.reduceAdd, Int.cast_ofNat_Int]; rfl, ?_⟩
        | refine Wr.lit _ (by simp only [Int.reduceAdd, Int.reduceSub, Int.reduceMul]; rfl) (by decide) ?_
        | refine Wr.fit (by omega) ?_
        | refine Wr.fit (by dsimp only; omega) ?_
        | refine Elem.mk ⟨_, ⟨of_decide_eq_true rfl, rfl⟩, ?_⟩
        | refine Len.map ?_
        | refine Len.dropM ?_
        | refine Elem.dropM ?_
        | refine Len.takeM ?_
        | refine Elem.takeM ?_
        | refine Elem.mapK (by assumption) ?_
        | refine Elem.mapI (by omega) (by assumption) ?_
        | refine Elem.mapN (by omega) (fun x hx => ?_)
        | refine Elem.map (by omega) (by omega) (fun x hx => ?_)
        | refine (h1).use ⟨rfl, ?_⟩
        | refine (h2).use ⟨rfl, ?_⟩
        | refine (h3).use ⟨rfl, ?_⟩
        | refine CallX.mk ⟨_, _, (h1).x, rfl, ?_⟩
        | refine CallX.mk ⟨_, _, (h2).x, rfl, ?_⟩
        | refine CallX.mk ⟨_, _, (h3).x, rfl, ?_⟩
        | refine Done.mk ⟨rfl, rfl⟩
        | refine Done.mk ⟨congrArg gb ?_, rfl⟩
        | refine Done.mk ⟨?_, rfl⟩
        | refine Done.mk ⟨?_, ?_⟩)
      all_goals first | omega | rfl
def badR (r : Rec) : Bool := decide (r.From < 0) || (decide (40320 < r.To) || (decide (r.To < 0) || decide (40320 < r.From)))
def lt20 : List Rec → Int → Bool
  | [], n => decide (n ≤ 3000)
  | r :: t, n => if badR r = true then true else lt20 t (n + (r.To - r.From))
def light20 (l : List Task) (r : List Rec) : Bool := lightB l && (decide (r.length ≤ 60) && lt20 r 0)
def tN (c : Nat) (a : Int) (x : NS) : NS := if 0 ≤ a then ⟨nS x.s c, nO x.s c ⟨c, a, a + 1⟩ x.out, nV x.s c x.v⟩ else x
def noteT (x : NS) (k : Nat) : List GB := [.cells [gi x.s], .cells [.ms 3 k x.v x.out.length], .mvec 47 3 (fnds x.out) x.v]
theorem nS16 {s c : Nat} (hs : s < 65536) (hc : c < 16) : nS s c < 65536 := by
  unfold nS
  split
  · exact hs
  · have : 2 ^ c < 2 ^ 16 := Nat.pow_lt_pow_right (by omega) hc
    exact Nat.or_lt_two_pow (n := 16) hs this
theorem tN_s {c : Nat} {a : Int} {x : NS} (hs : x.s < 65536) (hc : c < 16) : (tN c a x).s < 65536 := by
  unfold tN; split
  · exact nS16 hs hc
  · exact hs
theorem tN_len {c : Nat} {a : Int} {x : NS} : (tN c a x).out.length ≤ x.out.length + 1 := by
  unfold tN; split
  · exact nO_len
  · omega
theorem NInv16.tN {x : NS} (h : NInv16 x) (c : Nat) (a : Int) : NInv16 (Go.Hl.tN c a x) := by
  unfold Go.Hl.tN; split
  · exact h.note c _ _
  · exact h

set_option maxRecDepth 100000 in
set_option maxHeartbeats 1000000 in
theorem tnote_ok (c : Nat) (a : Int) (x : NS) (hs : x.s < 65536) (hc : c < 16) (ho : x.out.length ≤ 1000000) (ha : a ≤ 1000000) : ICalls Tryz.prog 32 [gi c, gi a, .ptr 0 0, .ptr 1 0] (noteT x 2) (Done (.tup []) (noteT (tN c a x) 2)) := by
  have hI := clauseIn_ok x.s c (by omega) (by omega)
  have hor := set_orN hs hc
  obtain ⟨s, out, v⟩ := x
  unfold tN noteT
  by_cases h0 : 0 ≤ a
  case neg =>
    rw [if_neg h0]
    refine ICalls.of_body Tryz.func32 rfl Tryz.call32 rfl (Nat.le_of_ble_eq_true rfl) (fun _ => none) rfl ?_
    repeat' ((conv => whnf); first
      | refine Br.yes rfl ?_
      | refine Br.no rfl ?_
      | refine Br.yes (beq_self_eq_true _) ?_
      | refine Br.not ?_
      | refine Br.yes (decide_eq_true (by assumption)) ?_
      | refine Br.no (decide_eq_false (by assumption)) ?_
      | refine Br.yes (beq_iff_eq.2 (by assumption)) ?_
      | refine Br.no (beq_eq_false_iff_ne.2 (by assumption)) ?_
      | refine Br.yes (bne_iff_ne.2 (by assumption)) ?_
      | (refine Br.dec (fun h => ?_) (fun h => ?_) <;> try dsimp only at h)
      | (refine Br.beqI (fun h => ?_) (fun h => ?_) <;> try dsimp only at h)
      | (refine Br.bneI (fun h => ?_) (fun h => ?_) <;> try dsimp only at h)
      | refine Br.mk (fun h => ?_) (fun h => ?_)
      | refine Need.mk (app_need (by first | (simp only [List.length_append, List.length_map, List.length_nil, List.length_cons, List.nil_append, Nat.zero_add, Nat.add_zero]; done) | (simp only [List.length_append, List.length_map, List.length_nil, List.length_cons, List.nil_append, Nat.zero_add, Nat.add_zero]; omega) | omega) (Nat.le_of_ble_eq_true rfl) (by first | (simp only [List.length_append, List.length_map, List.length_nil, List.length_cons, List.nil_append, Nat.zero_add, Nat.add_zero]; done) | (simp only [List.length_append, List.length_map, List.length_nil, List.length_cons, List.nil_append, Nat.zero_add, Nat.add_zero]; omega) | omega)) ?_
      | refine Need.mk (app_need0 (Nat.le_of_ble_eq_true rfl) (by first | (simp only [List.length_append, List.length_map, List.length_nil, List.length_cons, List.nil_append, Nat.zero_add, Nat.add_zero]; done) | (simp only [List.length_append, List.length_map, List.length_nil, List.length_cons, List.nil_append, Nat.zero_add, Nat.add_zero]; omega) | omega)) ?_
      | refine Need.mk (by first | kernel_rfl | exact ⟨of_decide_eq_true rfl, of_decide_eq_true rfl⟩ | omega) ?_
      | refine Len.mk ⟨_, by simp only [List.length_cons, List.length_nil, Nat.reduceAdd, Int.cast_ofNat_Int]; rfl, ?_⟩
      | refine Wr.lit _ (by simp only [Int.reduceAdd, Int.reduceSub, Int.reduceMul]; rfl) (by decide) ?_
      | refine Wr.fit (by omega) ?_
      | refine Wr.fit (by dsimp only; omega) ?_
      | refine Elem.mk ⟨_, ⟨of_decide_eq_true rfl, rfl⟩, ?_⟩
      | refine Len.map ?_
      | refine Len.dropM ?_
      | refine Elem.dropM ?_
      | refine Len.takeM ?_
      | refine Elem.takeM ?_
      | refine Elem.mapK (by assumption) ?_
      | refine Elem.mapI (by omega) (by assumption) ?_
      | refine Elem.mapN (by omega) (fun x hx => ?_)
      | refine Elem.map (by omega) (by omega) (fun x hx => ?_)
      | refine (hI).use ⟨rfl, ?_⟩
      | refine CallX.mk ⟨_, _, (hI).x, rfl, ?_⟩
      | refine Done.mk ⟨rfl, rfl⟩
      | refine Done.mk ⟨congrArg gb ?_, rfl⟩
      | refine Done.mk ⟨?_, rfl⟩
      | refine Done.mk ⟨?_, ?_⟩)
    all_goals first | omega | rfl
  case pos =>
  rw [if_pos h0]
  unfold nS nV nO
  simp only at hI ho hor ⊢
  cases hb : s.testBit c
  {
  rw [hb] at hI
  refine ICalls.of_body Tryz.func32 rfl Tryz.call32 rfl (Nat.le_of_ble_eq_true rfl) (fun _ => none) rfl ?_
  repeat' ((conv => whnf); first
    | refine Br.yes rfl ?_
    | refine Br.no rfl ?_
    | (refine Need.mk (app_needM rfl (Nat.le_of_ble_eq_true rfl) (by rw [fnds_len]; simp only [List.length_cons, List.length_nil]; omega)) ?_)
    | refine Br.yes (beq_self_eq_true _) ?_
    | refine Br.not ?_
    | refine Br.yes (decide_eq_true (by assumption)) ?_
    | refine Br.no (decide_eq_false (by assumption)) ?_
    | refine Br.yes (beq_iff_eq.2 (by assumption)) ?_
    | refine Br.no (beq_eq_false_iff_ne.2 (by assumption)) ?_
    | refine Br.yes (bne_iff_ne.2 (by assumption)) ?_
    | (refine Br.dec (fun h => ?_) (fun h => ?_) <;> try dsimp only at h)
    | (refine Br.beqI (fun h => ?_) (fun h => ?_) <;> try dsimp only at h)
    | (refine Br.bneI (fun h => ?_) (fun h => ?_) <;> try dsimp only at h)
    | refine Br.mk (fun h => ?_) (fun h => ?_)
    | refine Need.mk (app_need (by first | (simp only [List.length_append, List.length_map, List.length_nil, List.length_cons, List.nil_append, Nat.zero_add, Nat.add_zero]; done) | (simp only [List.length_append, List.length_map, List.length_nil, List.length_cons, List.nil_append, Nat.zero_add, Nat.add_zero]; omega) | omega) (Nat.le_of_ble_eq_true rfl) (by first | (simp only [List.length_append, List.length_map, List.length_nil, List.length_cons, List.nil_append, Nat.zero_add, Nat.add_zero]; done) | (simp only [List.length_append, List.length_map, List.length_nil, List.length_cons, List.nil_append, Nat.zero_add, Nat.add_zero]; omega) | omega)) ?_
    | refine Need.mk (app_need0 (Nat.le_of_ble_eq_true rfl) (by first | (simp only [List.length_append, List.length_map, List.length_nil, List.length_cons, List.nil_append, Nat.zero_add, Nat.add_zero]; done) | (simp only [List.length_append, List.length_map, List.length_nil, List.length_cons, List.nil_append, Nat.zero_add, Nat.add_zero]; omega) | omega)) ?_
    | refine Need.mk (by first | kernel_rfl | exact ⟨of_decide_eq_true rfl, of_decide_eq_true rfl⟩ | omega) ?_
    | refine Len.mk ⟨_, by simp only [List.length_cons, List.length_nil, Nat.reduceAdd, Int.cast_ofNat_Int]; rfl, ?_⟩
    | refine Wr.lit _ (by simp only [Int.reduceAdd, Int.reduceSub, Int.reduceMul]; rfl) (by decide) ?_
    | refine Wr.fit (by omega) ?_
    | refine Wr.fit (by dsimp only; omega) ?_
    | refine Elem.mk ⟨_, ⟨of_decide_eq_true rfl, rfl⟩, ?_⟩
    | refine Len.map ?_
    | refine Len.dropM ?_
    | refine Elem.dropM ?_
    | refine Len.takeM ?_
    | refine Elem.takeM ?_
    | refine Elem.mapK (by assumption) ?_
    | refine Elem.mapI (by omega) (by assumption) ?_
    | refine Elem.mapN (by omega) (fun x hx => ?_)
    | refine Elem.map (by omega) (by omega) (fun x hx => ?_)
    | refine (hI).use ⟨rfl, ?_⟩
    | refine CallX.mk ⟨_, _, (hI).x, rfl, ?_⟩
    | refine Done.mk ⟨rfl, rfl⟩
    | refine Done.mk ⟨congrArg gb ?_, rfl⟩
    | refine Done.mk ⟨?_, rfl⟩
    | refine Done.mk ⟨?_, ?_⟩)
  all_goals first
    | omega
    | exact note_cells hor out ⟨c, a, a + 1⟩ v
    | rfl
  }
  {
  rw [hb] at hI
  refine ICalls.of_body Tryz.func32 rfl Tryz.call32 rfl (Nat.le_of_ble_eq_true rfl) (fun _ => none) rfl ?_
  repeat' ((conv => whnf); first
    | refine Br.yes rfl ?_
    | refine Br.no rfl ?_
    | refine Br.yes (beq_self_eq_true _) ?_
    | refine Br.not ?_
    | refine Br.yes (decide_eq_true (by assumption)) ?_
    | refine Br.no (decide_eq_false (by assumption)) ?_
    | refine Br.yes (beq_iff_eq.2 (by assumption)) ?_
    | refine Br.no (beq_eq_false_iff_ne.2 (by assumption)) ?_
    | refine Br.yes (bne_iff_ne.2 (by assumption)) ?_
    | (refine Br.dec (fun h => ?_) (fun h => ?_) <;> try dsimp only at h)
    | (refine Br.beqI (fun h => ?_) (fun h => ?_) <;> try dsimp only at h)
    | (refine Br.bneI (fun h => ?_) (fun h => ?_) <;> try dsimp only at h)
    | refine Br.mk (fun h => ?_) (fun h => ?_)
    | refine Need.mk (app_need (by first | (simp only [List.length_append, List.length_map, List.length_nil, List.length_cons, List.nil_append, Nat.zero_add, Nat.add_zero]; done) | (simp only [List.length_append, List.length_map, List.length_nil, List.length_cons, List.nil_append, Nat.zero_add, Nat.add_zero]; omega) | omega) (Nat.le_of_ble_eq_true rfl) (by first | (simp only [List.length_append, List.length_map, List.length_nil, List.length_cons, List.nil_append, Nat.zero_add, Nat.add_zero]; done) | (simp only [List.length_append, List.length_map, List.length_nil, List.length_cons, List.nil_append, Nat.zero_add, Nat.add_zero]; omega) | omega)) ?_
    | refine Need.mk (app_need0 (Nat.le_of_ble_eq_true rfl) (by first | (simp only [List.length_append, List.length_map, List.length_nil, List.length_cons, List.nil_append, Nat.zero_add, Nat.add_zero]; done) | (simp only [List.length_append, List.length_map, List.length_nil, List.length_cons, List.nil_append, Nat.zero_add, Nat.add_zero]; omega) | omega)) ?_
    | refine Need.mk (by first | kernel_rfl | exact ⟨of_decide_eq_true rfl, of_decide_eq_true rfl⟩ | omega) ?_
    | refine Len.mk ⟨_, by simp only [List.length_cons, List.length_nil, Nat.reduceAdd, Int.cast_ofNat_Int]; rfl, ?_⟩
    | refine Wr.lit _ (by simp only [Int.reduceAdd, Int.reduceSub, Int.reduceMul]; rfl) (by decide) ?_
    | refine Wr.fit (by omega) ?_
    | refine Wr.fit (by dsimp only; omega) ?_
    | refine Elem.mk ⟨_, ⟨of_decide_eq_true rfl, rfl⟩, ?_⟩
    | refine Len.map ?_
    | refine Len.dropM ?_
    | refine Elem.dropM ?_
    | refine Len.takeM ?_
    | refine Elem.takeM ?_
    | refine Elem.mapK (by assumption) ?_
    | refine Elem.mapI (by omega) (by assumption) ?_
    | refine Elem.mapN (by omega) (fun x hx => ?_)
    | refine Elem.map (by omega) (by omega) (fun x hx => ?_)
    | refine (hI).use ⟨rfl, ?_⟩
    | refine CallX.mk ⟨_, _, (hI).x, rfl, ?_⟩
    | refine Done.mk ⟨rfl, rfl⟩
    | refine Done.mk ⟨congrArg gb ?_, rfl⟩
    | refine Done.mk ⟨?_, rfl⟩
    | refine Done.mk ⟨?_, ?_⟩)
  all_goals first | omega | rfl
  }

end Go.Hl

/- Chapter 20: a timeline audited against tasks.  -/
set_option linter.unusedVariables false
set_option linter.unusedSimpArgs false
namespace Go.Hl
open Go.Gh Go.Proofs

def four (f : F4) (x : NS) : NS := tN 13 f.d (tN 12 f.c (tN 11 f.b (tN 10 f.a x)))
structure TS where
  s : Spot
  x : NS
  la : Int
def tRec (l : List Task) (r : Rec) (w : TS) : TS := ⟨(overAll l w.s r).1, four (overAll l w.s r).2 w.x, r.To - 1⟩
def tAll (l : List Task) : List Rec → TS → TS
  | [], w => w
  | r :: t, w => tAll l t (tRec l r w)
def tEnd (l : List Task) (w : TS) : NS := if w.s.Task < l.length then tN 14 w.la w.x else w.x
def tStart (s : Spot) : TS := ⟨s, ⟨0, [], 0⟩, 0⟩
def audT (l : List Task) (s : Spot) (r : List Rec) : Spot × List Fnd := if chk20 l s r = 0 then ((tAll l r (tStart s)).s, sortF (tEnd l (tAll l r (tStart s))).out) else (zeroSpot, [])

theorem sel_le {p b : Bool} {f m B : Int} (hf : f ≤ B) (hm : m ≤ B) : sel p b f m ≤ B := by unfold sel; split <;> assumption
structure F4.Le (f : F4) (B : Int) : Prop where
  a : f.a ≤ B
  b : f.b ≤ B
  c : f.c ≤ B
  d : f.d ≤ B
theorem F4.Le.upd {f : F4} {B m : Int} (h : f.Le B) (b : B4) (hm : m ≤ B) : (f.upd b m).Le B := ⟨sel_le h.a hm, sel_le h.b hm, sel_le h.c hm, sel_le h.d hm⟩
theorem overN_ok {l : List Task} {k : Int} (ht : tasksErr l = 0) : ∀ (n : Nat) (s : Spot) (m : Int) (f : F4), fitsS l s = true → f.Le 40320 → m + n ≤ 40320 → fitsS l (overN l k n s m f).1 = true ∧ (overN l k n s m f).2.Le 40320
  | 0, s, m, f, hs, hf, _ => ⟨hs, hf⟩
  | n + 1, s, m, f, hs, hf, hm => by
    rw [overN]
    exact overN_ok ht n _ _ _ (minuteS_left (tasksErr_ok ht).2 hs m k).1 (hf.upd _ (by omega)) (by omega)
theorem check_fits {l : List Task} {s : Spot} (h : errCheck l s = 0) : tasksErr l = 0 ∧ fitsS l s = true := by unfold errCheck at h; grind
theorem overErr_0 {l : List Task} {s : Spot} {r : Rec} (h : errCheck l s = 0) (hr : recErr r = 0) : overErr l s r = 0 := by unfold overErr; rw [if_neg (by omega)]; exact hr
theorem overAll_ok {l : List Task} {s : Spot} {r : Rec} (h : errCheck l s = 0) (hr : recErr r = 0) : errCheck l (overAll l s r).1 = 0 ∧ (overAll l s r).2.Le 40320 := by
  obtain ⟨ht, hs⟩ := check_fits h
  have hi := recErr_inv hr
  unfold overAll
  rw [if_pos (overErr_0 h hr)]
  have := overN_ok (l := l) (k := r.Kind) ht (r.To - r.From).toNat s r.From ⟨-1, -1, -1, -1⟩ hs ⟨by decide, by decide, by decide, by decide⟩ (by omega)
  exact ⟨errCheck_of ht this.1, this.2⟩
theorem errOver0_ok {l : List Task} {s : Spot} {r : Rec} (h : errCheck l s = 0) (hr : recErr r = 0) : ICalls Tryz.prog 34 [.list 3 (tasks l) none, s.g, r.g] [] (Done (.tup [(overAll l s r).1.g, .agg (overAll l s r).2.cs, gi 0]) []) := by
  have := errOver_ok l s r
  rw [overErr_0 h hr] at this
  exact this

structure TOk (l : List Task) (w : TS) (N : Nat) : Prop where
  s : errCheck l w.s = 0
  b : w.x.s < 65536
  len : w.x.out.length ≤ N
  nt : NInv16 w.x
  la : 0 ≤ w.la ∧ w.la ≤ 40320
theorem four_s {f : F4} {x : NS} (h : x.s < 65536) : (four f x).s < 65536 := tN_s (tN_s (tN_s (tN_s h (by omega)) (by omega)) (by omega)) (by omega)
theorem four_len {f : F4} {x : NS} : (four f x).out.length ≤ x.out.length + 4 := by
  have h1 := @tN_len 10 f.a x
  have h2 := @tN_len 11 f.b (tN 10 f.a x)
  have h3 := @tN_len 12 f.c (tN 11 f.b (tN 10 f.a x))
  have h4 := @tN_len 13 f.d (tN 12 f.c (tN 11 f.b (tN 10 f.a x)))
  unfold four; omega
theorem TOk.go {l : List Task} {w : TS} {N : Nat} {r : Rec} (h : TOk l w N) (hr : recErr r = 0) : TOk l (tRec l r w) (N + 4) := by
  have h1 := overAll_ok h.s hr
  have h2 := recErr_inv hr
  refine ⟨h1.1, four_s h.b, ?_, ((((h.nt.tN 10 _).tN 11 _).tN 12 _).tN 13 _), ?_⟩
  · have := @four_len (overAll l w.s r).2 w.x
    have := h.len
    show (four _ _).out.length ≤ _
    omega
  · show 0 ≤ r.To - 1 ∧ r.To - 1 ≤ 40320
    omega
theorem TOk.start {l : List Task} {s : Spot} (h : errCheck l s = 0) : TOk l (tStart s) 0 := ⟨h, by show 0 < 65536; decide, Nat.le_refl _, .start, by show (0 : Int) ≤ 0 ∧ (0 : Int) ≤ 40320; decide⟩
theorem chk_0 {l : List Task} {s : Spot} {r : List Rec} (h : chk20 l s r = 0) : errCheck l s = 0 ∧ (recsErr 0 none r).2 = 0 := by
  unfold chk20 at h
  split at h
  · exact absurd h (by assumption)
  · exact ⟨by omega, h⟩
theorem tr_step {l : List Task} {R : List Rec} {i : Nat} {q : Rec} {w W : TS} (hA : TOk l w (4 * i)) (hx : R[i]? = some q) (hq : recErr q = 0) (hw : tAll l (R.drop i) w = W) (h : (i : Int) < R.length) :
    i + 1 ≤ R.length ∧ TOk l (tRec l q w) (4 * (i + 1)) ∧ tAll l (R.drop (i + 1)) (tRec l q w) = W := by
  refine ⟨by omega, ?_, ?_⟩
  · have := hA.go hq
    rwa [show 4 * (i + 1) = 4 * i + 4 by omega]
  · rw [drop_of_get hx, tAll] at hw; exact hw
theorem tr_end {l : List Task} {R : List Rec} {i : Nat} {w W : TS} (hi : ¬ (i : Int) < R.length) (h : tAll l (R.drop i) w = W) : w = W := by
  rw [List.drop_eq_nil_of_le (by omega), tAll] at h; exact h
theorem tr_yes {l : List Task} {R : List Rec} {i : Nat} {w W : TS} (hi : ¬ (i : Int) < R.length) (h : tAll l (R.drop i) w = W) (ht : w.s.Task < l.length) : GV.tup [w.s.g, .list 3 (fnds (sortF (tN 14 w.la w.x).out)) none, gi 0] = .tup [W.s.g, .list 3 (fnds (sortF (tEnd l W).out)) none, gi 0] := by
  rw [← tr_end hi h, tEnd, if_pos ht]
theorem tr_no {l : List Task} {R : List Rec} {i : Nat} {w W : TS} (hi : ¬ (i : Int) < R.length) (h : tAll l (R.drop i) w = W) (ht : ¬ w.s.Task < l.length) : GV.tup [w.s.g, .list 3 (fnds (sortF w.x.out)) none, gi 0] = .tup [W.s.g, .list 3 (fnds (sortF (tEnd l W).out)) none, gi 0] := by
  rw [← tr_end hi h, tEnd, if_neg ht]

def pl_T2_1 : Nat → Option (List Nat × List Nat) := (fun k => bif Nat.beq k 8 then some ([1000008, 0, 4, 6, 10, 12, 13, 30, 31, 32], [104, 106, 110, 111]) else bif Nat.beq k 14 then some ([1000014, 0, 4, 6, 10, 13, 15, 16, 30, 31, 32, 48, 49], [104, 106, 110, 111, 115, 116]) else none)
def pl_T2_2 : Nat → Option (List Nat × List Nat) := (fun k => bif Nat.beq k 8 then some ([1000008, 0, 4, 6, 10, 12, 13, 30, 31, 32, 5000010], [104, 106, 110, 111, 50110]) else bif Nat.beq k 14 then some ([1000014, 0, 4, 6, 10, 13, 15, 16, 30, 31, 32, 48, 49, 5000010], [104, 106, 110, 111, 115, 116, 50110]) else bif Nat.beq k 5000010 then some ([], []) else bif Nat.beq k 7000022 then some ([110], []) else none)
set_option maxRecDepth 100000 in
set_option maxHeartbeats 2000000 in
theorem trailAudit_ok (l : List Task) (s0 : Spot) (R : List Rec) (hl : (R.length : Int) ≤ 1000) : ICalls Tryz.prog 17 [.list 3 (tasks l) none, s0.g, .list 3 (recs R) none] [] (Done (.tup [(audT l s0 R).1.g, .list 3 (fnds (audT l s0 R).2) none, gi (chk20 l s0 R)]) []) := by
  have h1 := trailCheck_ok l s0 R (by omega)
  unfold audT
  by_cases he : chk20 l s0 R = 0
  case neg =>
    rw [if_neg he]
    generalize chk20 l s0 R = e at *
    refine ICalls.of_body Tryz.func17 rfl Tryz.call17 rfl (Nat.le_of_ble_eq_true rfl) pl_T2_1 rfl ?_
    repeat' ((conv => whnf); first
      | refine Br.yes rfl ?_
      | refine Br.no rfl ?_
      | refine Br.yes (beq_self_eq_true _) ?_
      | refine Br.not ?_
      | refine Br.yes (decide_eq_true (by assumption)) ?_
      | refine Br.no (decide_eq_false (by assumption)) ?_
      | refine Br.yes (beq_iff_eq.2 (by assumption)) ?_
      | refine Br.no (beq_eq_false_iff_ne.2 (by assumption)) ?_
      | refine Br.yes (bne_iff_ne.2 (by assumption)) ?_
      | (refine Br.dec (fun h => ?_) (fun h => ?_) <;> try dsimp only at h)
      | (refine Br.beqI (fun h => ?_) (fun h => ?_) <;> try dsimp only at h)
      | (refine Br.bneI (fun h => ?_) (fun h => ?_) <;> try dsimp only at h)
      | refine Br.mk (fun h => ?_) (fun h => ?_)
      | refine Need.mk (by first | kernel_rfl | exact ⟨of_decide_eq_true rfl, of_decide_eq_true rfl⟩ | omega) ?_
      | refine Len.mk ⟨_, by simp only [List.length_cons, List.length_nil, Nat.reduceAdd, Int.cast_ofNat_Int]; rfl, ?_⟩
      | refine Wr.lit _ (by simp only [Int.reduceAdd, Int.reduceSub, Int.reduceMul]; rfl) (by decide) ?_
      | refine Wr.fit (by omega) ?_
      | refine Wr.fit (by dsimp only; omega) ?_
      | refine Elem.mk ⟨_, ⟨of_decide_eq_true rfl, rfl⟩, ?_⟩
      | refine Len.map ?_
      | refine Len.dropM ?_
      | refine Elem.dropM ?_
      | refine Len.takeM ?_
      | refine Elem.takeM ?_
      | refine Elem.mapK (by assumption) ?_
      | refine Elem.mapI (by omega) (by assumption) ?_
      | refine Elem.mapN (by omega) (fun x hx => ?_)
      | refine Elem.map (by omega) (by omega) (fun x hx => ?_)
      | refine (h1).use ⟨rfl, ?_⟩
      | refine CallX.mk ⟨_, _, (h1).x, rfl, ?_⟩
      | refine Done.mk ⟨rfl, rfl⟩
      | refine Done.mk ⟨congrArg gb ?_, rfl⟩
      | refine Done.mk ⟨?_, rfl⟩
      | refine Done.mk ⟨?_, ?_⟩)
    all_goals first | omega | rfl
  case pos =>
    rw [if_pos he, he]
    rw [he] at h1
    obtain ⟨hs0, hrs⟩ := chk_0 he
    have hc := chain_first hrs
    have hq : ∀ (i : Nat) (q : Rec), R[i]? = some q → recErr q = 0 := fun i q hx => chain_all R _ hc q (List.mem_of_getElem? hx)
    have hst := TOk.start hs0
    clear he hc hrs
    generalize hW : tAll l R (tStart s0) = W
    refine ICalls.of_body Tryz.func17 rfl Tryz.call17 rfl (Nat.le_of_ble_eq_true rfl) pl_T2_2 rfl ?_
    repeat' ((conv => whnf); first
      | refine Br.yes rfl ?_
      | refine Br.no rfl ?_
      | (refine Elem.mapN (by omega) (fun q hx => ?_); have hqi := recErr_inv (hq i q hx))
      | (refine ILoop.ov 1000008 (fun ((i, s, x, la) : Nat × Spot × NS × Int) => [(32, gi i), (12, gi la)]) (fun ((i, s, x, la) : Nat × Spot × NS × Int) => [(104, .cells (s.c)), (111, .cells ([gi x.s])), (110, .cells [.ms 3 50110 x.v x.out.length]), (50110, .mvec 47 3 (fnds x.out) x.v)]) (fun ((i, s, x, la) : Nat × Spot × NS × Int) => i ≤ R.length ∧ TOk l ⟨s, x, la⟩ (4 * i) ∧ tAll l (R.drop i) ⟨s, x, la⟩ = W) (fun ((i, s, x, la) : Nat × Spot × NS × Int) => R.length - i) ((0, s0, ⟨0, [], 0⟩, 0)) (by exact rfl) ?_; (conv => whnf); refine Start.mk rfl ?_ ?_; (try dsimp only); rotate_left; rintro ⟨i, s, x, la⟩ ⟨hi, hA, hw⟩)
      | (refine Again.mk ⟨((i + 1, (overAll l s q).1, four (overAll l s q).2 x, q.To - 1)), rfl, ?_, ?_⟩ <;> try dsimp only)
      | refine Br.yes (beq_self_eq_true _) ?_
      | refine Br.not ?_
      | refine Br.yes (decide_eq_true (by assumption)) ?_
      | refine Br.no (decide_eq_false (by assumption)) ?_
      | refine Br.yes (beq_iff_eq.2 (by assumption)) ?_
      | refine Br.no (beq_eq_false_iff_ne.2 (by assumption)) ?_
      | refine Br.yes (bne_iff_ne.2 (by assumption)) ?_
      | (refine Br.dec (fun h => ?_) (fun h => ?_) <;> try dsimp only at h)
      | (refine Br.beqI (fun h => ?_) (fun h => ?_) <;> try dsimp only at h)
      | (refine Br.bneI (fun h => ?_) (fun h => ?_) <;> try dsimp only at h)
      | refine Br.mk (fun h => ?_) (fun h => ?_)
      | refine Need.mk (by first | kernel_rfl | exact ⟨of_decide_eq_true rfl, of_decide_eq_true rfl⟩ | omega) ?_
      | refine Len.mk ⟨_, by simp only [List.length_cons, List.length_nil, Nat.reduceAdd, Int.cast_ofNat_Int]; rfl, ?_⟩
      | refine Wr.lit _ (by simp only [Int.reduceAdd, Int.reduceSub, Int.reduceMul]; rfl) (by decide) ?_
      | refine Wr.fit (by omega) ?_
      | refine Wr.fit (by dsimp only; omega) ?_
      | refine Elem.mk ⟨_, ⟨of_decide_eq_true rfl, rfl⟩, ?_⟩
      | refine Len.map ?_
      | refine Len.dropM ?_
      | refine Elem.dropM ?_
      | refine Len.takeM ?_
      | refine Elem.takeM ?_
      | refine Elem.mapK (by assumption) ?_
      | refine Elem.mapI (by omega) (by assumption) ?_
      | refine Elem.mapN (by omega) (fun x hx => ?_)
      | refine Elem.map (by omega) (by omega) (fun x hx => ?_)
      | refine (h1).use ⟨rfl, ?_⟩
      | refine (errOver0_ok hA.s (hq i q hx)).use ⟨rfl, ?_⟩
      | refine (tnote_ok 10 (overAll l s q).2.a x hA.b (by omega) (by have := hA.len; simp only at this; omega) (by have := (overAll_ok hA.s (hq i q hx)).2.a; simp only at this; omega)).use ⟨rfl, ?_⟩
      | refine (tnote_ok 11 (overAll l s q).2.b (tN 10 (overAll l s q).2.a x) (tN_s hA.b (by omega)) (by omega) (by have := @tN_len 10 (overAll l s q).2.a x; have := hA.len; simp only at this; omega) (by have := (overAll_ok hA.s (hq i q hx)).2.b; simp only at this; omega)).use ⟨rfl, ?_⟩
      | refine (tnote_ok 12 (overAll l s q).2.c (tN 11 (overAll l s q).2.b (tN 10 (overAll l s q).2.a x)) (tN_s (tN_s hA.b (by omega)) (by omega)) (by omega) (by have := @tN_len 10 (overAll l s q).2.a x; have := @tN_len 11 (overAll l s q).2.b (tN 10 (overAll l s q).2.a x); have := hA.len; simp only at this; omega) (by have := (overAll_ok hA.s (hq i q hx)).2.c; simp only at this; omega)).use ⟨rfl, ?_⟩
      | refine (tnote_ok 13 (overAll l s q).2.d (tN 12 (overAll l s q).2.c (tN 11 (overAll l s q).2.b (tN 10 (overAll l s q).2.a x))) (tN_s (tN_s (tN_s hA.b (by omega)) (by omega)) (by omega)) (by omega) (by have := @tN_len 10 (overAll l s q).2.a x; have := @tN_len 11 (overAll l s q).2.b (tN 10 (overAll l s q).2.a x); have := @tN_len 12 (overAll l s q).2.c (tN 11 (overAll l s q).2.b (tN 10 (overAll l s q).2.a x)); have := hA.len; simp only at this; omega) (by have := (overAll_ok hA.s (hq i q hx)).2.d; simp only at this; omega)).use ⟨rfl, ?_⟩
      | refine (tnote_ok 14 la x hA.b (by omega) (by have := hA.len; simp only at this; omega) (by have := hA.la; simp only at this; omega)).use ⟨rfl, ?_⟩
      | refine (clauseSort_ok x.out (by have := hA.len; simp only at this; omega) hA.nt.nodup).use ⟨rfl, ?_⟩
      | refine (clauseSort_ok (tN 14 la x).out (by have := @tN_len 14 la x; have := hA.len; simp only at this; omega) (hA.nt.tN 14 la).nodup).use ⟨rfl, ?_⟩
      | refine CallX.mk ⟨_, _, (h1).x, rfl, ?_⟩
      | refine CallX.mk ⟨_, _, (errOver0_ok hA.s (hq i q hx)).x, rfl, ?_⟩
      | refine CallX.mk ⟨_, _, (tnote_ok 10 (overAll l s q).2.a x hA.b (by omega) (by have := hA.len; simp only at this; omega) (by have := (overAll_ok hA.s (hq i q hx)).2.a; simp only at this; omega)).x, rfl, ?_⟩
      | refine CallX.mk ⟨_, _, (tnote_ok 11 (overAll l s q).2.b (tN 10 (overAll l s q).2.a x) (tN_s hA.b (by omega)) (by omega) (by have := @tN_len 10 (overAll l s q).2.a x; have := hA.len; simp only at this; omega) (by have := (overAll_ok hA.s (hq i q hx)).2.b; simp only at this; omega)).x, rfl, ?_⟩
      | refine CallX.mk ⟨_, _, (tnote_ok 12 (overAll l s q).2.c (tN 11 (overAll l s q).2.b (tN 10 (overAll l s q).2.a x)) (tN_s (tN_s hA.b (by omega)) (by omega)) (by omega) (by have := @tN_len 10 (overAll l s q).2.a x; have := @tN_len 11 (overAll l s q).2.b (tN 10 (overAll l s q).2.a x); have := hA.len; simp only at this; omega) (by have := (overAll_ok hA.s (hq i q hx)).2.c; simp only at this; omega)).x, rfl, ?_⟩
      | refine CallX.mk ⟨_, _, (tnote_ok 13 (overAll l s q).2.d (tN 12 (overAll l s q).2.c (tN 11 (overAll l s q).2.b (tN 10 (overAll l s q).2.a x))) (tN_s (tN_s (tN_s hA.b (by omega)) (by omega)) (by omega)) (by omega) (by have := @tN_len 10 (overAll l s q).2.a x; have := @tN_len 11 (overAll l s q).2.b (tN 10 (overAll l s q).2.a x); have := @tN_len 12 (overAll l s q).2.c (tN 11 (overAll l s q).2.b (tN 10 (overAll l s q).2.a x)); have := hA.len; simp only at this; omega) (by have := (overAll_ok hA.s (hq i q hx)).2.d; simp only at this; omega)).x, rfl, ?_⟩
      | refine CallX.mk ⟨_, _, (tnote_ok 14 la x hA.b (by omega) (by have := hA.len; simp only at this; omega) (by have := hA.la; simp only at this; omega)).x, rfl, ?_⟩
      | refine CallX.mk ⟨_, _, (clauseSort_ok x.out (by have := hA.len; simp only at this; omega) hA.nt.nodup).x, rfl, ?_⟩
      | refine CallX.mk ⟨_, _, (clauseSort_ok (tN 14 la x).out (by have := @tN_len 14 la x; have := hA.len; simp only at this; omega) (hA.nt.tN 14 la).nodup).x, rfl, ?_⟩
      | refine ILoop.unroll 5 ?_
      | refine Done.mk ⟨rfl, rfl⟩
      | refine Done.mk ⟨congrArg gb ?_, rfl⟩
      | refine Done.mk ⟨?_, rfl⟩
      | refine Done.mk ⟨?_, ?_⟩)
    all_goals first
      | omega
      | exact tr_step hA hx (hq i q hx) hw (by assumption)
      | exact tr_yes (by assumption) hw (by assumption)
      | exact tr_no (by assumption) hw (by assumption)
      | exact ⟨by omega, hst, hW⟩

end Go.Hl

/- Chapter 20: a timeline audited minute by minute.  -/
set_option linter.unusedVariables false
set_option linter.unusedSimpArgs false
namespace Go.Hl
open Go.Gh Go.Proofs

/-- Minutes of any kinds, one by one: the spot behind them, and which of them breaks each clause first. -/
def ov20 (l : List Task) : List Int → Spot → Int → F4 → Spot × F4
  | [], s, _, f => (s, f)
  | k :: t, s, m, f => ov20 l t (minuteS l s m k).1 (m + 1) (f.upd (minuteS l s m k).2 m)
def fl1 (c a : Int) : List Fnd := if 0 ≤ a then [⟨c, a, a + 1⟩] else []
/-- The findings from a clause on. -/
def flN (f : F4) : Nat → List Fnd
  | 0 => fl1 10 f.a ++ (fl1 11 f.b ++ (fl1 12 f.c ++ fl1 13 f.d))
  | 1 => fl1 11 f.b ++ (fl1 12 f.c ++ fl1 13 f.d)
  | 2 => fl1 12 f.c ++ fl1 13 f.d
  | 3 => fl1 13 f.d
  | _ => []
def lastM (r : List Rec) : Int := if r = [] then 0 else endOf r - 1
def refT (l : List Task) (s : Spot) (r : List Rec) : Spot × List Fnd :=
  if chk20 l s r = 0 then
    ((ov20 l (kindsOf r) s (beginOf r) ⟨-1, -1, -1, -1⟩).1,
      flN (ov20 l (kindsOf r) s (beginOf r) ⟨-1, -1, -1, -1⟩).2 0 ++ (if (ov20 l (kindsOf r) s (beginOf r) ⟨-1, -1, -1, -1⟩).1.Task < l.length then [⟨14, lastM r, lastM r + 1⟩] else []))
  else (zeroSpot, [])

structure F4.In (f : F4) (B : Int) : Prop where
  a : -1 ≤ f.a ∧ f.a ≤ B
  b : -1 ≤ f.b ∧ f.b ≤ B
  c : -1 ≤ f.c ∧ f.c ≤ B
  d : -1 ≤ f.d ∧ f.d ≤ B
theorem sel_in {p b : Bool} {f m B : Int} (hf : -1 ≤ f ∧ f ≤ B) (hm : 0 ≤ m ∧ m ≤ B) : -1 ≤ sel p b f m ∧ sel p b f m ≤ B := by unfold sel; split <;> omega
theorem F4.In.upd {f : F4} {B m : Int} (h : f.In B) (b : B4) (hm : 0 ≤ m ∧ m ≤ B) : (f.upd b m).In B := ⟨sel_in h.a hm, sel_in h.b hm, sel_in h.c hm, sel_in h.d hm⟩
structure RT (l : List Task) (at0 : Int) (i : Nat) (s : Spot) (f : F4) : Prop where
  s : fitsS l s = true
  f : f.In 40320

theorem fnds_snoc (out : List Fnd) (f : Fnd) : fnds out ++ [.agg [gi f.Clause, gi f.From, gi f.To]] = fnds (out ++ [f]) ∧ (fnds out).length + [GV.agg [gi f.Clause, gi f.From, gi f.To]].length = (out ++ [f]).length :=
  ⟨by simp [Fnd.g, Fnd.c], by simp⟩
theorem fl_yes {c a : Int} (h : 0 ≤ a) (r : List Fnd) (out R : List Fnd) (hr : out ++ (fl1 c a ++ r) = R) : (out ++ [⟨c, a, a + 1⟩]) ++ r = R := by
  rw [← hr, fl1, if_pos h]; simp
theorem fl_no {c a : Int} (h : ¬ 0 ≤ a) (r : List Fnd) (out R : List Fnd) (hr : out ++ (fl1 c a ++ r) = R) : out ++ r = R := by
  rw [← hr, fl1, if_neg h]; simp

/-- What is noted so far. -/
def FL (F : F4) (W : Spot × F4) (j : Nat) (g : List GV) : Prop := ∃ out, g = fnds out ∧ out.length ≤ j ∧ out ++ flN F j = flN W.2 0
theorem FL.len {F : F4} {W : Spot × F4} {j : Nat} {g : List GV} (h : FL F W j g) : g.length ≤ j := by
  obtain ⟨out, rfl, h1, _⟩ := h; simpa using h1
theorem FL.yes {F : F4} {W : Spot × F4} {j : Nat} {c a : Int} {g : List GV} (h : FL F W j g) (ha : 0 ≤ a) (hF : flN F j = fl1 c a ++ flN F (j + 1)) : FL F W (j + 1) (g ++ [.agg [gi c, gi a, gi (a + 1)]]) := by
  obtain ⟨out, rfl, h1, h2⟩ := h
  rw [hF] at h2
  exact ⟨out ++ [⟨c, a, a + 1⟩], (fnds_snoc out ⟨c, a, a + 1⟩).1, by simp; omega, fl_yes ha _ _ _ h2⟩
theorem FL.no {F : F4} {W : Spot × F4} {j : Nat} {c a : Int} {g : List GV} (h : FL F W j g) (ha : ¬ 0 ≤ a) (hF : flN F j = fl1 c a ++ flN F (j + 1)) : FL F W (j + 1) g := by
  obtain ⟨out, rfl, h1, h2⟩ := h
  rw [hF] at h2
  exact ⟨out, rfl, by omega, fl_no ha _ _ _ h2⟩
end Go.Hl

/- Chapter 20: minute by minute or record by record, the same is found: plain Lean.  -/
set_option linter.unusedVariables false
set_option linter.unusedSimpArgs false
namespace Go.Hl
open Go.Gh Go.Proofs

/-! ### Findings that rise by clause -/
theorem sorted_strict {x : NS} (h : NInv16 x) : (sortF x.out).Pairwise fun f g => f.Clause < g.Clause := by
  have hs : (sortF x.out).Pairwise fun f g => f.Clause ≠ g.Clause := (List.mergeSort_perm _ _).pairwise_iff (fun h => Ne.symm h) |>.2 h.pw
  have hle : (sortF x.out).Pairwise fun f g => (!(Go.Proofs.ltOf ordF) g f) = true := by
    apply List.pairwise_mergeSort
    · intro a b c h1 h2
      have := ordF_swo.ntrans c b a
      simp only [Bool.not_eq_true'] at *
      exact this h2 h1
    · intro a b
      simp only [Bool.or_eq_true, Bool.not_eq_true']
      cases h1 : Go.Proofs.ltOf ordF b a with
      | false => exact .inl rfl
      | true =>
        right
        cases h2 : Go.Proofs.ltOf ordF a b with
        | false => rfl
        | true =>
          have := ordF_swo.trans a b a h2 h1
          rw [ordF_swo.irrefl] at this; cases this
  refine (hs.and hle).imp ?_
  rintro a b ⟨h1, h2⟩
  simp only [Bool.not_eq_true'] at h2
  rw [ordF_lt] at h2
  simp only [decide_eq_false_iff_not] at h2
  omega
theorem strict_ext : ∀ (l k : List Fnd), l.Pairwise (fun f g => f.Clause < g.Clause) → k.Pairwise (fun f g => f.Clause < g.Clause) → (∀ g, g ∈ l ↔ g ∈ k) → l = k
  | [], [], _, _, _ => rfl
  | [], y :: k, _, _, h => by cases (h y).2 (List.mem_cons_self ..)
  | x :: l, [], _, _, h => by cases (h x).1 (List.mem_cons_self ..)
  | x :: l, y :: k, hl, hk, h => by
    obtain ⟨l1, l2⟩ := List.pairwise_cons.1 hl
    obtain ⟨k1, k2⟩ := List.pairwise_cons.1 hk
    have hxy : x = y := by
      rcases List.mem_cons.1 ((h x).1 (List.mem_cons_self ..)) with e | e
      · exact e
      · rcases List.mem_cons.1 ((h y).2 (List.mem_cons_self ..)) with e2 | e2
        · exact e2.symm
        · have := k1 _ e; have := l1 _ e2; omega
    subst hxy
    congr 1
    refine strict_ext l k l2 k2 fun g => ⟨fun hg => ?_, fun hg => ?_⟩
    · rcases List.mem_cons.1 ((h g).1 (List.mem_cons_of_mem _ hg)) with e | e
      · subst e; have := l1 _ hg; omega
      · exact e
    · rcases List.mem_cons.1 ((h g).2 (List.mem_cons_of_mem _ hg)) with e | e
      · subst e; have := k1 _ hg; omega
      · exact e

/-! ### What is noted, by clause -/
def MemG (x : NS) (G : Nat → Int) : Prop := ∀ g, g ∈ x.out ↔ ∃ c : Nat, 0 ≤ G c ∧ g = ⟨c, G c, G c + 1⟩
def setG (G : Nat → Int) (c : Nat) (a : Int) : Nat → Int := fun d => if d = c ∧ G c < 0 then a else G d
theorem memG_bit {x : NS} {G : Nat → Int} (h : NInv16 x) (hm : MemG x G) (c : Nat) : x.s.testBit c = true ↔ 0 ≤ G c := by
  rw [h.bits c]
  constructor
  · rintro ⟨f, h1, h2⟩
    obtain ⟨d, h3, rfl⟩ := (hm f).1 h1
    simp only at h2
    have : d = c := by omega
    subst this; exact h3
  · intro h1
    exact ⟨_, (hm _).2 ⟨c, h1, rfl⟩, rfl⟩
theorem memG_tN {x : NS} {G : Nat → Int} (h : NInv16 x) (hm : MemG x G) (c : Nat) (a : Int) : MemG (tN c a x) (setG G c a) := by
  intro g
  unfold tN setG
  split
  · rename_i ha
    simp only
    unfold nO
    split
    · rename_i hb
      have hG := (memG_bit h hm c).1 hb
      rw [hm g]
      constructor
      · rintro ⟨d, h1, h2⟩; exact ⟨d, by rw [if_neg (by omega)]; exact h1, by rw [if_neg (by omega)]; exact h2⟩
      · rintro ⟨d, h1, h2⟩
        rw [if_neg (by omega)] at h1 h2
        exact ⟨d, h1, h2⟩
    · rename_i hb
      have hG : ¬ 0 ≤ G c := fun e => hb ((memG_bit h hm c).2 e)
      rw [List.mem_append, List.mem_singleton, hm g]
      constructor
      · rintro (⟨d, h1, h2⟩ | h2)
        · have : d ≠ c := fun e => hG (by rw [← e]; exact h1)
          exact ⟨d, by rw [if_neg (by omega)]; exact h1, by rw [if_neg (by omega)]; exact h2⟩
        · exact ⟨c, by rw [if_pos ⟨rfl, by omega⟩]; exact ha, by rw [if_pos ⟨rfl, by omega⟩]; exact h2⟩
      · rintro ⟨d, h1, h2⟩
        by_cases hd : d = c
        · subst hd
          rw [if_pos ⟨rfl, by omega⟩] at h2
          exact .inr h2
        · rw [if_neg (by omega)] at h1 h2
          exact .inl ⟨d, h1, h2⟩
  · rename_i ha
    rw [hm g]
    constructor
    · rintro ⟨d, h1, h2⟩
      by_cases hd : d = c ∧ G c < 0
      · obtain ⟨rfl, h3⟩ := hd; omega
      · exact ⟨d, by rw [if_neg hd]; exact h1, by rw [if_neg hd]; exact h2⟩
    · rintro ⟨d, h1, h2⟩
      by_cases hd : d = c ∧ G c < 0
      · rw [if_pos hd] at h1; omega
      · rw [if_neg hd] at h1 h2
        exact ⟨d, h1, h2⟩

def GF (f : F4) (d : Nat) : Int := if d = 10 then f.a else if d = 11 then f.b else if d = 12 then f.c else if d = 13 then f.d else -1
def cmb (F f : Int) : Int := if F < 0 then f else F
def F4.cmb (F f : F4) : F4 := ⟨Hl.cmb F.a f.a, Hl.cmb F.b f.b, Hl.cmb F.c f.c, Hl.cmb F.d f.d⟩
theorem memG_four {x : NS} {F f : F4} (h : NInv16 x) (hm : MemG x (GF F)) : MemG (four f x) (GF (F.cmb f)) := by
  have h1 := memG_tN h hm 10 f.a
  have i1 := h.tN 10 f.a
  have h2 := memG_tN i1 h1 11 f.b
  have i2 := i1.tN 11 f.b
  have h3 := memG_tN i2 h2 12 f.c
  have i3 := i2.tN 12 f.c
  have h4 := memG_tN i3 h3 13 f.d
  have e : setG (setG (setG (setG (GF F) 10 f.a) 11 f.b) 12 f.c) 13 f.d = GF (F.cmb f) := by
    funext d
    unfold setG GF F4.cmb Hl.cmb
    by_cases e0 : d = 10
    · subst e0; simp
    · by_cases e1 : d = 11
      · subst e1; simp
      · by_cases e2 : d = 12
        · subst e2; simp
        · by_cases e3 : d = 13
          · subst e3; simp
          · simp [e0, e1, e2, e3]
  rw [e] at h4
  exact h4

theorem upd_cmb {b : Bool} {F g m : Int} (hm : 0 ≤ m) : cmb (sel true b F m) g = cmb F (cmb (sel true b (-1) m) g) := by
  unfold cmb sel
  cases b
  · simp
  · by_cases h : F < 0
    · simp [h]
      try omega
    · simp [h]
def F4.Lo (f : F4) : Prop := -1 ≤ f.a ∧ -1 ≤ f.b ∧ -1 ≤ f.c ∧ -1 ≤ f.d
theorem sel_lo {b : Bool} {f m : Int} (hf : -1 ≤ f) (hm : 0 ≤ m) : -1 ≤ sel true b f m := by unfold sel; split <;> omega
theorem F4.Lo.upd {f : F4} (h : f.Lo) (b : B4) {m : Int} (hm : 0 ≤ m) : (f.upd b m).Lo := ⟨sel_lo h.1 hm, sel_lo h.2.1 hm, sel_lo h.2.2.1 hm, sel_lo h.2.2.2 hm⟩
theorem cmb_none {F : Int} (h : -1 ≤ F) : cmb F (-1) = F := by unfold cmb; split <;> omega
theorem lo_none : F4.Lo ⟨-1, -1, -1, -1⟩ := ⟨by decide, by decide, by decide, by decide⟩
theorem overN_lo {l : List Task} {k : Int} : ∀ (n : Nat) (s : Spot) (m : Int) (F : F4), 0 ≤ m → F.Lo → (overN l k n s m F).2.Lo
  | 0, s, m, F, _, h => h
  | n + 1, s, m, F, hm, h => by rw [overN]; exact overN_lo n _ _ _ (by omega) (h.upd _ hm)
theorem overN_cmb {l : List Task} {k : Int} : ∀ (n : Nat) (s : Spot) (m : Int) (F : F4), 0 ≤ m → F.Lo → overN l k n s m F = ((overN l k n s m ⟨-1, -1, -1, -1⟩).1, F.cmb (overN l k n s m ⟨-1, -1, -1, -1⟩).2)
  | 0, s, m, F, _, h => by
    obtain ⟨a, b, c, d⟩ := F
    obtain ⟨h1, h2, h3, h4⟩ := h
    rw [overN, overN]
    unfold F4.cmb
    simp only at *
    rw [cmb_none h1, cmb_none h2, cmb_none h3, cmb_none h4]
  | n + 1, s, m, F, hm, h => by
    rw [overN, overN]
    rw [overN_cmb n _ (m + 1) (F.upd _ m) (by omega) (h.upd _ hm), overN_cmb n _ (m + 1) (F4.upd ⟨-1, -1, -1, -1⟩ _ m) (by omega) (lo_none.upd _ hm)]
    simp only
    congr 1
    unfold F4.cmb F4.upd
    simp only [F4.mk.injEq]
    exact ⟨upd_cmb hm, upd_cmb hm, upd_cmb hm, upd_cmb hm⟩
theorem ov20_rep {l : List Task} {k : Int} {r : List Int} : ∀ (n : Nat) (s : Spot) (m : Int) (F : F4), ov20 l (List.replicate n k ++ r) s m F = ov20 l r (overN l k n s m F).1 (m + n) (overN l k n s m F).2
  | 0, s, m, F => by simp [overN]
  | n + 1, s, m, F => by
    rw [List.replicate_succ, List.cons_append, ov20, ov20_rep n, overN]
    congr 1
    omega

/-- Record by record. -/
theorem tAll_ov {l : List Task} : ∀ (R : List Rec) (w : TS) (F : F4) (a : Int), Chain a R → errCheck l w.s = 0 → NInv16 w.x → MemG w.x (GF F) → F.Lo →
    (tAll l R w).s = (ov20 l (kindsOf R) w.s a F).1 ∧ NInv16 (tAll l R w).x ∧ MemG (tAll l R w).x (GF (ov20 l (kindsOf R) w.s a F).2) ∧ (ov20 l (kindsOf R) w.s a F).2.Lo
  | [], w, F, a, _, _, hn, hm, hl => ⟨rfl, hn, hm, hl⟩
  | r :: R, w, F, a, ⟨c1, c2, c3⟩, hs, hn, hm, hl => by
    have hi := recErr_inv c2
    have e : kindsOf (r :: R) = List.replicate (r.To - r.From).toNat r.Kind ++ kindsOf R := rfl
    have ho : overAll l w.s r = overN l r.Kind (r.To - r.From).toNat w.s r.From ⟨-1, -1, -1, -1⟩ := if_pos (overErr_0 hs c2)
    have hc := overN_cmb (l := l) (k := r.Kind) (r.To - r.From).toNat w.s r.From F (by omega) hl
    have hlo := overN_lo (l := l) (k := r.Kind) (r.To - r.From).toNat w.s r.From F (by omega) hl
    rw [e, ov20_rep, ← c1, show r.From + (((r.To - r.From).toNat : Nat) : Int) = r.To by omega]
    rw [hc] at hlo ⊢
    rw [← ho] at hlo ⊢
    have hk := overAll_ok hs c2
    exact tAll_ov R (tRec l r w) (F.cmb (overAll l w.s r).2) r.To c3 hk.1 ((((hn.tN 10 _).tN 11 _).tN 12 _).tN 13 _) (memG_four hn hm) hlo
theorem tAll_la {l : List Task} : ∀ (R : List Rec) (w : TS), (tAll l R w).la = if R = [] then w.la else endOf R - 1
  | [], w => rfl
  | [r], w => rfl
  | r :: q :: R, w => by
    show (tAll l (q :: R) (tRec l r w)).la = _
    rw [tAll_la (q :: R), if_neg (by simp), if_neg (by simp)]
    unfold endOf
    rw [List.getLast?_cons_cons]

theorem fl1_mem {c a : Int} {g : Fnd} : g ∈ fl1 c a ↔ 0 ≤ a ∧ g = ⟨c, a, a + 1⟩ := by
  unfold fl1
  split
  · rename_i h; simp [h]
  · rename_i h; simp [h]
theorem flN_mem {f : F4} {g : Fnd} : g ∈ flN f 0 ↔ ∃ c : Nat, 0 ≤ GF f c ∧ g = ⟨c, GF f c, GF f c + 1⟩ := by
  show g ∈ fl1 10 f.a ++ (fl1 11 f.b ++ (fl1 12 f.c ++ fl1 13 f.d)) ↔ _
  rw [List.mem_append, List.mem_append, List.mem_append, fl1_mem, fl1_mem, fl1_mem, fl1_mem]
  constructor
  · rintro (h | h | h | h)
    · exact ⟨10, h.1, h.2⟩
    · exact ⟨11, h.1, h.2⟩
    · exact ⟨12, h.1, h.2⟩
    · exact ⟨13, h.1, h.2⟩
  · rintro ⟨c, h1, h2⟩
    unfold GF at h1 h2
    by_cases e0 : c = 10
    · subst e0; left; exact ⟨h1, h2⟩
    · by_cases e1 : c = 11
      · subst e1; right; left; exact ⟨h1, h2⟩
      · by_cases e2 : c = 12
        · subst e2; right; right; left; exact ⟨h1, h2⟩
        · by_cases e3 : c = 13
          · subst e3; right; right; right; exact ⟨h1, h2⟩
          · simp [e0, e1, e2, e3] at h1
theorem fl1_cl {c a : Int} {g : Fnd} (h : g ∈ fl1 c a) : g.Clause = c := by rw [(fl1_mem.1 h).2]
theorem fl1_pw {c a : Int} : (fl1 c a).Pairwise fun f g => f.Clause < g.Clause := by unfold fl1; split <;> simp
theorem flN_pw (f : F4) (t : List Fnd) (ht : t.Pairwise fun f g => f.Clause < g.Clause) (hc : ∀ g, g ∈ t → 13 < g.Clause) : (flN f 0 ++ t).Pairwise fun f g => f.Clause < g.Clause := by
  show (fl1 10 f.a ++ (fl1 11 f.b ++ (fl1 12 f.c ++ fl1 13 f.d)) ++ t).Pairwise _
  have h3 : (fl1 13 f.d ++ t).Pairwise fun f g => f.Clause < g.Clause := List.pairwise_append.2 ⟨fl1_pw, ht, fun a ha b hb => by rw [fl1_cl ha]; exact hc b hb⟩
  have h2 : (fl1 12 f.c ++ (fl1 13 f.d ++ t)).Pairwise fun f g => f.Clause < g.Clause := List.pairwise_append.2 ⟨fl1_pw, h3, fun a ha b hb => by
    rw [fl1_cl ha]
    rcases List.mem_append.1 hb with hb | hb
    · rw [fl1_cl hb]; decide
    · have := hc b hb; omega⟩
  have h1 : (fl1 11 f.b ++ (fl1 12 f.c ++ (fl1 13 f.d ++ t))).Pairwise fun f g => f.Clause < g.Clause := List.pairwise_append.2 ⟨fl1_pw, h2, fun a ha b hb => by
    rw [fl1_cl ha]
    rcases List.mem_append.1 hb with hb | hb
    · rw [fl1_cl hb]; decide
    rcases List.mem_append.1 hb with hb | hb
    · rw [fl1_cl hb]; decide
    · have := hc b hb; omega⟩
  have h0 : (fl1 10 f.a ++ (fl1 11 f.b ++ (fl1 12 f.c ++ (fl1 13 f.d ++ t)))).Pairwise fun f g => f.Clause < g.Clause := List.pairwise_append.2 ⟨fl1_pw, h1, fun a ha b hb => by
    rw [fl1_cl ha]
    rcases List.mem_append.1 hb with hb | hb
    · rw [fl1_cl hb]; decide
    rcases List.mem_append.1 hb with hb | hb
    · rw [fl1_cl hb]; decide
    rcases List.mem_append.1 hb with hb | hb
    · rw [fl1_cl hb]; decide
    · have := hc b hb; omega⟩
  simpa only [List.append_assoc] using h0

theorem endOf_pos {R : List Rec} {a : Int} (h : Chain a R) (hn : R ≠ []) : 0 ≤ endOf R - 1 := by
  unfold endOf
  cases hg : R.getLast? with
  | none => exact absurd (List.getLast?_eq_none_iff.1 hg) hn
  | some r =>
    have := recErr_inv (chain_all R a h r (List.mem_of_getLast? hg))
    simp only; omega
theorem aud_ref (l : List Task) (s : Spot) (R : List Rec) : audT l s R = refT l s R := by
  unfold audT refT
  by_cases he : chk20 l s R = 0
  case neg => rw [if_neg he, if_neg he]
  case pos =>
    rw [if_pos he, if_pos he]
    obtain ⟨hs, hr⟩ := chk_0 he
    have hc := chain_first hr
    have h0 : MemG (tStart s).x (GF ⟨-1, -1, -1, -1⟩) := by
      intro g
      constructor
      · intro h; cases h
      · rintro ⟨c, h1, _⟩
        exfalso; revert h1
        unfold GF
        repeat' split
        all_goals (intro h1; (try simp only at h1); omega)
    obtain ⟨t1, t2, t3, t4⟩ := tAll_ov (l := l) R (tStart s) ⟨-1, -1, -1, -1⟩ (beginOf R) hc hs .start h0 lo_none
    have hla := tAll_la (l := l) R (tStart s)
    have hls : (tStart s).s = s := rfl
    rw [hls] at t1 t3 t4
    have hla2 : (tAll l R (tStart s)).la = lastM R := hla
    have hpos : 0 ≤ lastM R := by
      unfold lastM
      split
      · omega
      · rename_i hn; exact endOf_pos hc hn
    generalize ov20 l (kindsOf R) s (beginOf R) ⟨-1, -1, -1, -1⟩ = W at *
    generalize tAll l R (tStart s) = w at *
    refine Prod.ext t1 ?_
    show sortF (tEnd l w).out = _
    unfold tEnd
    rw [t1]
    split
    · rename_i hlt
      have i5 := t2.tN 14 w.la
      have m5 := memG_tN t2 t3 14 w.la
      refine strict_ext _ _ (sorted_strict i5) (flN_pw _ _ (List.pairwise_singleton ..) (fun g hg => by cases List.mem_singleton.1 hg; show (13 : Int) < 14; decide)) fun g => ?_
      rw [sortF_mem, m5 g, List.mem_append, flN_mem, List.mem_singleton, hla2]
      unfold setG
      constructor
      · rintro ⟨c, h1, h2⟩
        by_cases hd : c = 14
        · subst hd
          rw [if_pos ⟨rfl, by unfold GF; simp⟩] at h2
          exact .inr h2
        · rw [if_neg (by omega)] at h1 h2
          exact .inl ⟨c, h1, h2⟩
      · rintro (⟨c, h1, h2⟩ | h2)
        · have hd : c ≠ 14 := by rintro rfl; unfold GF at h1; simp at h1
          exact ⟨c, by rw [if_neg (by omega)]; exact h1, by rw [if_neg (by omega)]; exact h2⟩
        · exact ⟨14, by rw [if_pos ⟨rfl, by unfold GF; simp⟩]; exact hpos, by rw [if_pos ⟨rfl, by unfold GF; simp⟩]; exact h2⟩
    · rename_i hlt
      rw [List.append_nil]
      refine strict_ext _ _ (sorted_strict t2) (by have := flN_pw W.2 [] List.Pairwise.nil (fun g hg => by cases hg); rwa [List.append_nil] at this) fun g => ?_
      rw [sortF_mem, t3 g, flN_mem]

end Go.Hl
