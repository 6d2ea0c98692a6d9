/- Contracts of functions, bundle H15; proved for whatever the arguments' types allow, as each theorem says. -/
import Derived.Test.YtoofplbjpkgdgaaH14

/- Contracts: trucks.  -/
set_option linter.unusedVariables false
set_option linter.unusedSimpArgs false
namespace Go.Hl
open Go.Gh Go.Proofs

structure Truck where
  ID : Int
  Home : Int
  Room : Int
  Fixed : Int
  Rate : Int
  Past : List Rec
  deriving DecidableEq
def Truck.c (t : Truck) : List GV := [gi t.ID, gi t.Home, gi t.Room, gi t.Fixed, gi t.Rate, .list 3 (recs t.Past) none]
def Truck.g (t : Truck) : GV := .agg t.c
abbrev trucks (l : List Truck) : List GV := l.map Truck.g
def truckTy : Ty := .agg [.int, .int, .int, .int, .int, .list recTy]
def Truck.Fits (t : Truck) : Prop := (I64 t.ID ∧ I64 t.Home ∧ I64 t.Room ∧ I64 t.Fixed ∧ I64 t.Rate) ∧ ∀ r, r ∈ t.Past → r.Fits
theorem truck_wt (gs : List GV) (h : WTs [.int, .int, .int, .int, .int, .list recTy] gs) : ∃ s : Truck, gs = s.c ∧ s.Fits := by
  obtain ⟨a, r, rfl, ha, h⟩ := WTs.int h
  obtain ⟨b, r, rfl, hb, h⟩ := WTs.int h
  obtain ⟨c, r, rfl, hc, h⟩ := WTs.int h
  obtain ⟨d, r, rfl, hd, h⟩ := WTs.int h
  obtain ⟨e, r, rfl, he, h⟩ := WTs.int h
  obtain ⟨l, r, rfl, hl, h⟩ := WTs.list el_rec h
  cases WTs.nil h
  exact ⟨⟨a, b, c, d, e, l⟩, rfl, ⟨ha, hb, hc, hd, he⟩, hl⟩
theorem el_truck (x : GV) (h : ElOk truckTy x) : ∃ s : Truck, x = s.g ∧ s.Fits := el_agg truck_wt x h
def Truck.zero : Truck := ⟨0, 0, 0, 0, 0, []⟩
/-- The truck that no text names. -/
def zeroT : GV := .agg [gi 0, gi 0, gi 0, gi 0, gi 0, .v (.slice none 0 0)]
theorem zeroT_sub : SubL [gi 0, gi 0, gi 0, gi 0, gi 0, .v (.slice none 0 0)] Truck.zero.c :=
  .cons (.refl _) (.cons (.refl _) (.cons (.refl _) (.cons (.refl _) (.cons (.refl _) (.cons (.nil 3) .nil)))))
theorem zeroT_tup (e : GV) : Sub (.tup [zeroT, e]) (.tup [Truck.zero.g, e]) := .tup (.cons (.agg zeroT_sub) (.cons (.refl _) .nil))

def within (n lo hi : Int) : Bool := decide (lo ≤ n) && decide (n ≤ hi)
set_option maxRecDepth 100000 in
theorem within29_ok (n lo hi : Int) : ICalls Try.prog 125 [gi n, gi lo, gi hi] [] (Done (gb (within n lo hi)) []) := by
  unfold within
  refine ICalls.of_body Try.func125 rfl Try.call125 rfl (Nat.le_of_ble_eq_true rfl) (fun _ => none) rfl ?_
  repeat' ((conv => whnf); first
    | refine Br.yes rfl ?_
    | refine Br.no rfl ?_
    | refine Br.yes (beq_self_eq_true _) ?_
    | refine Br.not ?_
    | refine Br.yes (decide_eq_true (by assumption)) ?_
    | refine Br.no (decide_eq_false (by assumption)) ?_
    | refine Br.yes (beq_iff_eq.2 (by assumption)) ?_
    | refine Br.no (beq_eq_false_iff_ne.2 (by assumption)) ?_
    | refine Br.yes (bne_iff_ne.2 (by assumption)) ?_
    | (refine Br.dec (fun h => ?_) (fun h => ?_) <;> try dsimp only at h)
    | (refine Br.beqI (fun h => ?_) (fun h => ?_) <;> try dsimp only at h)
    | (refine Br.bneI (fun h => ?_) (fun h => ?_) <;> try dsimp only at h)
    | refine Br.mk (fun h => ?_) (fun h => ?_)
    | refine Need.mk (by first | kernel_rfl | exact ⟨of_decide_eq_true rfl, of_decide_eq_true rfl⟩ | omega) ?_
    | refine Len.mk ⟨_, by simp only [List.length_cons, List.length_nil, Nat.reduceAdd, Int.cast_ofNat_Int]; rfl, ?_⟩
    | refine Wr.lit _ (by simp only [Int.reduceAdd, Int.reduceSub, Int.reduceMul]; rfl) (by decide) ?_
    | refine Wr.fit (by omega) ?_
    | refine Wr.fit (by dsimp only; omega) ?_
    | refine Elem.mk ⟨_, ⟨of_decide_eq_true rfl, rfl⟩, ?_⟩
    | refine Len.map ?_
    | refine Len.dropM ?_
    | refine Elem.dropM ?_
    | refine Len.takeM ?_
    | refine Elem.takeM ?_
    | refine Elem.mapK (by assumption) ?_
    | refine Elem.mapI (by omega) (by assumption) ?_
    | refine Elem.mapN (by omega) (fun x hx => ?_)
    | refine Elem.map (by omega) (by omega) (fun x hx => ?_)
    | refine Done.mk ⟨rfl, rfl⟩
    | refine Done.mk ⟨congrArg gb ?_, rfl⟩
    | refine Done.mk ⟨?_, rfl⟩
    | refine Done.mk ⟨?_, ?_⟩)
  all_goals first
    | (simp_all; done)
    | (simp_all; omega)

/-- What is wrong with a truck. -/
def truckErr (t : Truck) (p : Int) : Int :=
  if ¬ (1 ≤ t.ID ∧ t.ID ≤ 999999) then 1 else if ¬ (0 ≤ t.Home ∧ t.Home < p) then 10 else
  if ¬ ((0 ≤ t.Room ∧ t.Room ≤ 1000000000) ∧ (0 ≤ t.Fixed ∧ t.Fixed ≤ 1000000) ∧ 0 ≤ t.Rate ∧ t.Rate ≤ 1000000) then 4 else
  if pastErr t.Past ≠ 0 then pastErr t.Past else if isNormal t.Past then 0 else 18
theorem pastErr_code {l : List Rec} (h : pastErr l = 0) : codeR l = 0 := by
  unfold pastErr at h
  split at h
  · exact h
  · omega

set_option maxRecDepth 100000 in
set_option maxHeartbeats 1000000 in
theorem truckCheck_ok (t : Truck) (p : Int) (hl : (t.Past.length : Int) ≤ 1000000000) : ICalls Try.prog 99 [t.g, gi p] [] (Done (gi (truckErr t p)) []) := by
  have hp := truckPast_ok t.Past hl
  have hn := isNormal_ok t.Past hl
  have h1 := within29_ok t.ID 1 999999
  have h2 := within29_ok t.Room 0 1000000000
  have h3 := within29_ok t.Fixed 0 1000000
  have h4 := within29_ok t.Rate 0 1000000
  unfold truckErr
  obtain ⟨a, b, c, d, e, l⟩ := t
  simp only at *
  clear hl
  generalize isNormal l = nn at *
  generalize pastErr l = pe at *
  refine ICalls.of_body Try.func99 rfl Try.call99 rfl (Nat.le_of_ble_eq_true rfl) (fun _ => none) rfl ?_
  repeat' ((conv => whnf); first
    | refine Br.yes rfl ?_
    | refine Br.no rfl ?_
    | refine Br.yes (beq_self_eq_true _) ?_
    | refine Br.not ?_
    | refine Br.yes (decide_eq_true (by assumption)) ?_
    | refine Br.no (decide_eq_false (by assumption)) ?_
    | refine Br.yes (beq_iff_eq.2 (by assumption)) ?_
    | refine Br.no (beq_eq_false_iff_ne.2 (by assumption)) ?_
    | refine Br.yes (bne_iff_ne.2 (by assumption)) ?_
    | (refine Br.dec (fun h => ?_) (fun h => ?_) <;> try dsimp only at h)
    | (refine Br.beqI (fun h => ?_) (fun h => ?_) <;> try dsimp only at h)
    | (refine Br.bneI (fun h => ?_) (fun h => ?_) <;> try dsimp only at h)
    | refine Br.mk (fun h => ?_) (fun h => ?_)
    | refine Need.mk (by first | kernel_rfl | exact ⟨of_decide_eq_true rfl, of_decide_eq_true rfl⟩ | omega) ?_
    | refine Len.mk ⟨_, by simp only [List.length_cons, List.length_nil, Nat.reduceAdd, Int.cast_ofNat_Int]; rfl, ?_⟩
    | refine Wr.lit _ (by simp only [Int.reduceAdd, Int.reduceSub, Int.reduceMul]; rfl) (by decide) ?_
    | refine Wr.fit (by omega) ?_
    | refine Wr.fit (by dsimp only; omega) ?_
    | refine Elem.mk ⟨_, ⟨of_decide_eq_true rfl, rfl⟩, ?_⟩
    | refine Len.map ?_
    | refine Len.dropM ?_
    | refine Elem.dropM ?_
    | refine Len.takeM ?_
    | refine Elem.takeM ?_
    | refine Elem.mapK (by assumption) ?_
    | refine Elem.mapI (by omega) (by assumption) ?_
    | refine Elem.mapN (by omega) (fun x hx => ?_)
    | refine Elem.map (by omega) (by omega) (fun x hx => ?_)
    | refine (hp).use ⟨rfl, ?_⟩
    | refine (hn).use ⟨rfl, ?_⟩
    | refine (h1).use ⟨rfl, ?_⟩
    | refine (h2).use ⟨rfl, ?_⟩
    | refine (h3).use ⟨rfl, ?_⟩
    | refine (h4).use ⟨rfl, ?_⟩
    | refine CallX.mk ⟨_, _, (hp).x, rfl, ?_⟩
    | refine CallX.mk ⟨_, _, (hn).x, rfl, ?_⟩
    | refine CallX.mk ⟨_, _, (h1).x, rfl, ?_⟩
    | refine CallX.mk ⟨_, _, (h2).x, rfl, ?_⟩
    | refine CallX.mk ⟨_, _, (h3).x, rfl, ?_⟩
    | refine CallX.mk ⟨_, _, (h4).x, rfl, ?_⟩
    | refine Done.mk ⟨rfl, rfl⟩
    | refine Done.mk ⟨congrArg gb ?_, rfl⟩
    | refine Done.mk ⟨?_, rfl⟩
    | refine Done.mk ⟨?_, ?_⟩)
  all_goals (refine congrArg gi ?_; simp only [within, Bool.and_eq_true, Bool.and_eq_false_iff, decide_eq_true_eq, decide_eq_false_iff_not] at *; grind)

end Go.Hl

/- Contracts: trucks that are the same; when a past ends; what it is with more behind it.  -/
set_option linter.unusedVariables false
set_option linter.unusedSimpArgs false
namespace Go.Hl
open Go.Gh Go.Proofs

theorem truck_eq (s t : Truck) : decide (s = t) = (decide (s.ID = t.ID) && (decide (s.Home = t.Home) && (decide (s.Room = t.Room) && (decide (s.Fixed = t.Fixed) && (decide (s.Rate = t.Rate) && decide (s.Past = t.Past)))))) := by
  cases s; cases t; simp [Bool.decide_and]

def pl_F4_1 : Nat → Option (List Nat × List Nat) := (fun k => bif Nat.beq k 4 then some ([1000004, 3, 50, 51, 52], [103]) else none)
set_option maxRecDepth 100000 in
set_option maxHeartbeats 1000000 in
theorem sameTruck_ok (s t : Truck) (hs : (s.Past.length : Int) ≤ 1000000000) (ht : (t.Past.length : Int) ≤ 1000000000) : ICalls Try.prog 59 [s.g, t.g] [] (Done (gb (decide (s = t))) []) := by
  rw [truck_eq]
  obtain ⟨a, b, c, d, e, l⟩ := s
  obtain ⟨a', b', c', d', e', l'⟩ := t
  simp only at *
  have h0 := @same_len l l'
  have h1 := @same_end l l'
  have h2 := @not_same l l'
  generalize decide (l = l') = q at *
  show ICalls _ _ [.agg [gi a, gi b, gi c, gi d, gi e, .list 3 (l.map Rec.g) none], .agg [gi a', gi b', gi c', gi d', gi e', .list 3 (l'.map Rec.g) none]] _ _
  refine ICalls.of_body Try.func59 rfl Try.call59 rfl (Nat.le_of_ble_eq_true rfl) pl_F4_1 rfl ?_
  repeat' ((conv => whnf); first
    | refine Br.yes rfl ?_
    | refine Br.no rfl ?_
    | refine Need.mk (EqRun.flat (by kernel_rfl) rfl) ?_
    | (refine Len.map ?_)
    | (refine ILoop.ov 1000004 (fun (i : Nat) => [(52, gi i)]) (fun (i : Nat) => []) (fun (i : Nat) => (i ≤ l.length ∧ l.length = l'.length) ∧ l.take i = l'.take i) (fun (i : Nat) => l.length - i) (0) (by exact rfl) ?_; (conv => whnf); refine Start.mk rfl ?_ ?_; (try dsimp only); rotate_left; rintro i ⟨⟨hi, hab⟩, hp⟩)
    | (refine Again.mk ⟨(i + 1), rfl, ?_, ?_⟩ <;> try dsimp only)
    | refine Br.yes (beq_self_eq_true _) ?_
    | refine Br.not ?_
    | refine Br.yes (decide_eq_true (by assumption)) ?_
    | refine Br.no (decide_eq_false (by assumption)) ?_
    | refine Br.yes (beq_iff_eq.2 (by assumption)) ?_
    | refine Br.no (beq_eq_false_iff_ne.2 (by assumption)) ?_
    | refine Br.yes (bne_iff_ne.2 (by assumption)) ?_
    | (refine Br.dec (fun h => ?_) (fun h => ?_) <;> try dsimp only at h)
    | (refine Br.beqI (fun h => ?_) (fun h => ?_) <;> try dsimp only at h)
    | (refine Br.bneI (fun h => ?_) (fun h => ?_) <;> try dsimp only at h)
    | refine Br.mk (fun h => ?_) (fun h => ?_)
    | refine Need.mk (by first | kernel_rfl | exact ⟨of_decide_eq_true rfl, of_decide_eq_true rfl⟩ | omega) ?_
    | refine Len.mk ⟨_, by simp only [List.length_cons, List.length_nil, Nat.reduceAdd, Int.cast_ofNat_Int]; rfl, ?_⟩
    | refine Wr.lit _ (by simp only [Int.reduceAdd, Int.reduceSub, Int.reduceMul]; rfl) (by decide) ?_
    | refine Wr.fit (by omega) ?_
    | refine Wr.fit (by dsimp only; omega) ?_
    | refine Elem.mk ⟨_, ⟨of_decide_eq_true rfl, rfl⟩, ?_⟩
    | refine Len.map ?_
    | refine Len.dropM ?_
    | refine Elem.dropM ?_
    | refine Len.takeM ?_
    | refine Elem.takeM ?_
    | refine Elem.mapK (by assumption) ?_
    | refine Elem.mapI (by omega) (by assumption) ?_
    | refine Elem.mapN (by omega) (fun x hx => ?_)
    | refine Elem.map (by omega) (by omega) (fun x hx => ?_)
    | refine Done.mk ⟨rfl, rfl⟩
    | refine Done.mk ⟨congrArg gb ?_, rfl⟩
    | refine Done.mk ⟨?_, rfl⟩
    | refine Done.mk ⟨?_, ?_⟩)
  all_goals first
    | omega
    | exact ⟨⟨by omega, by omega⟩, rfl⟩
    | exact ⟨⟨by omega, by omega⟩, take_same hp (by assumption) hx (recB_true h)⟩
    | (have e := h2 (by assumption) hx (recB_false h); simp [e]; done)
    | (have e := h1 h hab hp; rw [← e]; simp [*]; done)
    | (have e := h0 h; rw [← e]; simp; done)
    | (simp [*]; done)

end Go.Hl

/- Contracts: when a past ends; what a truck is with more behind its past.  -/
set_option linter.unusedVariables false
set_option linter.unusedSimpArgs false
namespace Go.Hl
open Go.Gh Go.Proofs

def spanOk (l : List Rec) : Bool := decide (codeR l = 0) && decide (l.length ≠ 0)
def spanG (l : List Rec) : GV := .tup [(if spanOk l then (⟨beginOf l, endOf l⟩ : Span) else ⟨0, 0⟩).g, gb (spanOk l)]
def endV (l : List Rec) : Int := if pastErr l = 0 then endOf l else 0
def moreV (t : Truck) (l : List Rec) : Truck × Int := if pastErr l = 0 then (⟨t.ID, t.Home, t.Room, t.Fixed, t.Rate, normL l⟩, 0) else (Truck.zero, pastErr l)
def truckV (x : Truck × Int) : GV := .tup [x.1.g, gi x.2]
theorem moreV_0 {t : Truck} {l : List Rec} (h : pastErr l = 0) : moreV t l = (⟨t.ID, t.Home, t.Room, t.Fixed, t.Rate, normL l⟩, 0) := by unfold moreV; rw [if_pos h]
theorem moreV_1 {t : Truck} {l : List Rec} (h : ¬ pastErr l = 0) : moreV t l = (Truck.zero, pastErr l) := by unfold moreV; rw [if_neg h]

set_option maxRecDepth 100000 in
set_option maxHeartbeats 1000000 in
theorem more_ok (t : Truck) (r : List Rec) (hl : (t.Past.length : Int) ≤ 1000000) (hr : (r.length : Int) ≤ 1000000) : ICalls Try.prog 63 [t.g, .list 3 (recs r) none] [] (Done (truckV (moreV t (t.Past ++ r))) []) := by
  have hlen : ([t.Past, r].flatten.length : Int) ≤ 1000000000 := by simp; omega
  have hc := concatRec_ok [t.Past, r] (by simp) hlen
  have hj := join_ok [t.Past, r] (by simp) hlen
  rw [show [t.Past, r].flatten = t.Past ++ r by simp] at hc hj hlen
  have hp := truckPast_ok (t.Past ++ r) hlen
  refine ICalls.ofS ?_
  unfold normG at hj
  by_cases h0 : pastErr (t.Past ++ r) = 0
  {
  rw [moreV_0 h0]
  rw [pastErr_code h0] at hj
  rw [h0] at hp
  obtain ⟨a, b, c, d, e, l⟩ := t
  simp only at *
  generalize normL (l ++ r) = nl at *
  generalize l ++ r = lr at *
  clear hlen hl hr
  refine ICalls.of_body Try.func63 rfl Try.call63 rfl (Nat.le_of_ble_eq_true rfl) (fun _ => none) rfl ?_
  repeat' ((conv => whnf); first
    | refine Br.yes rfl ?_
    | refine Br.no rfl ?_
    | (refine DoneS.mk ⟨Sub.refl _, rfl⟩)
    | refine Br.yes (beq_self_eq_true _) ?_
    | refine Br.not ?_
    | refine Br.yes (decide_eq_true (by assumption)) ?_
    | refine Br.no (decide_eq_false (by assumption)) ?_
    | refine Br.yes (beq_iff_eq.2 (by assumption)) ?_
    | refine Br.no (beq_eq_false_iff_ne.2 (by assumption)) ?_
    | refine Br.yes (bne_iff_ne.2 (by assumption)) ?_
    | (refine Br.dec (fun h => ?_) (fun h => ?_) <;> try dsimp only at h)
    | (refine Br.beqI (fun h => ?_) (fun h => ?_) <;> try dsimp only at h)
    | (refine Br.bneI (fun h => ?_) (fun h => ?_) <;> try dsimp only at h)
    | refine Br.mk (fun h => ?_) (fun h => ?_)
    | refine Need.mk (by first | kernel_rfl | exact ⟨of_decide_eq_true rfl, of_decide_eq_true rfl⟩ | omega) ?_
    | refine Len.mk ⟨_, by simp only [List.length_cons, List.length_nil, Nat.reduceAdd, Int.cast_ofNat_Int]; rfl, ?_⟩
    | refine Wr.lit _ (by simp only [Int.reduceAdd, Int.reduceSub, Int.reduceMul]; rfl) (by decide) ?_
    | refine Wr.fit (by omega) ?_
    | refine Wr.fit (by dsimp only; omega) ?_
    | refine Elem.mk ⟨_, ⟨of_decide_eq_true rfl, rfl⟩, ?_⟩
    | refine Len.map ?_
    | refine Len.dropM ?_
    | refine Elem.dropM ?_
    | refine Len.takeM ?_
    | refine Elem.takeM ?_
    | refine Elem.mapK (by assumption) ?_
    | refine Elem.mapI (by omega) (by assumption) ?_
    | refine Elem.mapN (by omega) (fun x hx => ?_)
    | refine Elem.map (by omega) (by omega) (fun x hx => ?_)
    | refine (hc).use ⟨rfl, ?_⟩
    | refine (hj).use ⟨rfl, ?_⟩
    | refine (hp).use ⟨rfl, ?_⟩
    | refine CallX.mk ⟨_, _, (hc).x, rfl, ?_⟩
    | refine CallX.mk ⟨_, _, (hj).x, rfl, ?_⟩
    | refine CallX.mk ⟨_, _, (hp).x, rfl, ?_⟩
    | refine Done.mk ⟨rfl, rfl⟩
    | refine Done.mk ⟨congrArg gb ?_, rfl⟩
    | refine Done.mk ⟨?_, rfl⟩
    | refine Done.mk ⟨?_, ?_⟩)
  all_goals skip
  }
  {
  rw [moreV_1 h0]
  obtain ⟨a, b, c, d, e, l⟩ := t
  simp only at *
  generalize pastErr (l ++ r) = p at *
  generalize l ++ r = lr at *
  clear hlen hl hr
  refine ICalls.of_body Try.func63 rfl Try.call63 rfl (Nat.le_of_ble_eq_true rfl) (fun _ => none) rfl ?_
  repeat' ((conv => whnf); first
    | refine Br.yes rfl ?_
    | refine Br.no rfl ?_
    | (refine DoneS.mk ⟨zeroT_tup _, rfl⟩)
    | refine Br.yes (beq_self_eq_true _) ?_
    | refine Br.not ?_
    | refine Br.yes (decide_eq_true (by assumption)) ?_
    | refine Br.no (decide_eq_false (by assumption)) ?_
    | refine Br.yes (beq_iff_eq.2 (by assumption)) ?_
    | refine Br.no (beq_eq_false_iff_ne.2 (by assumption)) ?_
    | refine Br.yes (bne_iff_ne.2 (by assumption)) ?_
    | (refine Br.dec (fun h => ?_) (fun h => ?_) <;> try dsimp only at h)
    | (refine Br.beqI (fun h => ?_) (fun h => ?_) <;> try dsimp only at h)
    | (refine Br.bneI (fun h => ?_) (fun h => ?_) <;> try dsimp only at h)
    | refine Br.mk (fun h => ?_) (fun h => ?_)
    | refine Need.mk (by first | kernel_rfl | exact ⟨of_decide_eq_true rfl, of_decide_eq_true rfl⟩ | omega) ?_
    | refine Len.mk ⟨_, by simp only [List.length_cons, List.length_nil, Nat.reduceAdd, Int.cast_ofNat_Int]; rfl, ?_⟩
    | refine Wr.lit _ (by simp only [Int.reduceAdd, Int.reduceSub, Int.reduceMul]; rfl) (by decide) ?_
    | refine Wr.fit (by omega) ?_
    | refine Wr.fit (by dsimp only; omega) ?_
    | refine Elem.mk ⟨_, ⟨of_decide_eq_true rfl, rfl⟩, ?_⟩
    | refine Len.map ?_
    | refine Len.dropM ?_
    | refine Elem.dropM ?_
    | refine Len.takeM ?_
    | refine Elem.takeM ?_
    | refine Elem.mapK (by assumption) ?_
    | refine Elem.mapI (by omega) (by assumption) ?_
    | refine Elem.mapN (by omega) (fun x hx => ?_)
    | refine Elem.map (by omega) (by omega) (fun x hx => ?_)
    | refine (hc).use ⟨rfl, ?_⟩
    | refine (hp).use ⟨rfl, ?_⟩
    | refine CallX.mk ⟨_, _, (hc).x, rfl, ?_⟩
    | refine CallX.mk ⟨_, _, (hp).x, rfl, ?_⟩
    | refine Done.mk ⟨rfl, rfl⟩
    | refine Done.mk ⟨congrArg gb ?_, rfl⟩
    | refine Done.mk ⟨?_, rfl⟩
    | refine Done.mk ⟨?_, ?_⟩)
  all_goals omega
  }

end Go.Hl
