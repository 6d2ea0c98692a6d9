/- Contracts of functions, bundle H3; proved for whatever the arguments' types allow, as each theorem says. -/
import Derived.Test.YtoofplbjpkgdgaaH1
import Derived.Test.YtoofplbjpkgdgaaGh16

/- Contracts: what a spell is worth. -/
set_option linter.unusedVariables false
set_option linter.unusedSimpArgs false
namespace Go.Hl
open Go.Gh Go.Proofs

def ofPl : Nat → Option (List Nat × List Nat) := fun k =>
  bif Nat.beq k 2000005 then some ([3, 4, 5, 6, 10, 11, 12], [105, 106, 110]) else
  bif Nat.beq k 2000008 then some ([3, 4, 5, 6, 10, 11, 12, 13], [105, 106, 110, 113]) else
  bif Nat.beq k 2000010 then some ([3, 4, 5, 6, 10, 11, 12, 13], [106, 105, 110, 113]) else
  bif Nat.beq k 2000011 then some ([3, 4, 5, 6, 10, 11, 12, 13], [105, 110, 106, 113]) else
  bif Nat.beq k 2000012 then some ([3, 4, 5, 6, 10, 11, 12, 13], [110, 105, 106, 113]) else
  bif Nat.beq k 2000013 then some ([3, 4, 5, 6, 10, 11, 12, 13], [113, 105, 106, 110]) else none

def ofSt5 (b : Book) (f t : Int) (half split : Bool) (i : Int) : GS :=
  ⟨envOf [(3, gb half), (4, gb split), (5, .ptr 105 0), (6, .ptr 106 0), (10, .ptr 110 0), (11, gi (t - f)), (12, gi i)],
   hpOf [(105, some (.cells b.c)), (106, some (.cells [gi f, gi t])), (110, some (.cells [gb false, gb false, gb false, gb false, gb false, gb false, gb false]))]⟩
def ofEnv (t f i : Int) (half split : Bool) : Nat → GV := envOf [(3, gb half), (4, gb split), (5, .ptr 105 0), (6, .ptr 106 0), (10, .ptr 110 0), (11, gi (t - f)), (12, gi i), (13, .ptr 113 0)]
def z7 : GB := .cells [gb false, gb false, gb false, gb false, gb false, gb false, gb false]

end Go.Hl

/- Contracts: the program's own spell. -/
set_option linter.unusedVariables false
set_option linter.unusedSimpArgs false
namespace Go.Hl
open Go.Gh Go.Proofs

set_option maxRecDepth 100000 in
theorem as_ok (n l : Int) : ICalls Try.prog 149 [gi n, .ptr 0 0] [[gi l]] (Done (gb (decide (n ≤ l))) [[gi l]]) := by
  refine ICalls.of_body Try.func149 rfl Try.call149 rfl (Nat.le_of_ble_eq_true rfl) (fun _ => none) rfl ?_
  repeat' ((conv => whnf); first
    | refine Br.yes rfl ?_
    | refine Br.no rfl ?_
    | refine Br.mk (fun h => ?_) (fun h => ?_)
    | refine Need.mk (by first | kernel_rfl | exact ⟨of_decide_eq_true rfl, of_decide_eq_true rfl⟩ | omega) ?_
    | refine Len.mk ⟨_, by simp only [List.length_cons, List.length_nil, Nat.reduceAdd, Int.cast_ofNat_Int]; rfl, ?_⟩
    | refine Wr.lit _ (by simp only [Int.reduceAdd, Int.reduceSub, Int.reduceMul]; rfl) (by decide) ?_
    | refine Wr.fit (by omega) ?_
    | refine Elem.mk ⟨_, ⟨of_decide_eq_true rfl, rfl⟩, ?_⟩
    | refine Done.mk ⟨congrArg gb ?_, rfl⟩
    | refine Done.mk ⟨rfl, rfl⟩)
  all_goals rfl

set_option maxRecDepth 100000 in
theorem spellCheck_ok (b : Book) (f t dawn : Int) (hb : b.May) (hs : Spell f t dawn) (hft : f < t) (ht : t ≤ 40320) (hd : dawn ≤ f) :
    ICalls Try.prog 148 [b.g, .agg [gi f, gi t], gi dawn] [] (Done (gi 0) []) := by
  obtain ⟨h1, h2, h3, h4, h5⟩ := hs
  have hc : b.code = 0 := if_pos hb
  refine ICalls.of_body Try.func148 rfl Try.call148 rfl (Nat.le_of_ble_eq_true rfl) (fun _ => none) rfl ?_
  repeat' ((conv => whnf); first
    | refine Br.yes rfl ?_
    | refine Br.no rfl ?_
    | refine Br.no (decide_eq_false (by omega)) ?_
    | refine Br.mk (fun h => ?_) (fun h => ?_)
    | refine Need.mk (by first | kernel_rfl | exact ⟨of_decide_eq_true rfl, of_decide_eq_true rfl⟩ | omega) ?_
    | refine Len.mk ⟨_, by simp only [List.length_cons, List.length_nil, Nat.reduceAdd, Int.cast_ofNat_Int]; rfl, ?_⟩
    | refine Wr.lit _ (by simp only [Int.reduceAdd, Int.reduceSub, Int.reduceMul]; rfl) (by decide) ?_
    | refine Wr.fit (by omega) ?_
    | refine Elem.mk ⟨_, ⟨of_decide_eq_true rfl, rfl⟩, ?_⟩
    | refine ((bookCheck_ok b).to (congrArg gi hc)).use ⟨rfl, ?_⟩
    | refine CallX.mk ⟨_, _, ((bookCheck_ok b).to (congrArg gi hc)).x, rfl, ?_⟩
    | refine Done.mk ⟨congrArg gb ?_, rfl⟩
    | refine Done.mk ⟨rfl, rfl⟩)

end Go.Hl

/- Contracts: the program's own spell, whole. -/
set_option linter.unusedVariables false
set_option linter.unusedSimpArgs false
namespace Go.Hl
open Go.Gh Go.Proofs

theorem tupW {w : Worth} {a0 a1 a2 a3 a4 a5 a6 : Bool} (h0 : a0 = w.Break) (h1 : a1 = w.Half) (h2 : a2 = w.Part) (h3 : a3 = w.Daily) (h4 : a4 = w.Reduced) (h5 : a5 = w.Weekly) (h6 : a6 = w.Brief) :
    GV.tup [.agg [gb a0, gb a1, gb a2, gb a3, gb a4, gb a5, gb a6], gi 0] = .tup [w.g, gi 0] := by
  subst h0 h1 h2 h3 h4 h5 h6; rfl

set_option maxRecDepth 100000 in
set_option maxHeartbeats 2000000 in
theorem spellOf_ok (b : Book) (f t dawn : Int) (half split : Bool) (hb : b.May) (hs : Spell f t dawn) (hft : f < t) (ht : t ≤ 40320) (hd : dawn ≤ f) :
    ICalls Try.prog 147 [b.g, .agg [gi f, gi t], gi dawn, gb half, gb split] [] (Done (.tup [(worth b f t dawn half split).g, gi 0]) []) := by
  have hck := spellCheck_ok b f t dawn hb hs hft ht hd
  obtain ⟨h1, h2, h3, h4, h5⟩ := hs
  have hw := hb.within
  simp only [Book.within] at hw
  refine ICalls.of_body Try.func147 rfl Try.call147 rfl (Nat.le_of_ble_eq_true rfl) (fun _ => none) rfl ?_
  repeat' ((conv => whnf); first
    | refine Br.yes rfl ?_
    | refine Br.no rfl ?_
    | refine Done.mk ⟨tupW ?_ ?_ ?_ ?_ ?_ ?_ ?_, rfl⟩
    | refine Br.mk (fun h => ?_) (fun h => ?_)
    | refine Need.mk (by first | kernel_rfl | exact ⟨of_decide_eq_true rfl, of_decide_eq_true rfl⟩ | omega) ?_
    | refine Len.mk ⟨_, by simp only [List.length_cons, List.length_nil, Nat.reduceAdd, Int.cast_ofNat_Int]; rfl, ?_⟩
    | refine Wr.lit _ (by simp only [Int.reduceAdd, Int.reduceSub, Int.reduceMul]; rfl) (by decide) ?_
    | refine Wr.fit (by omega) ?_
    | refine Elem.mk ⟨_, ⟨of_decide_eq_true rfl, rfl⟩, ?_⟩
    | refine (hck).use ⟨rfl, ?_⟩
    | refine (as_ok _ _).use ⟨rfl, ?_⟩
    | refine CallX.mk ⟨_, _, (hck).x, rfl, ?_⟩
    | refine CallX.mk ⟨_, _, (as_ok _ _).x, rfl, ?_⟩
    | refine Done.mk ⟨congrArg gb ?_, rfl⟩
    | refine Done.mk ⟨rfl, rfl⟩)
  all_goals
    clear hw hck
    have g1 := hb.brk
    have g2 := hb.part
    have g3 := hb.reduced
    have g4 := hb.regular
    have g5 := hb.short
    clear hb
    simp only [worth, inDay] at *
    grind

end Go.Hl

/- Contracts: the run's steps. -/
set_option linter.unusedVariables false
set_option linter.unusedSimpArgs false
namespace Go.Hl
open Go.Gh Go.Proofs

def runC (b : Book) (m : Meter) (bits : Int) : List GV := [gi b.Drive, gi b.Break, gi b.First, gi b.Second, gi b.Day, gi b.Longer, gi b.Longers, gi b.Regular, gi b.Reduced, gi b.Reduces, gi b.Part, gi b.Round, gi b.Weekly, gi b.Short, gi b.Rounds, gi b.Week, gi b.Fortnight, gi b.Labour, gi b.Length,
  gi m.Now, gi m.Acc, gb m.Half, gi m.Lie, gi m.Dawn, gi m.Day, gi m.Longers, gb m.Split, gi m.Reduces, gi m.Sabbath, gb m.Brief, gi m.Week, gi m.Last, gi m.Labour, gi bits]

def orI (a b : Int) : Int := IntKind.i64.wrap (BitVec.ofInt 64 a ||| BitVec.ofInt 64 b).toNat
def setIf (bits mask : Int) (c : Bool) : Int := if c then orI bits mask else bits

set_option maxRecDepth 100000 in
theorem when_ok (b : Book) (m : Meter) (bits mask : Int) (c : Bool) :
    ICalls Try.prog 144 [.ptr 0 0, gi mask, gb c] [runC b m bits] (Done (.tup []) [runC b m (setIf bits mask c)]) := by
  cases c
  case false =>
    refine ICalls.of_body Try.func144 rfl Try.call144 rfl (Nat.le_of_ble_eq_true rfl) (fun _ => none) rfl ?_
    repeat' ((conv => whnf); first
      | refine Br.yes rfl ?_
      | refine Br.no rfl ?_
      | refine Br.mk (fun h => ?_) (fun h => ?_)
      | refine Need.mk (by first | kernel_rfl | exact ⟨of_decide_eq_true rfl, of_decide_eq_true rfl⟩ | omega) ?_
      | refine Len.mk ⟨_, by simp only [List.length_cons, List.length_nil, Nat.reduceAdd, Int.cast_ofNat_Int]; rfl, ?_⟩
      | refine Wr.lit _ (by simp only [Int.reduceAdd, Int.reduceSub, Int.reduceMul]; rfl) (by decide) ?_
      | refine Wr.fit (by omega) ?_
      | refine Elem.mk ⟨_, ⟨of_decide_eq_true rfl, rfl⟩, ?_⟩
      | refine Done.mk ⟨congrArg gb ?_, rfl⟩
      | refine Done.mk ⟨rfl, rfl⟩)
  case true =>
    refine ICalls.of_body Try.func144 rfl Try.call144 rfl (Nat.le_of_ble_eq_true rfl) (fun _ => none) rfl ?_
    repeat' ((conv => whnf); first
      | refine Br.yes rfl ?_
      | refine Br.no rfl ?_
      | refine Br.mk (fun h => ?_) (fun h => ?_)
      | refine Need.mk (by first | kernel_rfl | exact ⟨of_decide_eq_true rfl, of_decide_eq_true rfl⟩ | omega) ?_
      | refine Len.mk ⟨_, by simp only [List.length_cons, List.length_nil, Nat.reduceAdd, Int.cast_ofNat_Int]; rfl, ?_⟩
      | refine Wr.lit _ (by simp only [Int.reduceAdd, Int.reduceSub, Int.reduceMul]; rfl) (by decide) ?_
      | refine Wr.fit (by omega) ?_
      | refine Elem.mk ⟨_, ⟨of_decide_eq_true rfl, rfl⟩, ?_⟩
      | refine Done.mk ⟨congrArg gb ?_, rfl⟩
      | refine Done.mk ⟨rfl, rfl⟩)

def dawnOf (m : Meter) : Int := if m.Now - m.Lie < m.Dawn then m.Now - m.Lie else m.Dawn
def Meter.worth (b : Book) (m : Meter) : Worth := Hl.worth b (m.Now - m.Lie) m.Now (dawnOf m) m.Half m.Split

set_option maxRecDepth 100000 in
theorem runWorth_ok (b : Book) (m : Meter) (bits : Int) (hb : b.May) (hm : m.May) (hl : 0 < m.Lie) :
    ICalls Try.prog 146 [.ptr 0 0] [runC b m bits] (Done (m.worth b).g [runC b m bits]) := by
  have hd : 0 ≤ dawnOf m ∧ dawnOf m ≤ m.Now - m.Lie := by
    have := hm.dawn; have := hm.lie; unfold dawnOf; split <;> omega
  have hn := hm.now
  have hlie := hm.lie
  have ho := spellOf_ok b (m.Now - m.Lie) m.Now (dawnOf m) m.Half m.Split hb ⟨by omega, by omega, by omega, by omega, by omega⟩ (by omega) hn.2 hd.2
  refine ICalls.of_body Try.func146 rfl Try.call146 rfl (Nat.le_of_ble_eq_true rfl) (fun _ => none) rfl ?_
  repeat' ((conv => whnf); first
    | refine Br.yes rfl ?_
    | refine Br.no rfl ?_
    | refine Br.mk (fun h => ?_) (fun h => ?_)
    | refine Need.mk (by first | kernel_rfl | exact ⟨of_decide_eq_true rfl, of_decide_eq_true rfl⟩ | omega) ?_
    | refine Len.mk ⟨_, by simp only [List.length_cons, List.length_nil, Nat.reduceAdd, Int.cast_ofNat_Int]; rfl, ?_⟩
    | refine Wr.lit _ (by simp only [Int.reduceAdd, Int.reduceSub, Int.reduceMul]; rfl) (by decide) ?_
    | refine Wr.fit (by omega) ?_
    | refine Elem.mk ⟨_, ⟨of_decide_eq_true rfl, rfl⟩, ?_⟩
    | refine (ho).use ⟨rfl, ?_⟩
    | refine CallX.mk ⟨_, _, (ho).x, rfl, ?_⟩
    | refine Done.mk ⟨congrArg gb ?_, rfl⟩
    | refine Done.mk ⟨rfl, rfl⟩)

def Meter.turn (b : Book) (m : Meter) : Meter := if 0 < m.Now ∧ m.Now.tmod b.Length = 0 then { m with Last := m.Week, Week := 0, Labour := 0 } else m

set_option maxRecDepth 100000 in
theorem turn_ok (b : Book) (m : Meter) (bits : Int) (hb : b.May) :
    ICalls Try.prog 142 [.ptr 0 0] [runC b m bits] (Done (.tup []) [runC b (m.turn b) bits]) := by
  have hw := hb.within
  simp only [Book.within] at hw
  refine ICalls.of_body Try.func142 rfl Try.call142 rfl (Nat.le_of_ble_eq_true rfl) (fun _ => none) rfl ?_
  repeat' ((conv => whnf); first
    | refine Br.yes rfl ?_
    | refine Br.no rfl ?_
    | refine Need.mk (show b.Length ≠ 0 by omega) ?_
    | refine Done.mk ⟨rfl, ?_⟩
    | refine Br.mk (fun h => ?_) (fun h => ?_)
    | refine Need.mk (by first | kernel_rfl | exact ⟨of_decide_eq_true rfl, of_decide_eq_true rfl⟩ | omega) ?_
    | refine Len.mk ⟨_, by simp only [List.length_cons, List.length_nil, Nat.reduceAdd, Int.cast_ofNat_Int]; rfl, ?_⟩
    | refine Wr.lit _ (by simp only [Int.reduceAdd, Int.reduceSub, Int.reduceMul]; rfl) (by decide) ?_
    | refine Wr.fit (by omega) ?_
    | refine Elem.mk ⟨_, ⟨of_decide_eq_true rfl, rfl⟩, ?_⟩
    | refine Done.mk ⟨congrArg gb ?_, rfl⟩
    | refine Done.mk ⟨rfl, rfl⟩)
  all_goals clear hw hb
  · rw [show m.turn b = { m with Last := m.Week, Week := 0, Labour := 0 } from if_pos (by simp at *; omega)]; rfl
  · rw [show m.turn b = m from if_neg (by simp at *; omega)]; rfl
  · rw [show m.turn b = m from if_neg (by simp at *; omega)]; rfl

end Go.Hl

/- Contracts: a minute of driving. -/
set_option linter.unusedVariables false
set_option linter.unusedSimpArgs false
namespace Go.Hl
open Go.Gh Go.Proofs

def Meter.droveL (m : Meter) (l : Int) : Meter := { m with Acc := m.Acc + 1, Day := m.Day + 1, Week := m.Week + 1, Longers := l }
def Meter.drove (b : Book) (m : Meter) : Meter := m.droveL (if m.Day + 1 = b.Day + 1 then m.Longers + 1 else m.Longers)
def droveBits (b : Book) (m : Meter) (bits : Int) : Int :=
  setIf (setIf (setIf (setIf (if m.Day + 1 = b.Day + 1 then setIf bits 4 (decide (b.Longers < m.Longers + 1)) else bits) 1 (decide (b.Drive < m.Acc + 1))) 2 (decide (b.Longer < m.Day + 1))) 8 (decide (b.Week < m.Week + 1))) 16 (decide (b.Fortnight < m.Week + 1 + m.Last))

set_option maxRecDepth 100000 in
theorem drives_ok (b : Book) (m : Meter) (bits : Int) (hb : b.May) (hm : m.Small) :
    ICalls Try.prog 145 [.ptr 0 0] [runC b m bits] (Done (.tup []) [runC b (m.drove b) (droveBits b m bits)]) := by
  have hw := hb.within
  simp only [Book.within] at hw
  have q1 := hm.now
  have q2 := hm.acc
  have q3 := hm.day
  have q4 := hm.longers
  have q5 := hm.week
  have q6 := hm.last
  refine ICalls.of_body Try.func145 rfl Try.call145 rfl (Nat.le_of_ble_eq_true rfl) (fun _ => none) rfl ?_
  repeat' ((conv => whnf); first
    | refine Br.yes rfl ?_
    | refine Br.no rfl ?_
    | refine Wr.fit (by dsimp only [Meter.droveL]; omega) ?_
    | refine Done.mk ⟨rfl, ?_⟩
    | refine Br.mk (fun h => ?_) (fun h => ?_)
    | refine Need.mk (by first | kernel_rfl | exact ⟨of_decide_eq_true rfl, of_decide_eq_true rfl⟩ | omega) ?_
    | refine Len.mk ⟨_, by simp only [List.length_cons, List.length_nil, Nat.reduceAdd, Int.cast_ofNat_Int]; rfl, ?_⟩
    | refine Wr.lit _ (by simp only [Int.reduceAdd, Int.reduceSub, Int.reduceMul]; rfl) (by decide) ?_
    | refine Wr.fit (by omega) ?_
    | refine Elem.mk ⟨_, ⟨of_decide_eq_true rfl, rfl⟩, ?_⟩
    | refine (when_ok b (m.droveL _) _ _ _).use ⟨rfl, ?_⟩
    | refine CallX.mk ⟨_, _, (when_ok b (m.droveL _) _ _ _).x, rfl, ?_⟩
    | refine Done.mk ⟨congrArg gb ?_, rfl⟩
    | refine Done.mk ⟨rfl, rfl⟩)
  all_goals clear hw hb hm
  · have e : m.Day + 1 = b.Day + 1 := by simp at *; omega
    rw [show m.drove b = m.droveL (m.Longers + 1) from by unfold Meter.drove; rw [if_pos e], show droveBits b m bits = setIf (setIf (setIf (setIf (setIf bits 4 (decide (b.Longers < m.Longers + 1))) 1 (decide (b.Drive < m.Acc + 1))) 2 (decide (b.Longer < m.Day + 1))) 8 (decide (b.Week < m.Week + 1))) 16 (decide (b.Fortnight < m.Week + 1 + m.Last)) from by unfold droveBits; rw [if_pos e]]
    rfl
  · have e : ¬ m.Day + 1 = b.Day + 1 := by simp at *; omega
    rw [show m.drove b = m.droveL m.Longers from by unfold Meter.drove; rw [if_neg e], show droveBits b m bits = setIf (setIf (setIf (setIf bits 1 (decide (b.Drive < m.Acc + 1))) 2 (decide (b.Longer < m.Day + 1))) 8 (decide (b.Week < m.Week + 1))) 16 (decide (b.Fortnight < m.Week + 1 + m.Last)) from by unfold droveBits; rw [if_neg e]]
    rfl

end Go.Hl

/- Contracts: a rest that ends. -/
set_option linter.unusedVariables false
set_option linter.unusedSimpArgs false
namespace Go.Hl
open Go.Gh Go.Proofs

def Meter.rise1 (m : Meter) (w : Worth) : Meter := if w.Weekly then { m with Brief := w.Brief, Sabbath := m.Now, Longers := 0, Reduces := 0 } else m
def riseBits1 (m : Meter) (w : Worth) (bits : Int) : Int := if w.Weekly then setIf bits 256 (w.Brief && m.Brief) else bits
def Meter.rise2 (m : Meter) (w : Worth) : Meter := if w.Reduced then { m with Reduces := m.Reduces + 1 } else m
def riseBits2 (b : Book) (m : Meter) (w : Worth) (bits : Int) : Int := if w.Reduced then setIf bits 64 (decide (b.Reduces < m.Reduces + 1)) else bits
def Meter.rise3 (m : Meter) (w : Worth) : Meter := if w.Break then { m with Acc := 0 } else m
def Meter.rise4 (m : Meter) (w : Worth) : Meter := { m with Half := w.Half, Split := m.Split || w.Part }
def Meter.rise5 (m : Meter) (w : Worth) : Meter := if w.Daily then { m with Dawn := m.Now, Day := 0, Half := false, Split := false } else m
def Meter.rise6 (m : Meter) : Meter := { m with Lie := 0 }

def risePl : Nat → Option (List Nat × List Nat) := fun k =>
  bif Nat.beq k 2000004 then some ([0, 2, 3], [0, 102]) else
  bif Nat.beq k 2000007 then some ([2, 0, 3], [0, 102]) else
  bif Nat.beq k 2000009 then some ([3, 0, 2], [0, 102]) else
  bif Nat.beq k 2000011 then some ([0, 3, 2], [0, 102]) else none
def rv : Nat → GV
  | 0 => .ptr 0 0
  | 2 => .ptr 102 0
  | _ => .ptr 0 19
def riseSt (l : List Nat) (b : Book) (m : Meter) (bits : Int) (w : Worth) : GS := ⟨envOf (l.map fun t => (t, rv t)), hpOf [(0, some (.cells (runC b m bits))), (102, some (.cells w.c))]⟩

set_option maxRecDepth 100000 in
set_option maxHeartbeats 1000000 in
theorem rise_ok (b : Book) (m : Meter) (bits : Int) (hb : b.May) (hm : m.May) (hl : 0 < m.Lie) (w : Worth) (hw : w = m.worth b) (m1 m2 m3 m4 m5 : Meter) (b1 b2 : Int)
    (e1 : m1 = m.rise1 w) (f1 : b1 = riseBits1 m w bits) (e2 : m2 = m1.rise2 w) (f2 : b2 = riseBits2 b m1 w b1) (e3 : m3 = m2.rise3 w) (e4 : m4 = m3.rise4 w) (e5 : m5 = m4.rise5 w) (hr : 0 ≤ m1.Reduces ∧ m1.Reduces ≤ 100000) :
    ICalls Try.prog 143 [.ptr 0 0] [runC b m bits] (Done (.tup []) [runC b m5.rise6 b2]) := by
  have ho := runWorth_ok b m bits hb hm hl
  rw [← hw] at ho
  refine ICalls.of_body Try.func143 rfl Try.call143 rfl (Nat.le_of_ble_eq_true rfl) (risePl) rfl ?_
  repeat' ((conv => whnf); first
    | refine Br.yes rfl ?_
    | refine Br.no rfl ?_
    | refine Join.by (L := [0, 2, 3]) (B := [0, 102]) (fun S => S = riseSt [0, 2, 3] b m1 b1 w) ?_ ?_
    | refine Join.by (L := [2, 0, 3]) (B := [0, 102]) (fun S => S = riseSt [2, 0, 3] b m2 b2 w) ?_ ?_
    | refine Join.by (L := [3, 0, 2]) (B := [0, 102]) (fun S => S = riseSt [3, 0, 2] b m3 b2 w) ?_ ?_
    | refine Join.by (L := [0, 3, 2]) (B := [0, 102]) (fun S => S = riseSt [0, 3, 2] b m4 b2 w) ?_ ?_
    | refine Met.mk ?_
    | rintro S rfl
    | refine Done.mk ⟨rfl, ?_⟩
    | refine Br.mk (fun h => ?_) (fun h => ?_)
    | refine Need.mk (by first | kernel_rfl | exact ⟨of_decide_eq_true rfl, of_decide_eq_true rfl⟩ | omega) ?_
    | refine Len.mk ⟨_, by simp only [List.length_cons, List.length_nil, Nat.reduceAdd, Int.cast_ofNat_Int]; rfl, ?_⟩
    | refine Wr.lit _ (by simp only [Int.reduceAdd, Int.reduceSub, Int.reduceMul]; rfl) (by decide) ?_
    | refine Wr.fit (by omega) ?_
    | refine Elem.mk ⟨_, ⟨of_decide_eq_true rfl, rfl⟩, ?_⟩
    | refine (ho).use ⟨rfl, ?_⟩
    | refine (when_ok b m _ _ _).use ⟨rfl, ?_⟩
    | refine (when_ok b { m1 with Reduces := m1.Reduces + 1 } _ _ _).use ⟨rfl, ?_⟩
    | refine CallX.mk ⟨_, _, (ho).x, rfl, ?_⟩
    | refine CallX.mk ⟨_, _, (when_ok b m _ _ _).x, rfl, ?_⟩
    | refine CallX.mk ⟨_, _, (when_ok b { m1 with Reduces := m1.Reduces + 1 } _ _ _).x, rfl, ?_⟩
    | refine Done.mk ⟨congrArg gb ?_, rfl⟩
    | refine Done.mk ⟨rfl, rfl⟩)
  all_goals clear ho
  · rename_i q
    rw [e1, f1, Meter.rise1, riseBits1, if_pos q, if_pos q, show (w.Brief && m.Brief) = m.Brief from by simp [h]]; rfl
  · rename_i q
    rw [e1, f1, Meter.rise1, riseBits1, if_pos q, if_pos q, show (w.Brief && m.Brief) = false from by simp [h]]; rfl
  · have q := h
    have q' : ¬ w.Weekly = true := by simp [q]
    rw [e1, f1, Meter.rise1, riseBits1, if_neg q', if_neg q']; rfl
  · have q := h
    rw [e2, f2, Meter.rise2, riseBits2, if_pos q, if_pos q]; rfl
  · have q := h
    have q' : ¬ w.Reduced = true := by simp [q]
    rw [e2, f2, Meter.rise2, riseBits2, if_neg q', if_neg q']; rfl
  · have q := h
    rw [e3, Meter.rise3, if_pos q]; rfl
  · have q := h
    have q' : ¬ w.Break = true := by simp [q]
    rw [e3, Meter.rise3, if_neg q']; rfl
  · have q := h
    rw [e4, Meter.rise4, show (m3.Split || w.Part) = true from by simp [h]]; rfl
  · have q := h
    rw [e4, Meter.rise4, show (m3.Split || w.Part) = w.Part from by simp [h]]; rfl
  · have q := h
    rw [e5, Meter.rise5, if_pos q]; rfl
  · have q := h
    have q' : ¬ w.Daily = true := by simp [q]
    rw [e5, Meter.rise5, if_neg q']; rfl

end Go.Hl

/- Contracts: a minute. -/
set_option linter.unusedVariables false
set_option linter.unusedSimpArgs false
namespace Go.Hl
open Go.Gh Go.Proofs

def minutePl : Nat → Option (List Nat × List Nat) := fun k =>
  bif Nat.beq k 2000006 then some ([0, 1], [0]) else
  bif Nat.beq k 2000010 then some ([1, 0], [0]) else
  bif Nat.beq k 2000013 then some ([0], [0]) else none

set_option maxRecDepth 100000 in
set_option maxHeartbeats 1000000 in
theorem minute0_ok (b : Book) (m : Meter) (bits : Int) (hb : b.May) (hs : (m.turn b).Small) :
    ICalls Try.prog 138 [.ptr 0 0, gi 0] [runC b m bits] (Done (.tup []) [runC b { m.turn b with Lie := (m.turn b).Lie + 1, Now := (m.turn b).Now + 1 } bits]) := by
  have ht := turn_ok b m bits hb
  have q1 := hs.now
  have q2 := hs.lie
  refine ICalls.of_body Try.func138 rfl Try.call138 rfl (Nat.le_of_ble_eq_true rfl) (minutePl) rfl ?_
  repeat' ((conv => whnf); first
    | refine Br.yes rfl ?_
    | refine Br.no rfl ?_
    | refine Join.by (L := [0, 1]) (B := [0]) (fun S => False) ?_ ?_
    | refine Join.by (L := [1, 0]) (B := [0]) (fun S => False) ?_ ?_
    | refine Join.by (L := [0]) (B := [0]) (fun S => False) ?_ ?_
    | exact fun S h => h.elim
    | refine Br.mk (fun h => ?_) (fun h => ?_)
    | refine Need.mk (by first | kernel_rfl | exact ⟨of_decide_eq_true rfl, of_decide_eq_true rfl⟩ | omega) ?_
    | refine Len.mk ⟨_, by simp only [List.length_cons, List.length_nil, Nat.reduceAdd, Int.cast_ofNat_Int]; rfl, ?_⟩
    | refine Wr.lit _ (by simp only [Int.reduceAdd, Int.reduceSub, Int.reduceMul]; rfl) (by decide) ?_
    | refine Wr.fit (by omega) ?_
    | refine Elem.mk ⟨_, ⟨of_decide_eq_true rfl, rfl⟩, ?_⟩
    | refine (ht).use ⟨rfl, ?_⟩
    | refine CallX.mk ⟨_, _, (ht).x, rfl, ?_⟩
    | refine Done.mk ⟨congrArg gb ?_, rfl⟩
    | refine Done.mk ⟨rfl, rfl⟩)

set_option maxRecDepth 100000 in
set_option maxHeartbeats 1000000 in
theorem minuteK_ok (b : Book) (m m0 m1 m2 m3 : Meter) (bits c1 c3 c4 c5 k : Int) (hb : b.May) (hk : k ≠ 0) (e0 : m0 = m.turn b) (s1 : m1.Small) (s2 : m2.Small) (s3 : m3.Small)
    (hrise : 0 < m0.Lie → ICalls Try.prog 143 [.ptr 0 0] [runC b m0 bits] (Done (.tup []) [runC b m1 c1])) (hno : ¬ 0 < m0.Lie → m1 = m0 ∧ c1 = bits)
    (f3 : c3 = setIf (setIf c1 32 (decide (b.Round - b.Reduced ≤ m1.Now - m1.Dawn))) 128 (decide (b.Rounds ≤ m1.Now - m1.Sabbath)))
    (e2 : m2 = if k = 3 then m1.drove b else m1) (f4 : c4 = if k = 3 then droveBits b m1 c3 else c3)
    (e3 : m3 = if k ≠ 1 then { m2 with Labour := m2.Labour + 1 } else m2) (f5 : c5 = if k ≠ 1 then setIf c4 512 (decide (b.Labour < m2.Labour + 1)) else c4) :
    ICalls Try.prog 138 [.ptr 0 0, gi k] [runC b m bits] (Done (.tup []) [runC b { m3 with Now := m3.Now + 1 } c5]) := by
  have ht := turn_ok b m bits hb
  rw [← e0] at ht
  subst f3
  have hd := drives_ok b m1 (setIf (setIf c1 32 (decide (b.Round - b.Reduced ≤ m1.Now - m1.Dawn))) 128 (decide (b.Rounds ≤ m1.Now - m1.Sabbath))) hb s1
  have q1 := s1.now
  have q2 := s1.dawn
  have q3 := s1.sabbath
  have q4 := s2.labour
  have q5 := s3.now
  have hw := hb.within
  simp only [Book.within] at hw
  refine ICalls.of_body Try.func138 rfl Try.call138 rfl (Nat.le_of_ble_eq_true rfl) (minutePl) rfl ?_
  repeat' ((conv => whnf); first
    | refine Br.yes rfl ?_
    | refine Br.no rfl ?_
    | refine Br.no (beq_eq_false_iff_ne.2 hk) ?_
    | refine Join.by (L := [0, 1]) (B := [0]) (fun S => S = ⟨envOf [(0, .ptr 0 0), (1, gi k)], hpOf [(0, some (.cells (runC b m1 c1)))]⟩) ?_ ?_
    | refine Join.by (L := [1, 0]) (B := [0]) (fun S => S = ⟨envOf [(1, gi k), (0, .ptr 0 0)], hpOf [(0, some (.cells (runC b m2 c4)))]⟩) ?_ ?_
    | refine Join.by (L := [0]) (B := [0]) (fun S => S = ⟨envOf [(0, .ptr 0 0)], hpOf [(0, some (.cells (runC b m3 c5)))]⟩) ?_ ?_
    | rintro S rfl
    | refine Met.mk ?_
    | refine Br.mk (fun h => ?_) (fun h => ?_)
    | refine Need.mk (by first | kernel_rfl | exact ⟨of_decide_eq_true rfl, of_decide_eq_true rfl⟩ | omega) ?_
    | refine Len.mk ⟨_, by simp only [List.length_cons, List.length_nil, Nat.reduceAdd, Int.cast_ofNat_Int]; rfl, ?_⟩
    | refine Wr.lit _ (by simp only [Int.reduceAdd, Int.reduceSub, Int.reduceMul]; rfl) (by decide) ?_
    | refine Wr.fit (by omega) ?_
    | refine Elem.mk ⟨_, ⟨of_decide_eq_true rfl, rfl⟩, ?_⟩
    | refine (ht).use ⟨rfl, ?_⟩
    | refine (hrise (of_decide_eq_true h)).use ⟨rfl, ?_⟩
    | refine ((when_ok b m1 c1 32 _)).use ⟨rfl, ?_⟩
    | refine ((when_ok b m1 (setIf c1 32 _) 128 _)).use ⟨rfl, ?_⟩
    | refine (hd).use ⟨rfl, ?_⟩
    | refine ((when_ok b { m2 with Labour := m2.Labour + 1 } c4 512 _)).use ⟨rfl, ?_⟩
    | refine CallX.mk ⟨_, _, (ht).x, rfl, ?_⟩
    | refine CallX.mk ⟨_, _, (hrise (of_decide_eq_true h)).x, rfl, ?_⟩
    | refine CallX.mk ⟨_, _, ((when_ok b m1 c1 32 _)).x, rfl, ?_⟩
    | refine CallX.mk ⟨_, _, ((when_ok b m1 (setIf c1 32 _) 128 _)).x, rfl, ?_⟩
    | refine CallX.mk ⟨_, _, (hd).x, rfl, ?_⟩
    | refine CallX.mk ⟨_, _, ((when_ok b { m2 with Labour := m2.Labour + 1 } c4 512 _)).x, rfl, ?_⟩
    | refine Done.mk ⟨congrArg gb ?_, rfl⟩
    | refine Done.mk ⟨rfl, rfl⟩)
  all_goals clear hw
  · rfl
  · have q : ¬ 0 < m0.Lie := of_decide_eq_false h
    obtain ⟨p1, p2⟩ := hno q
    rw [p1, p2]; rfl
  · have q : k = 3 := by simpa using h
    rw [if_pos q] at e2 f4
    rw [e2, f4]; rfl
  · have q : ¬ k = 3 := by simpa using h
    rw [if_neg q] at e2 f4
    rw [e2, f4]; rfl
  · have q : k ≠ 1 := by simpa using h
    rw [if_pos q] at e3 f5
    rw [e3, f5]; rfl
  · have q : ¬ k ≠ 1 := by simpa using h
    rw [if_neg q] at e3 f5
    rw [e3, f5]; rfl

end Go.Hl

/- Contracts: any minute, as one plain step. -/
set_option linter.unusedVariables false
set_option linter.unusedSimpArgs false
namespace Go.Hl
open Go.Gh Go.Proofs

def Meter.rose (b : Book) (m : Meter) : Meter := (((((m.rise1 (m.worth b)).rise2 (m.worth b)).rise3 (m.worth b)).rise4 (m.worth b)).rise5 (m.worth b)).rise6
def roseBits (b : Book) (m : Meter) (bits : Int) : Int := riseBits2 b (m.rise1 (m.worth b)) (m.worth b) (riseBits1 m (m.worth b) bits)
def Meter.up (b : Book) (m : Meter) : Meter := if 0 < m.Lie then m.rose b else m
def upBits (b : Book) (m : Meter) (bits : Int) : Int := if 0 < m.Lie then roseBits b m bits else bits
def lateBits (b : Book) (m : Meter) (bits : Int) : Int := setIf (setIf bits 32 (decide (b.Round - b.Reduced ≤ m.Now - m.Dawn))) 128 (decide (b.Rounds ≤ m.Now - m.Sabbath))
def Meter.driven (b : Book) (m : Meter) (k : Int) : Meter := if k = 3 then m.drove b else m
def drivenBits (b : Book) (m : Meter) (k bits : Int) : Int := if k = 3 then droveBits b m bits else bits
def Meter.worked (m : Meter) (k : Int) : Meter := if k ≠ 1 then { m with Labour := m.Labour + 1 } else m
def workedBits (b : Book) (m : Meter) (k bits : Int) : Int := if k ≠ 1 then setIf bits 512 (decide (b.Labour < m.Labour + 1)) else bits
def Meter.step (b : Book) (m : Meter) (k : Int) : Meter :=
  if k = 0 then { m.turn b with Lie := (m.turn b).Lie + 1, Now := (m.turn b).Now + 1 }
  else { (((m.turn b).up b).driven b k).worked k with Now := ((((m.turn b).up b).driven b k).worked k).Now + 1 }
def stepBits (b : Book) (m : Meter) (k bits : Int) : Int :=
  if k = 0 then bits
  else workedBits b (((m.turn b).up b).driven b k) k (drivenBits b ((m.turn b).up b) k (lateBits b ((m.turn b).up b) (upBits b (m.turn b) bits)))

theorem Meter.May.turn {b : Book} {m : Meter} (h : m.May) : (m.turn b).May := by
  unfold Meter.turn
  split
  · obtain ⟨h1, h2, h3, h4, h5, h6, h7, h8, h9, h10, h11⟩ := h
    exact ⟨h1, h2, h3, h4, h5, h6, h7, h8, ⟨by simp, h1.1⟩, h9, ⟨by simp, h1.1⟩⟩
  · exact h

/-- All numbers are at most n. -/
structure Meter.Lim (n : Int) (m : Meter) : Prop where
  now : 0 ≤ m.Now ∧ m.Now ≤ n
  acc : 0 ≤ m.Acc ∧ m.Acc ≤ n
  lie : 0 ≤ m.Lie ∧ m.Lie ≤ n
  dawn : 0 ≤ m.Dawn ∧ m.Dawn ≤ n
  day : 0 ≤ m.Day ∧ m.Day ≤ n
  longers : 0 ≤ m.Longers ∧ m.Longers ≤ n
  reduces : 0 ≤ m.Reduces ∧ m.Reduces ≤ n
  sabbath : 0 ≤ m.Sabbath ∧ m.Sabbath ≤ n
  week : 0 ≤ m.Week ∧ m.Week ≤ n
  last : 0 ≤ m.Last ∧ m.Last ≤ n
  labour : 0 ≤ m.Labour ∧ m.Labour ≤ n

theorem Meter.May.lim {m : Meter} (h : m.May) : m.Lim 40320 := by
  obtain ⟨h1, h2, h3, h4, h5, h6, h7, h8, h9, h10, h11⟩ := h
  constructor <;> omega
theorem Meter.Lim.small {n : Int} {m : Meter} (h : m.Lim n) (hn : n ≤ 100000) : m.Small := by
  obtain ⟨h1, h2, h3, h4, h5, h6, h7, h8, h9, h10, h11⟩ := h
  constructor <;> omega
theorem Meter.Lim.rise1 {n : Int} {m : Meter} (h : m.Lim n) (w : Worth) : (m.rise1 w).Lim n := by
  obtain ⟨h1, h2, h3, h4, h5, h6, h7, h8, h9, h10, h11⟩ := h
  unfold Meter.rise1; split <;> constructor <;> (try dsimp only) <;> omega
theorem Meter.Lim.rise2 {n : Int} {m : Meter} (h : m.Lim n) (w : Worth) : (m.rise2 w).Lim (n + 1) := by
  obtain ⟨h1, h2, h3, h4, h5, h6, h7, h8, h9, h10, h11⟩ := h
  unfold Meter.rise2; split <;> constructor <;> (try dsimp only) <;> omega
theorem Meter.Lim.rise3 {n : Int} {m : Meter} (h : m.Lim n) (w : Worth) : (m.rise3 w).Lim n := by
  obtain ⟨h1, h2, h3, h4, h5, h6, h7, h8, h9, h10, h11⟩ := h
  unfold Meter.rise3; split <;> constructor <;> (try dsimp only) <;> omega
theorem Meter.Lim.rise4 {n : Int} {m : Meter} (h : m.Lim n) (w : Worth) : (m.rise4 w).Lim n := by
  obtain ⟨h1, h2, h3, h4, h5, h6, h7, h8, h9, h10, h11⟩ := h
  unfold Meter.rise4; constructor <;> (try dsimp only) <;> omega
theorem Meter.Lim.rise5 {n : Int} {m : Meter} (h : m.Lim n) (w : Worth) : (m.rise5 w).Lim n := by
  obtain ⟨h1, h2, h3, h4, h5, h6, h7, h8, h9, h10, h11⟩ := h
  unfold Meter.rise5; split <;> constructor <;> (try dsimp only) <;> omega
theorem Meter.Lim.rise6 {n : Int} {m : Meter} (h : m.Lim n) : (m.rise6).Lim n := by
  obtain ⟨h1, h2, h3, h4, h5, h6, h7, h8, h9, h10, h11⟩ := h
  unfold Meter.rise6; constructor <;> (try dsimp only) <;> omega
theorem Meter.Lim.more {n : Int} {m : Meter} (h : m.Lim n) : m.Lim (n + 1) := by
  obtain ⟨h1, h2, h3, h4, h5, h6, h7, h8, h9, h10, h11⟩ := h
  constructor <;> omega
theorem Meter.Lim.up {n : Int} {m : Meter} (h : m.Lim n) (b : Book) : (m.up b).Lim (n + 1) := by
  unfold Meter.up; split
  · exact (((((h.rise1 _).rise2 _).rise3 _).rise4 _).rise5 _).rise6
  · exact h.more
theorem Meter.Lim.driven {n : Int} {m : Meter} (h : m.Lim n) (b : Book) (k : Int) : (m.driven b k).Lim (n + 1) := by
  obtain ⟨h1, h2, h3, h4, h5, h6, h7, h8, h9, h10, h11⟩ := h
  unfold Meter.driven; split
  · unfold Meter.drove Meter.droveL; constructor <;> (try dsimp only) <;> (try split) <;> omega
  · constructor <;> omega
theorem Meter.Lim.worked {n : Int} {m : Meter} (h : m.Lim n) (k : Int) : (m.worked k).Lim (n + 1) := by
  obtain ⟨h1, h2, h3, h4, h5, h6, h7, h8, h9, h10, h11⟩ := h
  unfold Meter.worked; split <;> constructor <;> (try dsimp only) <;> omega

end Go.Hl

/- The contract of a minute of any kind. -/
set_option linter.unusedVariables false
set_option linter.unusedSimpArgs false
namespace Go.Hl
open Go.Gh Go.Proofs

theorem minute_ok (b : Book) (m : Meter) (k bits : Int) (hb : b.May) (hm : m.May) :
    ICalls Try.prog 138 [.ptr 0 0, gi k] [runC b m bits] (Done (.tup []) [runC b (m.step b k) (stepBits b m k bits)]) := by
  have hl : (m.turn b).Lim 40320 := hm.turn.lim
  by_cases hk : k = 0
  · subst hk
    rw [show m.step b 0 = _ from if_pos rfl, show stepBits b m 0 bits = _ from if_pos rfl]
    exact minute0_ok b m bits hb (hl.small (by omega))
  · rw [show m.step b k = _ from if_neg hk, show stepBits b m k bits = _ from if_neg hk]
    refine minuteK_ok b m (m.turn b) ((m.turn b).up b) (((m.turn b).up b).driven b k) _ bits (upBits b (m.turn b) bits) _ _ _ k hb hk rfl ((hl.up b).small (by omega)) (((hl.up b).driven b k).small (by omega)) ((((hl.up b).driven b k).worked k).small (by omega)) (fun h => ?_) (fun h => ?_) rfl rfl rfl rfl rfl
    · rw [show (m.turn b).up b = (m.turn b).rose b from if_pos h, show upBits b (m.turn b) bits = roseBits b (m.turn b) bits from if_pos h]
      exact rise_ok b (m.turn b) bits hb hm.turn h _ rfl _ _ _ _ _ _ _ rfl rfl rfl rfl rfl rfl rfl (by have := (hl.rise1 ((m.turn b).worth b)).reduces; omega)
    · exact ⟨if_neg h, if_neg h⟩

end Go.Hl

/- A meter may be behind each minute; the run of minutes, in plain terms. -/
set_option linter.unusedVariables false
set_option linter.unusedSimpArgs false
namespace Go.Hl
open Go.Gh Go.Proofs

/-- Behind a rest: as May, but the reduced rests may be one more. -/
structure Meter.Near (m : Meter) : Prop where
  now : 0 ≤ m.Now ∧ m.Now ≤ 40320
  acc : 0 ≤ m.Acc ∧ m.Acc ≤ m.Now
  lie : 0 ≤ m.Lie ∧ m.Lie ≤ m.Now
  dawn : 0 ≤ m.Dawn ∧ m.Dawn ≤ m.Now
  day : 0 ≤ m.Day ∧ m.Day ≤ m.Now
  longers : 0 ≤ m.Longers ∧ m.Longers ≤ m.Now
  reduces : 0 ≤ m.Reduces ∧ m.Reduces ≤ m.Now + 1
  sabbath : 0 ≤ m.Sabbath ∧ m.Sabbath ≤ m.Now
  week : 0 ≤ m.Week ∧ m.Week ≤ m.Now
  last : 0 ≤ m.Last ∧ m.Last ≤ m.Now
  labour : 0 ≤ m.Labour ∧ m.Labour ≤ m.Now

/-- Now is n; all is at most n, the reduced rests at most r. -/
structure Meter.In (n r : Int) (m : Meter) : Prop where
  now : m.Now = n
  acc : 0 ≤ m.Acc ∧ m.Acc ≤ n
  lie : 0 ≤ m.Lie ∧ m.Lie ≤ n
  dawn : 0 ≤ m.Dawn ∧ m.Dawn ≤ n
  day : 0 ≤ m.Day ∧ m.Day ≤ n
  longers : 0 ≤ m.Longers ∧ m.Longers ≤ n
  reduces : 0 ≤ m.Reduces ∧ m.Reduces ≤ r
  sabbath : 0 ≤ m.Sabbath ∧ m.Sabbath ≤ n
  week : 0 ≤ m.Week ∧ m.Week ≤ n
  last : 0 ≤ m.Last ∧ m.Last ≤ n
  labour : 0 ≤ m.Labour ∧ m.Labour ≤ n
theorem Meter.In.rise1 {n r : Int} {m : Meter} (h : m.In n r) (hr : 0 ≤ r) (w : Worth) : (m.rise1 w).In n r := by
  obtain ⟨h1, h2, h3, h4, h5, h6, h7, h8, h9, h10, h11⟩ := h
  unfold Meter.rise1; split <;> constructor <;> (try dsimp only) <;> omega
theorem Meter.In.rise2 {n r : Int} {m : Meter} (h : m.In n r) (hr : 0 ≤ r) (w : Worth) : (m.rise2 w).In n (r + 1) := by
  obtain ⟨h1, h2, h3, h4, h5, h6, h7, h8, h9, h10, h11⟩ := h
  unfold Meter.rise2; split <;> constructor <;> (try dsimp only) <;> omega
theorem Meter.In.rise3 {n r : Int} {m : Meter} (h : m.In n r) (hr : 0 ≤ r) (w : Worth) : (m.rise3 w).In n r := by
  obtain ⟨h1, h2, h3, h4, h5, h6, h7, h8, h9, h10, h11⟩ := h
  unfold Meter.rise3; split <;> constructor <;> (try dsimp only) <;> omega
theorem Meter.In.rise4 {n r : Int} {m : Meter} (h : m.In n r) (hr : 0 ≤ r) (w : Worth) : (m.rise4 w).In n r := by
  obtain ⟨h1, h2, h3, h4, h5, h6, h7, h8, h9, h10, h11⟩ := h
  unfold Meter.rise4; constructor <;> (try dsimp only) <;> omega
theorem Meter.In.rise5 {n r : Int} {m : Meter} (h : m.In n r) (hr : 0 ≤ r) (w : Worth) : (m.rise5 w).In n r := by
  obtain ⟨h1, h2, h3, h4, h5, h6, h7, h8, h9, h10, h11⟩ := h
  unfold Meter.rise5; split <;> constructor <;> (try dsimp only) <;> omega
theorem Meter.In.rise6 {n r : Int} {m : Meter} (h : m.In n r) : (m.rise6).In n r := by
  obtain ⟨h1, h2, h3, h4, h5, h6, h7, h8, h9, h10, h11⟩ := h
  unfold Meter.rise6; constructor <;> (try dsimp only) <;> omega
theorem Meter.May.up_near {b : Book} {m : Meter} (h : m.May) : (m.up b).Near ∧ (m.up b).Now = m.Now := by
  obtain ⟨h1, h2, h3, h4, h5, h6, h7, h8, h9, h10, h11⟩ := h
  have hi : m.In m.Now m.Now := ⟨rfl, h2, h3, h4, h5, h6, h7, h8, h9, h10, h11⟩
  have hu : (m.up b).In m.Now (m.Now + 1) := by
    unfold Meter.up
    split
    · exact (((((hi.rise1 h1.1 _).rise2 h1.1 _).rise3 (by omega) _).rise4 (by omega) _).rise5 (by omega) _).rise6
    · exact ⟨rfl, h2, h3, h4, h5, h6, by omega, h8, h9, h10, h11⟩
  obtain ⟨g1, g2, g3, g4, g5, g6, g7, g8, g9, g10, g11⟩ := hu
  exact ⟨by constructor <;> omega, g1⟩
theorem Meter.May.step {b : Book} {m : Meter} (h : m.May) (hn : m.Now < 40320) (k : Int) : (m.step b k).May ∧ (m.step b k).Now = m.Now + 1 := by
  have ht := h.turn (b := b)
  have hn' : (m.turn b).Now = m.Now := by unfold Meter.turn; split <;> rfl
  unfold Meter.step
  split
  · obtain ⟨h1, h2, h3, h4, h5, h6, h7, h8, h9, h10, h11⟩ := ht
    refine ⟨?_, by dsimp only; omega⟩
    constructor <;> (try dsimp only) <;> omega
  · obtain ⟨⟨h1, h2, h3, h4, h5, h6, h7, h8, h9, h10, h11⟩, hu⟩ := ht.up_near (b := b)
    generalize (m.turn b).up b = u at *
    unfold Meter.worked Meter.driven Meter.drove Meter.droveL
    split <;> split <;> (refine ⟨?_, by dsimp only; omega⟩; constructor <;> (try dsimp only) <;> (try split) <;> omega)

end Go.Hl

/- The contract of a run of minutes.  -/
set_option linter.unusedVariables false
set_option linter.unusedSimpArgs false
namespace Go.Hl
open Go.Gh Go.Proofs

def Meter.zero : Meter := ⟨0, 0, false, 0, 0, 0, 0, false, 0, 0, false, 0, 0, 0⟩
def runM (b : Book) : List Int → Meter → Int → Meter × Int × Int
  | [], m, bits => (m, bits, 0)
  | k :: r, m, bits => if k < 0 ∨ 4 ≤ k then (Meter.zero, 0, 2) else if m.Now = 40320 then (Meter.zero, 0, 4) else runM b r (m.step b k) (stepBits b m k bits)
def runAll (b : Book) (m : Meter) (ks : List Int) : Meter × Int × Int := if b.May then (if m.May then runM b ks m 0 else (Meter.zero, 0, 1)) else (Meter.zero, 0, 14)
def runV (r : Meter × Int × Int) : GV := .tup [r.1.g, gi r.2.1, gi r.2.2]
abbrev ints (ks : List Int) : List GV := ks.map gi
end Go.Hl
