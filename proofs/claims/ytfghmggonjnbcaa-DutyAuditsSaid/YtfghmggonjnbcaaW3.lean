/- Contracts of functions, bundle W3; proved for whatever the arguments' types allow, as each theorem says. -/
import Derived.Test.YtfghmggonjnbcaaW1
import Derived.Test.YtfghmggonjnbcaaH9
import Derived.Test.YtfghmggonjnbcaaV2
import Derived.Test.YtfghmggonjnbcaaH5
import Derived.Test.YtfghmggonjnbcaaF0

/- Chapter 16: a record is swept, a timeline audited.  -/
set_option linter.unusedVariables false
set_option linter.unusedSimpArgs false
namespace Go.Hl
open Go.Gh Go.Proofs

structure SW where
  m : Meter
  rest : Int
  x : NS
def bS (b : Book) (k n : Int) (w : SW) : SW := ⟨stN b k n.toNat w.m, restOf b w.m w.rest k, ntTo b w.m w.rest (fiN b k n.toNat w.m F10.none) 10 w.x⟩
def sweptS (b : Book) (r : Rec) (w : SW) : SW := if r.Kind ≠ 0 ∧ 0 < w.m.Lie ∧ 1 < r.To - r.From then bS b r.Kind (r.To - r.From - 1) (bS b r.Kind 1 w) else bS b r.Kind (r.To - r.From) w
def swAll (b : Book) : List Rec → SW → SW
  | [], w => w
  | r :: l, w => swAll b l (sweptS b r w)
def SW.start : SW := ⟨Meter.zero, 0, ⟨0, [], 0⟩⟩

theorem NInv16.ntC {b : Book} {m : Meter} {rest : Int} {F : F10} {x : NS} (h : NInv16 x) (c : Nat) : NInv16 (ntC b m rest F c x) := by
  unfold Go.Hl.ntC
  split
  · exact h.note c _ _
  · exact h
theorem NInv16.ntTo {b : Book} {m : Meter} {rest : Int} {F : F10} {x : NS} (h : NInv16 x) : ∀ c : Nat, NInv16 (ntTo b m rest F c x)
  | 0 => h
  | c + 1 => (NInv16.ntTo h c).ntC c
structure AOk (w : SW) (N : Nat) : Prop where
  may : w.m.May
  s : w.x.s < 1024
  len : w.x.out.length ≤ N
  nt : NInv16 w.x
theorem AOk.block {b : Book} {w : SW} {N : Nat} {k n : Int} (h : AOk w N) (hn : 0 ≤ n) (hN : w.m.Now + n ≤ 40320) : AOk (bS b k n w) (N + 10) ∧ (bS b k n w).m.Now = w.m.Now + n := by
  have h1 := stN_May (b := b) (k := k) h.may n.toNat (by omega)
  have e : ((n.toNat : Nat) : Int) = n := by omega
  rw [e] at h1
  refine ⟨⟨h1.1, ntTo_s h.s 10 (by omega), ?_, h.nt.ntTo 10⟩, h1.2⟩
  have := @ntTo_len b w.m w.rest (fiN b k n.toNat w.m F10.none) w.x 10
  have := h.len
  show (Go.Hl.ntTo b w.m w.rest (fiN b k n.toNat w.m F10.none) 10 w.x).out.length ≤ _
  omega
theorem AOk.more {w : SW} {N M : Nat} (h : AOk w N) (hm : N ≤ M) : AOk w M := ⟨h.may, h.s, Nat.le_trans h.len hm, h.nt⟩
theorem AOk.swept {b : Book} {w : SW} {N : Nat} {r : Rec} (h : AOk w N) (hr : recErr r = 0) (hN : r.From = w.m.Now) : AOk (sweptS b r w) (N + 20) ∧ (sweptS b r w).m.Now = r.To := by
  have h1 := recErr_inv hr
  unfold sweptS
  split
  · rename_i hc
    obtain ⟨a1, a2⟩ := h.block (b := b) (k := r.Kind) (n := 1) (by omega) (by omega)
    obtain ⟨c1, c2⟩ := a1.block (b := b) (k := r.Kind) (n := r.To - r.From - 1) (by omega) (by omega)
    exact ⟨c1, by omega⟩
  · obtain ⟨a1, a2⟩ := h.block (b := b) (k := r.Kind) (n := r.To - r.From) (by omega) (by omega)
    exact ⟨a1.more (by omega), by omega⟩
theorem early_at {f : F10} {x : Int} (h : f.Early x) : ∀ i, i < 10 → f.at i ≤ x
  | 0, _ => h.1
  | 1, _ => h.2
  | 2, _ => h.3
  | 3, _ => h.4
  | 4, _ => h.5
  | 5, _ => h.6
  | 6, _ => h.7
  | 7, _ => h.8
  | 8, _ => h.9
  | 9, _ => h.10
  | n + 10, h => by omega

theorem blockS_ok (b : Book) (k n : Int) (w : SW) (hb : b.May) {N : Nat} (h : AOk w N) (hNN : N ≤ 100000) (hk : 0 ≤ k ∧ k ≤ 3) (hn : 0 ≤ n) (hN : w.m.Now + n ≤ 40320) :
    ICalls Try.prog 27 [.ptr 0 0, gi k, gi n, .fn (.func 14) [] [.ptr 1 0, .ptr 2 0]] [.cells (swpC b w.m w.rest), .cells [gi w.x.s], .cells [.ms 3 3 w.x.v w.x.out.length], .mvec 38 3 (fnds w.x.out) w.x.v]
      (Done (gi 0) [.cells (swpC b (bS b k n w).m (bS b k n w).rest), .cells [gi (bS b k n w).x.s], .cells [.ms 3 3 (bS b k n w).x.v (bS b k n w).x.out.length], .mvec 38 3 (fnds (bS b k n w).x.out) (bS b k n w).x.v]) := by
  have ho := over_ok b w.m k n
  have hc : check14 b w.m k n = 0 := by
    unfold check14
    rw [if_pos hb, if_pos h.may, if_neg (by omega), if_neg (by omega)]
  rw [overAllS, if_pos hc] at ho
  have hF := fiN_early (b := b) (k := k) h.may (none_early h.may.now.1) n.toNat (by omega)
  exact block_ok b w.m w.rest k n hb h.may _ _ ho (fun i hi => by have := early_at hF i hi; omega) w.x h.s (by have := h.len; omega)

set_option maxRecDepth 100000 in
set_option maxHeartbeats 1000000 in
theorem swept_ok (b : Book) (r : Rec) (w : SW) (hb : b.May) {N : Nat} (h : AOk w N) (hNN : N ≤ 90000) (hr : recErr r = 0) (hN : r.From = w.m.Now) :
    ICalls Try.prog 16 [.ptr 0 0, r.g, .fn (.func 14) [] [.ptr 1 0, .ptr 2 0]] [.cells (swpC b w.m w.rest), .cells [gi w.x.s], .cells [.ms 3 3 w.x.v w.x.out.length], .mvec 38 3 (fnds w.x.out) w.x.v]
      (Done (gi 0) [.cells (swpC b (sweptS b r w).m (sweptS b r w).rest), .cells [gi (sweptS b r w).x.s], .cells [.ms 3 3 (sweptS b r w).x.v (sweptS b r w).x.out.length], .mvec 38 3 (fnds (sweptS b r w).x.out) (sweptS b r w).x.v]) := by
  have h1 := recErr_inv hr
  unfold sweptS
  by_cases hc : r.Kind ≠ 0 ∧ 0 < w.m.Lie ∧ 1 < r.To - r.From
  case pos =>
    rw [if_pos hc]
    obtain ⟨a1, a2⟩ := h.block (b := b) (k := r.Kind) (n := 1) (by omega) (by omega)
    have q1 := blockS_ok b r.Kind 1 w hb h (by omega) (by omega) (by omega) (by omega)
    have q2 := blockS_ok b r.Kind (r.To - r.From - 1) (bS b r.Kind 1 w) hb a1 (by omega) (by omega) (by omega) (by omega)
    generalize bS b r.Kind (r.To - r.From - 1) (bS b r.Kind 1 w) = w2 at *
    generalize bS b r.Kind 1 w = w1 at *
    refine ICalls.of_body Try.func16 rfl Try.call16 rfl (Nat.le_of_ble_eq_true rfl) (fun _ => none) rfl ?_
    repeat' ((conv => whnf); first
      | refine Br.yes rfl ?_
      | refine Br.no rfl ?_
      | refine Br.yes (beq_self_eq_true _) ?_
      | refine Br.not ?_
      | refine Br.yes (decide_eq_true (by assumption)) ?_
      | refine Br.no (decide_eq_false (by assumption)) ?_
      | refine Br.yes (beq_iff_eq.2 (by assumption)) ?_
      | refine Br.no (beq_eq_false_iff_ne.2 (by assumption)) ?_
      | refine Br.yes (bne_iff_ne.2 (by assumption)) ?_
      | (refine Br.dec (fun h => ?_) (fun h => ?_) <;> try dsimp only at h)
      | (refine Br.beqI (fun h => ?_) (fun h => ?_) <;> try dsimp only at h)
      | (refine Br.bneI (fun h => ?_) (fun h => ?_) <;> try dsimp only at h)
      | refine Br.mk (fun h => ?_) (fun h => ?_)
      | refine Need.mk (by first | kernel_rfl | exact ⟨of_decide_eq_true rfl, of_decide_eq_true rfl⟩ | omega) ?_
      | refine Len.mk ⟨_, by simp only [List.length_cons, List.length_nil, Nat.reduceAdd, Int.cast_ofNat_Int]; rfl, ?_⟩
      | refine Wr.lit _ (by simp only [Int.reduceAdd, Int.reduceSub, Int.reduceMul]; rfl) (by decide) ?_
      | refine Wr.fit (by omega) ?_
      | refine Wr.fit (by dsimp only; omega) ?_
      | refine Elem.mk ⟨_, ⟨of_decide_eq_true rfl, rfl⟩, ?_⟩
      | refine Len.map ?_
      | refine Len.dropM ?_
      | refine Elem.dropM ?_
      | refine Len.takeM ?_
      | refine Elem.takeM ?_
      | refine Elem.mapK (by assumption) ?_
      | refine Elem.mapI (by omega) (by assumption) ?_
      | refine Elem.mapN (by omega) (fun x hx => ?_)
      | refine Elem.map (by omega) (by omega) (fun x hx => ?_)
      | refine (q1).use ⟨rfl, ?_⟩
      | refine (q2).use ⟨rfl, ?_⟩
      | refine CallX.mk ⟨_, _, (q1).x, rfl, ?_⟩
      | refine CallX.mk ⟨_, _, (q2).x, rfl, ?_⟩
      | refine Done.mk ⟨rfl, rfl⟩
      | refine Done.mk ⟨congrArg gb ?_, rfl⟩
      | refine Done.mk ⟨?_, rfl⟩
      | refine Done.mk ⟨?_, ?_⟩)
    all_goals omega
  case neg =>
    rw [if_neg hc]
    have q1 := blockS_ok b r.Kind (r.To - r.From) w hb h (by omega) (by omega) (by omega) (by omega)
    generalize bS b r.Kind (r.To - r.From) w = w1 at *
    refine ICalls.of_body Try.func16 rfl Try.call16 rfl (Nat.le_of_ble_eq_true rfl) (fun _ => none) rfl ?_
    repeat' ((conv => whnf); first
      | refine Br.yes rfl ?_
      | refine Br.no rfl ?_
      | refine Br.yes (beq_self_eq_true _) ?_
      | refine Br.not ?_
      | refine Br.yes (decide_eq_true (by assumption)) ?_
      | refine Br.no (decide_eq_false (by assumption)) ?_
      | refine Br.yes (beq_iff_eq.2 (by assumption)) ?_
      | refine Br.no (beq_eq_false_iff_ne.2 (by assumption)) ?_
      | refine Br.yes (bne_iff_ne.2 (by assumption)) ?_
      | (refine Br.dec (fun h => ?_) (fun h => ?_) <;> try dsimp only at h)
      | (refine Br.beqI (fun h => ?_) (fun h => ?_) <;> try dsimp only at h)
      | (refine Br.bneI (fun h => ?_) (fun h => ?_) <;> try dsimp only at h)
      | refine Br.mk (fun h => ?_) (fun h => ?_)
      | refine Need.mk (by first | kernel_rfl | exact ⟨of_decide_eq_true rfl, of_decide_eq_true rfl⟩ | omega) ?_
      | refine Len.mk ⟨_, by simp only [List.length_cons, List.length_nil, Nat.reduceAdd, Int.cast_ofNat_Int]; rfl, ?_⟩
      | refine Wr.lit _ (by simp only [Int.reduceAdd, Int.reduceSub, Int.reduceMul]; rfl) (by decide) ?_
      | refine Wr.fit (by omega) ?_
      | refine Wr.fit (by dsimp only; omega) ?_
      | refine Elem.mk ⟨_, ⟨of_decide_eq_true rfl, rfl⟩, ?_⟩
      | refine Len.map ?_
      | refine Len.dropM ?_
      | refine Elem.dropM ?_
      | refine Len.takeM ?_
      | refine Elem.takeM ?_
      | refine Elem.mapK (by assumption) ?_
      | refine Elem.mapI (by omega) (by assumption) ?_
      | refine Elem.mapN (by omega) (fun x hx => ?_)
      | refine Elem.map (by omega) (by omega) (fun x hx => ?_)
      | refine (q1).use ⟨rfl, ?_⟩
      | refine CallX.mk ⟨_, _, (q1).x, rfl, ?_⟩
      | refine Done.mk ⟨rfl, rfl⟩
      | refine Done.mk ⟨congrArg gb ?_, rfl⟩
      | refine Done.mk ⟨?_, rfl⟩
      | refine Done.mk ⟨?_, ?_⟩)
    all_goals omega

end Go.Hl

/- Chapter 16: a timeline up to a minute; what is found in it.  -/
set_option linter.unusedVariables false
set_option linter.unusedSimpArgs false
namespace Go.Hl
open Go.Gh Go.Proofs

def cutR (m : Int) (r : Rec) : Rec := ⟨r.Kind, r.From, if m < r.To then m else r.To⟩
def uptoL (m : Int) : List Rec → List Rec
  | [] => []
  | r :: l => if r.From < m then cutR m r :: uptoL m l else uptoL m l
theorem dutyErr_0 {b : Book} {l : List Rec} (h : dutyErr b l = 0) : b.May ∧ (recsErr 0 none l).2 = 0 ∧ beginOf l = 0 ∧ Chain 0 l := by
  unfold dutyErr at h
  split at h
  · rename_i hb
    split at h
    · rename_i hr
      have hc := chain_first hr
      split at h
      · cases h
      · rename_i hl
        have hbeg : beginOf l = 0 := by
          cases l with
          | nil => rfl
          | cons r t => simpa [late0, beginOf] using hl
        rw [hbeg] at hc
        refine ⟨?_, hr, hbeg, hc⟩
        unfold Book.code at hb
        split at hb
        · assumption
        · cases hb
    · rename_i hr; exact absurd h hr
  · rename_i hb; exact absurd h hb
end Go.Hl

/- Chapter 16: a timeline audited; the clauses that are found are those that are broken minute by minute.  -/
set_option linter.unusedVariables false
set_option linter.unusedSimpArgs false
namespace Go.Hl
open Go.Gh Go.Proofs

def auditF (b : Book) (l : List Rec) : List Fnd := if dutyErr b l = 0 then sortF (swAll b l SW.start).x.out else []
theorem AOk.start : AOk SW.start 0 := ⟨zero_May, by decide, Nat.le_refl _, .start⟩
theorem sw_next {b : Book} {l : List Rec} {i : Nat} {x : Rec} {w W : SW} (hx : l[i]? = some x) (h : swAll b (l.drop i) w = W) : swAll b (l.drop (i + 1)) (sweptS b x w) = W := by
  rw [drop_of_get hx, swAll] at h; exact h
theorem sw_end {b : Book} {l : List Rec} {i : Nat} {w W : SW} (hi : ¬ (i : Int) < l.length) (h : swAll b (l.drop i) w = W) : w = W := by
  rw [List.drop_eq_nil_of_le (by omega), swAll] at h; exact h

theorem aud_step {b : Book} {l : List Rec} {i : Nat} {x : Rec} {w W : SW} (hA : AOk w (20 * i)) (hC : Chain w.m.Now (l.drop i)) (hx : l[i]? = some x) (hw : swAll b (l.drop i) w = W) (h : (i : Int) < l.length) :
    i + 1 ≤ l.length ∧ (AOk (sweptS b x w) (20 * (i + 1)) ∧ Chain (sweptS b x w).m.Now (l.drop (i + 1))) ∧ swAll b (l.drop (i + 1)) (sweptS b x w) = W := by
  have hg := chain_get hC hx
  have hs := hA.swept (b := b) hg.2.1 hg.1
  exact ⟨by omega, ⟨hs.1.more (by omega), by rw [hs.2]; exact hg.2.2⟩, sw_next hx hw⟩

def pl_W4_1 : Nat → Option (List Nat × List Nat) := (fun k => bif Nat.beq k 9 then some ([1000009, 7, 9, 10, 24, 25, 26], [107, 108, 123]) else none)
def pl_W4_2 : Nat → Option (List Nat × List Nat) := (fun k => bif Nat.beq k 9 then some ([1000009, 7, 9, 10, 24, 25, 26, 5000007, 6000038], [107, 108, 123, 50107]) else bif Nat.beq k 5000007 then some ([], []) else bif Nat.beq k 6000038 then some ([], []) else none)
set_option maxRecDepth 100000 in
set_option maxHeartbeats 1000000 in
theorem audit_ok (b : Book) (l : List Rec) (hl : (l.length : Int) ≤ 1000) : ICalls Try.prog 6 [b.g, .list 3 (recs l) none] [] (Done (.tup [.list 3 (fnds (auditF b l)) none, gi (dutyErr b l)]) []) := by
  have h1 := dutyCheck_ok b l (by omega)
  unfold auditF
  by_cases he : dutyErr b l = 0
  case neg =>
    rw [if_neg he]
    generalize dutyErr b l = e at *
    refine ICalls.of_body Try.func6 rfl Try.call6 rfl (Nat.le_of_ble_eq_true rfl) pl_W4_1 rfl ?_
    repeat' ((conv => whnf); first
      | refine Br.yes rfl ?_
      | refine Br.no rfl ?_
      | refine Br.yes (beq_self_eq_true _) ?_
      | refine Br.not ?_
      | refine Br.yes (decide_eq_true (by assumption)) ?_
      | refine Br.no (decide_eq_false (by assumption)) ?_
      | refine Br.yes (beq_iff_eq.2 (by assumption)) ?_
      | refine Br.no (beq_eq_false_iff_ne.2 (by assumption)) ?_
      | refine Br.yes (bne_iff_ne.2 (by assumption)) ?_
      | (refine Br.dec (fun h => ?_) (fun h => ?_) <;> try dsimp only at h)
      | (refine Br.beqI (fun h => ?_) (fun h => ?_) <;> try dsimp only at h)
      | (refine Br.bneI (fun h => ?_) (fun h => ?_) <;> try dsimp only at h)
      | refine Br.mk (fun h => ?_) (fun h => ?_)
      | refine Need.mk (by first | kernel_rfl | exact ⟨of_decide_eq_true rfl, of_decide_eq_true rfl⟩ | omega) ?_
      | refine Len.mk ⟨_, by simp only [List.length_cons, List.length_nil, Nat.reduceAdd, Int.cast_ofNat_Int]; rfl, ?_⟩
      | refine Wr.lit _ (by simp only [Int.reduceAdd, Int.reduceSub, Int.reduceMul]; rfl) (by decide) ?_
      | refine Wr.fit (by omega) ?_
      | refine Wr.fit (by dsimp only; omega) ?_
      | refine Elem.mk ⟨_, ⟨of_decide_eq_true rfl, rfl⟩, ?_⟩
      | refine Len.map ?_
      | refine Len.dropM ?_
      | refine Elem.dropM ?_
      | refine Len.takeM ?_
      | refine Elem.takeM ?_
      | refine Elem.mapK (by assumption) ?_
      | refine Elem.mapI (by omega) (by assumption) ?_
      | refine Elem.mapN (by omega) (fun x hx => ?_)
      | refine Elem.map (by omega) (by omega) (fun x hx => ?_)
      | refine (h1).use ⟨rfl, ?_⟩
      | refine CallX.mk ⟨_, _, (h1).x, rfl, ?_⟩
      | refine Done.mk ⟨rfl, rfl⟩
      | refine Done.mk ⟨congrArg gb ?_, rfl⟩
      | refine Done.mk ⟨?_, rfl⟩
      | refine Done.mk ⟨?_, ?_⟩)
    all_goals omega
  case pos =>
    rw [if_pos he, he]
    rw [he] at h1
    obtain ⟨hb, _, _, hc⟩ := dutyErr_0 he
    clear he
    generalize hW : swAll b l SW.start = W
    refine ICalls.of_body Try.func6 rfl Try.call6 rfl (Nat.le_of_ble_eq_true rfl) pl_W4_2 rfl ?_
    repeat' ((conv => whnf); first
      | refine Br.yes rfl ?_
      | refine Br.no rfl ?_
      | (refine Elem.mapN (by omega) (fun x hx => ?_))
      | (refine ILoop.ov 1000009 (fun ((i, m, rest, s, out, v) : Nat × Meter × Int × Nat × List Fnd × Nat) => [(26, gi i)]) (fun ((i, m, rest, s, out, v) : Nat × Meter × Int × Nat × List Fnd × Nat) => [(123, .cells (swpC b m rest)), (108, .cells ([gi s])), (107, .cells [.ms 3 50107 v out.length]), (50107, .mvec 38 3 (fnds out) v)]) (fun ((i, m, rest, s, out, v) : Nat × Meter × Int × Nat × List Fnd × Nat) => i ≤ l.length ∧ (AOk ⟨m, rest, ⟨s, out, v⟩⟩ (20 * i) ∧ Chain m.Now (l.drop i)) ∧ swAll b (l.drop i) ⟨m, rest, ⟨s, out, v⟩⟩ = W) (fun ((i, m, rest, s, out, v) : Nat × Meter × Int × Nat × List Fnd × Nat) => l.length - i) ((0, Meter.zero, 0, 0, [], 0)) (by exact rfl) ?_; (conv => whnf); refine Start.mk rfl ?_ ?_; (try dsimp only); rotate_left; rintro ⟨i, m, rest, s, out, v⟩ ⟨hi, ⟨hA, hC⟩, hw⟩)
      | (refine Again.mk ⟨((i + 1, _, _, _, _, _)), rfl, ?_, ?_⟩ <;> try dsimp only)
      | refine Br.yes (beq_self_eq_true _) ?_
      | refine Br.not ?_
      | refine Br.yes (decide_eq_true (by assumption)) ?_
      | refine Br.no (decide_eq_false (by assumption)) ?_
      | refine Br.yes (beq_iff_eq.2 (by assumption)) ?_
      | refine Br.no (beq_eq_false_iff_ne.2 (by assumption)) ?_
      | refine Br.yes (bne_iff_ne.2 (by assumption)) ?_
      | (refine Br.dec (fun h => ?_) (fun h => ?_) <;> try dsimp only at h)
      | (refine Br.beqI (fun h => ?_) (fun h => ?_) <;> try dsimp only at h)
      | (refine Br.bneI (fun h => ?_) (fun h => ?_) <;> try dsimp only at h)
      | refine Br.mk (fun h => ?_) (fun h => ?_)
      | refine Need.mk (by first | kernel_rfl | exact ⟨of_decide_eq_true rfl, of_decide_eq_true rfl⟩ | omega) ?_
      | refine Len.mk ⟨_, by simp only [List.length_cons, List.length_nil, Nat.reduceAdd, Int.cast_ofNat_Int]; rfl, ?_⟩
      | refine Wr.lit _ (by simp only [Int.reduceAdd, Int.reduceSub, Int.reduceMul]; rfl) (by decide) ?_
      | refine Wr.fit (by omega) ?_
      | refine Wr.fit (by dsimp only; omega) ?_
      | refine Elem.mk ⟨_, ⟨of_decide_eq_true rfl, rfl⟩, ?_⟩
      | refine Len.map ?_
      | refine Len.dropM ?_
      | refine Elem.dropM ?_
      | refine Len.takeM ?_
      | refine Elem.takeM ?_
      | refine Elem.mapK (by assumption) ?_
      | refine Elem.mapI (by omega) (by assumption) ?_
      | refine Elem.mapN (by omega) (fun x hx => ?_)
      | refine Elem.map (by omega) (by omega) (fun x hx => ?_)
      | refine (h1).use ⟨rfl, ?_⟩
      | refine (swept_ok b x ⟨m, rest, ⟨s, out, v⟩⟩ hb hA (by omega) (chain_get hC hx).2.1 (chain_get hC hx).1).use ⟨rfl, ?_⟩
      | refine (clauseSort_ok out (by have := hA.len; simp only at this; omega) hA.nt.nodup).use ⟨rfl, ?_⟩
      | refine CallX.mk ⟨_, _, (h1).x, rfl, ?_⟩
      | refine CallX.mk ⟨_, _, (swept_ok b x ⟨m, rest, ⟨s, out, v⟩⟩ hb hA (by omega) (chain_get hC hx).2.1 (chain_get hC hx).1).x, rfl, ?_⟩
      | refine CallX.mk ⟨_, _, (clauseSort_ok out (by have := hA.len; simp only at this; omega) hA.nt.nodup).x, rfl, ?_⟩
      | refine Done.mk ⟨rfl, rfl⟩
      | refine Done.mk ⟨congrArg gb ?_, rfl⟩
      | refine Done.mk ⟨?_, rfl⟩
      | refine Done.mk ⟨?_, ?_⟩)
    all_goals first
      | omega
      | exact aud_step hA hC hx hw h
      | exact congrArg (fun w : SW => GV.tup [GV.list 3 (fnds (sortF w.x.out)) none, gi 0]) (sw_end h hw)
      | exact ⟨by omega, ⟨AOk.start, hc⟩, hW⟩

/-! ### Minute by minute -/
def orN (b : Book) (k : Int) (m : Meter) : Nat → Nat
  | 0 => 0
  | n + 1 => orN b k m n ||| stepN b (stN b k n m) k
theorem orN_lt (b : Book) (k : Int) (m : Meter) : ∀ n, orN b k m n < 1024
  | 0 => (by show 0 < 1024; decide)
  | n + 1 => Nat.or_lt_two_pow (n := 10) (orN_lt b k m n) (stepN_lt b _ k)
theorem run_block {b : Book} {k : Int} {m : Meter} (hm : m.May) (hk : 0 ≤ k ∧ k ≤ 3) : ∀ (n : Nat) (r : List Int) (s : Nat), s < 1024 → m.Now + (n : Int) ≤ 40320 →
    runM b (List.replicate n k ++ r) m (s : Int) = runM b r (stN b k n m) ((s ||| orN b k m n : Nat) : Int)
  | 0, r, s, _, _ => by simp [orN, stN]
  | n + 1, r, s, hs, hN => by
    rw [List.replicate_succ', List.append_assoc, List.singleton_append, run_block hm hk n (k :: r) s hs (by omega), runM_cons]
    have h1 := stN_May (b := b) (k := k) hm n (by omega)
    rw [if_neg (by omega), if_neg (by omega), stepBits_or b _ k _ (Nat.or_lt_two_pow (n := 10) hs (orN_lt b k m n)), Nat.or_assoc]
    rfl
theorem at16_mark (f : F10) (q : Nat) (x : Int) : ∀ i, i < 10 → (f.mark q x).at i = markI (q.testBit i) x (f.at i)
  | 0, _ => rfl
  | 1, _ => rfl
  | 2, _ => rfl
  | 3, _ => rfl
  | 4, _ => rfl
  | 5, _ => rfl
  | 6, _ => rfl
  | 7, _ => rfl
  | 8, _ => rfl
  | 9, _ => rfl
  | n + 10, h => by omega
theorem at16_none : ∀ i, F10.none.at i = -1 := by
  intro i
  unfold F10.at
  split <;> rfl
theorem fi_bits {b : Book} {k : Int} {m : Meter} (hm : m.May) {d : Nat} (hd : d < 10) : ∀ n : Nat, m.Now + (n : Int) ≤ 40320 → (0 ≤ (fiN b k n m F10.none).at d ↔ (orN b k m n).testBit d = true)
  | 0, _ => by rw [fiN, at16_none, orN]; simp
  | n + 1, hN => by
    have ih := fi_bits (b := b) (k := k) hm hd n (by omega)
    have h1 := stN_May (b := b) (k := k) hm n (by omega)
    rw [fiN, at16_mark _ _ _ d hd, orN, Nat.testBit_or, Bool.or_eq_true, ← ih]
    unfold markI
    generalize (fiN b k n m F10.none).at d = f at *
    have := hm.now
    split
    · rename_i h; simp [h.1]; omega
    · rename_i h
      constructor
      · intro e; exact .inl e
      · rintro (e | e)
        · exact e
        · by_cases hf : f < 0
          · exact absurd ⟨e, hf⟩ h
          · omega
theorem nS_bits {s c d : Nat} : (nS s c).testBit d = true ↔ s.testBit d = true ∨ d = c := by
  unfold nS
  split
  · rename_i h
    constructor
    · exact fun e => .inl e
    · rintro (e | e)
      · exact e
      · subst e; exact h
  · rw [Nat.testBit_or, Bool.or_eq_true, Nat.testBit_two_pow]
    simp only [decide_eq_true_eq]
    constructor
    · rintro (e | e)
      · exact .inl e
      · exact .inr e.symm
    · rintro (e | e)
      · exact .inl e
      · exact .inr e.symm
theorem ntTo_bits {b : Book} {m : Meter} {rest : Int} {F : F10} {x : NS} {d : Nat} : ∀ c : Nat, (ntTo b m rest F c x).s.testBit d = true ↔ x.s.testBit d = true ∨ (d < c ∧ 0 ≤ F.at d)
  | 0 => by simp [ntTo]
  | c + 1 => by
    have ih := @ntTo_bits b m rest F x d c
    rw [ntTo]
    unfold ntC
    split
    · rename_i h
      simp only
      rw [nS_bits, ih]
      constructor
      · rintro ((e | e) | e)
        · exact .inl e
        · exact .inr ⟨by omega, e.2⟩
        · subst e; exact .inr ⟨by omega, h⟩
      · rintro (e | e)
        · exact .inl (.inl e)
        · by_cases hd : d = c
          · exact .inr hd
          · exact .inl (.inr ⟨by omega, e.2⟩)
    · rename_i h
      rw [ih]
      constructor
      · rintro (e | e)
        · exact .inl e
        · exact .inr ⟨by omega, e.2⟩
      · rintro (e | e)
        · exact .inl e
        · by_cases hd : d = c
          · subst hd; exact absurd e.2 h
          · exact .inr ⟨by omega, e.2⟩
theorem bS_bits {b : Book} {w : SW} {N : Nat} {k n : Int} (h : AOk w N) (hn : 0 ≤ n) (hN : w.m.Now + n ≤ 40320) : (bS b k n w).x.s = w.x.s ||| orN b k w.m n.toNat := by
  apply Nat.eq_of_testBit_eq
  intro d
  apply Bool.eq_iff_iff.2
  rw [Nat.testBit_or, Bool.or_eq_true]
  show (ntTo b w.m w.rest (fiN b k n.toNat w.m F10.none) 10 w.x).s.testBit d = true ↔ _
  rw [ntTo_bits]
  by_cases hd : d < 10
  · rw [fi_bits h.may hd n.toNat (by omega)]
    constructor
    · rintro (e | e)
      · exact .inl e
      · exact .inr e.2
    · rintro (e | e)
      · exact .inl e
      · exact .inr ⟨hd, e⟩
  · have : (orN b k w.m n.toNat).testBit d = false := Nat.testBit_lt_two_pow (Nat.lt_of_lt_of_le (orN_lt b k w.m n.toNat) (Nat.le_trans (by decide : 1024 ≤ 2 ^ 10) (Nat.pow_le_pow_right (by omega) (by omega))))
    rw [this]
    constructor
    · rintro (e | e)
      · exact .inl e
      · omega
    · rintro (e | e)
      · exact .inl e
      · cases e
theorem run_bS {b : Book} {w : SW} {N : Nat} {k n : Int} (h : AOk w N) (hk : 0 ≤ k ∧ k ≤ 3) (hn : 0 ≤ n) (hN : w.m.Now + n ≤ 40320) (r : List Int) :
    runM b (List.replicate n.toNat k ++ r) w.m (w.x.s : Int) = runM b r (bS b k n w).m ((bS b k n w).x.s : Int) := by
  rw [run_block h.may hk n.toNat r w.x.s h.s (by omega), bS_bits h hn hN]; rfl
theorem run_swept {b : Book} {w : SW} {N : Nat} {x : Rec} (h : AOk w N) (hr : recErr x = 0) (hN : x.From = w.m.Now) (r : List Int) :
    runM b (List.replicate (x.To - x.From).toNat x.Kind ++ r) w.m (w.x.s : Int) = runM b r (sweptS b x w).m ((sweptS b x w).x.s : Int) := by
  have h1 := recErr_inv hr
  unfold sweptS
  split
  · rename_i hc
    obtain ⟨a1, a2⟩ := h.block (b := b) (k := x.Kind) (n := 1) (by omega) (by omega)
    rw [show (x.To - x.From).toNat = (1 : Int).toNat + (x.To - x.From - 1).toNat by omega, ← List.replicate_append_replicate, List.append_assoc,
      run_bS h (by omega) (by omega) (by omega), run_bS a1 (by omega) (by omega) (by omega)]
  · exact run_bS h (by omega) (by omega) (by omega) r
theorem run_all {b : Book} : ∀ (l : List Rec) (w : SW) (N : Nat), AOk w N → Chain w.m.Now l → runM b (kindsOf l) w.m (w.x.s : Int) = ((swAll b l w).m, ((swAll b l w).x.s : Int), 0) ∧ ∃ M, AOk (swAll b l w) M
  | [], w, N, h, _ => ⟨rfl, N, h⟩
  | x :: l, w, N, h, hc => by
    obtain ⟨c1, c2, c3⟩ := hc
    have hs := h.swept (b := b) c2 c1
    have e : kindsOf (x :: l) = List.replicate (x.To - x.From).toNat x.Kind ++ kindsOf l := rfl
    rw [e, run_swept h c2 c1]
    exact run_all l (sweptS b x w) (N + 20) hs.1 (by rw [hs.2]; exact c3)
theorem setN_bits : ∀ (l : List Fnd) (s d : Nat), (l.foldl (fun s f => markN s f.Clause) s).testBit d = true ↔ s.testBit d = true ∨ (d < 16 ∧ ∃ f, f ∈ l ∧ f.Clause = (d : Int))
  | [], s, d => by simp
  | f :: l, s, d => by
    rw [List.foldl_cons, setN_bits l]
    have hm : (markN s f.Clause).testBit d = true ↔ s.testBit d = true ∨ (d < 16 ∧ f.Clause = (d : Int)) := by
      unfold markN
      split
      · rename_i h
        rw [Nat.testBit_or, Bool.or_eq_true, Nat.testBit_two_pow]
        simp only [decide_eq_true_eq]
        constructor
        · rintro (e | e)
          · exact .inl e
          · exact .inr ⟨by omega, by omega⟩
        · rintro (e | e)
          · exact .inl e
          · exact .inr (by omega)
      · rename_i h
        constructor
        · exact fun e => .inl e
        · rintro (e | e)
          · exact e
          · omega
    rw [hm]
    constructor
    · rintro ((e | e) | ⟨e1, g, e2, e3⟩)
      · exact .inl e
      · exact .inr ⟨e.1, f, List.mem_cons_self .., e.2⟩
      · exact .inr ⟨e1, g, List.mem_cons_of_mem _ e2, e3⟩
    · rintro (e | ⟨e1, g, e2, e3⟩)
      · exact .inl (.inl e)
      · rcases List.mem_cons.1 e2 with rfl | e2
        · exact .inl (.inr ⟨e1, e3⟩)
        · exact .inr ⟨e1, g, e2, e3⟩
theorem set_sorted {x : NS} (h : NInv16 x) (hs : x.s < 1024) : setN (sortF x.out) = x.s := by
  apply Nat.eq_of_testBit_eq
  intro d
  apply Bool.eq_iff_iff.2
  unfold setN
  rw [setN_bits, h.bits d]
  constructor
  · rintro (e | ⟨_, f, e1, e2⟩)
    · simp at e
    · exact ⟨f, sortF_mem.1 e1, e2⟩
  · rintro ⟨f, e1, e2⟩
    have hb : x.s.testBit d = true := (h.bits d).2 ⟨f, e1, e2⟩
    have hd : d < 10 := by
      rcases Nat.lt_or_ge d 10 with k | k
      · exact k
      · rw [Nat.testBit_lt_two_pow (Nat.lt_of_lt_of_le hs (Nat.le_trans (by decide : 1024 ≤ 2 ^ 10) (Nat.pow_le_pow_right (by omega) k)))] at hb; cases hb
    exact .inr ⟨by omega, f, sortF_mem.2 e1, e2⟩
theorem audit_run {b : Book} {l : List Rec} (h : dutyErr b l = 0) : ofAll b l = ((swAll b l SW.start).m, (setN (auditF b l) : Int), 0) := by
  obtain ⟨hb, hr, hbeg, hc⟩ := dutyErr_0 h
  obtain ⟨h1, M, h2⟩ := run_all (b := b) l SW.start 0 .start hc
  unfold ofAll auditF
  rw [if_pos hb, if_neg (by omega), if_neg (by omega), if_pos h, set_sorted h2.nt h2.s]
  exact h1
theorem audit_err {b : Book} {l : List Rec} (h : dutyErr b l ≠ 0) : ofAll b l = (Meter.zero, 0, dutyErr b l) ∧ auditF b l = [] := by
  refine ⟨?_, by unfold auditF; rw [if_neg h]⟩
  unfold ofAll
  unfold dutyErr at h ⊢
  by_cases hb : b.May
  · have hc : b.code = 0 := by unfold Book.code; rw [if_pos hb]
    rw [if_pos hb]
    rw [if_pos hc] at h ⊢
    by_cases hr : (recsErr 0 none l).2 = 0
    · rw [if_neg (by omega)]
      rw [if_pos hr] at h ⊢
      cases hl : late0 l with
      | false => rw [hl] at h; simp at h
      | true =>
        have : beginOf l ≠ 0 := by
          cases l with
          | nil => cases hl
          | cons r t => simpa [late0, beginOf] using hl
        rw [if_pos this, if_pos rfl]
    · rw [if_pos hr]
      rw [if_neg hr]
  · have hc : b.code = 14 := by unfold Book.code; rw [if_neg hb]
    rw [if_neg hb, if_neg (by rw [hc]; decide), hc]

end Go.Hl

/- Chapter 16: what is found stands where it points.  -/
set_option linter.unusedVariables false
set_option linter.unusedSimpArgs false
namespace Go.Hl
open Go.Gh Go.Proofs

theorem since_range {b : Book} {m : Meter} {rest c a : Int} (hm : m.May) (hr : 0 ≤ rest ∧ rest ≤ m.Now) (ha : m.Now ≤ a) (hL : 0 < b.Length) : 0 ≤ sinceV b m rest c a ∧ sinceV b m rest c a ≤ a := by
  have h1 := hm.dawn
  have h2 := hm.sabbath
  have h4 := hm.now
  have h3 := tmod_fit (a := a) (by omega) hL
  unfold sinceV
  repeat' split
  all_goals omega
theorem fi_range {b : Book} {k : Int} {m : Meter} (hm : m.May) {d : Nat} (hd : d < 10) : ∀ n : Nat, m.Now + (n : Int) ≤ 40320 → 0 ≤ (fiN b k n m F10.none).at d → m.Now ≤ (fiN b k n m F10.none).at d ∧ (fiN b k n m F10.none).at d < m.Now + n
  | 0, _, h => by rw [fiN, at16_none] at h; omega
  | n + 1, hN, h => by
    have ih := fi_range (b := b) (k := k) hm hd n (by omega)
    have h1 := stN_May (b := b) (k := k) hm n (by omega)
    rw [fiN, at16_mark _ _ _ d hd] at h ⊢
    revert h
    unfold markI
    split
    · intro h; omega
    · intro h; have := ih h; omega
theorem nt_mem {b : Book} {m : Meter} {rest : Int} {F : F10} {x : NS} {f : Fnd} : ∀ c : Nat, f ∈ (ntTo b m rest F c x).out ↔ f ∈ x.out ∨ ∃ d : Nat, d < c ∧ 0 ≤ F.at d ∧ x.s.testBit d = false ∧ f = ⟨d, sinceV b m rest d (F.at d), F.at d + 1⟩
  | 0 => by
    constructor
    · exact fun h => .inl h
    · rintro (h | ⟨d, h, _⟩)
      · exact h
      · omega
  | c + 1 => by
    have ih := @nt_mem b m rest F x f c
    have hb := @ntTo_bits b m rest F x c c
    rw [ntTo]
    unfold ntC
    split
    · rename_i h
      simp only
      unfold nO
      split
      · rename_i ht
        rw [ih]
        constructor
        · rintro (e | ⟨d, e1, e2⟩)
          · exact .inl e
          · exact .inr ⟨d, by omega, e2⟩
        · rintro (e | ⟨d, e1, e2⟩)
          · exact .inl e
          · by_cases hd : d = c
            · subst hd
              have := hb.1 ht
              rcases this with h1 | h1
              · rw [e2.2.1] at h1; cases h1
              · omega
            · exact .inr ⟨d, by omega, e2⟩
      · rename_i ht
        rw [List.mem_append, ih, List.mem_singleton]
        have hx : x.s.testBit c = false := by
          cases hx : x.s.testBit c with
          | false => rfl
          | true => exact absurd (hb.2 (.inl hx)) ht
        constructor
        · rintro ((e | ⟨d, e1, e2⟩) | e)
          · exact .inl e
          · exact .inr ⟨d, by omega, e2⟩
          · exact .inr ⟨c, by omega, h, hx, e⟩
        · rintro (e | ⟨d, e1, e2⟩)
          · exact .inl (.inl e)
          · by_cases hd : d = c
            · subst hd; exact .inr e2.2.2
            · exact .inl (.inr ⟨d, by omega, e2⟩)
    · rename_i h
      rw [ih]
      constructor
      · rintro (e | ⟨d, e1, e2⟩)
        · exact .inl e
        · exact .inr ⟨d, by omega, e2⟩
      · rintro (e | ⟨d, e1, e2⟩)
        · exact .inl e
        · by_cases hd : d = c
          · subst hd; exact absurd e2.1 h
          · exact .inr ⟨d, by omega, e2⟩

structure WOk (w : SW) : Prop where
  may : w.m.May
  rest : 0 ≤ w.rest ∧ w.rest ≤ w.m.Now
  out : ∀ f, f ∈ w.x.out → (0 ≤ f.From ∧ f.From < f.To) ∧ f.To ≤ w.m.Now
theorem WOk.start : WOk SW.start := ⟨zero_May, by decide, fun f h => by cases h⟩
theorem bS_mem {b : Book} {w : SW} {k n : Int} {f : Fnd} : f ∈ (bS b k n w).x.out ↔ f ∈ w.x.out ∨ ∃ d : Nat, d < 10 ∧ 0 ≤ (fiN b k n.toNat w.m F10.none).at d ∧ w.x.s.testBit d = false ∧ f = ⟨d, sinceV b w.m w.rest d ((fiN b k n.toNat w.m F10.none).at d), (fiN b k n.toNat w.m F10.none).at d + 1⟩ := nt_mem 10
theorem bS_new {b : Book} {w : SW} {k n : Int} {f : Fnd} (hw : WOk w) (hL : 0 < b.Length) (hn : 0 ≤ n) (hN : w.m.Now + n ≤ 40320) (h : f ∈ (bS b k n w).x.out) : f ∈ w.x.out ∨ ((0 ≤ f.From ∧ f.From < f.To) ∧ w.m.Now < f.To ∧ f.To ≤ w.m.Now + n) := by
  rcases bS_mem.1 h with h | ⟨d, h1, h2, _, rfl⟩
  · exact .inl h
  · right
    have h3 := fi_range (b := b) (k := k) hw.may h1 n.toNat (by omega) h2
    have h4 := since_range (b := b) (c := d) hw.may hw.rest h3.1 hL
    exact ⟨⟨h4.1, by simp only; omega⟩, by simp only; omega, by simp only; omega⟩
theorem WOk.block {b : Book} {w : SW} {k n : Int} (h : WOk w) (hL : 0 < b.Length) (hn : 0 ≤ n) (hN : w.m.Now + n ≤ 40320) : WOk (bS b k n w) ∧ (bS b k n w).m.Now = w.m.Now + n := by
  have h1 := stN_May (b := b) (k := k) h.may n.toNat (by omega)
  have e : ((n.toNat : Nat) : Int) = n := by omega
  rw [e] at h1
  have e2 : (bS b k n w).m.Now = w.m.Now + n := h1.2
  refine ⟨⟨h1.1, ?_, fun f hf => ?_⟩, e2⟩
  · show 0 ≤ restOf b w.m w.rest k ∧ restOf b w.m w.rest k ≤ _
    rw [e2]
    have := h.rest
    have := h.may.now
    unfold restOf; split <;> omega
  · rw [e2]
    rcases bS_new h hL hn hN hf with g | g
    · have := h.out f g; exact ⟨this.1, by omega⟩
    · exact ⟨g.1, g.2.2⟩
theorem WOk.swept {b : Book} {w : SW} {r : Rec} (h : WOk w) (hL : 0 < b.Length) (hr : recErr r = 0) (hN : r.From = w.m.Now) : WOk (sweptS b r w) ∧ (sweptS b r w).m.Now = r.To := by
  have h1 := recErr_inv hr
  unfold sweptS
  split
  · rename_i hc
    obtain ⟨a1, a2⟩ := h.block (b := b) (k := r.Kind) (n := 1) hL (by omega) (by omega)
    obtain ⟨c1, c2⟩ := a1.block (b := b) (k := r.Kind) (n := r.To - r.From - 1) hL (by omega) (by omega)
    exact ⟨c1, by omega⟩
  · obtain ⟨a1, a2⟩ := h.block (b := b) (k := r.Kind) (n := r.To - r.From) hL (by omega) (by omega)
    exact ⟨a1, by omega⟩
theorem auditF_mem {b : Book} {l : List Rec} {f : Fnd} (h : dutyErr b l = 0) : f ∈ auditF b l ↔ f ∈ (swAll b l SW.start).x.out := by
  unfold auditF; rw [if_pos h]; exact sortF_mem
theorem audit_lt {b : Book} {l : List Rec} : ∀ (i j : Nat), i < j → ∀ (x y : Fnd), (auditF b l)[i]? = some x → (auditF b l)[j]? = some y → x.Clause < y.Clause := by
  intro i j hij x y hx hy
  unfold auditF at hx hy
  split at hx
  case isFalse => simp at hx
  rename_i h
  rw [if_pos h] at hy
  obtain ⟨hb, _, _, hc⟩ := dutyErr_0 h
  obtain ⟨_, M, hA⟩ := run_all (b := b) l SW.start 0 .start hc
  have hpw := hA.nt.pw
  have hs : (sortF (swAll b l SW.start).x.out).Pairwise fun f g => f.Clause ≠ g.Clause := (List.mergeSort_perm _ _).pairwise_iff (fun h => Ne.symm h) |>.2 hpw
  have hle : (sortF (swAll b l SW.start).x.out).Pairwise fun f g => (!(Go.Proofs.ltOf ordF) g f) = true := by
    apply List.pairwise_mergeSort
    · intro a b c h1 h2
      have := ordF_swo.ntrans c b a
      simp only [Bool.not_eq_true'] at *
      exact this h2 h1
    · intro a b
      simp only [Bool.or_eq_true, Bool.not_eq_true']
      cases h1 : Go.Proofs.ltOf ordF b a with
      | false => exact .inl rfl
      | true =>
        right
        cases h2 : Go.Proofs.ltOf ordF a b with
        | false => rfl
        | true =>
          have := ordF_swo.trans a b a h2 h1
          rw [ordF_swo.irrefl] at this; cases this
  obtain ⟨h1, e1⟩ := List.getElem?_eq_some_iff.1 hx
  obtain ⟨h2, e2⟩ := List.getElem?_eq_some_iff.1 hy
  have k1 := List.pairwise_iff_getElem.1 hs i j h1 h2 hij
  have k2 := List.pairwise_iff_getElem.1 hle i j h1 h2 hij
  rw [e1, e2] at k1 k2
  simp only [Bool.not_eq_true'] at k2
  rw [ordF_lt] at k2
  simp only [decide_eq_false_iff_not] at k2
  omega
end Go.Hl
