/- Contracts of functions, bundle H26; proved for whatever the arguments' types allow, as each theorem says. -/
import Derived.Test.YthpdmbnakkaliaaH25

/- Contracts: the reference's block of minutes.  -/
set_option linter.unusedVariables false
set_option linter.unusedSimpArgs false
namespace Go.Hl
open Go.Gh Go.Proofs

def F10.s0 (f : F10) (x : Int) : F10 := ⟨x, f.a1, f.a2, f.a3, f.a4, f.a5, f.a6, f.a7, f.a8, f.a9⟩
def F10.s1 (f : F10) (x : Int) : F10 := ⟨f.a0, x, f.a2, f.a3, f.a4, f.a5, f.a6, f.a7, f.a8, f.a9⟩
def F10.s2 (f : F10) (x : Int) : F10 := ⟨f.a0, f.a1, x, f.a3, f.a4, f.a5, f.a6, f.a7, f.a8, f.a9⟩
def F10.s3 (f : F10) (x : Int) : F10 := ⟨f.a0, f.a1, f.a2, x, f.a4, f.a5, f.a6, f.a7, f.a8, f.a9⟩
def F10.s4 (f : F10) (x : Int) : F10 := ⟨f.a0, f.a1, f.a2, f.a3, x, f.a5, f.a6, f.a7, f.a8, f.a9⟩
def F10.s5 (f : F10) (x : Int) : F10 := ⟨f.a0, f.a1, f.a2, f.a3, f.a4, x, f.a6, f.a7, f.a8, f.a9⟩
def F10.s6 (f : F10) (x : Int) : F10 := ⟨f.a0, f.a1, f.a2, f.a3, f.a4, f.a5, x, f.a7, f.a8, f.a9⟩
def F10.s7 (f : F10) (x : Int) : F10 := ⟨f.a0, f.a1, f.a2, f.a3, f.a4, f.a5, f.a6, x, f.a8, f.a9⟩
def F10.s8 (f : F10) (x : Int) : F10 := ⟨f.a0, f.a1, f.a2, f.a3, f.a4, f.a5, f.a6, f.a7, x, f.a9⟩
def F10.s9 (f : F10) (x : Int) : F10 := ⟨f.a0, f.a1, f.a2, f.a3, f.a4, f.a5, f.a6, f.a7, f.a8, x⟩
/-- The first so many clauses marked. -/
def F10.markTo (f : F10) (q : Nat) (x c : Int) : F10 := ⟨if 0 < c then markI (q.testBit 0) x f.a0 else f.a0, if 1 < c then markI (q.testBit 1) x f.a1 else f.a1, if 2 < c then markI (q.testBit 2) x f.a2 else f.a2, if 3 < c then markI (q.testBit 3) x f.a3 else f.a3, if 4 < c then markI (q.testBit 4) x f.a4 else f.a4, if 5 < c then markI (q.testBit 5) x f.a5 else f.a5, if 6 < c then markI (q.testBit 6) x f.a6 else f.a6, if 7 < c then markI (q.testBit 7) x f.a7 else f.a7, if 8 < c then markI (q.testBit 8) x f.a8 else f.a8, if 9 < c then markI (q.testBit 9) x f.a9 else f.a9⟩
theorem markTo_0 (f : F10) (q : Nat) (x : Int) : f.markTo q x 0 = f := by simp [F10.markTo]
theorem markTo_10 (f : F10) (q : Nat) (x : Int) : f.markTo q x 10 = f.mark q x := by simp [F10.markTo, F10.mark]
def zAt (q c : Nat) (z : Int) : Prop := z = ((q / 2 ^ c : Nat) : Int)
theorem bit_z {q c : Nat} {z : Int} (hz : zAt q c z) : z.tmod 2 = 1 ↔ q.testBit c = true := by
  unfold zAt at hz
  rw [hz, Nat.testBit_eq_decide_div_mod_eq, decide_eq_true_eq, Int.tmod_eq_emod_of_nonneg (Int.natCast_nonneg _)]
  generalize q / 2 ^ c = w
  omega
theorem next_z {q c : Nat} {z : Int} (hz : zAt q c z) : zAt q (c + 1) (z.tdiv 2) := by
  unfold zAt at *
  rw [hz, Int.tdiv_eq_ediv_of_nonneg (Int.natCast_nonneg _), Nat.pow_succ, ← Nat.div_div_eq_div_mul]
  generalize q / 2 ^ c = w
  omega
theorem half_z {z : Int} (h : 0 ≤ z ∧ z < 1024) : 0 ≤ z.tdiv 2 ∧ z.tdiv 2 < 1024 := by rw [Int.tdiv_eq_ediv_of_nonneg h.1]; omega
theorem half_fit {z : Int} (h : 0 ≤ z ∧ z < 1024) : -9223372036854775808 ≤ z.tdiv 2 ∧ z.tdiv 2 ≤ 9223372036854775807 := by have := half_z h; omega
theorem ref_next {b : Book} {k i n : Int} {mm S : Meter} {ff F g : F10} (h : i < n) (hm : mm.May) (hN : mm.Now + (n - i) ≤ 40320) (hg : g = ff.markTo (stepN b mm k) mm.Now 10) (hS : stN b k (n - i).toNat mm = S) (hF : fiN b k (n - i).toNat mm ff = F) :
    (mm.step b k).May ∧ (mm.step b k).Now + (n - (i + 1)) ≤ 40320 ∧ stN b k (n - (i + 1)).toNat (mm.step b k) = S ∧ fiN b k (n - (i + 1)).toNat (mm.step b k) g = F := by
  have h1 := hm.step (b := b) (by omega) k
  rw [toNat_add (a := 1) (c := n - (i + 1)) (n := n - i) (by omega) (by omega) (by omega), stN_add] at hS
  rw [toNat_add (a := 1) (c := n - (i + 1)) (n := n - i) (by omega) (by omega) (by omega), fiN_add] at hF
  rw [markTo_10] at hg
  subst hg
  exact ⟨h1.1, by rw [h1.2]; omega, hS, hF⟩
theorem markY0 {f g : F10} {q : Nat} {x z : Int} (hz : zAt q 0 z) (hg : g = f.markTo q x 0) (h : z.tmod 2 = 1) (h2 : g.a0 < 0) : g.s0 x = f.markTo q x 1 := by
  have hb := (bit_z hz).1 h
  subst hg
  simp [F10.markTo] at h2
  simp [F10.markTo, F10.s0, markI, hb, h2]
theorem markN0 {f g : F10} {q : Nat} {x z : Int} (hz : zAt q 0 z) (hg : g = f.markTo q x 0) (h : ¬ (z.tmod 2 = 1 ∧ g.a0 < 0)) : g = f.markTo q x 1 := by
  rw [bit_z hz] at h
  subst hg
  simp [F10.markTo] at h
  simp [F10.markTo, markI]
  intro h1 h2; have := h h1; omega
theorem markY1 {f g : F10} {q : Nat} {x z : Int} (hz : zAt q 1 z) (hg : g = f.markTo q x 1) (h : z.tmod 2 = 1) (h2 : g.a1 < 0) : g.s1 x = f.markTo q x 2 := by
  have hb := (bit_z hz).1 h
  subst hg
  simp [F10.markTo] at h2
  simp [F10.markTo, F10.s1, markI, hb, h2]
theorem markN1 {f g : F10} {q : Nat} {x z : Int} (hz : zAt q 1 z) (hg : g = f.markTo q x 1) (h : ¬ (z.tmod 2 = 1 ∧ g.a1 < 0)) : g = f.markTo q x 2 := by
  rw [bit_z hz] at h
  subst hg
  simp [F10.markTo] at h
  simp [F10.markTo, markI]
  intro h1 h2; have := h h1; omega
theorem markY2 {f g : F10} {q : Nat} {x z : Int} (hz : zAt q 2 z) (hg : g = f.markTo q x 2) (h : z.tmod 2 = 1) (h2 : g.a2 < 0) : g.s2 x = f.markTo q x 3 := by
  have hb := (bit_z hz).1 h
  subst hg
  simp [F10.markTo] at h2
  simp [F10.markTo, F10.s2, markI, hb, h2]
theorem markN2 {f g : F10} {q : Nat} {x z : Int} (hz : zAt q 2 z) (hg : g = f.markTo q x 2) (h : ¬ (z.tmod 2 = 1 ∧ g.a2 < 0)) : g = f.markTo q x 3 := by
  rw [bit_z hz] at h
  subst hg
  simp [F10.markTo] at h
  simp [F10.markTo, markI]
  intro h1 h2; have := h h1; omega
theorem markY3 {f g : F10} {q : Nat} {x z : Int} (hz : zAt q 3 z) (hg : g = f.markTo q x 3) (h : z.tmod 2 = 1) (h2 : g.a3 < 0) : g.s3 x = f.markTo q x 4 := by
  have hb := (bit_z hz).1 h
  subst hg
  simp [F10.markTo] at h2
  simp [F10.markTo, F10.s3, markI, hb, h2]
theorem markN3 {f g : F10} {q : Nat} {x z : Int} (hz : zAt q 3 z) (hg : g = f.markTo q x 3) (h : ¬ (z.tmod 2 = 1 ∧ g.a3 < 0)) : g = f.markTo q x 4 := by
  rw [bit_z hz] at h
  subst hg
  simp [F10.markTo] at h
  simp [F10.markTo, markI]
  intro h1 h2; have := h h1; omega
theorem markY4 {f g : F10} {q : Nat} {x z : Int} (hz : zAt q 4 z) (hg : g = f.markTo q x 4) (h : z.tmod 2 = 1) (h2 : g.a4 < 0) : g.s4 x = f.markTo q x 5 := by
  have hb := (bit_z hz).1 h
  subst hg
  simp [F10.markTo] at h2
  simp [F10.markTo, F10.s4, markI, hb, h2]
theorem markN4 {f g : F10} {q : Nat} {x z : Int} (hz : zAt q 4 z) (hg : g = f.markTo q x 4) (h : ¬ (z.tmod 2 = 1 ∧ g.a4 < 0)) : g = f.markTo q x 5 := by
  rw [bit_z hz] at h
  subst hg
  simp [F10.markTo] at h
  simp [F10.markTo, markI]
  intro h1 h2; have := h h1; omega
theorem markY5 {f g : F10} {q : Nat} {x z : Int} (hz : zAt q 5 z) (hg : g = f.markTo q x 5) (h : z.tmod 2 = 1) (h2 : g.a5 < 0) : g.s5 x = f.markTo q x 6 := by
  have hb := (bit_z hz).1 h
  subst hg
  simp [F10.markTo] at h2
  simp [F10.markTo, F10.s5, markI, hb, h2]
theorem markN5 {f g : F10} {q : Nat} {x z : Int} (hz : zAt q 5 z) (hg : g = f.markTo q x 5) (h : ¬ (z.tmod 2 = 1 ∧ g.a5 < 0)) : g = f.markTo q x 6 := by
  rw [bit_z hz] at h
  subst hg
  simp [F10.markTo] at h
  simp [F10.markTo, markI]
  intro h1 h2; have := h h1; omega
theorem markY6 {f g : F10} {q : Nat} {x z : Int} (hz : zAt q 6 z) (hg : g = f.markTo q x 6) (h : z.tmod 2 = 1) (h2 : g.a6 < 0) : g.s6 x = f.markTo q x 7 := by
  have hb := (bit_z hz).1 h
  subst hg
  simp [F10.markTo] at h2
  simp [F10.markTo, F10.s6, markI, hb, h2]
theorem markN6 {f g : F10} {q : Nat} {x z : Int} (hz : zAt q 6 z) (hg : g = f.markTo q x 6) (h : ¬ (z.tmod 2 = 1 ∧ g.a6 < 0)) : g = f.markTo q x 7 := by
  rw [bit_z hz] at h
  subst hg
  simp [F10.markTo] at h
  simp [F10.markTo, markI]
  intro h1 h2; have := h h1; omega
theorem markY7 {f g : F10} {q : Nat} {x z : Int} (hz : zAt q 7 z) (hg : g = f.markTo q x 7) (h : z.tmod 2 = 1) (h2 : g.a7 < 0) : g.s7 x = f.markTo q x 8 := by
  have hb := (bit_z hz).1 h
  subst hg
  simp [F10.markTo] at h2
  simp [F10.markTo, F10.s7, markI, hb, h2]
theorem markN7 {f g : F10} {q : Nat} {x z : Int} (hz : zAt q 7 z) (hg : g = f.markTo q x 7) (h : ¬ (z.tmod 2 = 1 ∧ g.a7 < 0)) : g = f.markTo q x 8 := by
  rw [bit_z hz] at h
  subst hg
  simp [F10.markTo] at h
  simp [F10.markTo, markI]
  intro h1 h2; have := h h1; omega
theorem markY8 {f g : F10} {q : Nat} {x z : Int} (hz : zAt q 8 z) (hg : g = f.markTo q x 8) (h : z.tmod 2 = 1) (h2 : g.a8 < 0) : g.s8 x = f.markTo q x 9 := by
  have hb := (bit_z hz).1 h
  subst hg
  simp [F10.markTo] at h2
  simp [F10.markTo, F10.s8, markI, hb, h2]
theorem markN8 {f g : F10} {q : Nat} {x z : Int} (hz : zAt q 8 z) (hg : g = f.markTo q x 8) (h : ¬ (z.tmod 2 = 1 ∧ g.a8 < 0)) : g = f.markTo q x 9 := by
  rw [bit_z hz] at h
  subst hg
  simp [F10.markTo] at h
  simp [F10.markTo, markI]
  intro h1 h2; have := h h1; omega
theorem markY9 {f g : F10} {q : Nat} {x z : Int} (hz : zAt q 9 z) (hg : g = f.markTo q x 9) (h : z.tmod 2 = 1) (h2 : g.a9 < 0) : g.s9 x = f.markTo q x 10 := by
  have hb := (bit_z hz).1 h
  subst hg
  simp [F10.markTo] at h2
  simp [F10.markTo, F10.s9, markI, hb, h2]
theorem markN9 {f g : F10} {q : Nat} {x z : Int} (hz : zAt q 9 z) (hg : g = f.markTo q x 9) (h : ¬ (z.tmod 2 = 1 ∧ g.a9 < 0)) : g = f.markTo q x 10 := by
  rw [bit_z hz] at h
  subst hg
  simp [F10.markTo] at h
  simp [F10.markTo, markI]
  intro h1 h2; have := h h1; omega
theorem zAt_0 (q : Nat) : zAt q 0 (q : Int) := by unfold zAt; rw [Nat.pow_zero, Nat.div_one]
theorem nextz0 {q : Nat} {z : Int} (hz : zAt q 0 z) : zAt q 1 (z.tdiv 2) := next_z hz
theorem nextz1 {q : Nat} {z : Int} (hz : zAt q 1 z) : zAt q 2 (z.tdiv 2) := next_z hz
theorem nextz2 {q : Nat} {z : Int} (hz : zAt q 2 z) : zAt q 3 (z.tdiv 2) := next_z hz
theorem nextz3 {q : Nat} {z : Int} (hz : zAt q 3 z) : zAt q 4 (z.tdiv 2) := next_z hz
theorem nextz4 {q : Nat} {z : Int} (hz : zAt q 4 z) : zAt q 5 (z.tdiv 2) := next_z hz
theorem nextz5 {q : Nat} {z : Int} (hz : zAt q 5 z) : zAt q 6 (z.tdiv 2) := next_z hz
theorem nextz6 {q : Nat} {z : Int} (hz : zAt q 6 z) : zAt q 7 (z.tdiv 2) := next_z hz
theorem nextz7 {q : Nat} {z : Int} (hz : zAt q 7 z) : zAt q 8 (z.tdiv 2) := next_z hz
theorem nextz8 {q : Nat} {z : Int} (hz : zAt q 8 z) : zAt q 9 (z.tdiv 2) := next_z hz
theorem nextz9 {q : Nat} {z : Int} (hz : zAt q 9 z) : zAt q 10 (z.tdiv 2) := next_z hz
attribute [irreducible] zAt F10.markTo
def pl_G8b_1 : Nat → Option (List Nat × List Nat) := (fun k => bif Nat.beq k 11 then some ([1000011, 2, 3, 4, 5, 8, 9, 11, 12], [104, 105, 108, 109, 111]) else bif Nat.beq k 15 then some ([1000015, 2, 3, 4, 5, 8, 9, 11, 13], [104, 105, 108, 109, 111]) else bif Nat.beq k 20 then some ([1000020, 2, 3, 4, 5, 8, 9, 11, 13, 14, 15, 16, 17], [104, 105, 108, 109, 111, 115]) else none)
def pl_G8b_2 : Nat → Option (List Nat × List Nat) := (fun k => bif Nat.beq k 11 then some ([1000011, 2, 3, 4, 5, 8, 9, 11, 12], [104, 105, 108, 109, 111]) else bif Nat.beq k 15 then some ([1000015, 2, 3, 4, 5, 8, 9, 11, 13], [104, 105, 108, 109, 111]) else bif Nat.beq k 20 then some ([1000020, 2, 3, 4, 5, 8, 9, 11, 13, 14, 15, 16, 17], [104, 105, 108, 109, 111, 115]) else none)
def pl_G8b_3 : Nat → Option (List Nat × List Nat) := (fun k => bif Nat.beq k 11 then some ([1000011, 2, 3, 4, 5, 8, 9, 11, 12], [104, 105, 108, 109, 111]) else bif Nat.beq k 15 then some ([1000015, 2, 3, 4, 5, 8, 9, 11, 13], [104, 105, 108, 109, 111]) else bif Nat.beq k 20 then some ([1000020, 2, 3, 4, 5, 8, 9, 11, 13, 14, 15, 16, 17], [104, 105, 108, 109, 111, 115]) else none)
def pl_G8b_4 : Nat → Option (List Nat × List Nat) := (fun k => bif Nat.beq k 11 then some ([1000011, 2, 3, 4, 5, 8, 9, 11, 12], [104, 105, 108, 109, 111]) else bif Nat.beq k 15 then some ([1000015, 2, 3, 4, 5, 8, 9, 11, 13], [104, 105, 108, 109, 111]) else bif Nat.beq k 20 then some ([1000020, 2, 3, 4, 5, 8, 9, 11, 13, 14, 15, 16, 17], [104, 105, 108, 109, 111, 115]) else none)
def pl_G8b_5 : Nat → Option (List Nat × List Nat) := (fun k => bif Nat.beq k 11 then some ([1000011, 2, 3, 4, 5, 8, 9, 11, 12], [104, 105, 108, 109, 111]) else bif Nat.beq k 15 then some ([1000015, 2, 3, 4, 5, 8, 9, 11, 13], [104, 105, 108, 109, 111]) else bif Nat.beq k 20 then some ([1000020, 2, 3, 4, 5, 8, 9, 11, 13, 14, 15, 16, 17], [104, 105, 108, 109, 111, 115]) else none)
set_option maxRecDepth 100000 in
set_option maxHeartbeats 4000000 in
theorem refOver_ok (b : Book) (m : Meter) (k n : Int) : ICalls Try.prog 16 [b.g, m.g, gi k, gi n] [] (Done (overG (overAll b m k n)) []) := by
  unfold overAll check14
  by_cases hb : b.May
  case neg =>
    have hbd : decide b.May = false := decide_eq_false hb
    rw [if_neg hb, if_neg (by decide)]
    refine ICalls.of_body Try.func16 rfl Try.call16 rfl (Nat.le_of_ble_eq_true rfl) pl_G8b_1 rfl ?_
    repeat' ((conv => whnf); first
      | refine Br.yes rfl ?_
      | refine Br.no rfl ?_
      | refine Br.yes (beq_self_eq_true _) ?_
      | refine Br.not ?_
      | refine Br.yes (decide_eq_true (by assumption)) ?_
      | refine Br.no (decide_eq_false (by assumption)) ?_
      | refine Br.yes (beq_iff_eq.2 (by assumption)) ?_
      | refine Br.no (beq_eq_false_iff_ne.2 (by assumption)) ?_
      | refine Br.yes (bne_iff_ne.2 (by assumption)) ?_
      | (refine Br.dec (fun h => ?_) (fun h => ?_) <;> try dsimp only at h)
      | (refine Br.beqI (fun h => ?_) (fun h => ?_) <;> try dsimp only at h)
      | (refine Br.bneI (fun h => ?_) (fun h => ?_) <;> try dsimp only at h)
      | refine Br.mk (fun h => ?_) (fun h => ?_)
      | refine Need.mk (app_need (by first | (simp only [List.length_append, List.length_map, List.length_nil, List.length_cons, List.nil_append, Nat.zero_add, Nat.add_zero]; done) | (simp only [List.length_append, List.length_map, List.length_nil, List.length_cons, List.nil_append, Nat.zero_add, Nat.add_zero]; omega) | omega) (Nat.le_of_ble_eq_true rfl) (by first | (simp only [List.length_append, List.length_map, List.length_nil, List.length_cons, List.nil_append, Nat.zero_add, Nat.add_zero]; done) | (simp only [List.length_append, List.length_map, List.length_nil, List.length_cons, List.nil_append, Nat.zero_add, Nat.add_zero]; omega) | omega)) ?_
      | refine Need.mk (app_need0 (Nat.le_of_ble_eq_true rfl) (by first | (simp only [List.length_append, List.length_map, List.length_nil, List.length_cons, List.nil_append, Nat.zero_add, Nat.add_zero]; done) | (simp only [List.length_append, List.length_map, List.length_nil, List.length_cons, List.nil_append, Nat.zero_add, Nat.add_zero]; omega) | omega)) ?_
      | refine Need.mk (by first | kernel_rfl | exact ⟨of_decide_eq_true rfl, of_decide_eq_true rfl⟩ | omega) ?_
      | refine Len.mk ⟨_, by simp only [List.length_cons, List.length_nil, Nat.reduceAdd, Int.cast_ofNat_Int]; rfl, ?_⟩
      | refine Wr.lit _ (by simp only [Int.reduceAdd, Int.reduceSub, Int.reduceMul]; rfl) (by decide) ?_
      | refine Wr.fit (by omega) ?_
      | refine Wr.fit (by dsimp only; omega) ?_
      | refine Elem.mk ⟨_, ⟨of_decide_eq_true rfl, rfl⟩, ?_⟩
      | refine Len.map ?_
      | refine Len.dropM ?_
      | refine Elem.dropM ?_
      | refine Len.takeM ?_
      | refine Elem.takeM ?_
      | refine Elem.mapK (by assumption) ?_
      | refine Elem.mapI (by omega) (by assumption) ?_
      | refine Elem.mapN (by omega) (fun x hx => ?_)
      | refine Elem.map (by omega) (by omega) (fun x hx => ?_)
      | refine ((bookMay_ok b).to (congrArg gb hbd)).use ⟨rfl, ?_⟩
      | refine CallX.mk ⟨_, _, ((bookMay_ok b).to (congrArg gb hbd)).x, rfl, ?_⟩
      | refine Done.mk ⟨rfl, rfl⟩
      | refine Done.mk ⟨congrArg gb ?_, rfl⟩
      | refine Done.mk ⟨?_, rfl⟩
      | refine Done.mk ⟨?_, ?_⟩)
  case pos =>
  have hbd : decide b.May = true := decide_eq_true hb
  rw [if_pos hb]
  by_cases hm : m.May
  case neg =>
    have hmd : decide m.May = false := decide_eq_false hm
    rw [if_neg hm, if_neg (by decide)]
    refine ICalls.of_body Try.func16 rfl Try.call16 rfl (Nat.le_of_ble_eq_true rfl) pl_G8b_2 rfl ?_
    repeat' ((conv => whnf); first
      | refine Br.yes rfl ?_
      | refine Br.no rfl ?_
      | refine Br.yes (beq_self_eq_true _) ?_
      | refine Br.not ?_
      | refine Br.yes (decide_eq_true (by assumption)) ?_
      | refine Br.no (decide_eq_false (by assumption)) ?_
      | refine Br.yes (beq_iff_eq.2 (by assumption)) ?_
      | refine Br.no (beq_eq_false_iff_ne.2 (by assumption)) ?_
      | refine Br.yes (bne_iff_ne.2 (by assumption)) ?_
      | (refine Br.dec (fun h => ?_) (fun h => ?_) <;> try dsimp only at h)
      | (refine Br.beqI (fun h => ?_) (fun h => ?_) <;> try dsimp only at h)
      | (refine Br.bneI (fun h => ?_) (fun h => ?_) <;> try dsimp only at h)
      | refine Br.mk (fun h => ?_) (fun h => ?_)
      | refine Need.mk (app_need (by first | (simp only [List.length_append, List.length_map, List.length_nil, List.length_cons, List.nil_append, Nat.zero_add, Nat.add_zero]; done) | (simp only [List.length_append, List.length_map, List.length_nil, List.length_cons, List.nil_append, Nat.zero_add, Nat.add_zero]; omega) | omega) (Nat.le_of_ble_eq_true rfl) (by first | (simp only [List.length_append, List.length_map, List.length_nil, List.length_cons, List.nil_append, Nat.zero_add, Nat.add_zero]; done) | (simp only [List.length_append, List.length_map, List.length_nil, List.length_cons, List.nil_append, Nat.zero_add, Nat.add_zero]; omega) | omega)) ?_
      | refine Need.mk (app_need0 (Nat.le_of_ble_eq_true rfl) (by first | (simp only [List.length_append, List.length_map, List.length_nil, List.length_cons, List.nil_append, Nat.zero_add, Nat.add_zero]; done) | (simp only [List.length_append, List.length_map, List.length_nil, List.length_cons, List.nil_append, Nat.zero_add, Nat.add_zero]; omega) | omega)) ?_
      | refine Need.mk (by first | kernel_rfl | exact ⟨of_decide_eq_true rfl, of_decide_eq_true rfl⟩ | omega) ?_
      | refine Len.mk ⟨_, by simp only [List.length_cons, List.length_nil, Nat.reduceAdd, Int.cast_ofNat_Int]; rfl, ?_⟩
      | refine Wr.lit _ (by simp only [Int.reduceAdd, Int.reduceSub, Int.reduceMul]; rfl) (by decide) ?_
      | refine Wr.fit (by omega) ?_
      | refine Wr.fit (by dsimp only; omega) ?_
      | refine Elem.mk ⟨_, ⟨of_decide_eq_true rfl, rfl⟩, ?_⟩
      | refine Len.map ?_
      | refine Len.dropM ?_
      | refine Elem.dropM ?_
      | refine Len.takeM ?_
      | refine Elem.takeM ?_
      | refine Elem.mapK (by assumption) ?_
      | refine Elem.mapI (by omega) (by assumption) ?_
      | refine Elem.mapN (by omega) (fun x hx => ?_)
      | refine Elem.map (by omega) (by omega) (fun x hx => ?_)
      | refine ((bookMay_ok b).to (congrArg gb hbd)).use ⟨rfl, ?_⟩
      | refine ((meterMay_ok m).to (congrArg gb hmd)).use ⟨rfl, ?_⟩
      | refine CallX.mk ⟨_, _, ((bookMay_ok b).to (congrArg gb hbd)).x, rfl, ?_⟩
      | refine CallX.mk ⟨_, _, ((meterMay_ok m).to (congrArg gb hmd)).x, rfl, ?_⟩
      | refine Done.mk ⟨rfl, rfl⟩
      | refine Done.mk ⟨congrArg gb ?_, rfl⟩
      | refine Done.mk ⟨?_, rfl⟩
      | refine Done.mk ⟨?_, ?_⟩)
  case pos =>
  have hmd : decide m.May = true := decide_eq_true hm
  rw [if_pos hm]
  have hm0 := hm.now
  by_cases hk : k < 0 ∨ 4 ≤ k
  case pos =>
    rw [if_pos hk, if_neg (by decide)]
    refine ICalls.of_body Try.func16 rfl Try.call16 rfl (Nat.le_of_ble_eq_true rfl) pl_G8b_3 rfl ?_
    repeat' ((conv => whnf); first
      | refine Br.yes rfl ?_
      | refine Br.no rfl ?_
      | refine Br.yes (beq_self_eq_true _) ?_
      | refine Br.not ?_
      | refine Br.yes (decide_eq_true (by assumption)) ?_
      | refine Br.no (decide_eq_false (by assumption)) ?_
      | refine Br.yes (beq_iff_eq.2 (by assumption)) ?_
      | refine Br.no (beq_eq_false_iff_ne.2 (by assumption)) ?_
      | refine Br.yes (bne_iff_ne.2 (by assumption)) ?_
      | (refine Br.dec (fun h => ?_) (fun h => ?_) <;> try dsimp only at h)
      | (refine Br.beqI (fun h => ?_) (fun h => ?_) <;> try dsimp only at h)
      | (refine Br.bneI (fun h => ?_) (fun h => ?_) <;> try dsimp only at h)
      | refine Br.mk (fun h => ?_) (fun h => ?_)
      | refine Need.mk (app_need (by first | (simp only [List.length_append, List.length_map, List.length_nil, List.length_cons, List.nil_append, Nat.zero_add, Nat.add_zero]; done) | (simp only [List.length_append, List.length_map, List.length_nil, List.length_cons, List.nil_append, Nat.zero_add, Nat.add_zero]; omega) | omega) (Nat.le_of_ble_eq_true rfl) (by first | (simp only [List.length_append, List.length_map, List.length_nil, List.length_cons, List.nil_append, Nat.zero_add, Nat.add_zero]; done) | (simp only [List.length_append, List.length_map, List.length_nil, List.length_cons, List.nil_append, Nat.zero_add, Nat.add_zero]; omega) | omega)) ?_
      | refine Need.mk (app_need0 (Nat.le_of_ble_eq_true rfl) (by first | (simp only [List.length_append, List.length_map, List.length_nil, List.length_cons, List.nil_append, Nat.zero_add, Nat.add_zero]; done) | (simp only [List.length_append, List.length_map, List.length_nil, List.length_cons, List.nil_append, Nat.zero_add, Nat.add_zero]; omega) | omega)) ?_
      | refine Need.mk (by first | kernel_rfl | exact ⟨of_decide_eq_true rfl, of_decide_eq_true rfl⟩ | omega) ?_
      | refine Len.mk ⟨_, by simp only [List.length_cons, List.length_nil, Nat.reduceAdd, Int.cast_ofNat_Int]; rfl, ?_⟩
      | refine Wr.lit _ (by simp only [Int.reduceAdd, Int.reduceSub, Int.reduceMul]; rfl) (by decide) ?_
      | refine Wr.fit (by omega) ?_
      | refine Wr.fit (by dsimp only; omega) ?_
      | refine Elem.mk ⟨_, ⟨of_decide_eq_true rfl, rfl⟩, ?_⟩
      | refine Len.map ?_
      | refine Len.dropM ?_
      | refine Elem.dropM ?_
      | refine Len.takeM ?_
      | refine Elem.takeM ?_
      | refine Elem.mapK (by assumption) ?_
      | refine Elem.mapI (by omega) (by assumption) ?_
      | refine Elem.mapN (by omega) (fun x hx => ?_)
      | refine Elem.map (by omega) (by omega) (fun x hx => ?_)
      | refine ((bookMay_ok b).to (congrArg gb hbd)).use ⟨rfl, ?_⟩
      | refine ((meterMay_ok m).to (congrArg gb hmd)).use ⟨rfl, ?_⟩
      | refine CallX.mk ⟨_, _, ((bookMay_ok b).to (congrArg gb hbd)).x, rfl, ?_⟩
      | refine CallX.mk ⟨_, _, ((meterMay_ok m).to (congrArg gb hmd)).x, rfl, ?_⟩
      | refine Done.mk ⟨rfl, rfl⟩
      | refine Done.mk ⟨congrArg gb ?_, rfl⟩
      | refine Done.mk ⟨?_, rfl⟩
      | refine Done.mk ⟨?_, ?_⟩)
    all_goals (exfalso; omega)
  case neg =>
  rw [if_neg hk]
  by_cases hn : n < 0 ∨ 40320 - m.Now < n
  case pos =>
    rw [if_pos hn, if_neg (by decide)]
    refine ICalls.of_body Try.func16 rfl Try.call16 rfl (Nat.le_of_ble_eq_true rfl) pl_G8b_4 rfl ?_
    repeat' ((conv => whnf); first
      | refine Br.yes rfl ?_
      | refine Br.no rfl ?_
      | refine Br.yes (beq_self_eq_true _) ?_
      | refine Br.not ?_
      | refine Br.yes (decide_eq_true (by assumption)) ?_
      | refine Br.no (decide_eq_false (by assumption)) ?_
      | refine Br.yes (beq_iff_eq.2 (by assumption)) ?_
      | refine Br.no (beq_eq_false_iff_ne.2 (by assumption)) ?_
      | refine Br.yes (bne_iff_ne.2 (by assumption)) ?_
      | (refine Br.dec (fun h => ?_) (fun h => ?_) <;> try dsimp only at h)
      | (refine Br.beqI (fun h => ?_) (fun h => ?_) <;> try dsimp only at h)
      | (refine Br.bneI (fun h => ?_) (fun h => ?_) <;> try dsimp only at h)
      | refine Br.mk (fun h => ?_) (fun h => ?_)
      | refine Need.mk (app_need (by first | (simp only [List.length_append, List.length_map, List.length_nil, List.length_cons, List.nil_append, Nat.zero_add, Nat.add_zero]; done) | (simp only [List.length_append, List.length_map, List.length_nil, List.length_cons, List.nil_append, Nat.zero_add, Nat.add_zero]; omega) | omega) (Nat.le_of_ble_eq_true rfl) (by first | (simp only [List.length_append, List.length_map, List.length_nil, List.length_cons, List.nil_append, Nat.zero_add, Nat.add_zero]; done) | (simp only [List.length_append, List.length_map, List.length_nil, List.length_cons, List.nil_append, Nat.zero_add, Nat.add_zero]; omega) | omega)) ?_
      | refine Need.mk (app_need0 (Nat.le_of_ble_eq_true rfl) (by first | (simp only [List.length_append, List.length_map, List.length_nil, List.length_cons, List.nil_append, Nat.zero_add, Nat.add_zero]; done) | (simp only [List.length_append, List.length_map, List.length_nil, List.length_cons, List.nil_append, Nat.zero_add, Nat.add_zero]; omega) | omega)) ?_
      | refine Need.mk (by first | kernel_rfl | exact ⟨of_decide_eq_true rfl, of_decide_eq_true rfl⟩ | omega) ?_
      | refine Len.mk ⟨_, by simp only [List.length_cons, List.length_nil, Nat.reduceAdd, Int.cast_ofNat_Int]; rfl, ?_⟩
      | refine Wr.lit _ (by simp only [Int.reduceAdd, Int.reduceSub, Int.reduceMul]; rfl) (by decide) ?_
      | refine Wr.fit (by omega) ?_
      | refine Wr.fit (by dsimp only; omega) ?_
      | refine Elem.mk ⟨_, ⟨of_decide_eq_true rfl, rfl⟩, ?_⟩
      | refine Len.map ?_
      | refine Len.dropM ?_
      | refine Elem.dropM ?_
      | refine Len.takeM ?_
      | refine Elem.takeM ?_
      | refine Elem.mapK (by assumption) ?_
      | refine Elem.mapI (by omega) (by assumption) ?_
      | refine Elem.mapN (by omega) (fun x hx => ?_)
      | refine Elem.map (by omega) (by omega) (fun x hx => ?_)
      | refine ((bookMay_ok b).to (congrArg gb hbd)).use ⟨rfl, ?_⟩
      | refine ((meterMay_ok m).to (congrArg gb hmd)).use ⟨rfl, ?_⟩
      | refine CallX.mk ⟨_, _, ((bookMay_ok b).to (congrArg gb hbd)).x, rfl, ?_⟩
      | refine CallX.mk ⟨_, _, ((meterMay_ok m).to (congrArg gb hmd)).x, rfl, ?_⟩
      | refine Done.mk ⟨rfl, rfl⟩
      | refine Done.mk ⟨congrArg gb ?_, rfl⟩
      | refine Done.mk ⟨?_, rfl⟩
      | refine Done.mk ⟨?_, ?_⟩)
    all_goals (exfalso; omega)
  case neg =>
  rw [if_neg hn, if_pos rfl]
  generalize hS : stN b k n.toNat m = S
  generalize hF : fiN b k n.toNat m F10.none = F
  refine ICalls.of_body Try.func16 rfl Try.call16 rfl (Nat.le_of_ble_eq_true rfl) pl_G8b_5 rfl ?_
  repeat' ((conv => whnf); first
    | refine Br.yes rfl ?_
    | refine Br.no rfl ?_
    | refine Wr.fit (half_fit hzr) ?_
    | (refine ILoop.ov 1000020 (fun ((c, z, g) : Int × Int × F10) => [(17, gi c), (16, gi z)]) (fun ((c, z, g) : Int × Int × F10) => [(111, .cells (g.c))]) (fun ((c, z, g) : Int × Int × F10) => (0 ≤ c ∧ c ≤ 10) ∧ (0 ≤ z ∧ z < 1024) ∧ zAt (stepN b mm k) c.toNat z ∧ g = ff.markTo (stepN b mm k) mm.Now c) (fun ((c, z, g) : Int × Int × F10) => (10 - c).toNat) ((0, ((stepN b mm k : Nat) : Int), ff)) (by exact rfl) ?_; (conv => whnf); refine Start.mk rfl ?_ ?_; (try dsimp only); rotate_left; rintro ⟨c, z, g⟩ ⟨hc, hzr, hz, hg⟩; (have hc2 : c = 0 ∨ c = 1 ∨ c = 2 ∨ c = 3 ∨ c = 4 ∨ c = 5 ∨ c = 6 ∨ c = 7 ∨ c = 8 ∨ c = 9 ∨ c = 10 := (by omega); rcases hc2 with rfl | rfl | rfl | rfl | rfl | rfl | rfl | rfl | rfl | rfl | rfl))
    | (refine Again.mk ⟨((1, z.tdiv 2, g.s0 mm.Now)), rfl, ?_, ?_⟩ <;> try dsimp only)
    | (refine Again.mk ⟨((1, z.tdiv 2, g)), rfl, ?_, ?_⟩ <;> try dsimp only)
    | (refine Again.mk ⟨((2, z.tdiv 2, g.s1 mm.Now)), rfl, ?_, ?_⟩ <;> try dsimp only)
    | (refine Again.mk ⟨((2, z.tdiv 2, g)), rfl, ?_, ?_⟩ <;> try dsimp only)
    | (refine Again.mk ⟨((3, z.tdiv 2, g.s2 mm.Now)), rfl, ?_, ?_⟩ <;> try dsimp only)
    | (refine Again.mk ⟨((3, z.tdiv 2, g)), rfl, ?_, ?_⟩ <;> try dsimp only)
    | (refine Again.mk ⟨((4, z.tdiv 2, g.s3 mm.Now)), rfl, ?_, ?_⟩ <;> try dsimp only)
    | (refine Again.mk ⟨((4, z.tdiv 2, g)), rfl, ?_, ?_⟩ <;> try dsimp only)
    | (refine Again.mk ⟨((5, z.tdiv 2, g.s4 mm.Now)), rfl, ?_, ?_⟩ <;> try dsimp only)
    | (refine Again.mk ⟨((5, z.tdiv 2, g)), rfl, ?_, ?_⟩ <;> try dsimp only)
    | (refine Again.mk ⟨((6, z.tdiv 2, g.s5 mm.Now)), rfl, ?_, ?_⟩ <;> try dsimp only)
    | (refine Again.mk ⟨((6, z.tdiv 2, g)), rfl, ?_, ?_⟩ <;> try dsimp only)
    | (refine Again.mk ⟨((7, z.tdiv 2, g.s6 mm.Now)), rfl, ?_, ?_⟩ <;> try dsimp only)
    | (refine Again.mk ⟨((7, z.tdiv 2, g)), rfl, ?_, ?_⟩ <;> try dsimp only)
    | (refine Again.mk ⟨((8, z.tdiv 2, g.s7 mm.Now)), rfl, ?_, ?_⟩ <;> try dsimp only)
    | (refine Again.mk ⟨((8, z.tdiv 2, g)), rfl, ?_, ?_⟩ <;> try dsimp only)
    | (refine Again.mk ⟨((9, z.tdiv 2, g.s8 mm.Now)), rfl, ?_, ?_⟩ <;> try dsimp only)
    | (refine Again.mk ⟨((9, z.tdiv 2, g)), rfl, ?_, ?_⟩ <;> try dsimp only)
    | (refine Again.mk ⟨((10, z.tdiv 2, g.s9 mm.Now)), rfl, ?_, ?_⟩ <;> try dsimp only)
    | (refine Again.mk ⟨((10, z.tdiv 2, g)), rfl, ?_, ?_⟩ <;> try dsimp only)
    | (refine ILoop.ov 1000015 (fun ((i, mm, ff) : Int × Meter × F10) => [(13, gi i)]) (fun ((i, mm, ff) : Int × Meter × F10) => [(105, .cells (mm.c)), (111, .cells (ff.c))]) (fun ((i, mm, ff) : Int × Meter × F10) => (0 ≤ i ∧ i ≤ n) ∧ mm.May ∧ mm.Now + (n - i) ≤ 40320 ∧ stN b k (n - i).toNat mm = S ∧ fiN b k (n - i).toNat mm ff = F) (fun ((i, mm, ff) : Int × Meter × F10) => (n - i).toNat) ((0, m, F10.none)) (by exact rfl) ?_; (conv => whnf); refine Start.mk rfl ?_ ?_; (try dsimp only); rotate_left; rintro ⟨i, mm, ff⟩ ⟨hi, hmm, hN, hS1, hF1⟩)
    | (refine Again.mk ⟨((i + 1, mm.step b k, g)), rfl, ?_, ?_⟩ <;> try dsimp only)
    | refine Br.yes (beq_self_eq_true _) ?_
    | refine Br.not ?_
    | refine Br.yes (decide_eq_true (by assumption)) ?_
    | refine Br.no (decide_eq_false (by assumption)) ?_
    | refine Br.yes (beq_iff_eq.2 (by assumption)) ?_
    | refine Br.no (beq_eq_false_iff_ne.2 (by assumption)) ?_
    | refine Br.yes (bne_iff_ne.2 (by assumption)) ?_
    | (refine Br.dec (fun h => ?_) (fun h => ?_) <;> try dsimp only at h)
    | (refine Br.beqI (fun h => ?_) (fun h => ?_) <;> try dsimp only at h)
    | (refine Br.bneI (fun h => ?_) (fun h => ?_) <;> try dsimp only at h)
    | refine Br.mk (fun h => ?_) (fun h => ?_)
    | refine Need.mk (app_need (by first | (simp only [List.length_append, List.length_map, List.length_nil, List.length_cons, List.nil_append, Nat.zero_add, Nat.add_zero]; done) | (simp only [List.length_append, List.length_map, List.length_nil, List.length_cons, List.nil_append, Nat.zero_add, Nat.add_zero]; omega) | omega) (Nat.le_of_ble_eq_true rfl) (by first | (simp only [List.length_append, List.length_map, List.length_nil, List.length_cons, List.nil_append, Nat.zero_add, Nat.add_zero]; done) | (simp only [List.length_append, List.length_map, List.length_nil, List.length_cons, List.nil_append, Nat.zero_add, Nat.add_zero]; omega) | omega)) ?_
    | refine Need.mk (app_need0 (Nat.le_of_ble_eq_true rfl) (by first | (simp only [List.length_append, List.length_map, List.length_nil, List.length_cons, List.nil_append, Nat.zero_add, Nat.add_zero]; done) | (simp only [List.length_append, List.length_map, List.length_nil, List.length_cons, List.nil_append, Nat.zero_add, Nat.add_zero]; omega) | omega)) ?_
    | refine Need.mk (by first | kernel_rfl | exact ⟨of_decide_eq_true rfl, of_decide_eq_true rfl⟩ | omega) ?_
    | refine Len.mk ⟨_, by simp only [List.length_cons, List.length_nil, Nat.reduceAdd, Int.cast_ofNat_Int]; rfl, ?_⟩
    | refine Wr.lit _ (by simp only [Int.reduceAdd, Int.reduceSub, Int.reduceMul]; rfl) (by decide) ?_
    | refine Wr.fit (by omega) ?_
    | refine Wr.fit (by dsimp only; omega) ?_
    | refine Elem.mk ⟨_, ⟨of_decide_eq_true rfl, rfl⟩, ?_⟩
    | refine Len.map ?_
    | refine Len.dropM ?_
    | refine Elem.dropM ?_
    | refine Len.takeM ?_
    | refine Elem.takeM ?_
    | refine Elem.mapK (by assumption) ?_
    | refine Elem.mapI (by omega) (by assumption) ?_
    | refine Elem.mapN (by omega) (fun x hx => ?_)
    | refine Elem.map (by omega) (by omega) (fun x hx => ?_)
    | refine ((bookMay_ok b).to (congrArg gb hbd)).use ⟨rfl, ?_⟩
    | refine ((meterMay_ok m).to (congrArg gb hmd)).use ⟨rfl, ?_⟩
    | refine ((refStep_ok b mm k hb hmm ⟨by omega, by omega⟩).to (pair_eq (stepN_cast b mm k))).use ⟨rfl, ?_⟩
    | refine CallX.mk ⟨_, _, ((bookMay_ok b).to (congrArg gb hbd)).x, rfl, ?_⟩
    | refine CallX.mk ⟨_, _, ((meterMay_ok m).to (congrArg gb hmd)).x, rfl, ?_⟩
    | refine CallX.mk ⟨_, _, ((refStep_ok b mm k hb hmm ⟨by omega, by omega⟩).to (pair_eq (stepN_cast b mm k))).x, rfl, ?_⟩
    | refine ILoop.unroll 11 ?_
    | refine Done.mk ⟨rfl, rfl⟩
    | refine Done.mk ⟨congrArg gb ?_, rfl⟩
    | refine Done.mk ⟨?_, rfl⟩
    | refine Done.mk ⟨?_, ?_⟩)
  all_goals first
    | decide
    | (show _ = overG (S, F, 0); rw [← hS1, ← hF1, show (n - i).toNat = 0 by omega]; rfl)
    | exact ⟨⟨by omega, by omega⟩, hm, by omega, by rw [Int.sub_zero]; exact hS, by rw [Int.sub_zero]; exact hF⟩
    | exact ⟨⟨by omega, by omega⟩, ⟨by omega, by have := stepN_lt b mm k; omega⟩, zAt_0 _, (markTo_0 _ _ _).symm⟩
    | exact ⟨⟨by omega, by omega⟩, ref_next (by omega) hmm hN hg hS1 hF1⟩
    | exact ⟨⟨by decide, by decide⟩, half_z hzr, nextz0 hz, markY0 hz hg (by assumption) (by assumption)⟩
    | exact ⟨⟨by decide, by decide⟩, half_z hzr, nextz0 hz, markN0 hz hg (by omega)⟩
    | exact ⟨⟨by decide, by decide⟩, half_z hzr, nextz1 hz, markY1 hz hg (by assumption) (by assumption)⟩
    | exact ⟨⟨by decide, by decide⟩, half_z hzr, nextz1 hz, markN1 hz hg (by omega)⟩
    | exact ⟨⟨by decide, by decide⟩, half_z hzr, nextz2 hz, markY2 hz hg (by assumption) (by assumption)⟩
    | exact ⟨⟨by decide, by decide⟩, half_z hzr, nextz2 hz, markN2 hz hg (by omega)⟩
    | exact ⟨⟨by decide, by decide⟩, half_z hzr, nextz3 hz, markY3 hz hg (by assumption) (by assumption)⟩
    | exact ⟨⟨by decide, by decide⟩, half_z hzr, nextz3 hz, markN3 hz hg (by omega)⟩
    | exact ⟨⟨by decide, by decide⟩, half_z hzr, nextz4 hz, markY4 hz hg (by assumption) (by assumption)⟩
    | exact ⟨⟨by decide, by decide⟩, half_z hzr, nextz4 hz, markN4 hz hg (by omega)⟩
    | exact ⟨⟨by decide, by decide⟩, half_z hzr, nextz5 hz, markY5 hz hg (by assumption) (by assumption)⟩
    | exact ⟨⟨by decide, by decide⟩, half_z hzr, nextz5 hz, markN5 hz hg (by omega)⟩
    | exact ⟨⟨by decide, by decide⟩, half_z hzr, nextz6 hz, markY6 hz hg (by assumption) (by assumption)⟩
    | exact ⟨⟨by decide, by decide⟩, half_z hzr, nextz6 hz, markN6 hz hg (by omega)⟩
    | exact ⟨⟨by decide, by decide⟩, half_z hzr, nextz7 hz, markY7 hz hg (by assumption) (by assumption)⟩
    | exact ⟨⟨by decide, by decide⟩, half_z hzr, nextz7 hz, markN7 hz hg (by omega)⟩
    | exact ⟨⟨by decide, by decide⟩, half_z hzr, nextz8 hz, markY8 hz hg (by assumption) (by assumption)⟩
    | exact ⟨⟨by decide, by decide⟩, half_z hzr, nextz8 hz, markN8 hz hg (by omega)⟩
    | exact ⟨⟨by decide, by decide⟩, half_z hzr, nextz9 hz, markY9 hz hg (by assumption) (by assumption)⟩
    | exact ⟨⟨by decide, by decide⟩, half_z hzr, nextz9 hz, markN9 hz hg (by omega)⟩
    | omega
    | (exfalso; omega)

end Go.Hl
