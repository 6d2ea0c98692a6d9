/- Contracts of functions, bundle M4; proved for whatever the arguments' types allow, as each theorem says. -/
import Derived.Test.YtfghmggonjnbcaaM1
import Derived.Test.YtfghmggonjnbcaaJ5
import Derived.Test.YtfghmggonjnbcaaV2
import Derived.Test.YtfghmggonjnbcaaH1

/- Chapter 16: what is found, minute by minute, looking back: plain Lean.  -/
set_option linter.unusedVariables false
set_option linter.unusedSimpArgs false
namespace Go.Hl
open Go.Gh Go.Proofs

/-- The state ahead of each minute. -/
def stA (b : Book) (ks : List Int) : Nat → Meter × Int
  | 0 => (Meter.zero, 0)
  | j + 1 => ((stA b ks j).1.step b (ks[j]?.getD 0), restOf b (stA b ks j).1 (stA b ks j).2 (ks[j]?.getD 0))
def bitA (b : Book) (ks : List Int) (d j : Nat) : Bool := (stepN b (stA b ks j).1 (ks[j]?.getD 0)).testBit d
def FirstA (b : Book) (ks : List Int) (d j : Nat) : Prop := bitA b ks d j = true ∧ ∀ i, i < j → bitA b ks d i = false

theorem St16.all {b : Book} {ks : List Int} (hb : b.May) (hk : ∀ k, k ∈ ks → 0 ≤ k ∧ k < 4) (hl : (ks.length : Int) ≤ 40320) : ∀ j, j ≤ ks.length → St16 b ks j (stA b ks j).1 (stA b ks j).2
  | 0, _ => .start hb ks
  | j + 1, h => by
    have ih := St16.all hb hk hl j (by omega)
    have e : ks[j]? = some (ks[j]'(by omega)) := List.getElem?_eq_getElem (by omega)
    have hr := hk _ (List.mem_of_getElem? e)
    have := ih.step hb e ⟨hr.1, by omega⟩ (by omega)
    rw [stA, e]
    exact this
theorem bit_ref {b : Book} {ks : List Int} (hb : b.May) (hk : ∀ k, k ∈ ks → 0 ≤ k ∧ k < 4) (hl : (ks.length : Int) ≤ 40320) {d j : Nat} (hd : d < 10) (hj : j < ks.length) : bitA b ks d j = true ↔ (ks[j]? ≠ some 0 ∧ brkF b ks j d = true) := by
  have e : ks[j]? = some (ks[j]'(by omega)) := List.getElem?_eq_getElem (by omega)
  have hr := hk _ (List.mem_of_getElem? e)
  unfold bitA
  rw [e]
  simp only [Option.getD_some]
  by_cases h0 : ks[j] = 0
  · rw [h0, stepN_rest]; simp
  · rw [st_bits hb (St16.all hb hk hl j (by omega)) e (by omega) d hd]
    simp [h0]
theorem first_least {b : Book} {ks : List Int} {d : Nat} : ∀ (j i : Nat), i < j → bitA b ks d i = true → ∃ i, i < j ∧ FirstA b ks d i
  | j + 1, i, h, hb => by
    by_cases hx : ∃ i', i' < j ∧ bitA b ks d i' = true
    · obtain ⟨i', h1, h2⟩ := hx
      obtain ⟨q, h3, h4⟩ := first_least j i' h1 h2
      exact ⟨q, by omega, h4⟩
    · have hij : i = j := by
        by_cases e : i < j
        · exact absurd ⟨i, e, hb⟩ hx
        · omega
      subst hij
      refine ⟨i, by omega, hb, fun i' hi' => ?_⟩
      cases hq : bitA b ks d i' with
      | false => rfl
      | true => exact absurd ⟨i', hi', hq⟩ hx
theorem first_one {b : Book} {ks : List Int} {d i j : Nat} (h : FirstA b ks d i) (k : FirstA b ks d j) : i = j := by
  rcases Nat.lt_trichotomy i j with e | e | e
  · have := k.2 i e; rw [h.1] at this; cases this
  · exact e
  · have := h.2 j e; rw [k.1] at this; cases this

/-- A sweep that is so far. -/
structure SwA (b : Book) (ks : List Int) (j : Nat) (w : SW) : Prop where
  m : w.m = (stA b ks j).1
  rest : w.rest = (stA b ks j).2
  mem : ∀ f, f ∈ w.x.out ↔ ∃ d i : Nat, d < 10 ∧ i < j ∧ FirstA b ks d i ∧ f = ⟨d, sinceV b (stA b ks i).1 (stA b ks i).2 d i, i + 1⟩
  nt : NInv16 w.x
theorem SwA.start (b : Book) (ks : List Int) : SwA b ks 0 SW.start := by
  refine ⟨rfl, rfl, fun f => ⟨fun h => (by cases h), ?_⟩, .start⟩
  rintro ⟨d, i, _, h, _⟩; omega
theorem SwA.free {b : Book} {ks : List Int} {j : Nat} {w : SW} (h : SwA b ks j w) {d : Nat} (hd : d < 10) : w.x.s.testBit d = false ↔ ∀ i, i < j → bitA b ks d i = false := by
  constructor
  · intro hf i hi
    cases hq : bitA b ks d i with
    | false => rfl
    | true =>
      obtain ⟨q, h1, h2⟩ := first_least j i hi hq
      have := (h.nt.bits d).2 ⟨_, (h.mem _).2 ⟨d, q, hd, h1, h2, rfl⟩, rfl⟩
      rw [hf] at this; cases this
  · intro hall
    cases hq : w.x.s.testBit d with
    | false => rfl
    | true =>
      obtain ⟨f, h1, h2⟩ := (h.nt.bits d).1 hq
      obtain ⟨e, i, h3, h4, h5, rfl⟩ := (h.mem f).1 h1
      simp only at h2
      have : e = d := by omega
      subst this
      have := hall i h4
      rw [h5.1] at this; cases this

theorem fi_first {b : Book} {k : Int} {m : Meter} (hm : m.May) {d : Nat} (hd : d < 10) : ∀ n : Nat, m.Now + (n : Int) ≤ 40320 →
    ((fiN b k n m F10.none).at d < 0 ∧ ∀ i, i < n → (stepN b (stN b k i m) k).testBit d = false) ∨ (∃ i, i < n ∧ (fiN b k n m F10.none).at d = m.Now + (i : Int) ∧ (stepN b (stN b k i m) k).testBit d = true ∧ ∀ i', i' < i → (stepN b (stN b k i' m) k).testBit d = false)
  | 0, _ => .inl ⟨by rw [fiN, at16_none]; decide, fun i h => by omega⟩
  | n + 1, hN => by
    have h1 := stN_May (b := b) (k := k) hm n (by omega)
    have hn := hm.now
    rw [fiN, at16_mark _ _ _ d hd]
    unfold markI
    rcases fi_first (b := b) (k := k) hm hd n (by omega) with ⟨g1, g2⟩ | ⟨i, g1, g2, g3, g4⟩
    · cases hq : (stepN b (stN b k n m) k).testBit d with
      | true =>
        right
        rw [if_pos ⟨rfl, g1⟩]
        exact ⟨n, by omega, h1.2, hq, g2⟩
      | false =>
        left
        rw [if_neg (fun e => by cases e.1)]
        refine ⟨g1, fun i hi => ?_⟩
        by_cases e : i = n
        · subst e; exact hq
        · exact g2 i (by omega)
    · right
      rw [if_neg (fun e => by omega)]
      exact ⟨i, by omega, g2, g3, g4⟩

theorem step_lieA {b : Book} {M : Meter} {k : Int} (h0 : k ≠ 0) (hl : 0 ≤ M.Lie) : (M.step b k).Lie = 0 := by
  obtain ⟨t1, t2, t3, t4, t5⟩ := turn_same b M
  have hu : ((M.turn b).up b).Lie = 0 := by
    unfold Meter.up
    split
    · rw [rose_eqL]
    · omega
  have : ∀ U : Meter, U.Lie = 0 → ((U.driven b k).worked k).Lie = 0 := by
    intro U hU
    unfold Meter.worked Meter.driven Meter.drove Meter.droveL
    repeat' split
    all_goals (try simp only); omega
  have e : M.step b k = { ((((M.turn b).up b).driven b k).worked k) with Now := ((((M.turn b).up b).driven b k).worked k).Now + 1 } := if_neg h0
  rw [e]
  exact this _ hu
theorem step_same {b : Book} {M : Meter} {k : Int} (h0 : k ≠ 0) (hl : M.Lie = 0) : (M.step b k).Dawn = M.Dawn ∧ (M.step b k).Sabbath = M.Sabbath := by
  obtain ⟨t1, t2, t3, t4, t5⟩ := turn_same b M
  have hu : (M.turn b).up b = M.turn b := if_neg (by omega)
  have : ∀ U : Meter, ((U.driven b k).worked k).Dawn = U.Dawn ∧ ((U.driven b k).worked k).Sabbath = U.Sabbath := by
    intro U
    unfold Meter.worked Meter.driven Meter.drove Meter.droveL
    repeat' split
    all_goals exact ⟨rfl, rfl⟩
  have e : M.step b k = { ((((M.turn b).up b).driven b k).worked k) with Now := ((((M.turn b).up b).driven b k).worked k).Now + 1 } := if_neg h0
  rw [e, hu]
  have := this (M.turn b)
  exact ⟨this.1.trans t4, this.2.trans t5⟩

theorem blk_state {b : Book} {ks : List Int} {j : Nat} {k : Int} {n : Nat} {m : Meter} (hm : m = (stA b ks j).1) (hks : ∀ i, i < n → ks[j + i]? = some k) : ∀ i, i ≤ n → stN b k i m = (stA b ks (j + i)).1
  | 0, _ => hm
  | i + 1, h => by
    have ih := blk_state hm hks i (by omega)
    show (stN b k i m).step b k = (stA b ks (j + i + 1)).1
    rw [ih, stA, hks i (by omega)]; rfl
theorem blk_lie {b : Book} {k : Int} {m : Meter} (h0 : k ≠ 0) (hm : 0 ≤ m.Lie) : ∀ i, 1 ≤ i → (stN b k i m).Lie = 0
  | 1, _ => step_lieA h0 hm
  | i + 2, _ => step_lieA h0 (by rw [blk_lie h0 hm (i + 1) (by omega)]; decide)
theorem blk_rest {b : Book} {ks : List Int} {j : Nat} {k : Int} {n : Nat} {w : SW} (hm : w.m = (stA b ks j).1) (hr : w.rest = (stA b ks j).2) (hks : ∀ i, i < n → ks[j + i]? = some k) (hl : 0 ≤ w.m.Lie) : ∀ i, 1 ≤ i → i ≤ n → (stA b ks (j + i)).2 = restOf b w.m w.rest k
  | 1, _, h => by
    have h0 := hks 0 (by omega)
    rw [Nat.add_zero] at h0
    rw [stA, h0, ← hm, ← hr]; rfl
  | i + 2, _, h => by
    have ih := blk_rest hm hr hks hl (i + 1) (by omega) (by omega)
    have hs := blk_state hm hks (i + 1) (by omega)
    rw [show j + (i + 2) = (j + (i + 1)) + 1 by omega, stA, hks (i + 1) (by omega), ih, ← hs]
    show restOf b (stN b k (i + 1) w.m) (restOf b w.m w.rest k) k = _
    by_cases h0 : k = 0
    · exact if_neg (fun e => e.1 h0)
    · have hz := blk_lie (b := b) h0 hl (i + 1) (by omega)
      have : endedB b (stN b k (i + 1) w.m) = false := if_pos hz
      exact if_neg (fun e => by rw [this] at e; cases e.2)
theorem blk_same {b : Book} {k : Int} {m : Meter} (h0 : k ≠ 0) (hl : m.Lie = 0) : ∀ i, (stN b k i m).Lie = 0 ∧ (stN b k i m).Dawn = m.Dawn ∧ (stN b k i m).Sabbath = m.Sabbath
  | 0 => ⟨hl, rfl, rfl⟩
  | i + 1 => by
    obtain ⟨h1, h2, h3⟩ := blk_same (b := b) h0 hl i
    have := step_same (b := b) h0 h1
    exact ⟨step_lieA h0 (by omega), this.1.trans h2, this.2.trans h3⟩
theorem since_same {b : Book} {M N : Meter} {R c a : Int} (h1 : M.Dawn = N.Dawn) (h2 : M.Sabbath = N.Sabbath) : sinceV b M R c a = sinceV b N R c a := by unfold sinceV; rw [h1, h2]

theorem SwA.block {b : Book} {ks : List Int} {j : Nat} {w : SW} (h : SwA b ks j w) {k : Int} {n : Nat} (hm : w.m.May) (hN : w.m.Now = j) (hks : ∀ i, i < n → ks[j + i]? = some k) (hn : 1 ≤ n) (hc : k = 0 ∨ w.m.Lie = 0 ∨ n = 1) (hJ : (j : Int) + n ≤ 40320) :
    SwA b ks (j + n) (bS b k (n : Int) w) := by
  have hst := blk_state h.m hks
  have hbit : ∀ d i, i < n → (stepN b (stN b k i w.m) k).testBit d = bitA b ks d (j + i) := by
    intro d i hi
    unfold bitA
    rw [hst i (by omega), hks i hi]; rfl
  have hsince : ∀ d i, i < n → bitA b ks d (j + i) = true → sinceV b w.m w.rest d ((j + i : Nat) : Int) = sinceV b (stA b ks (j + i)).1 (stA b ks (j + i)).2 d ((j + i : Nat) : Int) := by
    intro d i hi hb
    have h0 : k ≠ 0 := by
      rintro rfl
      rw [← hbit d i hi, stepN_rest] at hb
      simp at hb
    by_cases hi0 : i = 0
    · subst hi0; rw [Nat.add_zero, ← h.m, ← h.rest]
    · have hl : w.m.Lie = 0 := by omega
      have hs := blk_same (b := b) h0 hl i
      rw [blk_rest h.m h.rest hks hm.lie.1 i (by omega) (by omega), ← hst i (by omega)]
      have : restOf b w.m w.rest k = w.rest := by
        have : endedB b w.m = false := if_pos hl
        exact if_neg (fun e => by rw [this] at e; cases e.2)
      rw [this]
      exact (since_same hs.2.1 hs.2.2).symm
  refine ⟨?_, ?_, ?_, h.nt.ntTo 10⟩
  · show stN b k ((n : Int)).toNat w.m = _
    rw [Int.toNat_natCast]; exact hst n (Nat.le_refl _)
  · exact (blk_rest h.m h.rest hks hm.lie.1 n hn (Nat.le_refl _)).symm
  · intro f
    rw [bS_mem, Int.toNat_natCast, h.mem]
    constructor
    · rintro (⟨d, i, h1, h2, h3⟩ | ⟨d, h1, h2, h3, rfl⟩)
      · exact ⟨d, i, h1, by omega, h3⟩
      · rcases fi_first (b := b) (k := k) hm h1 n (by omega) with ⟨g1, _⟩ | ⟨i, g1, g2, g3, g4⟩
        · omega
        · rw [hbit d i g1] at g3
          refine ⟨d, j + i, h1, by omega, ⟨g3, fun q hq => ?_⟩, ?_⟩
          · by_cases hqj : q < j
            · exact (h.free h1).1 h3 q hqj
            · have := g4 (q - j) (by omega)
              rw [hbit d (q - j) (by omega), show j + (q - j) = q by omega] at this
              exact this
          · have e : (fiN b k n w.m F10.none).at d = ((j + i : Nat) : Int) := by rw [g2, hN]; omega
            rw [e, hsince d i g1 g3]
    · rintro ⟨d, i, h1, h2, h3, rfl⟩
      by_cases hi : i < j
      · exact .inl ⟨d, i, h1, hi, h3, rfl⟩
      · right
        have hf : w.x.s.testBit d = false := (h.free h1).2 fun q hq => h3.2 q (by omega)
        rcases fi_first (b := b) (k := k) hm h1 n (by omega) with ⟨g1, g2⟩ | ⟨i1, g1, g2, g3, g4⟩
        · have := g2 (i - j) (by omega)
          rw [hbit d (i - j) (by omega), show j + (i - j) = i by omega, h3.1] at this
          cases this
        · have ei : j + i1 = i := by
            rw [hbit d i1 g1] at g3
            refine first_one ⟨g3, fun q hq => ?_⟩ h3
            by_cases hqj : q < j
            · exact h3.2 q (by omega)
            · have := g4 (q - j) (by omega)
              rw [hbit d (q - j) (by omega), show j + (q - j) = q by omega] at this
              exact this
          subst ei
          have e : (fiN b k n w.m F10.none).at d = ((j + i1 : Nat) : Int) := by rw [g2, hN]; omega
          refine ⟨d, h1, by omega, hf, ?_⟩
          rw [e, hsince d i1 g1 h3.1]

theorem SwA.swept {b : Book} {ks : List Int} {w : SW} {r : Rec} {j : Nat} (h : SwA b ks j w) (hm : w.m.May) (hN : w.m.Now = j) (hr : recErr r = 0) (hf : r.From = j) (hks : ∀ i, i < (r.To - r.From).toNat → ks[j + i]? = some r.Kind) :
    SwA b ks (j + (r.To - r.From).toNat) (sweptS b r w) := by
  have hi := recErr_inv hr
  have hlie := hm.lie
  unfold sweptS
  by_cases hc : r.Kind ≠ 0 ∧ 0 < w.m.Lie ∧ 1 < r.To - r.From
  · rw [if_pos hc]
    have h1 := h.block (k := r.Kind) (n := 1) hm hN (fun i hi => hks i (by omega)) (Nat.le_refl _) (.inr (.inr rfl)) (by omega)
    have hs := stN_May (b := b) (k := r.Kind) hm 1 (by omega)
    have hl := blk_lie (b := b) hc.1 hlie.1 1 (Nat.le_refl _)
    have h2 := h1.block (k := r.Kind) (n := (r.To - r.From - 1).toNat) hs.1 (by
        show (stN b r.Kind 1 w.m).Now = _
        rw [hs.2, hN]; omega) (fun i hi => by
        have := hks (1 + i) (by omega)
        rwa [← Nat.add_assoc] at this) (by omega) (.inr (.inl hl)) (by omega)
    rw [show (((r.To - r.From - 1).toNat : Nat) : Int) = r.To - r.From - 1 by omega, show j + 1 + (r.To - r.From - 1).toNat = j + (r.To - r.From).toNat by omega] at h2
    exact h2
  · rw [if_neg hc]
    have h1 := h.block (k := r.Kind) (n := (r.To - r.From).toNat) hm hN hks (by omega) (by omega) (by omega)
    rw [show (((r.To - r.From).toNat : Nat) : Int) = r.To - r.From by omega] at h1
    exact h1
theorem SwA.all {b : Book} (hL : 0 < b.Length) {ks : List Int} : ∀ (l : List Rec) (pre : List Int) (w : SW), ks = pre ++ kindsOf l → SwA b ks pre.length w → WOk w → w.m.Now = pre.length → Chain w.m.Now l → SwA b ks (pre.length + (kindsOf l).length) (swAll b l w)
  | [], pre, w, _, h, _, _, _ => h
  | r :: l, pre, w, hk, h, hw, hN, ⟨c1, c2, c3⟩ => by
    have hi := recErr_inv c2
    have e : kindsOf (r :: l) = List.replicate (r.To - r.From).toNat r.Kind ++ kindsOf l := rfl
    have hs := hw.swept (b := b) hL c2 c1
    have h1 := h.swept (r := r) hw.may hN c2 (by omega) (fun i hi => by
      rw [hk, List.getElem?_append_right (by omega), Nat.add_sub_cancel_left, e, List.getElem?_append_left (by rw [List.length_replicate]; exact hi), List.getElem?_replicate, if_pos hi])
    have h2 := SwA.all (ks := ks) hL l (pre ++ List.replicate (r.To - r.From).toNat r.Kind) (sweptS b r w) (by rw [hk, e, List.append_assoc]) (by rw [List.length_append, List.length_replicate]; exact h1) hs.1 (by rw [hs.2, List.length_append, List.length_replicate]; omega) (by rw [hs.2]; exact c3)
    rw [List.length_append, List.length_replicate] at h2
    rw [e, List.length_append, List.length_replicate, ← Nat.add_assoc]
    exact h2

/-! ### The reference's findings -/
theorem firstM_iff {b : Book} {ks : List Int} {c : Int} {i : Nat} : ∀ (n m : Nat), firstM b ks c n m = some i ↔ (m ≤ i ∧ i < m + n ∧ (ks[i]? ≠ some 0 ∧ brkF b ks i c = true) ∧ ∀ q, m ≤ q → q < i → ¬ (ks[q]? ≠ some 0 ∧ brkF b ks q c = true))
  | 0, m => by
    constructor
    · intro h; cases h
    · rintro ⟨h1, h2, _⟩; omega
  | n + 1, m => by
    rw [firstM]
    by_cases h : ks[m]? ≠ some 0 ∧ brkF b ks m c = true
    · rw [if_pos h]
      constructor
      · intro e; cases e; exact ⟨Nat.le_refl _, by omega, h, fun q h1 h2 => by omega⟩
      · rintro ⟨h1, h2, h3, h4⟩
        by_cases e : m = i
        · rw [e]
        · exact absurd h (h4 m (Nat.le_refl _) (by omega))
    · rw [if_neg h, firstM_iff n (m + 1)]
      constructor
      · rintro ⟨h1, h2, h3, h4⟩
        refine ⟨by omega, by omega, h3, fun q hq1 hq2 => ?_⟩
        by_cases e : q = m
        · subst e; exact h
        · exact h4 q (by omega) hq2
      · rintro ⟨h1, h2, h3, h4⟩
        have : m ≠ i := fun e => h (by rw [e]; exact h3)
        exact ⟨by omega, by omega, h3, fun q hq1 hq2 => h4 q (by omega) hq2⟩
theorem fndC_mem {b : Book} {ks : List Int} {c : Int} {f : Fnd} : f ∈ fndC b ks c ↔ ∃ i, firstM b ks c ks.length 0 = some i ∧ f = ⟨c, sinF b ks i c, i + 1⟩ := by
  unfold fndC
  cases h : firstM b ks c ks.length 0 with
  | none => simp
  | some i => simp
theorem refAud_mem {b : Book} {ks : List Int} {f : Fnd} : ∀ (n : Nat) (c : Int), f ∈ refAud b ks n c ↔ ∃ d : Nat, d < n ∧ ∃ i, firstM b ks (c + d) ks.length 0 = some i ∧ f = ⟨c + d, sinF b ks i (c + d), i + 1⟩
  | 0, c => by
    constructor
    · intro h; cases h
    · rintro ⟨d, h, _⟩; omega
  | n + 1, c => by
    rw [refAud, List.mem_append, fndC_mem, refAud_mem n (c + 1)]
    constructor
    · rintro (⟨i, h1, h2⟩ | ⟨d, h1, i, h2, h3⟩)
      · exact ⟨0, by omega, i, by rw [show c + ((0 : Nat) : Int) = c by omega]; exact ⟨h1, h2⟩⟩
      · refine ⟨d + 1, by omega, i, ?_⟩
        rw [show c + ((d + 1 : Nat) : Int) = c + 1 + d by omega]
        exact ⟨h2, h3⟩
    · rintro ⟨d, h1, i, h2, h3⟩
      cases d with
      | zero =>
        left
        rw [show c + ((0 : Nat) : Int) = c by omega] at h2 h3
        exact ⟨i, h2, h3⟩
      | succ d =>
        right
        rw [show c + ((d + 1 : Nat) : Int) = c + 1 + d by omega] at h2 h3
        exact ⟨d, by omega, i, h2, h3⟩
theorem refAud_cl {b : Book} {ks : List Int} {f : Fnd} {n : Nat} {c : Int} (h : f ∈ refAud b ks n c) : c ≤ f.Clause ∧ f.Clause < c + n := by
  obtain ⟨d, h1, i, _, rfl⟩ := (refAud_mem n c).1 h
  simp only; omega
theorem refAud_strict {b : Book} {ks : List Int} : ∀ (n : Nat) (c : Int), (refAud b ks n c).Pairwise fun f g => f.Clause < g.Clause
  | 0, c => List.Pairwise.nil
  | n + 1, c => by
    rw [refAud]
    refine List.pairwise_append.2 ⟨?_, refAud_strict n (c + 1), fun f hf g hg => ?_⟩
    · unfold fndC; split
      · exact List.Pairwise.nil
      · exact List.pairwise_singleton ..
    · obtain ⟨i, _, rfl⟩ := fndC_mem.1 hf
      have := refAud_cl hg
      simp only; omega
theorem refAud_len {b : Book} {ks : List Int} : ∀ (n : Nat) (c : Int), (refAud b ks n c).length ≤ n
  | 0, c => Nat.le_refl _
  | n + 1, c => by
    have := refAud_len (b := b) (ks := ks) n (c + 1)
    have : (fndC b ks c).length ≤ 1 := by unfold fndC; split <;> simp
    rw [refAud, List.length_append]; omega

theorem rise_ext : ∀ (l k : List Fnd), l.Pairwise (fun f g => f.Clause < g.Clause) → k.Pairwise (fun f g => f.Clause < g.Clause) → (∀ g, g ∈ l ↔ g ∈ k) → l = k
  | [], [], _, _, _ => rfl
  | [], y :: k, _, _, h => by cases (h y).2 (List.mem_cons_self ..)
  | x :: l, [], _, _, h => by cases (h x).1 (List.mem_cons_self ..)
  | x :: l, y :: k, hl, hk, h => by
    obtain ⟨l1, l2⟩ := List.pairwise_cons.1 hl
    obtain ⟨k1, k2⟩ := List.pairwise_cons.1 hk
    have hxy : x = y := by
      rcases List.mem_cons.1 ((h x).1 (List.mem_cons_self ..)) with e | e
      · exact e
      · rcases List.mem_cons.1 ((h y).2 (List.mem_cons_self ..)) with e2 | e2
        · exact e2.symm
        · have := k1 _ e; have := l1 _ e2; omega
    subst hxy
    congr 1
    refine rise_ext l k l2 k2 fun g => ⟨fun hg => ?_, fun hg => ?_⟩
    · rcases List.mem_cons.1 ((h g).1 (List.mem_cons_of_mem _ hg)) with e | e
      · subst e; have := l1 _ hg; omega
      · exact e
    · rcases List.mem_cons.1 ((h g).2 (List.mem_cons_of_mem _ hg)) with e | e
      · subst e; have := k1 _ hg; omega
      · exact e
theorem audit_rise (b : Book) (l : List Rec) : (auditF b l).Pairwise fun f g => f.Clause < g.Clause := by
  rw [List.pairwise_iff_getElem]
  intro i j hi hj hij
  exact audit_lt (b := b) (l := l) i j hij _ _ (by simp [hi]) (by simp [hj])

/-- The sweep finds what looking back finds. -/
theorem audit_back {b : Book} {l : List Rec} (he : dutyErr b l = 0) : auditF b l = refAud b (kindsOf l) 10 0 := by
  obtain ⟨hb, _, _, hc⟩ := dutyErr_0 he
  have hL := (may_length hb).1
  have hk := kinds_in hc
  have hlen := chain_len l 0 hc (by decide)
  have hl : ((kindsOf l).length : Int) ≤ 40320 := by omega
  have hA := SwA.all hL (ks := kindsOf l) l [] SW.start rfl (SwA.start b _) .start rfl hc
  have hst := St16.all hb hk hl
  have hbr := @bit_ref b (kindsOf l) hb hk hl
  refine rise_ext _ _ (audit_rise b l) (refAud_strict 10 0) fun f => ?_
  rw [auditF_mem he, hA.mem, refAud_mem, List.length_nil, Nat.zero_add]
  have key : ∀ d i : Nat, d < 10 → (firstM b (kindsOf l) (0 + (d : Int)) (kindsOf l).length 0 = some i ↔ i < (kindsOf l).length ∧ FirstA b (kindsOf l) d i) := by
    intro d i hd
    rw [firstM_iff, show (0 : Int) + (d : Int) = d by omega]
    constructor
    · rintro ⟨_, h2, h3, h4⟩
      have hi : i < (kindsOf l).length := by omega
      refine ⟨hi, (hbr hd hi).2 h3, fun q hq => ?_⟩
      cases hz : bitA b (kindsOf l) d q with
      | false => rfl
      | true => exact absurd ((hbr hd (by omega)).1 hz) (h4 q (by omega) hq)
    · rintro ⟨h1, h2⟩
      refine ⟨by omega, by omega, (hbr hd h1).1 h2.1, fun q _ hq hz => ?_⟩
      have := h2.2 q hq
      rw [(hbr hd (by omega)).2 hz] at this; cases this
  constructor
  · rintro ⟨d, i, h1, h2, h3, rfl⟩
    refine ⟨d, h1, i, (key d i h1).2 ⟨h2, h3⟩, ?_⟩
    rw [st_since (hst i (by omega)), show (0 : Int) + (d : Int) = d by omega]
  · rintro ⟨d, h1, i, h2, rfl⟩
    obtain ⟨h3, h4⟩ := (key d i h1).1 h2
    refine ⟨d, i, h1, h3, h4, ?_⟩
    rw [st_since (hst i (by omega)), show (0 : Int) + (d : Int) = d by omega]

end Go.Hl

/- Chapter 16: the law Audits.  -/
set_option linter.unusedVariables false
set_option linter.unusedSimpArgs false
namespace Go.Hl
open Go.Gh Go.Proofs

def lt16 : List Rec → Bool
  | [] => true
  | r :: t => if 300 < r.To then false else lt16 t
def light16 (l : List Rec) : Bool := decide (l.length ≤ 60) && lt16 l
def pl_M5_1 : Nat → Option (List Nat × List Nat) := (fun k => bif Nat.beq k 4 then some ([1000004, 8, 9, 10], []) else none)
def pl_M5_2 : Nat → Option (List Nat × List Nat) := (fun k => bif Nat.beq k 4 then some ([1000004, 8, 9, 10], []) else none)
set_option maxRecDepth 100000 in
set_option maxHeartbeats 1000000 in
theorem light16_ok (l : List Rec) : ICalls Try.prog 4 [.list 3 (recs l) none] [] (Done (gb (light16 l)) []) := by
  unfold light16
  by_cases hl : (l.length : Int) ≤ 60
  case neg =>
    rw [decide_eq_false (by omega), Bool.false_and]
    refine ICalls.of_body Try.func4 rfl Try.call4 rfl (Nat.le_of_ble_eq_true rfl) pl_M5_1 rfl ?_
    repeat' ((conv => whnf); first
      | refine Br.yes rfl ?_
      | refine Br.no rfl ?_
      | refine Br.yes (beq_self_eq_true _) ?_
      | refine Br.not ?_
      | refine Br.yes (decide_eq_true (by assumption)) ?_
      | refine Br.no (decide_eq_false (by assumption)) ?_
      | refine Br.yes (beq_iff_eq.2 (by assumption)) ?_
      | refine Br.no (beq_eq_false_iff_ne.2 (by assumption)) ?_
      | refine Br.yes (bne_iff_ne.2 (by assumption)) ?_
      | (refine Br.dec (fun h => ?_) (fun h => ?_) <;> try dsimp only at h)
      | (refine Br.beqI (fun h => ?_) (fun h => ?_) <;> try dsimp only at h)
      | (refine Br.bneI (fun h => ?_) (fun h => ?_) <;> try dsimp only at h)
      | refine Br.mk (fun h => ?_) (fun h => ?_)
      | refine Need.mk (by first | kernel_rfl | exact ⟨of_decide_eq_true rfl, of_decide_eq_true rfl⟩ | omega) ?_
      | refine Len.mk ⟨_, by simp only [List.length_cons, List.length_nil, Nat.reduceAdd, Int.cast_ofNat_Int]; rfl, ?_⟩
      | refine Wr.lit _ (by simp only [Int.reduceAdd, Int.reduceSub, Int.reduceMul]; rfl) (by decide) ?_
      | refine Wr.fit (by omega) ?_
      | refine Wr.fit (by dsimp only; omega) ?_
      | refine Elem.mk ⟨_, ⟨of_decide_eq_true rfl, rfl⟩, ?_⟩
      | refine Len.map ?_
      | refine Len.dropM ?_
      | refine Elem.dropM ?_
      | refine Len.takeM ?_
      | refine Elem.takeM ?_
      | refine Elem.mapK (by assumption) ?_
      | refine Elem.mapI (by omega) (by assumption) ?_
      | refine Elem.mapN (by omega) (fun x hx => ?_)
      | refine Elem.map (by omega) (by omega) (fun x hx => ?_)
      | refine Done.mk ⟨rfl, rfl⟩
      | refine Done.mk ⟨congrArg gb ?_, rfl⟩
      | refine Done.mk ⟨?_, rfl⟩
      | refine Done.mk ⟨?_, ?_⟩)
    all_goals omega
  case pos =>
    rw [decide_eq_true (by omega), Bool.true_and]
    generalize hR : lt16 l = R
    refine ICalls.of_body Try.func4 rfl Try.call4 rfl (Nat.le_of_ble_eq_true rfl) pl_M5_2 rfl ?_
    repeat' ((conv => whnf); first
      | refine Br.yes rfl ?_
      | refine Br.no rfl ?_
      | (refine Elem.mapN (by omega) (fun x hx => ?_))
      | (refine ILoop.ov 1000004 (fun (i : Nat) => [(10, gi i)]) (fun (i : Nat) => []) (fun (i : Nat) => i ≤ l.length ∧ lt16 (l.drop i) = R) (fun (i : Nat) => l.length - i) (0) (by exact rfl) ?_; (conv => whnf); refine Start.mk rfl ?_ ?_; (try dsimp only); rotate_left; rintro i ⟨hi, hr⟩)
      | (refine Again.mk ⟨(i + 1), rfl, ?_, ?_⟩ <;> try dsimp only)
      | refine Br.yes (beq_self_eq_true _) ?_
      | refine Br.not ?_
      | refine Br.yes (decide_eq_true (by assumption)) ?_
      | refine Br.no (decide_eq_false (by assumption)) ?_
      | refine Br.yes (beq_iff_eq.2 (by assumption)) ?_
      | refine Br.no (beq_eq_false_iff_ne.2 (by assumption)) ?_
      | refine Br.yes (bne_iff_ne.2 (by assumption)) ?_
      | (refine Br.dec (fun h => ?_) (fun h => ?_) <;> try dsimp only at h)
      | (refine Br.beqI (fun h => ?_) (fun h => ?_) <;> try dsimp only at h)
      | (refine Br.bneI (fun h => ?_) (fun h => ?_) <;> try dsimp only at h)
      | refine Br.mk (fun h => ?_) (fun h => ?_)
      | refine Need.mk (by first | kernel_rfl | exact ⟨of_decide_eq_true rfl, of_decide_eq_true rfl⟩ | omega) ?_
      | refine Len.mk ⟨_, by simp only [List.length_cons, List.length_nil, Nat.reduceAdd, Int.cast_ofNat_Int]; rfl, ?_⟩
      | refine Wr.lit _ (by simp only [Int.reduceAdd, Int.reduceSub, Int.reduceMul]; rfl) (by decide) ?_
      | refine Wr.fit (by omega) ?_
      | refine Wr.fit (by dsimp only; omega) ?_
      | refine Elem.mk ⟨_, ⟨of_decide_eq_true rfl, rfl⟩, ?_⟩
      | refine Len.map ?_
      | refine Len.dropM ?_
      | refine Elem.dropM ?_
      | refine Len.takeM ?_
      | refine Elem.takeM ?_
      | refine Elem.mapK (by assumption) ?_
      | refine Elem.mapI (by omega) (by assumption) ?_
      | refine Elem.mapN (by omega) (fun x hx => ?_)
      | refine Elem.map (by omega) (by omega) (fun x hx => ?_)
      | refine Done.mk ⟨rfl, rfl⟩
      | refine Done.mk ⟨congrArg gb ?_, rfl⟩
      | refine Done.mk ⟨?_, rfl⟩
      | refine Done.mk ⟨?_, ?_⟩)
    all_goals first
      | omega
      | (rw [drop_of_get hx, lt16, if_pos (by assumption)] at hr; exact hr)
      | (rw [drop_of_get hx, lt16, if_neg (by assumption)] at hr; exact ⟨by omega, hr⟩)
      | (rw [List.drop_eq_nil_of_le (by omega), lt16] at hr; exact hr)
      | exact ⟨by omega, hR⟩
theorem light16_len {l : List Rec} (h : light16 l = true) : (l.length : Int) ≤ 60 := by
  unfold light16 at h
  simp only [Bool.and_eq_true, decide_eq_true_eq] at h
  omega

def pl_M5_3 : Nat → Option (List Nat × List Nat) := (fun k => bif Nat.beq k 7 then some ([1000007, 2, 7, 8, 9], [102, 108, 152]) else bif Nat.beq k 10 then some ([1000010, 2, 7, 8, 9, 10], [102, 108, 152]) else none)
set_option maxRecDepth 100000 in
set_option maxHeartbeats 1000000 in
theorem refAudit16_err (b : Book) (l : List Rec) (hl : (l.length : Int) ≤ 1000) (he : ¬ dutyErr b l = 0) : ICalls Try.prog 7 [b.g, .list 3 (recs l) none] [] (Done (.tup [.list 3 (fnds []) none, gi (dutyErr b l)]) []) := by
  have h1 := refDutyCheck_ok b l (by omega)
  generalize dutyErr b l = e at *
  refine ICalls.of_body Try.func7 rfl Try.call7 rfl (Nat.le_of_ble_eq_true rfl) pl_M5_3 rfl ?_
  repeat' ((conv => whnf); first
    | refine Br.yes rfl ?_
    | refine Br.no rfl ?_
    | refine Br.yes (beq_self_eq_true _) ?_
    | refine Br.not ?_
    | refine Br.yes (decide_eq_true (by assumption)) ?_
    | refine Br.no (decide_eq_false (by assumption)) ?_
    | refine Br.yes (beq_iff_eq.2 (by assumption)) ?_
    | refine Br.no (beq_eq_false_iff_ne.2 (by assumption)) ?_
    | refine Br.yes (bne_iff_ne.2 (by assumption)) ?_
    | (refine Br.dec (fun h => ?_) (fun h => ?_) <;> try dsimp only at h)
    | (refine Br.beqI (fun h => ?_) (fun h => ?_) <;> try dsimp only at h)
    | (refine Br.bneI (fun h => ?_) (fun h => ?_) <;> try dsimp only at h)
    | refine Br.mk (fun h => ?_) (fun h => ?_)
    | refine Need.mk (app_need (by first | (simp only [List.length_append, List.length_map, List.length_nil, List.length_cons, List.nil_append, Nat.zero_add, Nat.add_zero]; done) | (simp only [List.length_append, List.length_map, List.length_nil, List.length_cons, List.nil_append, Nat.zero_add, Nat.add_zero]; omega) | omega) (Nat.le_of_ble_eq_true rfl) (by first | (simp only [List.length_append, List.length_map, List.length_nil, List.length_cons, List.nil_append, Nat.zero_add, Nat.add_zero]; done) | (simp only [List.length_append, List.length_map, List.length_nil, List.length_cons, List.nil_append, Nat.zero_add, Nat.add_zero]; omega) | omega)) ?_
    | refine Need.mk (app_need0 (Nat.le_of_ble_eq_true rfl) (by first | (simp only [List.length_append, List.length_map, List.length_nil, List.length_cons, List.nil_append, Nat.zero_add, Nat.add_zero]; done) | (simp only [List.length_append, List.length_map, List.length_nil, List.length_cons, List.nil_append, Nat.zero_add, Nat.add_zero]; omega) | omega)) ?_
    | refine Need.mk (by first | kernel_rfl | exact ⟨of_decide_eq_true rfl, of_decide_eq_true rfl⟩ | omega) ?_
    | refine Len.mk ⟨_, by simp only [List.length_cons, List.length_nil, Nat.reduceAdd, Int.cast_ofNat_Int]; rfl, ?_⟩
    | refine Wr.lit _ (by simp only [Int.reduceAdd, Int.reduceSub, Int.reduceMul]; rfl) (by decide) ?_
    | refine Wr.fit (by omega) ?_
    | refine Wr.fit (by dsimp only; omega) ?_
    | refine Elem.mk ⟨_, ⟨of_decide_eq_true rfl, rfl⟩, ?_⟩
    | refine Len.map ?_
    | refine Len.dropM ?_
    | refine Elem.dropM ?_
    | refine Len.takeM ?_
    | refine Elem.takeM ?_
    | refine Elem.mapK (by assumption) ?_
    | refine Elem.mapI (by omega) (by assumption) ?_
    | refine Elem.mapN (by omega) (fun x hx => ?_)
    | refine Elem.map (by omega) (by omega) (fun x hx => ?_)
    | refine (h1).use ⟨rfl, ?_⟩
    | refine CallX.mk ⟨_, _, (h1).x, rfl, ?_⟩
    | refine Done.mk ⟨rfl, rfl⟩
    | refine Done.mk ⟨congrArg gb ?_, rfl⟩
    | refine Done.mk ⟨?_, rfl⟩
    | refine Done.mk ⟨?_, ?_⟩)
  all_goals first
    | omega
    | (exfalso; omega)

set_option maxRecDepth 100000 in
set_option maxHeartbeats 4000000 in
theorem dutyAudits_ok (b : Book) (l : List Rec) : ICalls Try.prog 3 [b.g, .list 3 (recs l) none] [] (Done (gb true) []) := by
  by_cases hb : light16 l = true
  case neg =>
    refine ICalls.of_body Try.func3 rfl Try.call3 rfl (Nat.le_of_ble_eq_true rfl) (fun _ => none) rfl ?_
    repeat' ((conv => whnf); first
      | refine Br.yes rfl ?_
      | refine Br.no rfl ?_
      | refine Br.yes (beq_self_eq_true _) ?_
      | refine Br.not ?_
      | refine Br.yes (decide_eq_true (by assumption)) ?_
      | refine Br.no (decide_eq_false (by assumption)) ?_
      | refine Br.yes (beq_iff_eq.2 (by assumption)) ?_
      | refine Br.no (beq_eq_false_iff_ne.2 (by assumption)) ?_
      | refine Br.yes (bne_iff_ne.2 (by assumption)) ?_
      | (refine Br.dec (fun h => ?_) (fun h => ?_) <;> try dsimp only at h)
      | (refine Br.beqI (fun h => ?_) (fun h => ?_) <;> try dsimp only at h)
      | (refine Br.bneI (fun h => ?_) (fun h => ?_) <;> try dsimp only at h)
      | refine Br.mk (fun h => ?_) (fun h => ?_)
      | refine Need.mk (by first | kernel_rfl | exact ⟨of_decide_eq_true rfl, of_decide_eq_true rfl⟩ | omega) ?_
      | refine Len.mk ⟨_, by simp only [List.length_cons, List.length_nil, Nat.reduceAdd, Int.cast_ofNat_Int]; rfl, ?_⟩
      | refine Wr.lit _ (by simp only [Int.reduceAdd, Int.reduceSub, Int.reduceMul]; rfl) (by decide) ?_
      | refine Wr.fit (by omega) ?_
      | refine Wr.fit (by dsimp only; omega) ?_
      | refine Elem.mk ⟨_, ⟨of_decide_eq_true rfl, rfl⟩, ?_⟩
      | refine Len.map ?_
      | refine Len.dropM ?_
      | refine Elem.dropM ?_
      | refine Len.takeM ?_
      | refine Elem.takeM ?_
      | refine Elem.mapK (by assumption) ?_
      | refine Elem.mapI (by omega) (by assumption) ?_
      | refine Elem.mapN (by omega) (fun x hx => ?_)
      | refine Elem.map (by omega) (by omega) (fun x hx => ?_)
      | refine ((light16_ok l).to (congrArg gb (Bool.eq_false_iff.2 hb))).use ⟨rfl, ?_⟩
      | refine (alive16_ok).use ⟨rfl, ?_⟩
      | refine CallX.mk ⟨_, _, ((light16_ok l).to (congrArg gb (Bool.eq_false_iff.2 hb))).x, rfl, ?_⟩
      | refine CallX.mk ⟨_, _, (alive16_ok).x, rfl, ?_⟩
      | refine Done.mk ⟨rfl, rfl⟩
      | refine Done.mk ⟨congrArg gb ?_, rfl⟩
      | refine Done.mk ⟨?_, rfl⟩
      | refine Done.mk ⟨?_, ?_⟩)
  case pos =>
    have hlen := light16_len hb
    have h0 := (light16_ok l).to (congrArg gb hb)
    have h1 := audit_ok b l (by omega)
    have h3 := accepts_ok b l (by omega)
    by_cases he : dutyErr b l = 0
    case neg =>
      have h2 := refAudit16_err b l (by omega) he
      rw [(audit_err he).2] at h1
      have h4 := sameFnd_self [] (by decide)
      have h5 := dutySet_ok [] (by decide)
      have h6 := refDutySet_ok [] (by decide)
      have ha : accB b l = false := by
        cases hq : accB b l with
        | false => rfl
        | true => exact absurd (duty_none.1 hq).1 he
      rw [ha] at h3
      generalize setN [] = z at *
      generalize dutyErr b l = e at *
      clear hb
      refine ICalls.of_body Try.func3 rfl Try.call3 rfl (Nat.le_of_ble_eq_true rfl) (fun _ => none) rfl ?_
      repeat' ((conv => whnf); first
        | refine Br.yes rfl ?_
        | refine Br.no rfl ?_
        | refine Br.yes (beq_self_eq_true _) ?_
        | refine Br.not ?_
        | refine Br.yes (decide_eq_true (by assumption)) ?_
        | refine Br.no (decide_eq_false (by assumption)) ?_
        | refine Br.yes (beq_iff_eq.2 (by assumption)) ?_
        | refine Br.no (beq_eq_false_iff_ne.2 (by assumption)) ?_
        | refine Br.yes (bne_iff_ne.2 (by assumption)) ?_
        | (refine Br.dec (fun h => ?_) (fun h => ?_) <;> try dsimp only at h)
        | (refine Br.beqI (fun h => ?_) (fun h => ?_) <;> try dsimp only at h)
        | (refine Br.bneI (fun h => ?_) (fun h => ?_) <;> try dsimp only at h)
        | refine Br.mk (fun h => ?_) (fun h => ?_)
        | refine Need.mk (by first | kernel_rfl | exact ⟨of_decide_eq_true rfl, of_decide_eq_true rfl⟩ | omega) ?_
        | refine Len.mk ⟨_, by simp only [List.length_cons, List.length_nil, Nat.reduceAdd, Int.cast_ofNat_Int]; rfl, ?_⟩
        | refine Wr.lit _ (by simp only [Int.reduceAdd, Int.reduceSub, Int.reduceMul]; rfl) (by decide) ?_
        | refine Wr.fit (by omega) ?_
        | refine Wr.fit (by dsimp only; omega) ?_
        | refine Elem.mk ⟨_, ⟨of_decide_eq_true rfl, rfl⟩, ?_⟩
        | refine Len.map ?_
        | refine Len.dropM ?_
        | refine Elem.dropM ?_
        | refine Len.takeM ?_
        | refine Elem.takeM ?_
        | refine Elem.mapK (by assumption) ?_
        | refine Elem.mapI (by omega) (by assumption) ?_
        | refine Elem.mapN (by omega) (fun x hx => ?_)
        | refine Elem.map (by omega) (by omega) (fun x hx => ?_)
        | refine (h0).use ⟨rfl, ?_⟩
        | refine (h1).use ⟨rfl, ?_⟩
        | refine (h2).use ⟨rfl, ?_⟩
        | refine (h3).use ⟨rfl, ?_⟩
        | refine (h4).use ⟨rfl, ?_⟩
        | refine (h5).use ⟨rfl, ?_⟩
        | refine (h6).use ⟨rfl, ?_⟩
        | refine (alive16_ok).use ⟨rfl, ?_⟩
        | refine CallX.mk ⟨_, _, (h0).x, rfl, ?_⟩
        | refine CallX.mk ⟨_, _, (h1).x, rfl, ?_⟩
        | refine CallX.mk ⟨_, _, (h2).x, rfl, ?_⟩
        | refine CallX.mk ⟨_, _, (h3).x, rfl, ?_⟩
        | refine CallX.mk ⟨_, _, (h4).x, rfl, ?_⟩
        | refine CallX.mk ⟨_, _, (h5).x, rfl, ?_⟩
        | refine CallX.mk ⟨_, _, (h6).x, rfl, ?_⟩
        | refine CallX.mk ⟨_, _, (alive16_ok).x, rfl, ?_⟩
        | refine Done.mk ⟨rfl, rfl⟩
        | refine Done.mk ⟨congrArg gb ?_, rfl⟩
        | refine Done.mk ⟨?_, rfl⟩
        | refine Done.mk ⟨?_, ?_⟩)
      all_goals first
        | omega
        | (simp_all; done)
    case pos =>
      have h2 := refAudit16_ok b l (by omega) he
      have hbk := audit_back he
      have hnone := duty_none (b := b) (l := l)
      rw [hbk] at h1 hnone
      rw [he] at h1
      have hn := refAud_len (b := b) (ks := kindsOf l) 10 0
      have h4 := sameFnd_self (refAud b (kindsOf l) 10 0) (by omega)
      have h5 := dutySet_ok (refAud b (kindsOf l) 10 0) (by omega)
      have h6 := refDutySet_ok (refAud b (kindsOf l) 10 0) (by omega)
      generalize refAud b (kindsOf l) 10 0 = q at *
      generalize setN q = z at *
      have ha : accB b l = decide (q.length = 0) := by
        cases hq : accB b l with
        | true => rw [(hnone.1 hq).2]; rfl
        | false =>
          symm
          rw [decide_eq_false_iff_not]
          intro e
          rw [hnone.2 ⟨he, List.length_eq_zero_iff.1 e⟩] at hq
          cases hq
      rw [ha] at h3
      clear hb he hbk hnone ha
      by_cases hq : q.length = 0
      · rw [decide_eq_true hq] at h3
        refine ICalls.of_body Try.func3 rfl Try.call3 rfl (Nat.le_of_ble_eq_true rfl) (fun _ => none) rfl ?_
        repeat' ((conv => whnf); first
          | refine Br.yes rfl ?_
          | refine Br.no rfl ?_
          | refine Br.yes (beq_self_eq_true _) ?_
          | refine Br.not ?_
          | refine Br.yes (decide_eq_true (by assumption)) ?_
          | refine Br.no (decide_eq_false (by assumption)) ?_
          | refine Br.yes (beq_iff_eq.2 (by assumption)) ?_
          | refine Br.no (beq_eq_false_iff_ne.2 (by assumption)) ?_
          | refine Br.yes (bne_iff_ne.2 (by assumption)) ?_
          | (refine Br.dec (fun h => ?_) (fun h => ?_) <;> try dsimp only at h)
          | (refine Br.beqI (fun h => ?_) (fun h => ?_) <;> try dsimp only at h)
          | (refine Br.bneI (fun h => ?_) (fun h => ?_) <;> try dsimp only at h)
          | refine Br.mk (fun h => ?_) (fun h => ?_)
          | refine Need.mk (by first | kernel_rfl | exact ⟨of_decide_eq_true rfl, of_decide_eq_true rfl⟩ | omega) ?_
          | refine Len.mk ⟨_, by simp only [List.length_cons, List.length_nil, Nat.reduceAdd, Int.cast_ofNat_Int]; rfl, ?_⟩
          | refine Wr.lit _ (by simp only [Int.reduceAdd, Int.reduceSub, Int.reduceMul]; rfl) (by decide) ?_
          | refine Wr.fit (by omega) ?_
          | refine Wr.fit (by dsimp only; omega) ?_
          | refine Elem.mk ⟨_, ⟨of_decide_eq_true rfl, rfl⟩, ?_⟩
          | refine Len.map ?_
          | refine Len.dropM ?_
          | refine Elem.dropM ?_
          | refine Len.takeM ?_
          | refine Elem.takeM ?_
          | refine Elem.mapK (by assumption) ?_
          | refine Elem.mapI (by omega) (by assumption) ?_
          | refine Elem.mapN (by omega) (fun x hx => ?_)
          | refine Elem.map (by omega) (by omega) (fun x hx => ?_)
          | refine (h0).use ⟨rfl, ?_⟩
          | refine (h1).use ⟨rfl, ?_⟩
          | refine (h2).use ⟨rfl, ?_⟩
          | refine (h3).use ⟨rfl, ?_⟩
          | refine (h4).use ⟨rfl, ?_⟩
          | refine (h5).use ⟨rfl, ?_⟩
          | refine (h6).use ⟨rfl, ?_⟩
          | refine (alive16_ok).use ⟨rfl, ?_⟩
          | refine CallX.mk ⟨_, _, (h0).x, rfl, ?_⟩
          | refine CallX.mk ⟨_, _, (h1).x, rfl, ?_⟩
          | refine CallX.mk ⟨_, _, (h2).x, rfl, ?_⟩
          | refine CallX.mk ⟨_, _, (h3).x, rfl, ?_⟩
          | refine CallX.mk ⟨_, _, (h4).x, rfl, ?_⟩
          | refine CallX.mk ⟨_, _, (h5).x, rfl, ?_⟩
          | refine CallX.mk ⟨_, _, (h6).x, rfl, ?_⟩
          | refine CallX.mk ⟨_, _, (alive16_ok).x, rfl, ?_⟩
          | refine Done.mk ⟨rfl, rfl⟩
          | refine Done.mk ⟨congrArg gb ?_, rfl⟩
          | refine Done.mk ⟨?_, rfl⟩
          | refine Done.mk ⟨?_, ?_⟩)
        all_goals first
          | omega
          | (simp_all; done)
      · rw [decide_eq_false hq] at h3
        refine ICalls.of_body Try.func3 rfl Try.call3 rfl (Nat.le_of_ble_eq_true rfl) (fun _ => none) rfl ?_
        repeat' ((conv => whnf); first
          | refine Br.yes rfl ?_
          | refine Br.no rfl ?_
          | refine Br.yes (beq_self_eq_true _) ?_
          | refine Br.not ?_
          | refine Br.yes (decide_eq_true (by assumption)) ?_
          | refine Br.no (decide_eq_false (by assumption)) ?_
          | refine Br.yes (beq_iff_eq.2 (by assumption)) ?_
          | refine Br.no (beq_eq_false_iff_ne.2 (by assumption)) ?_
          | refine Br.yes (bne_iff_ne.2 (by assumption)) ?_
          | (refine Br.dec (fun h => ?_) (fun h => ?_) <;> try dsimp only at h)
          | (refine Br.beqI (fun h => ?_) (fun h => ?_) <;> try dsimp only at h)
          | (refine Br.bneI (fun h => ?_) (fun h => ?_) <;> try dsimp only at h)
          | refine Br.mk (fun h => ?_) (fun h => ?_)
          | refine Need.mk (by first | kernel_rfl | exact ⟨of_decide_eq_true rfl, of_decide_eq_true rfl⟩ | omega) ?_
          | refine Len.mk ⟨_, by simp only [List.length_cons, List.length_nil, Nat.reduceAdd, Int.cast_ofNat_Int]; rfl, ?_⟩
          | refine Wr.lit _ (by simp only [Int.reduceAdd, Int.reduceSub, Int.reduceMul]; rfl) (by decide) ?_
          | refine Wr.fit (by omega) ?_
          | refine Wr.fit (by dsimp only; omega) ?_
          | refine Elem.mk ⟨_, ⟨of_decide_eq_true rfl, rfl⟩, ?_⟩
          | refine Len.map ?_
          | refine Len.dropM ?_
          | refine Elem.dropM ?_
          | refine Len.takeM ?_
          | refine Elem.takeM ?_
          | refine Elem.mapK (by assumption) ?_
          | refine Elem.mapI (by omega) (by assumption) ?_
          | refine Elem.mapN (by omega) (fun x hx => ?_)
          | refine Elem.map (by omega) (by omega) (fun x hx => ?_)
          | refine (h0).use ⟨rfl, ?_⟩
          | refine (h1).use ⟨rfl, ?_⟩
          | refine (h2).use ⟨rfl, ?_⟩
          | refine (h3).use ⟨rfl, ?_⟩
          | refine (h4).use ⟨rfl, ?_⟩
          | refine (h5).use ⟨rfl, ?_⟩
          | refine (h6).use ⟨rfl, ?_⟩
          | refine (alive16_ok).use ⟨rfl, ?_⟩
          | refine CallX.mk ⟨_, _, (h0).x, rfl, ?_⟩
          | refine CallX.mk ⟨_, _, (h1).x, rfl, ?_⟩
          | refine CallX.mk ⟨_, _, (h2).x, rfl, ?_⟩
          | refine CallX.mk ⟨_, _, (h3).x, rfl, ?_⟩
          | refine CallX.mk ⟨_, _, (h4).x, rfl, ?_⟩
          | refine CallX.mk ⟨_, _, (h5).x, rfl, ?_⟩
          | refine CallX.mk ⟨_, _, (h6).x, rfl, ?_⟩
          | refine CallX.mk ⟨_, _, (alive16_ok).x, rfl, ?_⟩
          | refine Done.mk ⟨rfl, rfl⟩
          | refine Done.mk ⟨congrArg gb ?_, rfl⟩
          | refine Done.mk ⟨?_, rfl⟩
          | refine Done.mk ⟨?_, ?_⟩)
        all_goals first
          | omega
          | (simp_all; done)

theorem dutyAudits_law (g0 : GV) (h0 : ArgOk bookTy g0) (g1 : GV) (h1 : ArgOk (.list recTy) g1) :
    ICalls Try.prog 3 [g0, g1] [] (Done (gb true) []) := by
  obtain ⟨b, rfl, _⟩ := book_of h0
  obtain ⟨l, rfl, _⟩ := list_of el_rec h1
  exact dutyAudits_ok b l

end Go.Hl
