/- Contracts of functions, bundle M1; proved for whatever the arguments' types allow, as each theorem says. -/
import Derived.Test.YtfghmggonjnbcaaJ3
import Derived.Test.YtfghmggonjnbcaaX1

/- Chapter 16: looking back at spells of rest, one more behind them: plain Lean.  -/
set_option linter.unusedVariables false
set_option linter.unusedSimpArgs false
namespace Go.Hl
open Go.Gh Go.Proofs

/-- The end of the last spell that is so long. -/
def lstF (long : Int) : List Span → Int → Int
  | [], a => a
  | s :: t, a => lstF long t (if long ≤ s.To - s.From then s.To else a)
theorem lastF_eq {long m : Int} : ∀ (l : List Span) (a : Int), (∀ s, s ∈ l → s.To ≤ m) → lastF long m l a = lstF long l a
  | [], a, _ => rfl
  | s :: t, a, h => by
    have h1 := h s (List.mem_cons_self ..)
    rw [lastF, lstF, lastF_eq t _ (fun x hx => h x (List.mem_cons_of_mem _ hx))]
    by_cases hl : long ≤ s.To - s.From
    · rw [if_pos ⟨hl, h1⟩, if_pos hl]
    · rw [if_neg (fun e => hl e.1), if_neg hl]
theorem lstF_snoc {long : Int} {s : Span} : ∀ (l : List Span) (a : Int), lstF long (l ++ [s]) a = if long ≤ s.To - s.From then s.To else lstF long l a
  | [], a => rfl
  | x :: t, a => by rw [List.cons_append, lstF, lstF_snoc t, lstF]
theorem lastF_late {long m : Int} {s : Span} (h : m < s.To) : ∀ (l : List Span) (a : Int), lastF long m (l ++ [s]) a = lastF long m l a
  | [], a => by rw [List.nil_append, lastF, lastF, if_neg (by omega)]; rfl
  | x :: t, a => by rw [List.cons_append, lastF, lastF_late h t, lastF]
theorem lstF_range {long lo hi : Int} : ∀ (l : List Span) (a : Int), (∀ s, s ∈ l → lo ≤ s.To ∧ s.To ≤ hi) → lo ≤ a ∧ a ≤ hi → lo ≤ lstF long l a ∧ lstF long l a ≤ hi
  | [], a, _, h => h
  | s :: t, a, hn, h => by
    have hs := hn s (List.mem_cons_self ..)
    rw [lstF]
    refine lstF_range t _ (fun x hx => hn x (List.mem_cons_of_mem _ hx)) ?_
    split <;> omega

/-- The last break's end, and whether half a break has been. -/
def beP (b : Book) : List Span → Int × Bool → Int × Bool
  | [], p => p
  | s :: t, p => beP b t (if b.Break ≤ s.To - s.From ∨ (p.2 = true ∧ b.Second ≤ s.To - s.From) then (s.To, false) else if b.First ≤ s.To - s.From then (p.1, true) else p)
theorem beF_eq {b : Book} : ∀ (l : List Span) (a : Int) (f : Bool), beF b l a f = (beP b l (a, f)).1
  | [], a, f => rfl
  | s :: t, a, f => by
    rw [beF, beP]
    by_cases h1 : b.Break ≤ s.To - s.From ∨ (f = true ∧ b.Second ≤ s.To - s.From)
    · rw [if_pos h1, if_pos h1, beF_eq t]
    · rw [if_neg h1, if_neg h1]
      by_cases h2 : b.First ≤ s.To - s.From
      · rw [if_pos h2, if_pos h2, beF_eq t]
      · rw [if_neg h2, if_neg h2, beF_eq t]
theorem beP_snoc {b : Book} {s : Span} : ∀ (l : List Span) (p : Int × Bool), beP b (l ++ [s]) p = (if b.Break ≤ s.To - s.From ∨ ((beP b l p).2 = true ∧ b.Second ≤ s.To - s.From) then (s.To, false) else if b.First ≤ s.To - s.From then ((beP b l p).1, true) else beP b l p)
  | [], p => rfl
  | x :: t, p => by rw [List.cons_append, beP, beP_snoc t, beP]

/-! ### Parts -/
theorem get_app {l : List Span} {t : List Span} {i : Nat} (h : i < l.length) : (l ++ t)[i]? = l[i]? := List.getElem?_append_left h
theorem get_last {l : List Span} {s : Span} : (l ++ [s])[l.length]? = some s := by simp
theorem anyK_app {b : Book} {d : Int} {l t : List Span} : ∀ (n i : Nat), i + n ≤ l.length → anyK b d (l ++ t) n i = anyK b d l n i
  | 0, i, _ => rfl
  | n + 1, i, h => by rw [anyK, anyK, get_app (by omega), anyK_app n (i + 1) (by omega)]
theorem anyK_succ {b : Book} {d : Int} {l : List Span} : ∀ (n i : Nat), anyK b d l (n + 1) i = (anyK b d l n i || (match l[i + n]? with | some x => partB b d x | none => false))
  | 0, i => by rw [anyK, anyK, anyK, Bool.or_false, Bool.false_or]; rfl
  | n + 1, i => by
    rw [anyK, anyK_succ n (i + 1), ← Bool.or_assoc, show i + 1 + n = i + (n + 1) by omega]
    rfl
theorem anyK_snoc {b : Book} {d : Int} {l : List Span} {s : Span} : anyK b d (l ++ [s]) (l ++ [s]).length 0 = (anyK b d l l.length 0 || partB b d s) := by
  rw [List.length_append, List.length_singleton, anyK_succ, anyK_app _ _ (by omega), Nat.zero_add, get_last]
theorem anyK_none {b : Book} {d : Int} {l : List Span} (h : ∀ x, x ∈ l → x.From < d) : ∀ (n i : Nat), anyK b d l n i = false
  | 0, i => rfl
  | n + 1, i => by
    rw [anyK, anyK_none h n, Bool.or_false]
    split
    · rename_i x hx
      have := h x (List.mem_of_getElem? hx)
      exact partB_no (by omega)
    · rfl

/-! ### Reduced rests -/
theorem redF_app {b : Book} {l : List Span} {s : Span} {k : Nat} (hk : k < l.length) (h : ∀ x, x ∈ l → x.From < s.To) : redF b (l ++ [s]) k = redF b l k := by
  unfold redF
  rw [get_app hk]
  cases hx : l[k]? with
  | none => rfl
  | some x =>
    simp only
    rw [lastF_late (h x (List.mem_of_getElem? hx)), anyK_app _ _ (by omega)]
theorem redC_app {b : Book} {l : List Span} {s : Span} {sab : Int} (h : ∀ x, x ∈ l → x.From < s.To) : ∀ (n i : Nat), i + n ≤ l.length → redC b (l ++ [s]) sab n i = redC b l sab n i
  | 0, i, _ => rfl
  | n + 1, i, hi => by rw [redC, redC, get_app (by omega), redC_app h n (i + 1) (by omega), redF_app (by omega) h]
theorem redC_succ {b : Book} {l : List Span} {sab : Int} : ∀ (n i : Nat), redC b l sab (n + 1) i = redC b l sab n i + (match l[i + n]? with | some x => if sab < x.To ∧ redF b l (i + n) = true then 1 else 0 | none => 0)
  | 0, i => by rw [redC, redC, redC, Int.add_zero, Int.zero_add]; rfl
  | n + 1, i => by
    rw [redC, redC_succ n (i + 1), ← Int.add_assoc, show i + 1 + n = i + (n + 1) by omega]
    rfl
theorem redC_snoc {b : Book} {l : List Span} {s : Span} {sab : Int} (h : ∀ x, x ∈ l → x.From < s.To) : redC b (l ++ [s]) sab (l ++ [s]).length 0 = redC b l sab l.length 0 + (if sab < s.To ∧ redF b (l ++ [s]) l.length = true then 1 else 0) := by
  rw [List.length_append, List.length_singleton, redC_succ, redC_app h _ _ (by omega), Nat.zero_add, get_last]
theorem redC_none {b : Book} {l : List Span} {sab : Int} (h : ∀ x, x ∈ l → x.To ≤ sab) : ∀ (n i : Nat), redC b l sab n i = 0
  | 0, i => rfl
  | n + 1, i => by
    rw [redC, redC_none h n, Int.add_zero]
    split
    · rename_i x hx
      have := h x (List.mem_of_getElem? hx)
      exact if_neg (by omega)
    · rfl
theorem redF_last {b : Book} {l : List Span} {s : Span} {d : Int} {half : Bool} (hd : lstF b.Reduced l 0 = d) (h : ∀ x, x ∈ l → x.To ≤ s.From) (hs : s.From < s.To) : redF b (l ++ [s]) l.length = (worth b s.From s.To d half (anyK b d l l.length 0)).Reduced := by
  unfold redF worth
  rw [get_last]
  simp only
  rw [lastF_late hs, lastF_eq l 0 h, hd, anyK_app _ _ (by omega)]
  unfold inDay
  by_cases h1 : s.To - s.From < b.Reduced ∨ b.Short ≤ s.To - s.From
  · rw [if_pos h1]
    symm
    rcases h1 with h1 | h1
    · rw [decide_eq_false (by omega : ¬ b.Reduced ≤ s.To - s.From)]; rfl
    · rw [decide_eq_true h1]; simp
  · rw [if_neg h1, decide_eq_true (by omega : b.Reduced ≤ s.To - s.From), decide_eq_false (by omega : ¬ b.Short ≤ s.To - s.From)]
    cases anyK b d l l.length 0 with
    | true => simp
    | false =>
      simp only [Bool.false_eq_true, if_false, Bool.not_false, Bool.true_and]
      congr 1
      apply propext
      by_cases h2 : d + b.Round < s.To
      · simp only [h2, if_true]
      · simp only [h2, if_false]

/-! ### Brief ones -/
theorem brK_app {b : Book} {a : Int} {l t : List Span} : ∀ (n i : Nat), i + n ≤ l.length → brK b a (l ++ t) n i = brK b a l n i
  | 0, i, _ => rfl
  | n + 1, i, h => by rw [brK, brK, get_app (by omega), brK_app n (i + 1) (by omega)]
theorem brK_succ {b : Book} {a : Int} {l : List Span} : ∀ (n i : Nat), brK b a l (n + 1) i = (brK b a l n i || (match l[i + n]? with | some x => decide (0 < a) && (decide (x.To = a) && decide (x.To - x.From < b.Weekly)) | none => false))
  | 0, i => by rw [brK, brK, brK, Bool.or_false, Bool.false_or]; rfl
  | n + 1, i => by
    rw [brK, brK_succ n (i + 1), ← Bool.or_assoc, show i + 1 + n = i + (n + 1) by omega]
    rfl
theorem brK_snoc {b : Book} {a : Int} {l : List Span} {s : Span} : brK b a (l ++ [s]) (l ++ [s]).length 0 = (brK b a l l.length 0 || (decide (0 < a) && (decide (s.To = a) && decide (s.To - s.From < b.Weekly)))) := by
  rw [List.length_append, List.length_singleton, brK_succ, brK_app _ _ (by omega), Nat.zero_add, get_last]
theorem brK_miss {b : Book} {a : Int} {l : List Span} (h : ∀ x, x ∈ l → x.To ≠ a) : ∀ (n i : Nat), brK b a l n i = false
  | 0, i => rfl
  | n + 1, i => by
    rw [brK, brK_miss h n, Bool.or_false]
    split
    · rename_i x hx
      rw [decide_eq_false (h x (List.mem_of_getElem? hx)), Bool.false_and, Bool.and_false]
    · rfl

/-! ### Long days -/
def lgP (b : Book) (ks : List Int) (fro : Int) : List Span → Int × Int → Int × Int
  | [], p => p
  | s :: t, p => lgP b ks fro t (if s.To ≤ fro ∨ s.To - s.From < b.Reduced then p else (s.To, if b.Day < countK ks 3 3 p.1 (s.To - 1) then p.2 + 1 else p.2))
theorem lgF_eq {b : Book} {ks : List Int} {fro m : Int} : ∀ (l : List Span) (a n : Int), lgF b ks fro m l a n = (if b.Day < countK ks 3 3 (lgP b ks fro l (a, n)).1 m then (lgP b ks fro l (a, n)).2 + 1 else (lgP b ks fro l (a, n)).2)
  | [], a, n => rfl
  | s :: t, a, n => by
    rw [lgF, lgP]
    by_cases h : s.To ≤ fro ∨ s.To - s.From < b.Reduced
    · rw [if_pos h, if_pos h, lgF_eq t]
    · rw [if_neg h, if_neg h, lgF_eq t]
theorem lgP_snoc {b : Book} {ks : List Int} {fro : Int} {s : Span} : ∀ (l : List Span) (p : Int × Int), lgP b ks fro (l ++ [s]) p = (if s.To ≤ fro ∨ s.To - s.From < b.Reduced then lgP b ks fro l p else (s.To, if b.Day < countK ks 3 3 (lgP b ks fro l p).1 (s.To - 1) then (lgP b ks fro l p).2 + 1 else (lgP b ks fro l p).2))
  | [], p => rfl
  | x :: t, p => by rw [List.cons_append, lgP, lgP_snoc t, lgP]
theorem lgP_none {b : Book} {ks : List Int} {fro : Int} : ∀ (l : List Span) (p : Int × Int), (∀ x, x ∈ l → x.To ≤ fro) → lgP b ks fro l p = p
  | [], p, _ => rfl
  | x :: t, p, h => by rw [lgP, if_pos (.inl (h x (List.mem_cons_self ..))), lgP_none t p fun y hy => h y (List.mem_cons_of_mem _ hy)]

/-! ### Minutes counted -/
theorem cK_succ {ks : List Int} {p q : Int} : ∀ (n : Nat) (i : Int), cK ks p q (n + 1) i = cK ks p q n i + (if 0 ≤ i + n ∧ (ks[(i + n).toNat]? = some p ∨ ks[(i + n).toNat]? = some q) then 1 else 0)
  | 0, i => by rw [cK, cK, cK]; simp
  | n + 1, i => by
    rw [cK, cK_succ n (i + 1), show i + 1 + (n : Int) = i + ((n + 1 : Nat) : Int) by omega, ← Int.add_assoc]
    rfl
theorem count_succ {ks : List Int} {p q : Int} {m : Nat} {fro : Int} (h : fro ≤ m) : countK ks p q fro m = countK ks p q fro ((m : Int) - 1) + (if ks[m]? = some p ∨ ks[m]? = some q then 1 else 0) := by
  unfold countK
  rw [show ((m : Int) + 1 - fro).toNat = ((m : Int) - 1 + 1 - fro).toNat + 1 by omega, cK_succ]
  rw [show fro + ((((m : Int) - 1 + 1 - fro).toNat : Nat) : Int) = (m : Int) by omega, Int.toNat_natCast]
  congr 1
  by_cases h2 : ks[m]? = some p ∨ ks[m]? = some q
  · rw [if_pos ⟨by omega, h2⟩, if_pos h2]
  · rw [if_neg (fun e => h2 e.2), if_neg h2]
theorem count_none {ks : List Int} {p q fro to : Int} (h : to < fro) : countK ks p q fro to = 0 := by
  unfold countK
  rw [show (to + 1 - fro).toNat = 0 by omega]; rfl
theorem cK_neg {ks : List Int} {p q : Int} : ∀ (n : Nat) (i : Int), i + n ≤ 0 → cK ks p q n i = 0
  | 0, i, _ => rfl
  | n + 1, i, h => by rw [cK, cK_neg n (i + 1) (by omega), if_neg (by omega)]; rfl
theorem count_neg {ks : List Int} {p q fro to : Int} (h : to < 0) : countK ks p q fro to = 0 := by
  unfold countK
  by_cases h2 : to + 1 - fro ≤ 0
  · rw [show (to + 1 - fro).toNat = 0 by omega]; rfl
  · exact cK_neg _ _ (by omega)

end Go.Hl

/- Chapter 16: what the meter holds is what looking back tells: plain Lean.  -/
set_option linter.unusedVariables false
set_option linter.unusedSimpArgs false
namespace Go.Hl
open Go.Gh Go.Proofs

/-- The meter, and the last break's end, ahead of a minute, and the spells that ended. -/
structure Bk (b : Book) (ks : List Int) (m : Int) (C : List Span) (M : Meter) (R : Int) : Prop where
  dawn : M.Dawn = lstF b.Reduced C 0
  sab : M.Sabbath = lstF b.Short C 0
  be : beP b C (0, false) = (R, M.Half)
  acc : M.Acc = countK ks 3 3 R (m - 1)
  day : M.Day = countK ks 3 3 M.Dawn (m - 1)
  split : M.Split = anyK b M.Dawn C C.length 0
  red : M.Reduces = redC b C M.Sabbath C.length 0
  lgd : (lgP b ks M.Sabbath C (M.Sabbath, 0)).1 = M.Dawn
  lgn : M.Longers = (lgP b ks M.Sabbath C (M.Sabbath, 0)).2 + (if b.Day < M.Day then 1 else 0)
  brief : M.Brief = brK b M.Sabbath C C.length 0
  pos : ∀ s, s ∈ C → 0 ≤ s.From ∧ s.From < s.To
  near : ∀ s, s ∈ C → s.To ≤ m - M.Lie
  rr : R ≤ m - M.Lie
  lie : 0 ≤ M.Lie ∧ M.Lie ≤ m

theorem Bk.dawn_le {b : Book} {ks : List Int} {m : Int} {C : List Span} {M : Meter} {R : Int} (h : Bk b ks m C M R) : 0 ≤ M.Dawn ∧ M.Dawn ≤ m - M.Lie := by
  rw [h.dawn]
  have := h.lie
  exact lstF_range C 0 (fun s hs => ⟨by have := h.pos s hs; omega, h.near s hs⟩) (by omega)
theorem Bk.sab_le {b : Book} {ks : List Int} {m : Int} {C : List Span} {M : Meter} {R : Int} (h : Bk b ks m C M R) : 0 ≤ M.Sabbath ∧ M.Sabbath ≤ m - M.Lie := by
  rw [h.sab]
  have := h.lie
  exact lstF_range C 0 (fun s hs => ⟨by have := h.pos s hs; omega, h.near s hs⟩) (by omega)

theorem Bk.up {b : Book} {ks : List Int} {m : Int} {C : List Span} {M : Meter} {R : Int} (hb : b.May) (h : Bk b ks m C M R) (hn : M.Now = m) (hl : 0 < M.Lie) :
    Bk b ks m (C ++ [⟨m - M.Lie, m⟩]) (M.rose b) (if (M.worth b).Break = true then m else R) := by
  have hd := h.dawn_le
  have hs := h.sab_le
  have hlie := h.lie
  have hw := hb.within
  unfold Book.within at hw
  obtain ⟨_, b1, b2, b3, b4, b5, b6, b7, b8, b9⟩ := hb
  have hdo : dawnOf M = M.Dawn := by unfold dawnOf; rw [if_neg (by omega)]
  have e0 : M.worth b = worth b (m - M.Lie) m M.Dawn M.Half M.Split := by unfold Meter.worth; rw [hdo, hn]
  have hlt : ∀ x, x ∈ C → x.From < m := fun x hx => by have := h.pos x hx; have := h.near x hx; omega
  have hlm : ∀ x, x ∈ C → x.To < m := fun x hx => by have := h.near x hx; omega
  have hlf : ∀ x, x ∈ C → x.To ≤ m - M.Lie := h.near
  have hred := redF_last (b := b) (l := C) (s := ⟨m - M.Lie, m⟩) (d := M.Dawn) (half := M.Half) h.dawn.symm hlf (by dsimp only; omega)
  simp only at hred
  rw [← h.split, ← e0] at hred
  have hbe := h.be
  have w1 : (M.worth b).Break = true ↔ (b.Break ≤ M.Lie ∨ (M.Half = true ∧ b.Second ≤ M.Lie)) := by
    rw [e0]; simp only [worth, Bool.or_eq_true, Bool.and_eq_true, decide_eq_true_eq]; rw [show m - (m - M.Lie) = M.Lie by omega]
  have w2 : (M.worth b).Half = (!(M.worth b).Break && (M.Half || decide (b.First ≤ M.Lie))) := by
    rw [e0]; simp only [worth]; rw [show m - (m - M.Lie) = M.Lie by omega]
  have w3 : (M.worth b).Part = (!decide (b.Reduced ≤ M.Lie) && decide (b.Part ≤ M.Lie)) := by
    rw [e0]; simp only [worth]; rw [show m - (m - M.Lie) = M.Lie by omega]
  have w4 : (M.worth b).Daily = decide (b.Reduced ≤ M.Lie) := by
    rw [e0]; simp only [worth]; rw [show m - (m - M.Lie) = M.Lie by omega]
  have w5 : (M.worth b).Weekly = decide (b.Short ≤ M.Lie) := by
    rw [e0]; simp only [worth]; rw [show m - (m - M.Lie) = M.Lie by omega]
  have w6 : (M.worth b).Brief = (decide (b.Short ≤ M.Lie) && decide (M.Lie < b.Weekly)) := by
    rw [e0]; simp only [worth]; rw [show m - (m - M.Lie) = M.Lie by omega]
  have w7 : (M.worth b).Reduced = true → b.Reduced ≤ M.Lie ∧ M.Lie < b.Short := by
    rw [e0]; simp only [worth, Bool.and_eq_true, decide_eq_true_eq, Bool.not_eq_true', decide_eq_false_iff_not]; rw [show m - (m - M.Lie) = M.Lie by omega]
    rintro ⟨q1, q2, _⟩; omega
  have elen : m - (m - M.Lie) = M.Lie := by omega
  rw [rose_eqL]
  generalize hW : M.worth b = W at *
  obtain ⟨wb, wh, wp, wd, wr, ww, wf⟩ := W
  simp only at *
  clear e0 hW hdo
  -- the new dawn, the new sabbath
  have nd : lstF b.Reduced (C ++ [⟨m - M.Lie, m⟩]) 0 = if wd = true then m else M.Dawn := by
    rw [lstF_snoc, ← h.dawn, w4]; simp only [decide_eq_true_eq]; rw [elen]
  have ns : lstF b.Short (C ++ [⟨m - M.Lie, m⟩]) 0 = if ww = true then m else M.Sabbath := by
    rw [lstF_snoc, ← h.sab, w5]; simp only [decide_eq_true_eq]; rw [elen]
  have hday : countK ks 3 3 m (m - 1) = 0 := count_none (by omega)
  refine ⟨?_, ?_, ?_, ?_, ?_, ?_, ?_, ?_, ?_, ?_, ?_, ?_, ?_, ?_⟩
  · simp only; rw [nd, hn]
  · simp only; rw [ns, hn]
  · simp only
    rw [beP_snoc, hbe]
    simp only
    rw [elen]
    by_cases hbr : b.Break ≤ M.Lie ∨ (M.Half = true ∧ b.Second ≤ M.Lie)
    · have e := w1.2 hbr
      rw [if_pos hbr, if_pos e, w2, e]
      split <;> rfl
    · have e : wb = false := by
        cases hq : wb with
        | false => rfl
        | true => exact absurd (w1.1 hq) hbr
      rw [if_neg hbr, e, w2, e]
      have e2 : wd = false := by rw [w4]; simp only [decide_eq_false_iff_not]; intro hx; exact hbr (.inl (by omega))
      rw [e2]
      simp only [Bool.false_eq_true, if_false, Bool.not_false, Bool.true_and]
      by_cases h1 : b.First ≤ M.Lie
      · rw [if_pos h1, decide_eq_true h1, Bool.or_true]
      · rw [if_neg h1, decide_eq_false h1, Bool.or_false]
  · simp only
    cases wb with
    | true => simp only [if_true]; exact hday.symm
    | false => simp only [Bool.false_eq_true, if_false]; exact h.acc
  · simp only
    cases wd with
    | true => simp only [if_true]; rw [hn]; exact hday.symm
    | false => simp only [Bool.false_eq_true, if_false]; exact h.day
  · simp only
    cases hwd : wd with
    | true =>
      simp only [if_true]
      rw [hn, anyK_none]
      intro x hx
      rcases List.mem_append.1 hx with hx | hx
      · exact hlt x hx
      · cases List.mem_singleton.1 hx; simp only; omega
    | false =>
      simp only [Bool.false_eq_true, if_false]
      rw [anyK_snoc, ← h.split, w3]
      congr 1
      rw [hwd] at w4
      have q := of_decide_eq_false w4.symm
      unfold partB
      simp only
      rw [elen, decide_eq_true (show M.Dawn ≤ m - M.Lie by omega), decide_eq_false q, decide_eq_true (show M.Lie < b.Reduced by omega)]
      simp
  · simp only
    rw [redC_snoc hlt, hred]
    cases hww : ww with
    | true =>
      simp only [if_true]
      have hr : wr = false := by
        cases hq : wr with
        | false => rfl
        | true =>
          have := w7 hq
          rw [hww] at w5
          have := of_decide_eq_true w5.symm
          omega
      rw [hr, hn, redC_none (fun x hx => by have := hlm x hx; omega)]
      simp
    | false =>
      simp only [Bool.false_eq_true, if_false]
      rw [← h.red]
      cases hwr : wr with
      | true => simp only [if_true]; rw [if_pos ⟨by omega, trivial⟩]
      | false => simp
  · simp only
    rw [lgP_snoc]
    cases hww : ww with
    | true =>
      rw [hww] at w5
      have q := of_decide_eq_true w5.symm
      have hd2 : wd = true := by rw [w4]; simp only [decide_eq_true_eq]; omega
      simp only [if_true, hd2]
      rw [hn, if_pos (.inl (Int.le_refl _)), lgP_none C _ (fun x hx => by have := hlm x hx; omega)]
    | false =>
      simp only [Bool.false_eq_true, if_false]
      rw [elen]
      cases hwd : wd with
      | true =>
        rw [hwd] at w4
        have q := of_decide_eq_true w4.symm
        simp only [if_true]
        rw [if_neg (by omega), hn]
      | false =>
        rw [hwd] at w4
        have q := of_decide_eq_false w4.symm
        simp only [Bool.false_eq_true, if_false]
        rw [if_pos (.inr (by omega))]
        exact h.lgd
  · simp only
    rw [lgP_snoc]
    cases hww : ww with
    | true =>
      rw [hww] at w5
      have q := of_decide_eq_true w5.symm
      have hd2 : wd = true := by rw [w4]; simp only [decide_eq_true_eq]; omega
      simp only [if_true, hd2]
      rw [hn, if_pos (.inl (Int.le_refl _)), lgP_none C _ (fun x hx => by have := hlm x hx; omega), if_neg (by omega)]
      rfl
    | false =>
      simp only [Bool.false_eq_true, if_false]
      rw [elen]
      cases hwd : wd with
      | true =>
        rw [hwd] at w4
        have q := of_decide_eq_true w4.symm
        simp only [if_true]
        rw [if_neg (by omega), if_neg (show ¬ b.Day < 0 by omega)]
        simp only
        rw [h.lgd, ← h.day, h.lgn]
        split <;> omega
      | false =>
        rw [hwd] at w4
        have q := of_decide_eq_false w4.symm
        simp only [Bool.false_eq_true, if_false]
        rw [if_pos (.inr (by omega))]
        exact h.lgn
  · simp only
    rw [brK_snoc]
    simp only
    rw [elen]
    cases hww : ww with
    | true =>
      rw [hww] at w5
      have q := of_decide_eq_true w5.symm
      simp only [if_true]
      rw [hn, brK_miss (fun x hx => by have := hlm x hx; omega), w6, decide_eq_true q, decide_eq_true (show 0 < m by omega)]
      simp
    | false =>
      simp only [Bool.false_eq_true, if_false]
      rw [← h.brief, decide_eq_false (show ¬ m = M.Sabbath by omega)]
      simp
  · intro s hs
    rcases List.mem_append.1 hs with hs | hs
    · exact h.pos s hs
    · cases List.mem_singleton.1 hs; simp only; omega
  · intro s hs
    simp only
    rcases List.mem_append.1 hs with hs | hs
    · have := hlm s hs; omega
    · cases List.mem_singleton.1 hs; simp only; omega
  · simp only
    split
    · omega
    · have := h.rr; omega
  · simp only; omega

/-- A minute of another week. -/
theorem Bk.turn {b : Book} {ks : List Int} {m : Int} {C : List Span} {M : Meter} {R : Int} (h : Bk b ks m C M R) : Bk b ks m C (M.turn b) R := by
  unfold Meter.turn
  split
  · exact ⟨h.dawn, h.sab, h.be, h.acc, h.day, h.split, h.red, h.lgd, h.lgn, h.brief, h.pos, h.near, h.rr, h.lie⟩
  · exact h

/-- One more minute, that is no rest. -/
theorem Bk.more {b : Book} {ks : List Int} {m : Nat} {C : List Span} {M : Meter} {R k : Int} (h : Bk b ks m C M R) (hl : M.Lie = 0) (hk : ks[m]? = some k) (h0 : k ≠ 0) :
    Bk b ks (m + 1 : Nat) C { ((M.driven b k).worked k) with Now := ((M.driven b k).worked k).Now + 1 } R := by
  have hd := h.dawn_le
  have hr := h.rr
  have hlie := h.lie
  have c1 := count_succ (ks := ks) (p := 3) (q := 3) (m := m) (fro := R) (by omega)
  have c2 := count_succ (ks := ks) (p := 3) (q := 3) (m := m) (fro := M.Dawn) (by omega)
  rw [← h.acc, hk] at c1
  rw [← h.day, hk] at c2
  have e1 : ((m + 1 : Nat) : Int) - 1 = (m : Int) := by omega
  have hlg := h.lgn
  unfold Meter.worked Meter.driven Meter.drove Meter.droveL
  by_cases k3 : k = 3
  · subst k3
    rw [if_pos (by simp)] at c1 c2
    simp only [if_true, ne_eq, (by decide : ¬ (3 : Int) = 1), not_false_eq_true]
    refine ⟨h.dawn, h.sab, h.be, ?_, ?_, h.split, h.red, h.lgd, ?_, h.brief, h.pos, ?_, ?_, ?_⟩
    · simp only; rw [e1, c1]
    · simp only; rw [e1, c2]
    · simp only; split at hlg <;> split <;> split <;> omega
    · intro s hs; have := h.near s hs; simp only; omega
    · simp only; omega
    · simp only; omega
  · rw [if_neg (by simp [k3])] at c1 c2
    simp only [if_neg k3]
    have key : ∀ M' : Meter, M'.Dawn = M.Dawn → M'.Sabbath = M.Sabbath → M'.Half = M.Half → M'.Acc = M.Acc → M'.Day = M.Day → M'.Split = M.Split → M'.Reduces = M.Reduces → M'.Longers = M.Longers → M'.Brief = M.Brief → M'.Lie = M.Lie → Bk b ks (m + 1 : Nat) C M' R := by
      intro M' a1 a2 a3 a4 a5 a6 a7 a8 a9 a10
      refine ⟨by rw [a1]; exact h.dawn, by rw [a2]; exact h.sab, by rw [a3]; exact h.be, ?_, ?_, by rw [a6, a1]; exact h.split, by rw [a7, a2]; exact h.red, by rw [a1, a2]; exact h.lgd, by rw [a2, a5, a8]; exact h.lgn, by rw [a9, a2]; exact h.brief, h.pos, ?_, ?_, ?_⟩
      · rw [e1, c1, a4]; omega
      · rw [e1, a1, c2, a5]; omega
      · intro s hs; have := h.near s hs; omega
      · omega
      · omega
    by_cases k1 : k = 1
    · simp only [k1, ne_eq, not_true_eq_false, if_false]
      exact key _ rfl rfl rfl rfl rfl rfl rfl rfl rfl rfl
    · simp only [ne_eq, k1, not_false_eq_true, if_true]
      exact key _ rfl rfl rfl rfl rfl rfl rfl rfl rfl rfl
/-- One more minute of rest. -/
theorem Bk.rest {b : Book} {ks : List Int} {m : Nat} {C : List Span} {M : Meter} {R : Int} (h : Bk b ks m C M R) (hk : ks[m]? = some 0) :
    Bk b ks (m + 1 : Nat) C { M with Lie := M.Lie + 1, Now := M.Now + 1 } R := by
  have hd := h.dawn_le
  have hr := h.rr
  have hlie := h.lie
  have c1 := count_succ (ks := ks) (p := 3) (q := 3) (m := m) (fro := R) (by omega)
  have c2 := count_succ (ks := ks) (p := 3) (q := 3) (m := m) (fro := M.Dawn) (by omega)
  rw [← h.acc, hk, if_neg (by simp)] at c1
  rw [← h.day, hk, if_neg (by simp)] at c2
  have e1 : ((m + 1 : Nat) : Int) - 1 = (m : Int) := by omega
  refine ⟨h.dawn, h.sab, h.be, ?_, ?_, h.split, h.red, h.lgd, h.lgn, h.brief, h.pos, ?_, ?_, ?_⟩
  · simp only; rw [e1, c1]; omega
  · simp only; rw [e1, c2]; omega
  · intro s hs; have := h.near s hs; simp only; omega
  · simp only; omega
  · simp only; omega

/-! ### Weeks -/
structure Wk (b : Book) (ks : List Int) (m : Int) (M : Meter) : Prop where
  week : (M.turn b).Week = countK ks 3 3 (m - m.tmod b.Length) (m - 1)
  last : (M.turn b).Last = countK ks 3 3 (m - m.tmod b.Length - b.Length) (m - m.tmod b.Length - 1)
  labour : (M.turn b).Labour = countK ks 3 2 (m - m.tmod b.Length) (m - 1)
theorem tmod_succ {m L : Int} (hm : 0 ≤ m) (hL : 0 < L) : (m + 1).tmod L = if m.tmod L + 1 = L then 0 else m.tmod L + 1 := by
  rw [Int.tmod_eq_emod_of_nonneg hm, Int.tmod_eq_emod_of_nonneg (by omega)]
  have h1 := Int.mul_ediv_add_emod m L
  have h2 := Int.emod_nonneg m (by omega : L ≠ 0)
  have h3 := Int.emod_lt_of_pos m hL
  generalize m % L = q at *
  generalize m / L = d at *
  subst h1
  split
  · rename_i h
    rw [show L * d + q + 1 = L * (d + 1) by rw [Int.mul_add]; omega, Int.mul_emod_right]
  · rw [show L * d + q + 1 = (q + 1) + L * d by omega, Int.add_mul_emod_self_left]
    exact Int.emod_eq_of_lt (by omega) (by omega)
/-- What a minute makes of the weeks' counts. -/
theorem step_weeks {b : Book} {M : Meter} {k : Int} (hk : 0 ≤ k ∧ k ≤ 3) : (M.step b k).Week = (M.turn b).Week + (if k = 3 then 1 else 0) ∧ (M.step b k).Last = (M.turn b).Last ∧ (M.step b k).Labour = (M.turn b).Labour + (if k = 3 ∨ k = 2 then 1 else 0) := by
  have hu : ∀ N : Meter, (N.up b).Week = N.Week ∧ (N.up b).Last = N.Last ∧ (N.up b).Labour = N.Labour := by
    intro N
    unfold Meter.up
    split
    · rw [rose_eqL]; exact ⟨rfl, rfl, rfl⟩
    · exact ⟨rfl, rfl, rfl⟩
  obtain ⟨u1, u2, u3⟩ := hu (M.turn b)
  unfold Meter.step
  split
  · rename_i h; subst h; simp
  · rename_i h
    generalize (M.turn b).up b = U at *
    unfold Meter.worked Meter.driven Meter.drove Meter.droveL
    have : k = 1 ∨ k = 2 ∨ k = 3 := by omega
    rcases this with rfl | rfl | rfl
    · simp [u1, u2, u3]
    · simp [u1, u2, u3]
    · simp [u1, u2, u3]
theorem Wk.step {b : Book} {ks : List Int} {m : Nat} {M : Meter} {k : Int} (h : Wk b ks m M) (hL : 0 < b.Length) (hn : M.Now = m) (hs : (M.step b k).Now = (m : Int) + 1) (hk : ks[m]? = some k) (hk4 : 0 ≤ k ∧ k ≤ 3) : Wk b ks (m + 1 : Nat) (M.step b k) := by
  obtain ⟨s1, s2, s3⟩ := step_weeks (b := b) (M := M) hk4
  have ht := tmod_succ (m := (m : Int)) (L := b.Length) (by omega) hL
  have hf := tmod_fitJ (a := (m : Int)) (n := b.Length) (by omega) hL
  have c1 := count_succ (ks := ks) (p := 3) (q := 3) (m := m) (fro := (m : Int) - (m : Int).tmod b.Length) (by omega)
  have c2 := count_succ (ks := ks) (p := 3) (q := 2) (m := m) (fro := (m : Int) - (m : Int).tmod b.Length) (by omega)
  rw [← h.week, hk] at c1
  rw [← h.labour, hk] at c2
  have z1 : (if k = 3 then (1 : Int) else 0) = (if some k = some 3 ∨ some k = some 3 then 1 else 0) := by simp
  have z2 : (if k = 3 ∨ k = 2 then (1 : Int) else 0) = (if some k = some 3 ∨ some k = some 2 then 1 else 0) := by simp
  rw [← z1] at c1
  rw [← z2] at c2
  have e1 : ((m + 1 : Nat) : Int) = (m : Int) + 1 := by omega
  have hlast := h.last
  generalize (m : Int).tmod b.Length = q at *
  by_cases hq : q + 1 = b.Length
  · rw [if_pos hq] at ht
    have e : (M.step b k).turn b = { (M.step b k) with Last := (M.step b k).Week, Week := 0, Labour := 0 } := if_pos ⟨by omega, by rw [hs]; exact ht⟩
    constructor
    · rw [e]; simp only; rw [e1, ht]; exact (count_none (by omega)).symm
    · rw [e]; simp only; rw [e1, ht, s1, ← c1]; congr 1 <;> omega
    · rw [e]; simp only; rw [e1, ht]; exact (count_none (by omega)).symm
  · rw [if_neg hq] at ht
    have e : (M.step b k).turn b = M.step b k := if_neg (by rw [hs, ht]; omega)
    constructor
    · rw [e, e1, ht, s1, ← c1]; congr 1 <;> omega
    · rw [e, e1, ht, s2, hlast]; congr 1 <;> omega
    · rw [e, e1, ht, s3, ← c2]; congr 1 <;> omega

end Go.Hl

/- Chapter 16: a minute breaks what it breaks, looking back: plain Lean.  -/
set_option linter.unusedVariables false
set_option linter.unusedSimpArgs false
namespace Go.Hl
open Go.Gh Go.Proofs

/-- The clauses that a minute breaks, one by one. -/
theorem step_flags (b : Book) (m : Meter) (k : Int) (hk : k ≠ 0) : stepN b m k =
    rbN 256 (decide (0 < (m.turn b).Lie) && (((m.turn b).worth b).Weekly && (((m.turn b).worth b).Brief && (m.turn b).Brief)))
    + rbN 64 (decide (0 < (m.turn b).Lie) && (((m.turn b).worth b).Reduced && decide (b.Reduces < ((m.turn b).rise1 ((m.turn b).worth b)).Reduces + 1)))
    + rbN 32 (decide (b.Round - b.Reduced ≤ ((m.turn b).up b).Now - ((m.turn b).up b).Dawn))
    + rbN 128 (decide (b.Rounds ≤ ((m.turn b).up b).Now - ((m.turn b).up b).Sabbath))
    + rbN 1 (decide (k = 3) && decide (b.Drive < ((m.turn b).up b).Acc + 1))
    + rbN 4 (decide (k = 3) && (decide (((m.turn b).up b).Day + 1 = b.Day + 1) && decide (b.Longers < ((m.turn b).up b).Longers + 1)))
    + rbN 2 (decide (k = 3) && decide (b.Longer < ((m.turn b).up b).Day + 1))
    + rbN 8 (decide (k = 3) && decide (b.Week < ((m.turn b).up b).Week + 1))
    + rbN 16 (decide (k = 3) && decide (b.Fortnight < ((m.turn b).up b).Week + 1 + ((m.turn b).up b).Last))
    + rbN 512 (decide (k ≠ 1) && decide (b.Labour < (((m.turn b).up b).driven b k).Labour + 1)) := by
  have e' := stepN_cast b m k
  unfold stepR at e'
  rw [if_neg hk] at e'
  generalize (m.turn b) = m0 at *
  have hup : upR b m0 = rb 256 (decide (0 < m0.Lie) && ((m0.worth b).Weekly && ((m0.worth b).Brief && m0.Brief))) + rb 64 (decide (0 < m0.Lie) && ((m0.worth b).Reduced && decide (b.Reduces < (m0.rise1 (m0.worth b)).Reduces + 1))) := by
    unfold upR endsR
    by_cases h : 0 < m0.Lie
    · simp only [h, if_true, decide_true, Bool.true_and]
      cases (m0.worth b).Weekly <;> cases (m0.worth b).Reduced <;> simp [rb]
    · simp [h, rb]
  rw [hup] at e'
  generalize (decide (0 < m0.Lie) && ((m0.worth b).Weekly && ((m0.worth b).Brief && m0.Brief))) = c8 at *
  generalize (decide (0 < m0.Lie) && ((m0.worth b).Reduced && decide (b.Reduces < (m0.rise1 (m0.worth b)).Reduces + 1))) = c6 at *
  generalize m0.up b = m1 at *
  generalize m1.driven b k = m2 at *
  have e2 : drivenR b m1 k (lateR b m1 (rb 256 c8 + rb 64 c6)) = rb 256 c8 + rb 64 c6 + rb 32 (decide (b.Round - b.Reduced ≤ m1.Now - m1.Dawn)) + rb 128 (decide (b.Rounds ≤ m1.Now - m1.Sabbath)) + rb 1 (decide (k = 3) && decide (b.Drive < m1.Acc + 1))
      + rb 4 (decide (k = 3) && (decide (m1.Day + 1 = b.Day + 1) && decide (b.Longers < m1.Longers + 1))) + rb 2 (decide (k = 3) && decide (b.Longer < m1.Day + 1)) + rb 8 (decide (k = 3) && decide (b.Week < m1.Week + 1)) + rb 16 (decide (k = 3) && decide (b.Fortnight < m1.Week + 1 + m1.Last)) := by
    by_cases h : k = 3
    · simp only [drivenR, h, if_true, droveR, lateR, decide_true, Bool.true_and]
      by_cases h2 : m1.Day + 1 = b.Day + 1
      · simp only [h2, if_true, decide_true, Bool.true_and]
      · simp only [h2, if_false, decide_false, Bool.false_and]; simp [rb]
    · simp only [drivenR, h, if_false, lateR, decide_false, Bool.false_and]; simp [rb]
  rw [e2] at e'
  have e3 : ∀ x : Int, workedR b m2 k x = x + rb 512 (decide (k ≠ 1) && decide (b.Labour < m2.Labour + 1)) := by
    intro x
    by_cases h : k = 1
    · simp [workedR, h, rb]
    · simp [workedR, h]
  rw [e3] at e'
  rw [show (256 : Int) = ((256 : Nat) : Int) from rfl, show (64 : Int) = ((64 : Nat) : Int) from rfl, show (32 : Int) = ((32 : Nat) : Int) from rfl, show (128 : Int) = ((128 : Nat) : Int) from rfl, show rb 1 = rb ((1 : Nat) : Int) from rfl, show (4 : Int) = ((4 : Nat) : Int) from rfl, show (2 : Int) = ((2 : Nat) : Int) from rfl, show (8 : Int) = ((8 : Nat) : Int) from rfl, show (16 : Int) = ((16 : Nat) : Int) from rfl, show (512 : Int) = ((512 : Nat) : Int) from rfl] at e'
  simp only [rb_cast] at e'
  omega
def bitOf (c8 c6 c5 c7 c0 c2 c1 c3 c4 c9 : Bool) (c : Nat) : Bool :=
  if c = 0 then c0 else if c = 1 then c1 else if c = 2 then c2 else if c = 3 then c3 else if c = 4 then c4 else if c = 5 then c5 else if c = 6 then c6 else if c = 7 then c7 else if c = 8 then c8 else c9
theorem flag_bits : ∀ (c8 c6 c5 c7 c0 c2 c1 c3 c4 c9 : Bool) (c : Fin 10),
    (rbN 256 c8 + rbN 64 c6 + rbN 32 c5 + rbN 128 c7 + rbN 1 c0 + rbN 4 c2 + rbN 2 c1 + rbN 8 c3 + rbN 16 c4 + rbN 512 c9).testBit c.val = bitOf c8 c6 c5 c7 c0 c2 c1 c3 c4 c9 c.val := by decide +kernel

/-- All that is known ahead of a minute. -/
structure St16 (b : Book) (ks : List Int) (m : Nat) (M : Meter) (R : Int) : Prop where
  now : M.Now = m
  may : M.May
  wk : Wk b ks m M
  lz : 0 < M.Lie ↔ (0 < m ∧ ks[m - 1]? = some 0)
  bk : ∃ C, restsF ks m = (if 0 < M.Lie then C ++ [⟨m - M.Lie, m⟩] else C) ∧ Bk b ks m C M R

theorem St16.start {b : Book} (hb : b.May) (ks : List Int) : St16 b ks 0 Meter.zero 0 := by
  have hz : Meter.zero.turn b = Meter.zero := if_neg (fun e => absurd e.1 (by decide))
  have hw := hb.within
  unfold Book.within at hw
  refine ⟨rfl, zero_May, ⟨?_, ?_, ?_⟩, ?_, [], ?_, ?_⟩
  · rw [hz]; exact (count_neg (by decide)).symm
  · rw [hz]; exact (count_neg (by rw [show ((0 : Nat) : Int).tmod b.Length = 0 from Int.zero_tmod _]; decide)).symm
  · rw [hz]; exact (count_neg (by decide)).symm
  · simp [Meter.zero]
  · simp [Meter.zero, restsF]
  · refine ⟨rfl, rfl, rfl, (count_neg (by decide)).symm, (count_neg (by decide)).symm, rfl, rfl, rfl, ?_, rfl, fun s h => (by cases h), fun s h => (by cases h), by decide, by decide⟩
    show (0 : Int) = 0 + (if b.Day < 0 then 1 else 0)
    rw [if_neg (by omega)]; rfl

theorem turn_same (b : Book) (M : Meter) : (M.turn b).Now = M.Now ∧ (M.turn b).Lie = M.Lie ∧ (M.turn b).worth b = M.worth b ∧ (M.turn b).Dawn = M.Dawn ∧ (M.turn b).Sabbath = M.Sabbath := by
  unfold Meter.turn
  split <;> exact ⟨rfl, rfl, rfl, rfl, rfl⟩
/-- The last break's end, that minute counted. -/
def restU (b : Book) (M : Meter) (R m : Int) : Int := if endedB b M = true then m else R
/-- The meter when what ends is behind it. -/
theorem St16.up {b : Book} {ks : List Int} {m : Nat} {M : Meter} {R : Int} (hb : b.May) (h : St16 b ks m M R) :
    Bk b ks m (restsF ks m) ((M.turn b).up b) (restU b M R m) ∧ ((M.turn b).up b).Lie = 0 ∧ ((M.turn b).up b).Now = m := by
  obtain ⟨C, hC, hB⟩ := h.bk
  obtain ⟨t1, t2, t3, t4, t5⟩ := turn_same b M
  have hT := hB.turn
  unfold Meter.up restU
  rw [hC]
  by_cases hl : 0 < M.Lie
  · have he : endedB b M = (M.worth b).Break := if_neg (by omega)
    rw [if_pos hl, if_pos (by rw [t2]; exact hl), he]
    have hu := hT.up hb (by rw [t1, h.now]) (by rw [t2]; exact hl)
    rw [t2, t3] at hu
    refine ⟨hu, ?_, ?_⟩
    · rw [rose_eqL]
    · rw [rose_eqL]; simp only; rw [t1, h.now]
  · have := h.may.lie
    have he : endedB b M = false := if_pos (by omega)
    rw [if_neg hl, if_neg (by rw [t2]; exact hl), he, if_neg (by decide)]
    refine ⟨hT, by rw [t2]; omega, by rw [t1, h.now]⟩

theorem rests_old {ks : List Int} {m : Nat} (h : ¬ (0 < m ∧ ks[m - 1]? = some 0)) : ∀ s, s ∈ restsF ks m → s.To < m := by
  intro s hs
  cases m with
  | zero => cases hs
  | succ m =>
    have hq : ¬ ks[m]? = some 0 := fun e => h ⟨by omega, by simpa using e⟩
    rw [restsF, if_neg hq] at hs
    have := rests_near m s hs
    omega
theorem endsB_snoc {C : List Span} {s : Span} {m : Int} : endsB (C ++ [s]) m = decide (s.To = m) := by
  unfold endsB; rw [List.getLast?_append, List.getLast?_singleton]; rfl
theorem endsB_old {l : List Span} {m : Int} (h : ∀ s, s ∈ l → s.To < m) : endsB l m = false := by
  unfold endsB
  cases hg : l.getLast? with
  | none => rfl
  | some s =>
    have := h s (List.mem_of_getLast? hg)
    simp only [decide_eq_false_iff_not]; omega

theorem St16.step {b : Book} {ks : List Int} {m : Nat} {M : Meter} {R k : Int} (hb : b.May) (h : St16 b ks m M R) (hk : ks[m]? = some k) (hk4 : 0 ≤ k ∧ k ≤ 3) (hm : m < 40320) : St16 b ks (m + 1) (M.step b k) (restOf b M R k) := by
  have hL := (may_length hb).1
  have hs := h.may.step (b := b) (by rw [h.now]; omega) k
  have hsn : (M.step b k).Now = (m : Int) + 1 := by rw [hs.2, h.now]
  obtain ⟨t1, t2, t3, t4, t5⟩ := turn_same b M
  have hlie := h.may.lie
  refine ⟨by rw [hsn]; omega, hs.1, h.wk.step hL h.now hsn hk hk4, ?_, ?_⟩
  · rw [show m + 1 - 1 = m by omega, hk]
    unfold Meter.step
    by_cases h0 : k = 0
    · rw [if_pos h0]; simp only; rw [t2]; exact ⟨fun _ => ⟨by omega, by rw [h0]⟩, fun _ => by omega⟩
    · rw [if_neg h0]
      have hu := (h.up hb).2.1
      have : ∀ U : Meter, U.Lie = 0 → ¬ 0 < ((U.driven b k).worked k).Lie := by
        intro U hU
        unfold Meter.worked Meter.driven Meter.drove Meter.droveL
        repeat' split
        all_goals (try simp only); omega
      try simp only
      constructor
      · intro e; exact absurd e (this _ hu)
      · rintro ⟨_, e⟩; exact absurd (Option.some.inj e) h0
  · by_cases h0 : k = 0
    · subst h0
      obtain ⟨C, hC, hB⟩ := h.bk
      have hR : restOf b M R 0 = R := if_neg (fun e => e.1 rfl)
      rw [hR]
      have hr := hB.turn.rest hk
      have e : M.step b 0 = { M.turn b with Lie := (M.turn b).Lie + 1, Now := (M.turn b).Now + 1 } := if_pos rfl
      rw [e]
      refine ⟨C, ?_, hr⟩
      try simp only
      rw [t2, if_pos (by omega), restsF, if_pos hk, hC]
      by_cases hl : 0 < M.Lie
      · rw [if_pos hl, if_pos (h.lz.1 hl), extL_snoc]
        rw [show ((m + 1 : Nat) : Int) - (M.Lie + 1) = (m : Int) - M.Lie by omega, show ((m + 1 : Nat) : Int) = (m : Int) + 1 by omega]
      · rw [if_neg hl, if_neg (fun e => hl (h.lz.2 e))]
        rw [show ((m + 1 : Nat) : Int) - (M.Lie + 1) = (m : Int) by omega, show ((m + 1 : Nat) : Int) = (m : Int) + 1 by omega]
    · obtain ⟨hU, hl, hN⟩ := h.up hb
      have hmo := hU.more hl hk h0
      have e : M.step b k = { ((((M.turn b).up b).driven b k).worked k) with Now := ((((M.turn b).up b).driven b k).worked k).Now + 1 } := if_neg h0
      have hR : restOf b M R k = restU b M R m := by
        unfold restOf restU
        rw [h.now]
        by_cases he : endedB b M = true
        · rw [if_pos ⟨h0, he⟩, if_pos he]
        · rw [if_neg (fun e => he e.2), if_neg he]
      rw [hR, e]
      refine ⟨restsF ks m, ?_, hmo⟩
      rw [restsF, if_neg (by rw [hk]; simpa using h0), if_neg]
      unfold Meter.worked Meter.driven Meter.drove Meter.droveL
      repeat' split
      all_goals (try simp only); omega

/-! ### What a minute breaks -/
theorem cK_add {ks : List Int} {p q : Int} : ∀ (n r : Nat) (i : Int), cK ks p q (n + r) i = cK ks p q n i + cK ks p q r (i + n)
  | 0, r, i => by rw [Nat.zero_add, cK]; simp
  | n + 1, r, i => by
    rw [show n + 1 + r = (n + r) + 1 by omega, cK, cK, cK_add n r (i + 1), show i + 1 + (n : Int) = i + ((n + 1 : Nat) : Int) by omega, Int.add_assoc]
theorem count_add {ks : List Int} {p q a w m : Int} (h1 : a ≤ w) (h2 : w ≤ m + 1) : countK ks p q a m = countK ks p q a (w - 1) + countK ks p q w m := by
  unfold countK
  rw [show (m + 1 - a).toNat = (w - 1 + 1 - a).toNat + (m + 1 - w).toNat by omega, cK_add]
  congr 2
  omega

theorem st_bits {b : Book} {ks : List Int} {m : Nat} {M : Meter} {R k : Int} (hb : b.May) (h : St16 b ks m M R) (hk : ks[m]? = some k) (hk4 : 0 < k ∧ k ≤ 3) (c : Nat) (hc : c < 10) :
    (stepN b M k).testBit c = brkF b ks m c := by
  obtain ⟨hU, hl, hN⟩ := h.up hb
  obtain ⟨t1, t2, t3, t4, t5⟩ := turn_same b M
  have hL := (may_length hb).1
  have hf := tmod_fitJ (a := (m : Int)) (n := b.Length) (by omega) hL
  rw [step_flags b M k (by omega), flag_bits _ _ _ _ _ _ _ _ _ _ ⟨c, hc⟩]
  have hnear : ∀ s, s ∈ restsF ks m → s.To ≤ (m : Int) := fun s hs => by have := hU.near s hs; omega
  have d1 : lastF b.Reduced m (restsF ks m) 0 = ((M.turn b).up b).Dawn := by rw [lastF_eq _ _ hnear, hU.dawn]
  have d2 : lastF b.Short m (restsF ks m) 0 = ((M.turn b).up b).Sabbath := by rw [lastF_eq _ _ hnear, hU.sab]
  have d3 : beF b (restsF ks m) 0 false = restU b M R m := by rw [beF_eq, hU.be]
  have hdw := hU.dawn_le
  have hrr := hU.rr
  have hU0 : ((M.turn b).up b).Week = (M.turn b).Week ∧ ((M.turn b).up b).Last = (M.turn b).Last ∧ ((M.turn b).up b).Labour = (M.turn b).Labour := by
    unfold Meter.up; split
    · rw [rose_eqL]; exact ⟨rfl, rfl, rfl⟩
    · exact ⟨rfl, rfl, rfl⟩
  obtain ⟨u1, u2, u3⟩ := hU0
  have q1 : ∀ fro : Int, fro ≤ m → k = 3 → countK ks 3 3 fro m = countK ks 3 3 fro ((m : Int) - 1) + 1 := fun fro hfro h3 => by rw [count_succ hfro, hk, h3, if_pos (.inl rfl)]
  have q2 : ∀ fro : Int, fro ≤ m → (k = 3 ∨ k = 2) → countK ks 3 2 fro m = countK ks 3 2 fro ((m : Int) - 1) + 1 := fun fro hfro h3 => by
    rw [count_succ hfro, hk]
    rcases h3 with h3 | h3
    · rw [h3, if_pos (.inl rfl)]
    · rw [h3, if_pos (.inr rfl)]
  have hk3 : decide (ks[m]? = some 3) = decide (k = 3) := by rw [hk]; simp
  have hk2 : decide (ks[m]? = some 2) = decide (k = 2) := by rw [hk]; simp
  have hc10 : c = 0 ∨ c = 1 ∨ c = 2 ∨ c = 3 ∨ c = 4 ∨ c = 5 ∨ c = 6 ∨ c = 7 ∨ c = 8 ∨ c = 9 := by omega
  rcases hc10 with rfl | rfl | rfl | rfl | rfl | rfl | rfl | rfl | rfl | rfl
  · show (decide (k = 3) && decide (b.Drive < ((M.turn b).up b).Acc + 1)) = (decide (ks[m]? = some 3) && decide (b.Drive < countK ks 3 3 (beF b (restsF ks m) 0 false) m))
    rw [hk3, d3]
    by_cases h3 : k = 3
    · rw [q1 _ (by omega) h3, ← hU.acc]
    · rw [decide_eq_false h3]; rfl
  · show (decide (k = 3) && decide (b.Longer < ((M.turn b).up b).Day + 1)) = (decide (ks[m]? = some 3) && decide (b.Longer < countK ks 3 3 (lastF b.Reduced m (restsF ks m) 0) m))
    rw [hk3, d1]
    by_cases h3 : k = 3
    · rw [q1 _ (by omega) h3, ← hU.day]
    · rw [decide_eq_false h3]; rfl
  · show (decide (k = 3) && (decide (((M.turn b).up b).Day + 1 = b.Day + 1) && decide (b.Longers < ((M.turn b).up b).Longers + 1))) = (decide (ks[m]? = some 3) && (decide (countK ks 3 3 (lastF b.Reduced m (restsF ks m) 0) m = b.Day + 1) && decide (b.Longers < lgF b ks (lastF b.Short m (restsF ks m) 0) m (restsF ks m) (lastF b.Short m (restsF ks m) 0) 0)))
    rw [hk3, d1, d2]
    by_cases h3 : k = 3
    · rw [lgF_eq, hU.lgd, q1 _ (by omega) h3, ← hU.day]
      have hg := hU.lgn
      by_cases h4 : ((M.turn b).up b).Day + 1 = b.Day + 1
      · rw [if_pos (by omega)]
        rw [if_neg (by omega)] at hg
        rw [hg, Int.add_zero]
      · rw [decide_eq_false h4]; simp
    · rw [decide_eq_false h3]; rfl
  · show (decide (k = 3) && decide (b.Week < ((M.turn b).up b).Week + 1)) = (decide (ks[m]? = some 3) && decide (b.Week < countK ks 3 3 ((m : Int) - (m : Int).tmod b.Length) m))
    rw [hk3, u1, h.wk.week]
    by_cases h3 : k = 3
    · rw [q1 _ (by omega) h3]
    · rw [decide_eq_false h3]; rfl
  · show (decide (k = 3) && decide (b.Fortnight < ((M.turn b).up b).Week + 1 + ((M.turn b).up b).Last)) = (decide (ks[m]? = some 3) && decide (b.Fortnight < countK ks 3 3 ((m : Int) - (m : Int).tmod b.Length - b.Length) m))
    rw [hk3, u1, u2, h.wk.week, h.wk.last]
    by_cases h3 : k = 3
    · rw [count_add (m := (m : Int)) (a := (m : Int) - (m : Int).tmod b.Length - b.Length) (w := (m : Int) - (m : Int).tmod b.Length) (by omega) (by omega), q1 ((m : Int) - (m : Int).tmod b.Length) (by omega) h3]
      congr 1
      apply decide_eq_decide.2
      constructor <;> intro e <;> omega
    · rw [decide_eq_false h3]; rfl
  · show decide (b.Round - b.Reduced ≤ ((M.turn b).up b).Now - ((M.turn b).up b).Dawn) = decide (b.Round - b.Reduced ≤ (m : Int) - lastF b.Reduced m (restsF ks m) 0)
    rw [d1, hN]
  · show (decide (0 < (M.turn b).Lie) && (((M.turn b).worth b).Reduced && decide (b.Reduces < ((M.turn b).rise1 ((M.turn b).worth b)).Reduces + 1))) = (endsB (restsF ks m) m && (redF b (restsF ks m) ((restsF ks m).length - 1) && decide (b.Reduces < redC b (restsF ks m) (lastF b.Short m (restsF ks m) 0) (restsF ks m).length 0)))
    rw [d2, ← hU.red, t2]
    obtain ⟨C, hC, hB⟩ := h.bk
    by_cases hp : 0 < M.Lie
    · rw [if_pos hp] at hC
      have hT := hB.turn
      have hd := hT.dawn_le
      rw [t2] at hd
      have hrd := redF_last (b := b) (l := C) (s := ⟨m - M.Lie, m⟩) (d := (M.turn b).Dawn) (half := (M.turn b).Half) hT.dawn.symm hB.near (by simp only; omega)
      rw [← hT.split] at hrd
      have hwe : worth b ((⟨m - M.Lie, m⟩ : Span).From) ((⟨m - M.Lie, m⟩ : Span).To) (M.turn b).Dawn (M.turn b).Half (M.turn b).Split = (M.turn b).worth b := by
        unfold Meter.worth
        have : dawnOf (M.turn b) = (M.turn b).Dawn := by unfold dawnOf; rw [t1, t2, h.now, if_neg (by omega)]
        rw [this, t1, t2, h.now]
      rw [hwe] at hrd
      rw [hC, endsB_snoc, show (C ++ [(⟨m - M.Lie, m⟩ : Span)]).length - 1 = C.length by simp, hrd, decide_eq_true hp, decide_eq_true rfl]
      have hu : ((M.turn b).up b) = (M.turn b).rose b := if_pos (by rw [t2]; exact hp)
      rw [hu, rose_eqL]
      simp only
      cases hr : ((M.turn b).worth b).Reduced with
      | false => simp
      | true =>
        simp only [if_true]
        unfold Meter.rise1
        split <;> rfl
    · rw [decide_eq_false hp, endsB_old (rests_old (fun e => hp (h.lz.2 e)))]
      rfl
  · show decide (b.Rounds ≤ ((M.turn b).up b).Now - ((M.turn b).up b).Sabbath) = decide (b.Rounds ≤ (m : Int) - lastF b.Short m (restsF ks m) 0)
    rw [d2, hN]
  · show (decide (0 < (M.turn b).Lie) && (((M.turn b).worth b).Weekly && (((M.turn b).worth b).Brief && (M.turn b).Brief))) = (endsB (restsF ks m) m && (match (restsF ks m).getLast? with | none => false | some s => (decide (b.Short ≤ s.To - s.From) && decide (s.To - s.From < b.Weekly)) && brK b (lastF b.Short m ((restsF ks m).take (((restsF ks m).length : Int) - 1).toNat) 0) (restsF ks m) (((restsF ks m).length : Int) - 1).toNat 0))
    rw [t2]
    obtain ⟨C, hC, hB⟩ := h.bk
    by_cases hp : 0 < M.Lie
    · rw [if_pos hp] at hC
      have hT := hB.turn
      have e1 : ((((C ++ [(⟨m - M.Lie, m⟩ : Span)]).length : Nat) : Int) - 1).toNat = C.length := by simp
      have e2 : (C ++ [(⟨m - M.Lie, m⟩ : Span)]).getLast? = some ⟨m - M.Lie, m⟩ := by simp
      have e3 : (C ++ [(⟨m - M.Lie, m⟩ : Span)]).take C.length = C := by simp
      have e4 : (M.turn b).worth b = worth b (m - M.Lie) m (dawnOf (M.turn b)) (M.turn b).Half (M.turn b).Split := by unfold Meter.worth; rw [t1, t2, h.now]
      rw [hC, endsB_snoc, e1, e2, e3, decide_eq_true hp, decide_eq_true rfl]
      simp only
      rw [brK_app _ _ (by omega), lastF_eq _ _ (fun s hs => by have := hB.near s hs; omega), ← hT.sab, ← hT.brief, e4]
      simp only [worth, Bool.true_and]
      generalize decide (b.Short ≤ (m : Int) - (m - M.Lie)) = x
      generalize decide ((m : Int) - (m - M.Lie) < b.Weekly) = y
      cases x <;> rfl
    · rw [decide_eq_false hp, endsB_old (rests_old (fun e => hp (h.lz.2 e)))]
      rfl
  · show (decide (k ≠ 1) && decide (b.Labour < (((M.turn b).up b).driven b k).Labour + 1)) = ((decide (ks[m]? = some 3) || decide (ks[m]? = some 2)) && decide (b.Labour < countK ks 3 2 ((m : Int) - (m : Int).tmod b.Length) m))
    have e1 : (((M.turn b).up b).driven b k).Labour = (M.turn b).Labour := by
      rw [← u3]; unfold Meter.driven Meter.drove Meter.droveL; split <;> rfl
    rw [hk3, hk2, e1, h.wk.labour]
    by_cases h1 : k = 1
    · rw [h1]; rfl
    · have h3 : k = 3 ∨ k = 2 := by omega
      rw [q2 _ (by omega) h3, decide_eq_true h1]
      congr 1
      rcases h3 with rfl | rfl <;> rfl

theorem st_since {b : Book} {ks : List Int} {m : Nat} {M : Meter} {R : Int} (h : St16 b ks m M R) (c : Int) : sinceV b M R c m = sinF b ks m c := by
  obtain ⟨C, hC, hB⟩ := h.bk
  have hlie := h.may.lie
  have hA : aheadL (restsF ks m) m = C := by
    unfold aheadL
    by_cases hp : 0 < M.Lie
    · rw [if_pos hp] at hC
      rw [hC, endsB_snoc, if_pos (decide_eq_true rfl)]
      simp
    · rw [endsB_old (rests_old (fun e => hp (h.lz.2 e))), if_neg (by decide), hC, if_neg hp]
  have hnear : ∀ s, s ∈ C → s.To ≤ (m : Int) := fun s hs => by have := hB.near s hs; omega
  unfold sinceV sinF
  rw [hA, lastF_eq _ _ hnear, lastF_eq _ _ hnear, beF_eq, hB.be, ← hB.dawn, ← hB.sab]
  repeat' split
  all_goals first | rfl | omega

end Go.Hl
