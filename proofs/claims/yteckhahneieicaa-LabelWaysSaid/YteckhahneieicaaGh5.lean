/- Ghost values and walks, bundle Gh5; proved for whatever the arguments' types allow, as each theorem says. -/
import Derived.Test.YteckhahneieicaaGh4

/- The rest of the operations; all of them together. -/
set_option linter.unusedVariables false
set_option linter.unusedSimpArgs false
namespace Go.Gh

section
variable {P : Program} {w : World} {I : Nat → Nat → Prop} {T : Tab} {hp : Nat → Option GB}

theorem tSize_info {e : TypeId} {sz : Nat} (h : tSize P e = some sz) : ∃ i, P.info? e = some i ∧ i.size = sz := by
  unfold tSize at h
  split at h
  · rename_i i hi; cases h; exact ⟨i, hi, rfl⟩
  · cases h

theorem tZero_run {t : TypeId} {z : Value} (h : tZero P t = some z) : (zeroValue t).run P w = .ok z w := by
  unfold tZero at h
  split at h
  · rename_i i hi; simp [zeroValue, typeInfo, hi, h]
  · cases h

theorem VR.noTab {g : GV} {r : Value} {T' : Tab} (h : VR w I (fun _ => none) g r) : VR w I T' g r := h.mono (ILe.refl w I) (TLe.none T')

theorem stripC_ok {c c' : GV} {r : Value} (h : VR w I T c r) (hc : stripC c = some c') : VR w I (fun _ => none) c' r := by
  cases h with
  | dead x => cases hc; exact .dead _
  | v _ h => cases hc; exact .v _ h
  | agg _ _ _ => cases hc
  | tup _ _ => cases hc
  | nil hb hown => cases hc; exact .nil hb fun k hk => (by cases hk)
  | list b o cap row hcap hes hsane hcell hrel hown => cases hc; exact .list b o cap row hcap hes hsane hcell hrel fun k hk => (by cases hk)
  | ptr _ => cases hc
  | ref b o row hcell hrel => cases hc; exact .ref b o row hcell hrel
  | fn _ _ _ _ => cases hc
  | iface _ => cases hc

theorem stripL_ok : ∀ {cs cs' : List GV}, stripL cs = some cs' → cs'.length = cs.length ∧ ∀ (j : Nat) (c' : GV), cs'[j]? = some c' → ∃ c, cs[j]? = some c ∧ stripC c = some c'
  | [], cs', h => by cases h; exact ⟨rfl, fun j c' h => (by simp at h)⟩
  | x :: r, cs', h => by
    simp only [stripL] at h
    split at h
    · rename_i x' r' hx hr
      cases h
      obtain ⟨h1, h2⟩ := stripL_ok hr
      refine ⟨by simp [h1], fun j c' hj => ?_⟩
      cases j with
      | zero => simp at hj; subst hj; exact ⟨x, rfl, hx⟩
      | succ j => exact h2 j c' (by simpa using hj)
    · cases h

theorem stripE_ok {x x' : GV} (h : stripE x = some x') (hs : x.sane = true) : x'.cells.length = x.cells.length ∧ x'.sane = true ∧ ∀ (j : Nat) (c' : GV), x'.cells[j]? = some c' → ∃ c, x.cells[j]? = some c ∧ stripC c = some c' := by
  cases x with
  | agg cs =>
    simp only [stripE] at h
    split at h
    · rename_i cs' hcs
      cases h
      obtain ⟨h1, h2⟩ := stripL_ok hcs
      exact ⟨h1, rfl, h2⟩
    · cases h
  | dead => simp [GV.sane] at hs
  | tup _ => simp [GV.sane] at hs
  | v y => cases h; exact ⟨rfl, rfl, fun j c' hj => ⟨c', hj, by cases j <;> simp [GV.cells] at hj; subst hj; rfl⟩⟩
  | list es xs own =>
    cases h
    refine ⟨rfl, rfl, fun j c' hj => ?_⟩
    cases j <;> simp [GV.cells] at hj
    subst hj; exact ⟨_, rfl, rfl⟩
  | ptr _ _ => cases h
  | ref cs o => cases h; exact ⟨rfl, rfl, fun j c' hj => ⟨c', hj, by cases j <;> simp [GV.cells] at hj; subst hj; rfl⟩⟩
  | fn _ _ _ => cases h
  | iface _ _ => cases h

/-- Parts in order fill a row of their number's length. -/
theorem inOrder_ok {sz : Nat} : ∀ {ps : List (Nat × GV)} {n : Nat} {xs : List GV} {row : Array Value} {rps : List (Nat × Value)},
    rps.length = ps.length → (∀ (i : Nat) (p : Nat × GV) (q : Nat × Value), ps[i]? = some p → rps[i]? = some q → q.1 = p.1 ∧ VR w I T p.2 q.2) →
    inOrder sz n ps = some xs → (n + xs.length) * sz ≤ row.size →
    ∃ row' : Array Value, Instr.fill (fun i => some (i * sz, sz)) row rps = some row' ∧ row'.size = row.size ∧ (∀ j, j < n * sz → row'[j]? = row[j]?) ∧ (∀ j, (n + xs.length) * sz ≤ j → row'[j]? = row[j]?) ∧
      (∀ x, x ∈ xs → x.cells.length = sz ∧ x.sane = true) ∧
      (∀ (i : Nat) (x : GV) (j : Nat) (c : GV), xs[i]? = some x → x.cells[j]? = some c → ∃ u, row'[(n + i) * sz + j]? = some u ∧ u.oneCell' = true ∧ VR w I (fun _ => none) c u) := by
  intro ps
  induction ps with
  | nil =>
    intro n xs row rps hl hp h hle
    cases rps with
    | nil => cases h; exact ⟨row, rfl, rfl, fun _ _ => rfl, fun _ _ => rfl, fun x hx => (by cases hx), fun i x j c hx => (by simp at hx)⟩
    | cons q qs => simp at hl
  | cons p ps ih =>
    intro n xs row rps hl hp h hle
    cases rps with
    | nil => simp at hl
    | cons q qs =>
      obtain ⟨i, x⟩ := p
      obtain ⟨i', rx⟩ := q
      obtain ⟨rfl, hx⟩ := hp 0 _ _ rfl rfl
      simp only at hx
      simp only [inOrder] at h
      cases hb : (Nat.beq i' n && (x.sane && Nat.beq x.cells.length sz)) with
      | false => rw [hb] at h; cases h
      | true =>
        rw [hb] at h
        simp only [cond_true] at h
        split at h
        rotate_left
        · cases h
        rename_i x' ys hx' hys
        cases h
        simp only [Bool.and_eq_true] at hb
        obtain ⟨hb1, hs, hb2⟩ := hb
        have hin := Nat.eq_of_beq_eq_true hb1
        subst hin
        have hxl := Nat.eq_of_beq_eq_true hb2
        obtain ⟨c1, c2, c3⟩ := hx.cells hs
        obtain ⟨q1, q2, q3⟩ := stripE_ok hx' hs
        simp only [List.length_cons] at hle
        have hle' : i' * sz + sz ≤ row.size := by
          calc i' * sz + sz = (i' + 1) * sz := by rw [Nat.add_mul, Nat.one_mul]
            _ ≤ (i' + (ys.length + 1)) * sz := Nat.mul_le_mul_right _ (by omega)
            _ ≤ row.size := hle
        have hvl : rx.cells.toList.length = sz := by simp; omega
        let row1 : Array Value := (row.toList.take (i' * sz) ++ rx.cells.toList ++ row.toList.drop (i' * sz + rx.cells.toList.length)).toArray
        have hsz1 : row1.size = row.size := by
          show (row.toList.take (i' * sz) ++ rx.cells.toList ++ row.toList.drop (i' * sz + rx.cells.toList.length)).toArray.size = _
          simp; omega
        have get : ∀ j, row1[j]? = if j < i' * sz then row[j]? else if j < i' * sz + sz then rx.cells[j - i' * sz]? else row[j]? := by
          intro j
          have e1 : (row.toList.take (i' * sz)).length = i' * sz := by simp; omega
          show (row.toList.take (i' * sz) ++ rx.cells.toList ++ row.toList.drop (i' * sz + rx.cells.toList.length)).toArray[j]? = _
          rw [List.getElem?_toArray, List.append_assoc, List.getElem?_append, e1]
          by_cases hj : j < i' * sz
          · rw [if_pos hj, if_pos hj, List.getElem?_take, if_pos hj]; simp
          · rw [if_neg hj, if_neg hj, List.getElem?_append, hvl]
            by_cases hj2 : j < i' * sz + sz
            · rw [if_pos (by omega), if_pos hj2]; simp
            · rw [if_neg (by omega), if_neg hj2, List.getElem?_drop]
              rw [show i' * sz + sz + (j - i' * sz - sz) = j by omega]; simp
        obtain ⟨row', e1, e2, e3, e3', e4, e5⟩ := ih (n := i' + 1) (row := row1) (by simpa using hl) (fun j p q hj hq => hp (j + 1) p q (by simpa using hj) (by simpa using hq)) hys (by
          rw [hsz1]; rw [show i' + 1 + ys.length = i' + (ys.length + 1) by omega]; exact hle)
        have hmul : (i' + 1) * sz = i' * sz + sz := by rw [Nat.add_mul, Nat.one_mul]
        refine ⟨row', ?_, by rw [e2, hsz1], fun j hj => ?_, fun j hj => ?_, fun y hy => ?_, fun k y j c hy hc => ?_⟩
        · simp only [Instr.fill]
          rw [if_neg (by simp; omega)]
          have := foldl_splice rx.cells.toList (i' * sz) row (by simp; omega)
          simp only [Array.toArray_toList] at this
          rw [this]; exact e1
        · rw [e3 j (by omega), get, if_pos hj]
        · simp only [List.length_cons] at hj
          rw [e3' j (by rw [show i' + 1 + ys.length = i' + (ys.length + 1) by omega]; exact hj), get, if_neg, if_neg]
          · have : (i' + 1) * sz ≤ (i' + (ys.length + 1)) * sz := Nat.mul_le_mul_right _ (by omega)
            omega
          · have : (i' + 1) * sz ≤ (i' + (ys.length + 1)) * sz := Nat.mul_le_mul_right _ (by omega)
            omega
        · rcases List.mem_cons.1 hy with rfl | hy
          · exact ⟨by rw [q1]; exact hxl, q2⟩
          · exact e4 y hy
        · cases k with
          | zero =>
            simp at hy; subst hy
            obtain ⟨c0, hc0, hc1⟩ := q3 j c hc
            have hjl := (List.getElem?_eq_some_iff.1 hc0).1
            have hj : j < rx.cells.size := by omega
            refine ⟨rx.cells[j], ?_, c2 j _ (by simp [hj]), stripC_ok (c3 j c0 _ hc0 (by simp [hj])) hc1⟩
            rw [Nat.add_zero, e3 _ (by omega), get, if_neg (by omega), if_pos (by omega)]
            rw [show i' * sz + j - i' * sz = j by omega]; simp [hj]
          | succ k =>
            obtain ⟨u, h1, h2⟩ := e5 k y j c (by simpa using hy) hc
            exact ⟨u, by rw [show i' + (k + 1) = i' + 1 + k by omega]; exact h1, h2⟩

end
end Go.Gh
