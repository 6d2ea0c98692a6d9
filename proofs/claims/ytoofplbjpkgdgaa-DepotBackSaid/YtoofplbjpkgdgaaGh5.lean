/- Ghost values and walks, bundle Gh5; proved for whatever the arguments' types allow, as each theorem says. -/
import Derived.Test.YtoofplbjpkgdgaaGh4

/- The rest of the operations; all of them together. -/
set_option linter.unusedVariables false
set_option linter.unusedSimpArgs false
namespace Go.Gh

section
variable {P : Program} {w : World} {I : Nat → Nat → Prop} {T : Tab} {hp : Nat → Option GB}

theorem tSize_info {e : TypeId} {sz : Nat} (h : tSize P e = some sz) : ∃ i, P.info? e = some i ∧ i.size = sz := by
  unfold tSize at h
  split at h
  · rename_i i hi; cases h; exact ⟨i, hi, rfl⟩
  · cases h

theorem tZero_run {t : TypeId} {z : Value} (h : tZero P t = some z) : (zeroValue t).run P w = .ok z w := by
  unfold tZero at h
  split at h
  · rename_i i hi; simp [zeroValue, typeInfo, hi, h]
  · cases h

theorem VR.noTab {g : GV} {r : Value} {T' : Tab} (h : VR w I (fun _ => none) g r) : VR w I T' g r := h.mono (ILe.refl w I) (TLe.none T')

theorem stripC_ok {c c' : GV} {r : Value} (h : VR w I T c r) (hc : stripC c = some c') : VR w I (fun _ => none) c' r := by
  cases h with
  | dead x => cases hc; exact .dead _
  | v _ h => cases hc; exact .v _ h
  | agg _ _ _ => cases hc
  | tup _ _ => cases hc
  | nil hb hown => cases hc; exact .nil hb fun k hk => (by cases hk)
  | list b o cap row hcap hes hsane hcell hrel hown => cases hc; exact .list b o cap row hcap hes hsane hcell hrel fun k hk => (by cases hk)
  | ptr _ => cases hc
  | ref b o row hcell hrel => cases hc; exact .ref b o row hcell hrel
  | fn _ _ _ _ => cases hc
  | iface _ => cases hc
  | ms _ _ _ _ => cases hc
  | mptr _ _ _ _ => cases hc
  | emp _ _ => cases hc
  | mview _ _ _ _ => cases hc
  | z0 _ => cases hc

theorem stripL_ok : ∀ {cs cs' : List GV}, stripL cs = some cs' → cs'.length = cs.length ∧ ∀ (j : Nat) (c' : GV), cs'[j]? = some c' → ∃ c, cs[j]? = some c ∧ stripC c = some c'
  | [], cs', h => by cases h; exact ⟨rfl, fun j c' h => (by simp at h)⟩
  | x :: r, cs', h => by
    simp only [stripL] at h
    split at h
    · rename_i x' r' hx hr
      cases h
      obtain ⟨h1, h2⟩ := stripL_ok hr
      refine ⟨by simp [h1], fun j c' hj => ?_⟩
      cases j with
      | zero => simp at hj; subst hj; exact ⟨x, rfl, hx⟩
      | succ j => exact h2 j c' (by simpa using hj)
    · cases h

theorem stripE_ok {x x' : GV} (h : stripE x = some x') (hs : x.sane = true) : x'.cells.length = x.cells.length ∧ x'.sane = true ∧ ∀ (j : Nat) (c' : GV), x'.cells[j]? = some c' → ∃ c, x.cells[j]? = some c ∧ stripC c = some c' := by
  cases x with
  | agg cs =>
    simp only [stripE] at h
    split at h
    · rename_i cs' hcs
      cases h
      obtain ⟨h1, h2⟩ := stripL_ok hcs
      exact ⟨h1, rfl, h2⟩
    · cases h
  | dead => simp [GV.sane] at hs
  | tup _ => simp [GV.sane] at hs
  | v y => cases h; exact ⟨rfl, rfl, fun j c' hj => ⟨c', hj, by cases j <;> simp [GV.cells] at hj; subst hj; rfl⟩⟩
  | list es xs own =>
    cases h
    refine ⟨rfl, rfl, fun j c' hj => ?_⟩
    cases j <;> simp [GV.cells] at hj
    subst hj; exact ⟨_, rfl, rfl⟩
  | ptr _ _ => cases h
  | ref cs o => cases h; exact ⟨rfl, rfl, fun j c' hj => ⟨c', hj, by cases j <;> simp [GV.cells] at hj; subst hj; rfl⟩⟩
  | fn _ _ _ => cases h
  | iface _ _ => cases h
  | ms _ _ _ _ => cases h
  | mptr _ _ _ _ => cases h
  | emp => cases h
  | mview _ _ _ _ _ => cases h
  | z0 => cases h

/-- What is stripped is related without a table. -/
theorem strip_cells {x x' : GV} {r : Value} (h : VR w I T x r) (hx : stripE x = some x') (hs : x.sane = true) :
    x'.cells.length = x.cells.length ∧ x'.sane = true ∧ ∀ (j : Nat) (c : GV) (u : Value), x'.cells[j]? = some c → r.cells[j]? = some u → VR w I (fun _ => none) c u := by
  obtain ⟨c1, c2, c3⟩ := h.cells hs
  obtain ⟨q1, q2, q3⟩ := stripE_ok hx hs
  refine ⟨q1, q2, fun j c u hc hu => ?_⟩
  obtain ⟨c0, hc0, hc1⟩ := q3 j c hc
  exact stripC_ok (c3 j c0 u hc0 hu) hc1

theorem packM_ok {y x y' : GV} {j sz es : Nat} (h : packM y x j sz = some y') (hy : y.cells.length = es) (hx : x.cells.length = sz) (hle : j + sz ≤ es) (hxs : x.sane = true) :
    y'.cells = y.cells.take j ++ (x.cells ++ y.cells.drop (j + sz)) ∧ y'.sane = true := by
  have one : ∀ y : GV, (∀ cs, y ≠ .agg cs) → y.cells = [y] := by intro y h; cases y <;> first | rfl | exact absurd rfl (h _)
  unfold packM at h
  split at h
  · cases h; exact ⟨rfl, rfl⟩
  · rename_i hna
    rw [Bool.cond_eq_ite] at h
    split at h
    · rename_i hb
      simp only [Bool.and_eq_true] at hb
      have h1 := Nat.eq_of_beq_eq_true hb.1
      have h2 := Nat.eq_of_beq_eq_true hb.2
      subst h1; subst h2
      split at h
      · cases h
      · cases h
        rw [one y (fun cs e => hna cs e)] at hy ⊢
        simp at hy
        exact ⟨by simp, hxs⟩
    · cases h

theorem storeM_ok {forb : List Nat} {t : TypeId} {k ver : Nat} {i : Int} {j : Nat} {x y : GV} {u : Option (Nat × GB)} {ra rx : Value} (hr : HR P w I T hp) (ha : VR w I T (.mptr k ver i j) ra) (hx : VR w I T x rx)
    (h : (storeM P forb hp t k ver i j x).eff y u) : Does P w I T hp ((do Instr.storeAt t ra rx; pure Next.skip : Sem Next).run P w) y u := by
  unfold storeM at h
  cases hf : forb.elem k with
  | true => rw [hf] at h; exact h.elim
  | false =>
    rw [hf] at h
    simp only [cond_false] at h
    split at h
    rotate_left
    · exact h.elim
    rename_i sz e es xs v x' hsz hk hx'
    rw [Bool.cond_eq_ite] at h
    split at h
    rotate_left
    · exact h.elim
    rename_i hb
    simp only [Bool.and_eq_true] at hb
    obtain ⟨hs, hb1⟩ := hb
    have hxl := Nat.eq_of_beq_eq_true hb1
    obtain ⟨rfl, z, h0, hz, h⟩ := h
    simp only [Bool.cond_eq_ite] at h
    split at h
    rotate_left
    · exact h.elim
    rename_i hb2
    have hle := Nat.le_of_ble_eq_true hb2
    split at h
    rotate_left
    · exact h.elim
    rename_i z' hz'
    obtain ⟨rfl, rfl⟩ := h
    obtain ⟨g, c, ys, hT, hown, hzl, hzs, hcell, hrel⟩ := mvec_elem hr hk h0 hz
    obtain ⟨u0, ys0, inf, k1, k2, k3, k4, k5, k6, k7⟩ := hr.mvec k e es xs v hk
    rw [hT] at k1; cases k1
    subst k3
    have hyy : ys0 = ys := by
      rcases k4.2 with ⟨hn, _⟩ | ⟨g1, cap1, cur1, e1, _, e2, _, _, _, e3⟩
      · cases hn
      · rcases hown.2 with ⟨hn, _⟩ | ⟨g2, cap2, cur2, e4, _, e5, _, _, _, e6⟩
        · cases hn
        · cases e1; cases e4
          rw [e2] at e5; cases e5
          rw [← e3, ← e6]
    subst hyy
    cases ha with
    | mptr hT' hle' hs' hra =>
      rw [hT] at hT'; cases hT'
      obtain ⟨g', n', c', hu, rfl⟩ := hra rfl
      cases hu
      obtain ⟨c1, c2, c3⟩ := hx.cells hs
      obtain ⟨q1, q2, q3⟩ := strip_cells hx hx' hs
      rw [hzl] at hle
      obtain ⟨p1, p2⟩ := packM_ok hz' hzl (by rw [q1]; exact hxl) hle q2
      have hlt := (List.getElem?_eq_some_iff.1 hz).1
      have h9 := Nat.mul_le_mul_right inf.size (show i.toNat + 1 ≤ xs.length from hlt)
      rw [Nat.add_mul, Nat.one_mul] at h9
      rcases hown.2 with ⟨hn, _⟩ | ⟨g2, cap2, cur, e4, _, hg, hnc, hcm, hcs, htk⟩
      · cases hn
      cases e4
      have hcurl : xs.length * inf.size ≤ cur.size := by rw [hcs]; exact Nat.mul_le_mul_right _ hnc
      have hvl : rx.cells.toList.length = sz := by simp; omega
      generalize hoff : i.toNat * inf.size = off at *
      have hst := run_storeCells_at P g (off + j) e rx.cells.toList 0 cur w hg (by simp; omega) (fun v hv => by
        obtain ⟨q, hq⟩ := List.getElem?_of_mem hv
        exact c2 q v (by simpa using hq))
      simp only [Nat.add_zero] at hst
      let cur' : Array Value := (cur.toList.take (off + j) ++ rx.cells.toList ++ cur.toList.drop (off + j + rx.cells.toList.length)).toArray
      let ys' : List Value := ys0.take (off + j) ++ (rx.cells.toList ++ ys0.drop (off + j + sz))
      have hys0 : ys0.length = xs.length * inf.size := k4.1
      have hys' : ys'.length = xs.length * inf.size := by
        simp only [ys', List.length_append, List.length_take, List.length_drop, hvl, hys0]; omega
      have hget : ∀ q, ys'[q]? = if q < off + j then ys0[q]? else if q < off + j + sz then rx.cells[q - (off + j)]? else ys0[q]? := by
        intro q
        have e1 : (ys0.take (off + j)).length = off + j := by simp [hys0]; omega
        simp only [ys', List.getElem?_append, e1, hvl]
        by_cases hq : q < off + j
        · rw [if_pos hq, if_pos hq, List.getElem?_take, if_pos hq]
        · rw [if_neg hq, if_neg hq]
          by_cases hq2 : q < off + j + sz
          · rw [if_pos (by omega), if_pos hq2]; simp
          · rw [if_neg (by omega), if_neg hq2, List.getElem?_drop, show off + j + sz + (q - (off + j) - sz) = q by omega]
      have hcur' : cur'.toList.take (xs.length * inf.size) = ys' := by
        apply List.ext_getElem?
        intro q
        rw [hget, List.getElem?_take]
        have hy0 : ∀ q, q < xs.length * inf.size → ys0[q]? = cur.toList[q]? := fun q hq => by rw [← htk, List.getElem?_take, if_pos hq]
        have e1 : (cur.toList.take (off + j)).length = off + j := by simp; omega
        split
        · rename_i hq
          simp only [cur', List.append_assoc, List.getElem?_append, e1, hvl]
          by_cases hq1 : q < off + j
          · rw [if_pos hq1, if_pos hq1, List.getElem?_take, if_pos hq1, hy0 q hq]
          · rw [if_neg hq1, if_neg hq1]
            by_cases hq2 : q < off + j + sz
            · rw [if_pos (by omega), if_pos hq2]; simp
            · rw [if_neg (by omega), if_neg hq2, List.getElem?_drop, show off + j + sz + (q - (off + j) - sz) = q by omega, hy0 q hq]
        · rename_i hq
          rw [if_neg (by omega), if_neg (by omega), List.getElem?_eq_none (by omega)]
      have hown' : (w.setRow g cur').ownsRow 0 e inf.size (.slice (some ⟨g, 0, none⟩) xs.length c) (xs.set i.toNat z').length ys' := by
        rw [List.length_set]
        refine ⟨hys', .inr ⟨g, c, cur', rfl, Nat.zero_le _, setRow_heap w g cur _ e _ hg, hnc, hcm, ?_, hcur'⟩⟩
        simp only [cur', List.size_toArray, List.length_append, List.length_take, List.length_drop, Array.length_toList, hvl]
        rw [← hcs]; omega
      have hone : ∀ v, v ∈ ys' → v.oneCell' = true := by
        intro v hv
        simp only [ys', List.mem_append] at hv
        rcases hv with hv | hv | hv
        · exact k5 v (List.mem_of_mem_take hv)
        · obtain ⟨q, hq⟩ := List.getElem?_of_mem hv
          exact c2 q v (by simpa using hq)
        · exact k5 v (List.mem_of_mem_drop hv)
      have hz'l : z'.cells.length = inf.size := by
        rw [p1]; simp only [List.length_append, List.length_take, List.length_drop, q1, hxl, hzl]; omega
      have hsn : ∀ q, q ∈ xs.set i.toNat z' → q.cells.length = inf.size ∧ q.sane = true := by
        intro q hq
        rcases List.mem_or_eq_of_mem_set hq with hq | rfl
        · exact k6 q hq
        · exact ⟨hz'l, p2⟩
      have hrel' : ∀ (q : Nat) (d : GV) (jj : Nat) (cc : GV), (xs.set i.toNat z')[q]? = some d → d.cells[jj]? = some cc → ∃ y, ys'[q * inf.size + jj]? = some y ∧ VR w I (fun _ => none) cc y := by
        intro q d jj cc hd hcc
        rw [List.getElem?_set] at hd
        have hjjl := (List.getElem?_eq_some_iff.1 hcc).1
        by_cases hq : i.toNat = q
        · subst hq
          rw [if_pos rfl, if_pos hlt] at hd
          cases hd
          rw [hz'l] at hjjl
          rw [hget, hoff]
          rw [p1, List.getElem?_append] at hcc
          have e1 : (z.cells.take j).length = j := by simp [hzl]; omega
          rw [e1] at hcc
          by_cases hq1 : jj < j
          · rw [if_pos hq1, List.getElem?_take, if_pos hq1] at hcc
            rw [if_pos (by omega)]
            exact hrel jj cc hcc
          · rw [if_neg hq1, List.getElem?_append, q1, hxl] at hcc
            rw [if_neg (by omega)]
            by_cases hq2 : jj - j < sz
            · rw [if_pos hq2] at hcc
              rw [if_pos (by omega), show off + jj - (off + j) = jj - j by omega]
              have hin : jj - j < rx.cells.size := by omega
              exact ⟨rx.cells[jj - j], by simp [hin], q3 _ _ _ hcc (by simp [hin])⟩
            · rw [if_neg hq2, List.getElem?_drop, show j + sz + (jj - j - sz) = jj by omega] at hcc
              rw [if_neg (by omega)]
              exact hrel jj cc hcc
        · rw [if_neg hq] at hd
          have hql := (List.getElem?_eq_some_iff.1 hd).1
          rw [(k6 d (List.mem_of_getElem? hd)).1] at hjjl
          have hout : q * inf.size + jj < off ∨ off + inf.size ≤ q * inf.size + jj := by
            rcases Nat.lt_or_gt_of_ne hq with hlt' | hgt
            · right
              have := Nat.mul_le_mul_right inf.size (show i.toNat + 1 ≤ q from hlt')
              rw [Nat.add_mul, Nat.one_mul, hoff] at this
              omega
            · left
              have := Nat.mul_le_mul_right inf.size (show q + 1 ≤ i.toNat from hgt)
              rw [Nat.add_mul, Nat.one_mul, hoff] at this
              omega
          rw [hget]
          have hk7 := k7 q d jj cc hd hcc
          rcases hout with ho | ho
          · rw [if_pos (by omega)]; exact hk7
          · rw [if_neg (by omega), if_neg (by omega)]; exact hk7
      obtain ⟨g1, g2⟩ := hr.setMv (k := k) (v' := v) (u' := .slice (some ⟨g, 0, none⟩) xs.length c) (w' := w.setRow g cur') k2 hown' hone hsn hrel' rfl rfl rfl (by simp [World.setRow])
        (.inr ⟨_, v, xs, hk, hT, Nat.le_refl _, fun _ => rfl, .inr ⟨rfl, fun b hb hne => setRow_other w g b _ fun e => hne (by rw [e]; rfl)⟩⟩)
      refine ⟨undef, _, _, _, .inr ⟨?_, rfl⟩, g1, .dead _, g2⟩
      have hc1 : rx.cells.size = sz := by omega
      have hst2 : (storeCells ⟨g, off + j, none⟩ rx.cells.toList).run P w = .ok () (w.setRow g cur') := hst
      clear_value cur'
      simp [Instr.storeAt, Instr.sureAddr, storeVar, tSize_run hsz, hc1, hst2]

theorem storeO_ok {forb : List Nat} {t : TypeId} {a x y : GV} {u : Option (Nat × GB)} {ra rx : Value} (hr : HR P w I T hp) (ha : VR w I T a ra) (hx : VR w I T x rx) (h : (storeO P forb hp t a x).eff y u) :
    Does P w I T hp ((do Instr.storeAt t ra rx; pure Next.skip : Sem Next).run P w) y u := by
  unfold storeO at h
  split at h
  · exact storeM_ok hr ha hx h
  · exact storeC_ok hr ha hx h

/-- Parts in order fill a row of their number's length. -/
theorem inOrder_ok {sz : Nat} : ∀ {ps : List (Nat × GV)} {n : Nat} {xs : List GV} {row : Array Value} {rps : List (Nat × Value)},
    rps.length = ps.length → (∀ (i : Nat) (p : Nat × GV) (q : Nat × Value), ps[i]? = some p → rps[i]? = some q → q.1 = p.1 ∧ VR w I T p.2 q.2) →
    inOrder sz n ps = some xs → (n + xs.length) * sz ≤ row.size →
    ∃ row' : Array Value, Instr.fill (fun i => some (i * sz, sz)) row rps = some row' ∧ row'.size = row.size ∧ (∀ j, j < n * sz → row'[j]? = row[j]?) ∧ (∀ j, (n + xs.length) * sz ≤ j → row'[j]? = row[j]?) ∧
      (∀ x, x ∈ xs → x.cells.length = sz ∧ x.sane = true) ∧
      (∀ (i : Nat) (x : GV) (j : Nat) (c : GV), xs[i]? = some x → x.cells[j]? = some c → ∃ u, row'[(n + i) * sz + j]? = some u ∧ u.oneCell' = true ∧ VR w I (fun _ => none) c u) := by
  intro ps
  induction ps with
  | nil =>
    intro n xs row rps hl hp h hle
    cases rps with
    | nil => cases h; exact ⟨row, rfl, rfl, fun _ _ => rfl, fun _ _ => rfl, fun x hx => (by cases hx), fun i x j c hx => (by simp at hx)⟩
    | cons q qs => simp at hl
  | cons p ps ih =>
    intro n xs row rps hl hp h hle
    cases rps with
    | nil => simp at hl
    | cons q qs =>
      obtain ⟨i, x⟩ := p
      obtain ⟨i', rx⟩ := q
      obtain ⟨rfl, hx⟩ := hp 0 _ _ rfl rfl
      simp only at hx
      simp only [inOrder] at h
      cases hb : (Nat.beq i' n && (x.sane && Nat.beq x.cells.length sz)) with
      | false => rw [hb] at h; cases h
      | true =>
        rw [hb] at h
        simp only [cond_true] at h
        split at h
        rotate_left
        · cases h
        rename_i x' ys hx' hys
        cases h
        simp only [Bool.and_eq_true] at hb
        obtain ⟨hb1, hs, hb2⟩ := hb
        have hin := Nat.eq_of_beq_eq_true hb1
        subst hin
        have hxl := Nat.eq_of_beq_eq_true hb2
        obtain ⟨c1, c2, c3⟩ := hx.cells hs
        obtain ⟨q1, q2, q3⟩ := stripE_ok hx' hs
        simp only [List.length_cons] at hle
        have hle' : i' * sz + sz ≤ row.size := by
          calc i' * sz + sz = (i' + 1) * sz := by rw [Nat.add_mul, Nat.one_mul]
            _ ≤ (i' + (ys.length + 1)) * sz := Nat.mul_le_mul_right _ (by omega)
            _ ≤ row.size := hle
        have hvl : rx.cells.toList.length = sz := by simp; omega
        let row1 : Array Value := (row.toList.take (i' * sz) ++ rx.cells.toList ++ row.toList.drop (i' * sz + rx.cells.toList.length)).toArray
        have hsz1 : row1.size = row.size := by
          show (row.toList.take (i' * sz) ++ rx.cells.toList ++ row.toList.drop (i' * sz + rx.cells.toList.length)).toArray.size = _
          simp; omega
        have get : ∀ j, row1[j]? = if j < i' * sz then row[j]? else if j < i' * sz + sz then rx.cells[j - i' * sz]? else row[j]? := by
          intro j
          have e1 : (row.toList.take (i' * sz)).length = i' * sz := by simp; omega
          show (row.toList.take (i' * sz) ++ rx.cells.toList ++ row.toList.drop (i' * sz + rx.cells.toList.length)).toArray[j]? = _
          rw [List.getElem?_toArray, List.append_assoc, List.getElem?_append, e1]
          by_cases hj : j < i' * sz
          · rw [if_pos hj, if_pos hj, List.getElem?_take, if_pos hj]; simp
          · rw [if_neg hj, if_neg hj, List.getElem?_append, hvl]
            by_cases hj2 : j < i' * sz + sz
            · rw [if_pos (by omega), if_pos hj2]; simp
            · rw [if_neg (by omega), if_neg hj2, List.getElem?_drop]
              rw [show i' * sz + sz + (j - i' * sz - sz) = j by omega]; simp
        obtain ⟨row', e1, e2, e3, e3', e4, e5⟩ := ih (n := i' + 1) (row := row1) (by simpa using hl) (fun j p q hj hq => hp (j + 1) p q (by simpa using hj) (by simpa using hq)) hys (by
          rw [hsz1]; rw [show i' + 1 + ys.length = i' + (ys.length + 1) by omega]; exact hle)
        have hmul : (i' + 1) * sz = i' * sz + sz := by rw [Nat.add_mul, Nat.one_mul]
        refine ⟨row', ?_, by rw [e2, hsz1], fun j hj => ?_, fun j hj => ?_, fun y hy => ?_, fun k y j c hy hc => ?_⟩
        · simp only [Instr.fill]
          rw [if_neg (by simp; omega)]
          have := foldl_splice rx.cells.toList (i' * sz) row (by simp; omega)
          simp only [Array.toArray_toList] at this
          rw [this]; exact e1
        · rw [e3 j (by omega), get, if_pos hj]
        · simp only [List.length_cons] at hj
          rw [e3' j (by rw [show i' + 1 + ys.length = i' + (ys.length + 1) by omega]; exact hj), get, if_neg, if_neg]
          · have : (i' + 1) * sz ≤ (i' + (ys.length + 1)) * sz := Nat.mul_le_mul_right _ (by omega)
            omega
          · have : (i' + 1) * sz ≤ (i' + (ys.length + 1)) * sz := Nat.mul_le_mul_right _ (by omega)
            omega
        · rcases List.mem_cons.1 hy with rfl | hy
          · exact ⟨by rw [q1]; exact hxl, q2⟩
          · exact e4 y hy
        · cases k with
          | zero =>
            simp at hy; subst hy
            obtain ⟨c0, hc0, hc1⟩ := q3 j c hc
            have hjl := (List.getElem?_eq_some_iff.1 hc0).1
            have hj : j < rx.cells.size := by omega
            refine ⟨rx.cells[j], ?_, c2 j _ (by simp [hj]), stripC_ok (c3 j c0 _ hc0 (by simp [hj])) hc1⟩
            rw [Nat.add_zero, e3 _ (by omega), get, if_neg (by omega), if_pos (by omega)]
            rw [show i' * sz + j - i' * sz = j by omega]; simp [hj]
          | succ k =>
            obtain ⟨u, h1, h2⟩ := e5 k y j c (by simpa using hy) hc
            exact ⟨u, by rw [show i' + (k + 1) = i' + 1 + k by omega]; exact h1, h2⟩

end
end Go.Gh
