/- Contracts of functions, bundle W5; proved for whatever the arguments' types allow, as each theorem says. -/
import Derived.Test.YtncklikpkliilaaW3
import Derived.Test.YtncklikpkliilaaF0

/- Chapter 16: a timeline up to a minute; what is found in it.  -/
set_option linter.unusedVariables false
set_option linter.unusedSimpArgs false
namespace Go.Hl
open Go.Gh Go.Proofs

def cutR (m : Int) (r : Rec) : Rec := ⟨r.Kind, r.From, if m < r.To then m else r.To⟩
def uptoL (m : Int) : List Rec → List Rec
  | [] => []
  | r :: l => if r.From < m then cutR m r :: uptoL m l else uptoL m l
theorem uptoL_le (m : Int) : ∀ l : List Rec, (uptoL m l).length ≤ l.length
  | [] => Nat.le_refl _
  | r :: l => by have := uptoL_le m l; rw [uptoL]; split <;> simp <;> omega
theorem up_yes {m : Int} {l out R : List Rec} {i : Nat} {x : Rec} (hx : l[i]? = some x) (hr : out ++ uptoL m (l.drop i) = R) (h : x.From < m) : (out ++ [cutR m x]) ++ uptoL m (l.drop (i + 1)) = R := by
  rw [drop_of_get hx, uptoL, if_pos h] at hr; rw [← hr]; simp
theorem up_no {m : Int} {l out R : List Rec} {i : Nat} {x : Rec} (hx : l[i]? = some x) (hr : out ++ uptoL m (l.drop i) = R) (h : ¬ x.From < m) : out ++ uptoL m (l.drop (i + 1)) = R := by
  rw [drop_of_get hx, uptoL, if_neg h] at hr; exact hr
theorem up_end {m : Int} {l out R : List Rec} {i : Nat} (hi : ¬ (i : Int) < l.length) (hr : out ++ uptoL m (l.drop i) = R) : out = R := by
  rw [List.drop_eq_nil_of_le (by omega), uptoL, List.append_nil] at hr; exact hr
theorem cutR_yes {m : Int} {x : Rec} (h : m < x.To) : (Rec.mk x.Kind x.From m) = cutR m x := by unfold cutR; rw [if_pos h]
theorem cutR_no {m : Int} {x : Rec} (h : ¬ m < x.To) : x = cutR m x := by unfold cutR; rw [if_neg h]
theorem recs_push (out : List Rec) (r : Rec) : recs out ++ [.agg [gi r.Kind, gi r.From, gi r.To]] = recs (out ++ [r]) ∧ (recs out).length + [GV.agg [gi r.Kind, gi r.From, gi r.To]].length = (out ++ [r]).length :=
  ⟨by simp [recs, Rec.g, Rec.c], by simp [recs]⟩

def pl_W5_1 : Nat → Option (List Nat × List Nat) := (fun k => bif Nat.beq k 3 then some ([1000003, 1, 5, 8, 9, 10, 5000005, 6000004], [105, 127]) else bif Nat.beq k 5000005 then some ([], []) else bif Nat.beq k 6000004 then some ([], []) else none)
set_option maxRecDepth 100000 in
set_option maxHeartbeats 1000000 in
theorem upto_ok (l : List Rec) (m : Int) (hl : (l.length : Int) ≤ 1000000) : ICalls Try.prog 51 [.list 3 (recs l) none, gi m] [] (Done (.list 3 (recs (uptoL m l)) none) []) := by
  generalize hR : uptoL m l = R
  have hle := uptoL_le m l
  rw [hR] at hle
  refine ICalls.of_body Try.func51 rfl Try.call51 rfl (Nat.le_of_ble_eq_true rfl) pl_W5_1 rfl ?_
  repeat' ((conv => whnf); first
    | refine Br.yes rfl ?_
    | refine Br.no rfl ?_
    | (refine Elem.mapN (by omega) (fun x hx => ?_))
    | (refine Need.mk (app_needM rfl (Nat.le_of_ble_eq_true rfl) (by simp only [recs, List.length_map, List.length_cons, List.length_nil]; omega)) ?_)
    | (refine ILoop.ov 1000003 (fun ((i, out, g, k, v) : Nat × List Rec × List GV × Nat × Nat) => [(10, gi i), (5, .ms 3 105 v k)]) (fun ((i, out, g, k, v) : Nat × List Rec × List GV × Nat × Nat) => [(105, .mvec 78 3 g v)]) (fun ((i, out, g, k, v) : Nat × List Rec × List GV × Nat × Nat) => i ≤ l.length ∧ (g = recs out ∧ k = out.length) ∧ out ++ uptoL m (l.drop i) = R) (fun ((i, out, g, k, v) : Nat × List Rec × List GV × Nat × Nat) => l.length - i) ((0, [], [], 0, 0)) (by exact rfl) ?_; (conv => whnf); refine Start.mk rfl ?_ ?_; (try dsimp only); rotate_left; rintro ⟨i, out, g, k, v⟩ ⟨hi, ⟨rfl, rfl⟩, hr⟩; (have hol : out.length ≤ R.length := (by rw [← hr, List.length_append]; omega)))
    | (refine Again.mk ⟨((i + 1, out ++ [cutR m x], recs out ++ [_], _, _)), rfl, ?_, ?_⟩ <;> try dsimp only)
    | (refine Again.mk ⟨((i + 1, out, recs out, _, _)), rfl, ?_, ?_⟩ <;> try dsimp only)
    | refine Br.yes (beq_self_eq_true _) ?_
    | refine Br.not ?_
    | refine Br.yes (decide_eq_true (by assumption)) ?_
    | refine Br.no (decide_eq_false (by assumption)) ?_
    | refine Br.yes (beq_iff_eq.2 (by assumption)) ?_
    | refine Br.no (beq_eq_false_iff_ne.2 (by assumption)) ?_
    | refine Br.yes (bne_iff_ne.2 (by assumption)) ?_
    | (refine Br.dec (fun h => ?_) (fun h => ?_) <;> try dsimp only at h)
    | (refine Br.beqI (fun h => ?_) (fun h => ?_) <;> try dsimp only at h)
    | (refine Br.bneI (fun h => ?_) (fun h => ?_) <;> try dsimp only at h)
    | refine Br.mk (fun h => ?_) (fun h => ?_)
    | refine Need.mk (app_need (by first | (simp only [List.length_append, List.length_map, List.length_nil, List.length_cons, List.nil_append, Nat.zero_add, Nat.add_zero]; done) | (simp only [List.length_append, List.length_map, List.length_nil, List.length_cons, List.nil_append, Nat.zero_add, Nat.add_zero]; omega) | omega) (Nat.le_of_ble_eq_true rfl) (by first | (simp only [List.length_append, List.length_map, List.length_nil, List.length_cons, List.nil_append, Nat.zero_add, Nat.add_zero]; done) | (simp only [List.length_append, List.length_map, List.length_nil, List.length_cons, List.nil_append, Nat.zero_add, Nat.add_zero]; omega) | omega)) ?_
    | refine Need.mk (app_need0 (Nat.le_of_ble_eq_true rfl) (by first | (simp only [List.length_append, List.length_map, List.length_nil, List.length_cons, List.nil_append, Nat.zero_add, Nat.add_zero]; done) | (simp only [List.length_append, List.length_map, List.length_nil, List.length_cons, List.nil_append, Nat.zero_add, Nat.add_zero]; omega) | omega)) ?_
    | refine Need.mk (app_needM rfl (Nat.le_of_ble_eq_true rfl) (by first | (simp only [List.length_append, List.length_map, List.length_nil, List.length_cons, List.nil_append, Nat.zero_add, Nat.add_zero]; done) | (simp only [List.length_append, List.length_map, List.length_nil, List.length_cons, List.nil_append, Nat.zero_add, Nat.add_zero]; omega) | omega)) ?_
    | refine Need.mk (zeros_need (by omega) (Nat.le_of_ble_eq_true rfl) (by omega)) ?_
    | refine Need.mk (by first | kernel_rfl | exact ⟨of_decide_eq_true rfl, of_decide_eq_true rfl⟩ | omega) ?_
    | refine Len.mk ⟨_, by simp only [List.length_cons, List.length_nil, Nat.reduceAdd, Int.cast_ofNat_Int]; rfl, ?_⟩
    | refine Wr.lit _ (by simp only [Int.reduceAdd, Int.reduceSub, Int.reduceMul]; rfl) (by decide) ?_
    | refine Wr.fit (by omega) ?_
    | refine Wr.fit (by dsimp only; omega) ?_
    | refine Elem.mk ⟨_, ⟨of_decide_eq_true rfl, rfl⟩, ?_⟩
    | refine Len.map ?_
    | refine Len.dropM ?_
    | refine Elem.dropM ?_
    | refine Len.takeM ?_
    | refine Elem.takeM ?_
    | refine Elem.mapK (by assumption) ?_
    | refine Elem.mapI (by omega) (by assumption) ?_
    | refine Elem.mapN (by omega) (fun x hx => ?_)
    | refine Elem.map (by omega) (by omega) (fun x hx => ?_)
    | refine Done.mk ⟨rfl, rfl⟩
    | refine Done.mk ⟨congrArg gb ?_, rfl⟩
    | refine Done.mk ⟨?_, rfl⟩
    | refine Done.mk ⟨?_, ?_⟩)
  · refine ⟨by omega, ?_, ?_⟩
    · rw [← cutR_yes (by assumption)]; exact recs_push out ⟨x.Kind, x.From, m⟩
    · exact up_yes hx hr (by assumption)
  · omega
  · refine ⟨by omega, ?_, ?_⟩
    · have hc : x = cutR m x := cutR_no (by assumption)
      rw [← hc]; exact recs_push out x
    · exact up_yes hx hr (by assumption)
  · omega
  · exact ⟨by omega, ⟨rfl, rfl⟩, up_no hx hr (by assumption)⟩
  · omega
  · exact congrArg (fun q => GV.list 3 (recs q) none) (up_end (by assumption) hr)
  all_goals (first | exact ⟨Nat.zero_le _, ⟨rfl, rfl⟩, hR⟩ | omega)

end Go.Hl

/- Chapter 16: what is found stands where it points.  -/
set_option linter.unusedVariables false
set_option linter.unusedSimpArgs false
namespace Go.Hl
open Go.Gh Go.Proofs

theorem since_range {b : Book} {m : Meter} {rest c a : Int} (hm : m.May) (hr : 0 ≤ rest ∧ rest ≤ m.Now) (ha : m.Now ≤ a) (hL : 0 < b.Length) : 0 ≤ sinceV b m rest c a ∧ sinceV b m rest c a ≤ a := by
  have h1 := hm.dawn
  have h2 := hm.sabbath
  have h4 := hm.now
  have h3 := tmod_fit (a := a) (by omega) hL
  unfold sinceV
  repeat' split
  all_goals omega
theorem fi_range {b : Book} {k : Int} {m : Meter} (hm : m.May) {d : Nat} (hd : d < 10) : ∀ n : Nat, m.Now + (n : Int) ≤ 40320 → 0 ≤ (fiN b k n m F10.none).at d → m.Now ≤ (fiN b k n m F10.none).at d ∧ (fiN b k n m F10.none).at d < m.Now + n
  | 0, _, h => by rw [fiN, at16_none] at h; omega
  | n + 1, hN, h => by
    have ih := fi_range (b := b) (k := k) hm hd n (by omega)
    have h1 := stN_May (b := b) (k := k) hm n (by omega)
    rw [fiN, at16_mark _ _ _ d hd] at h ⊢
    revert h
    unfold markI
    split
    · intro h; omega
    · intro h; have := ih h; omega
theorem fi_trunc {b : Book} {k : Int} {m : Meter} (hm : m.May) {d : Nat} (hd : d < 10) (n : Nat) : ∀ c : Nat, m.Now + ((n + c : Nat) : Int) ≤ 40320 →
    ((0 ≤ (fiN b k n m F10.none).at d ↔ 0 ≤ (fiN b k (n + c) m F10.none).at d ∧ (fiN b k (n + c) m F10.none).at d < m.Now + n) ∧ (0 ≤ (fiN b k n m F10.none).at d → (fiN b k n m F10.none).at d = (fiN b k (n + c) m F10.none).at d))
  | 0, hN => by
    have := fi_range (b := b) (k := k) hm hd n (by omega)
    exact ⟨⟨fun h => ⟨h, (this h).2⟩, fun h => h.1⟩, fun _ => rfl⟩
  | c + 1, hN => by
    have ih := fi_trunc (b := b) (k := k) hm hd n c (by omega)
    have h1 := stN_May (b := b) (k := k) hm (n + c) (by omega)
    have e : (fiN b k (n + (c + 1)) m F10.none).at d = markI ((stepN b (stN b k (n + c) m) k).testBit d) (stN b k (n + c) m).Now ((fiN b k (n + c) m F10.none).at d) := by
      show (fiN b k (n + c + 1) m F10.none).at d = _
      rw [fiN, at16_mark _ _ _ d hd]
    rw [e]
    have hn := hm.now
    unfold markI
    generalize (fiN b k n m F10.none).at d = f at *
    generalize (fiN b k (n + c) m F10.none).at d = g at *
    split
    · rename_i hq
      obtain ⟨i1, i2⟩ := ih
      refine ⟨⟨fun h => ?_, fun h => ?_⟩, fun h => ?_⟩
      · have := i1.1 h; omega
      · omega
      · have := i1.1 h; omega
    · exact ih

theorem nt_mem {b : Book} {m : Meter} {rest : Int} {F : F10} {x : NS} {f : Fnd} : ∀ c : Nat, f ∈ (ntTo b m rest F c x).out ↔ f ∈ x.out ∨ ∃ d : Nat, d < c ∧ 0 ≤ F.at d ∧ x.s.testBit d = false ∧ f = ⟨d, sinceV b m rest d (F.at d), F.at d + 1⟩
  | 0 => by
    constructor
    · exact fun h => .inl h
    · rintro (h | ⟨d, h, _⟩)
      · exact h
      · omega
  | c + 1 => by
    have ih := @nt_mem b m rest F x f c
    have hb := @ntTo_bits b m rest F x c c
    rw [ntTo]
    unfold ntC
    split
    · rename_i h
      simp only
      unfold nO
      split
      · rename_i ht
        rw [ih]
        constructor
        · rintro (e | ⟨d, e1, e2⟩)
          · exact .inl e
          · exact .inr ⟨d, by omega, e2⟩
        · rintro (e | ⟨d, e1, e2⟩)
          · exact .inl e
          · by_cases hd : d = c
            · subst hd
              have := hb.1 ht
              rcases this with h1 | h1
              · rw [e2.2.1] at h1; cases h1
              · omega
            · exact .inr ⟨d, by omega, e2⟩
      · rename_i ht
        rw [List.mem_append, ih, List.mem_singleton]
        have hx : x.s.testBit c = false := by
          cases hx : x.s.testBit c with
          | false => rfl
          | true => exact absurd (hb.2 (.inl hx)) ht
        constructor
        · rintro ((e | ⟨d, e1, e2⟩) | e)
          · exact .inl e
          · exact .inr ⟨d, by omega, e2⟩
          · exact .inr ⟨c, by omega, h, hx, e⟩
        · rintro (e | ⟨d, e1, e2⟩)
          · exact .inl (.inl e)
          · by_cases hd : d = c
            · subst hd; exact .inr e2.2.2
            · exact .inl (.inr ⟨d, by omega, e2⟩)
    · rename_i h
      rw [ih]
      constructor
      · rintro (e | ⟨d, e1, e2⟩)
        · exact .inl e
        · exact .inr ⟨d, by omega, e2⟩
      · rintro (e | ⟨d, e1, e2⟩)
        · exact .inl e
        · by_cases hd : d = c
          · subst hd; exact absurd e2.1 h
          · exact .inr ⟨d, by omega, e2⟩

structure WOk (w : SW) : Prop where
  may : w.m.May
  rest : 0 ≤ w.rest ∧ w.rest ≤ w.m.Now
  out : ∀ f, f ∈ w.x.out → (0 ≤ f.From ∧ f.From < f.To) ∧ f.To ≤ w.m.Now
theorem WOk.start : WOk SW.start := ⟨zero_May, by decide, fun f h => by cases h⟩
theorem bS_mem {b : Book} {w : SW} {k n : Int} {f : Fnd} : f ∈ (bS b k n w).x.out ↔ f ∈ w.x.out ∨ ∃ d : Nat, d < 10 ∧ 0 ≤ (fiN b k n.toNat w.m F10.none).at d ∧ w.x.s.testBit d = false ∧ f = ⟨d, sinceV b w.m w.rest d ((fiN b k n.toNat w.m F10.none).at d), (fiN b k n.toNat w.m F10.none).at d + 1⟩ := nt_mem 10
theorem bS_old {b : Book} {w : SW} {k n : Int} {f : Fnd} (h : f ∈ w.x.out) : f ∈ (bS b k n w).x.out := bS_mem.2 (.inl h)
theorem bS_new {b : Book} {w : SW} {k n : Int} {f : Fnd} (hw : WOk w) (hL : 0 < b.Length) (hn : 0 ≤ n) (hN : w.m.Now + n ≤ 40320) (h : f ∈ (bS b k n w).x.out) : f ∈ w.x.out ∨ ((0 ≤ f.From ∧ f.From < f.To) ∧ w.m.Now < f.To ∧ f.To ≤ w.m.Now + n) := by
  rcases bS_mem.1 h with h | ⟨d, h1, h2, _, rfl⟩
  · exact .inl h
  · right
    have h3 := fi_range (b := b) (k := k) hw.may h1 n.toNat (by omega) h2
    have h4 := since_range (b := b) (c := d) hw.may hw.rest h3.1 hL
    exact ⟨⟨h4.1, by simp only; omega⟩, by simp only; omega, by simp only; omega⟩
theorem WOk.block {b : Book} {w : SW} {k n : Int} (h : WOk w) (hL : 0 < b.Length) (hn : 0 ≤ n) (hN : w.m.Now + n ≤ 40320) : WOk (bS b k n w) ∧ (bS b k n w).m.Now = w.m.Now + n := by
  have h1 := stN_May (b := b) (k := k) h.may n.toNat (by omega)
  have e : ((n.toNat : Nat) : Int) = n := by omega
  rw [e] at h1
  have e2 : (bS b k n w).m.Now = w.m.Now + n := h1.2
  refine ⟨⟨h1.1, ?_, fun f hf => ?_⟩, e2⟩
  · show 0 ≤ restOf b w.m w.rest k ∧ restOf b w.m w.rest k ≤ _
    rw [e2]
    have := h.rest
    have := h.may.now
    unfold restOf; split <;> omega
  · rw [e2]
    rcases bS_new h hL hn hN hf with g | g
    · have := h.out f g; exact ⟨this.1, by omega⟩
    · exact ⟨g.1, g.2.2⟩
theorem block_trunc {b : Book} {w : SW} {k n c : Int} {f : Fnd} (hw : WOk w) (hL : 0 < b.Length) (hn : 0 ≤ n) (hc : 0 ≤ c) (hN : w.m.Now + (n + c) ≤ 40320) : f ∈ (bS b k n w).x.out ↔ f ∈ (bS b k (n + c) w).x.out ∧ f.To ≤ w.m.Now + n := by
  rw [bS_mem, bS_mem, show (n + c).toNat = n.toNat + c.toNat by omega]
  constructor
  · rintro (h | ⟨d, h1, h2, h3, rfl⟩)
    · have := hw.out f h; exact ⟨.inl h, by omega⟩
    · have ht := fi_trunc (b := b) (k := k) hw.may h1 n.toNat c.toNat (by omega)
      have h4 := ht.1.1 h2
      have h5 := ht.2 h2
      exact ⟨.inr ⟨d, h1, h4.1, h3, by rw [h5]⟩, by simp only; omega⟩
  · rintro ⟨h | ⟨d, h1, h2, h3, rfl⟩, hle⟩
    · exact .inl h
    · have ht := fi_trunc (b := b) (k := k) hw.may h1 n.toNat c.toNat (by omega)
      simp only at hle
      have h4 := ht.1.2 ⟨h2, by omega⟩
      have h5 := ht.2 h4
      exact .inr ⟨d, h1, h4, h3, by rw [h5]⟩

theorem WOk.swept {b : Book} {w : SW} {r : Rec} (h : WOk w) (hL : 0 < b.Length) (hr : recErr r = 0) (hN : r.From = w.m.Now) : WOk (sweptS b r w) ∧ (sweptS b r w).m.Now = r.To := by
  have h1 := recErr_inv hr
  unfold sweptS
  split
  · rename_i hc
    obtain ⟨a1, a2⟩ := h.block (b := b) (k := r.Kind) (n := 1) hL (by omega) (by omega)
    obtain ⟨c1, c2⟩ := a1.block (b := b) (k := r.Kind) (n := r.To - r.From - 1) hL (by omega) (by omega)
    exact ⟨c1, by omega⟩
  · obtain ⟨a1, a2⟩ := h.block (b := b) (k := r.Kind) (n := r.To - r.From) hL (by omega) (by omega)
    exact ⟨a1, by omega⟩
theorem swept_old {b : Book} {w : SW} {r : Rec} {f : Fnd} (h : f ∈ w.x.out) : f ∈ (sweptS b r w).x.out := by
  unfold sweptS
  split
  · exact bS_old (bS_old h)
  · exact bS_old h
theorem swept_new {b : Book} {w : SW} {r : Rec} {f : Fnd} (hw : WOk w) (hL : 0 < b.Length) (hr : recErr r = 0) (hN : r.From = w.m.Now) (h : f ∈ (sweptS b r w).x.out) : f ∈ w.x.out ∨ w.m.Now < f.To := by
  have h1 := recErr_inv hr
  unfold sweptS at h
  split at h
  · rename_i hc
    obtain ⟨a1, a2⟩ := hw.block (b := b) (k := r.Kind) (n := 1) hL (by omega) (by omega)
    rcases bS_new a1 hL (by omega) (by omega) h with g | g
    · rcases bS_new hw hL (by omega) (by omega) g with g | g
      · exact .inl g
      · exact .inr g.2.1
    · exact .inr (by omega)
  · rcases bS_new hw hL (by omega) (by omega) h with g | g
    · exact .inl g
    · exact .inr g.2.1
theorem swept_trunc {b : Book} {w : SW} {r : Rec} {m : Int} {f : Fnd} (hw : WOk w) (hL : 0 < b.Length) (hr : recErr r = 0) (hN : r.From = w.m.Now) (h1 : r.From < m) (h2 : m < r.To) : f ∈ (sweptS b ⟨r.Kind, r.From, m⟩ w).x.out ↔ f ∈ (sweptS b r w).x.out ∧ f.To ≤ m := by
  have hi := recErr_inv hr
  unfold sweptS
  simp only
  by_cases hc : r.Kind ≠ 0 ∧ 0 < w.m.Lie ∧ 1 < r.To - r.From
  · rw [if_pos hc]
    obtain ⟨a1, a2⟩ := hw.block (b := b) (k := r.Kind) (n := 1) hL (by omega) (by omega)
    by_cases h3 : 1 < m - r.From
    · rw [if_pos ⟨hc.1, hc.2.1, h3⟩, block_trunc (c := r.To - m) a1 hL (by omega) (by omega) (by omega), show m - r.From - 1 + (r.To - m) = r.To - r.From - 1 by omega, a2, show w.m.Now + 1 + (m - r.From - 1) = m by omega]
    · rw [if_neg (fun h => h3 h.2.2), show m - r.From = 1 by omega]
      constructor
      · intro h
        have := a1.out f h
        exact ⟨bS_old h, by omega⟩
      · rintro ⟨h, hle⟩
        rcases bS_new a1 hL (by omega) (by omega) h with g | g
        · exact g
        · omega
  · rw [if_neg hc, if_neg (fun h => hc ⟨h.1, h.2.1, by omega⟩), block_trunc (c := r.To - m) hw hL (by omega) (by omega) (by omega), show m - r.From + (r.To - m) = r.To - r.From by omega, show w.m.Now + (m - r.From) = m by omega]

theorem swAll_old {b : Book} {f : Fnd} : ∀ {l : List Rec} {w : SW}, f ∈ w.x.out → f ∈ (swAll b l w).x.out
  | [], _, h => h
  | r :: l, w, h => swAll_old (l := l) (swept_old h)
theorem swAll_new {b : Book} {f : Fnd} (hL : 0 < b.Length) : ∀ {l : List Rec} {w : SW}, WOk w → Chain w.m.Now l → f ∈ (swAll b l w).x.out → f ∈ w.x.out ∨ w.m.Now < f.To
  | [], _, _, _, h => .inl h
  | r :: l, w, hw, ⟨c1, c2, c3⟩, h => by
    have hs := hw.swept (b := b) hL c2 c1
    have hi := recErr_inv c2
    rcases swAll_new hL (l := l) hs.1 (by rw [hs.2]; exact c3) h with g | g
    · exact swept_new hw hL c2 c1 g
    · exact .inr (by omega)
theorem uptoL_nil {m : Int} : ∀ {l : List Rec} {a : Int}, Chain a l → m ≤ a → uptoL m l = []
  | [], _, _, _ => rfl
  | r :: l, a, ⟨c1, c2, c3⟩, h => by
    have hi := recErr_inv c2
    rw [uptoL, if_neg (by omega)]
    exact uptoL_nil c3 (by omega)
theorem swAll_trunc {b : Book} {f : Fnd} (hL : 0 < b.Length) {m : Int} : ∀ {l : List Rec} {w : SW}, WOk w → Chain w.m.Now l → w.m.Now ≤ m → (f ∈ (swAll b (uptoL m l) w).x.out ↔ f ∈ (swAll b l w).x.out ∧ f.To ≤ m)
  | [], w, hw, _, h => by
    constructor
    · intro g; have := hw.out f g; exact ⟨g, by omega⟩
    · exact fun g => g.1
  | r :: l, w, hw, hc, h => by
    have hc0 := hc
    obtain ⟨c1, c2, c3⟩ := hc
    have hs := hw.swept (b := b) hL c2 c1
    have hi := recErr_inv c2
    by_cases hm : r.From < m
    · rw [uptoL, if_pos hm]
      by_cases hq : m < r.To
      · rw [uptoL_nil c3 (by omega)]
        have e : cutR m r = ⟨r.Kind, r.From, m⟩ := by unfold cutR; rw [if_pos hq]
        rw [e]
        show f ∈ (sweptS b ⟨r.Kind, r.From, m⟩ w).x.out ↔ f ∈ (swAll b l (sweptS b r w)).x.out ∧ f.To ≤ m
        rw [swept_trunc hw hL c2 c1 hm hq]
        constructor
        · exact fun g => ⟨swAll_old g.1, g.2⟩
        · rintro ⟨g1, g2⟩
          rcases swAll_new hL hs.1 (by rw [hs.2]; exact c3) g1 with g | g
          · exact ⟨g, g2⟩
          · omega
      · rw [← cutR_no hq]
        exact swAll_trunc hL hs.1 (by rw [hs.2]; exact c3) (by omega)
    · rw [uptoL_nil hc0 (by omega)]
      constructor
      · intro g; have := hw.out f g; exact ⟨swAll_old (l := r :: l) g, by omega⟩
      · rintro ⟨g1, g2⟩
        rcases swAll_new hL (l := r :: l) hw hc0 g1 with g | g
        · exact g
        · omega
theorem swAll_ok {b : Book} (hL : 0 < b.Length) : ∀ {l : List Rec} {w : SW}, WOk w → Chain w.m.Now l → WOk (swAll b l w)
  | [], w, hw, _ => hw
  | r :: l, w, hw, ⟨c1, c2, c3⟩ => by
    have hs := hw.swept (b := b) hL c2 c1
    exact swAll_ok hL (l := l) hs.1 (by rw [hs.2]; exact c3)
theorem swAll_now {b : Book} (hL : 0 < b.Length) : ∀ {l : List Rec} {w : SW}, WOk w → Chain w.m.Now l → (swAll b l w).m.Now = (match l.getLast? with | none => w.m.Now | some r => r.To)
  | [], w, hw, _ => rfl
  | [r], w, hw, ⟨c1, c2, c3⟩ => (hw.swept (b := b) hL c2 c1).2
  | r :: q :: l, w, hw, ⟨c1, c2, c3⟩ => by
    have hs := hw.swept (b := b) hL c2 c1
    have := swAll_now hL (l := q :: l) hs.1 (by rw [hs.2]; exact c3)
    rw [List.getLast?_cons_cons]
    show (swAll b (q :: l) (sweptS b r w)).m.Now = _
    rw [this]
    cases h : (q :: l).getLast? with
    | none => simp at h
    | some x => rfl

theorem chain_upto {m : Int} : ∀ {l : List Rec} {a : Int}, Chain a l → Chain a (uptoL m l)
  | [], _, _ => trivial
  | r :: l, a, hc => by
    have hc0 := hc
    obtain ⟨c1, c2, c3⟩ := hc
    have hi := recErr_inv c2
    rw [uptoL]
    split
    · rename_i hm
      by_cases hq : m < r.To
      · rw [uptoL_nil c3 (by omega)]
        have e : cutR m r = ⟨r.Kind, r.From, m⟩ := by unfold cutR; rw [if_pos hq]
        rw [e]
        refine ⟨c1, ?_, trivial⟩
        exact recErr_0 (by simp only; omega) (by simp only; omega) (by simp only; omega) (by simp only; omega) (by simp only; omega) (by simp only; omega) (by simp only; omega)
      · rw [← cutR_no hq]
        exact ⟨c1, c2, chain_upto c3⟩
    · rename_i hm
      rw [uptoL_nil c3 (by omega)]; trivial
theorem recsErr_chain : ∀ (l : List Rec) (i : Int) (q : Rec), Chain q.To l → recsErr i (some q) l = (0, 0)
  | [], _, _, _ => rfl
  | r :: t, i, q, ⟨c1, c2, c3⟩ => by
    have hg : gapErr q r = 0 := by unfold gapErr; rw [if_neg (by omega), if_neg (by omega)]
    rw [recsErr, if_neg (by omega), if_neg (by omega)]
    exact recsErr_chain t _ r c3
theorem dutyErr_of {b : Book} {l : List Rec} (hb : b.May) (hc : Chain 0 l) : dutyErr b l = 0 := by
  unfold dutyErr
  have h1 : b.code = 0 := by unfold Book.code; rw [if_pos hb]
  rw [if_pos h1]
  cases l with
  | nil => rfl
  | cons r t =>
    obtain ⟨c1, c2, c3⟩ := hc
    have e : recsErr 0 none (r :: t) = (0, 0) := by
      rw [recsErr, if_neg (fun h => h c2), recsErr_chain t _ r c3]
    rw [e, if_pos rfl]
    simp [late0, c1]
theorem dutyErr_upto {b : Book} {l : List Rec} {m : Int} (h : dutyErr b l = 0) : dutyErr b (uptoL m l) = 0 := by
  obtain ⟨hb, _, _, hc⟩ := dutyErr_0 h
  exact dutyErr_of hb (chain_upto hc)
theorem auditF_mem {b : Book} {l : List Rec} {f : Fnd} (h : dutyErr b l = 0) : f ∈ auditF b l ↔ f ∈ (swAll b l SW.start).x.out := by
  unfold auditF; rw [if_pos h]; exact sortF_mem
/-- What is found up to a minute is what is found, up to it. -/
theorem audit_trunc {b : Book} {l : List Rec} {m : Int} {f : Fnd} (h : dutyErr b l = 0) (hm : 0 ≤ m) : f ∈ auditF b (uptoL m l) ↔ f ∈ auditF b l ∧ f.To ≤ m := by
  obtain ⟨hb, _, _, hc⟩ := dutyErr_0 h
  rw [auditF_mem h, auditF_mem (dutyErr_upto h)]
  exact swAll_trunc (may_length hb).1 .start hc hm
theorem audit_range {b : Book} {l : List Rec} {f : Fnd} (h : dutyErr b l = 0) (hf : f ∈ auditF b l) : (0 ≤ f.From ∧ f.From < f.To) ∧ f.To ≤ endOf l := by
  obtain ⟨hb, _, _, hc⟩ := dutyErr_0 h
  have hL := (may_length hb).1
  have h1 := (swAll_ok hL .start hc).out f ((auditF_mem h).1 hf)
  have h2 := swAll_now hL .start hc
  refine ⟨h1.1, ?_⟩
  rw [h2] at h1
  exact h1.2
theorem audit_lt {b : Book} {l : List Rec} : ∀ (i j : Nat), i < j → ∀ (x y : Fnd), (auditF b l)[i]? = some x → (auditF b l)[j]? = some y → x.Clause < y.Clause := by
  intro i j hij x y hx hy
  unfold auditF at hx hy
  split at hx
  case isFalse => simp at hx
  rename_i h
  rw [if_pos h] at hy
  obtain ⟨hb, _, _, hc⟩ := dutyErr_0 h
  obtain ⟨_, M, hA⟩ := run_all (b := b) l SW.start 0 .start hc
  have hpw := hA.nt.pw
  have hs : (sortF (swAll b l SW.start).x.out).Pairwise fun f g => f.Clause ≠ g.Clause := (List.mergeSort_perm _ _).pairwise_iff (fun h => Ne.symm h) |>.2 hpw
  have hle : (sortF (swAll b l SW.start).x.out).Pairwise fun f g => (!(Go.Proofs.ltOf ordF) g f) = true := by
    apply List.pairwise_mergeSort
    · intro a b c h1 h2
      have := ordF_swo.ntrans c b a
      simp only [Bool.not_eq_true'] at *
      exact this h2 h1
    · intro a b
      simp only [Bool.or_eq_true, Bool.not_eq_true']
      cases h1 : Go.Proofs.ltOf ordF b a with
      | false => exact .inl rfl
      | true =>
        right
        cases h2 : Go.Proofs.ltOf ordF a b with
        | false => rfl
        | true =>
          have := ordF_swo.trans a b a h2 h1
          rw [ordF_swo.irrefl] at this; cases this
  obtain ⟨h1, e1⟩ := List.getElem?_eq_some_iff.1 hx
  obtain ⟨h2, e2⟩ := List.getElem?_eq_some_iff.1 hy
  have k1 := List.pairwise_iff_getElem.1 hs i j h1 h2 hij
  have k2 := List.pairwise_iff_getElem.1 hle i j h1 h2 hij
  rw [e1, e2] at k1 k2
  simp only [Bool.not_eq_true'] at k2
  rw [ordF_lt] at k2
  simp only [decide_eq_false_iff_not] at k2
  omega
theorem audit_strict {b : Book} {l : List Rec} (i : Nat) (x y : Fnd) (hx : (auditF b l)[i]? = some x) (hy : (auditF b l)[i + 1]? = some y) : x.Clause < y.Clause := audit_lt i (i + 1) (by omega) x y hx hy

end Go.Hl

/- Chapter 16: the law Witness.  -/
set_option linter.unusedVariables false
set_option linter.unusedSimpArgs false
namespace Go.Hl
open Go.Gh Go.Proofs

def fndB (x y : Fnd) : Bool := (x.Clause == y.Clause) && ((x.From == y.From) && ((x.To == y.To) && true))
def inOf (f : Fnd) : List Fnd → Bool → Bool
  | [], g => g
  | y :: l, g => inOf f l (if g = true then true else fndB y f)
def outOf (c : Int) : List Fnd → Bool → Bool
  | [], g => g
  | y :: l, g => outOf c l (if g = true then true else decide (y.Clause = c))
theorem fndB_self (x : Fnd) : fndB x x = true := by unfold fndB; simp
theorem inOf_true {f : Fnd} : ∀ (l : List Fnd) (g : Bool), (g = true ∨ f ∈ l) → inOf f l g = true
  | [], g, h => by
    rcases h with h | h
    · exact h
    · cases h
  | y :: l, g, h => by
    rw [inOf]
    apply inOf_true l
    cases g with
    | true => exact .inl rfl
    | false =>
      rcases h with h | h
      · cases h
      · rcases List.mem_cons.1 h with rfl | h
        · left; exact fndB_self _
        · exact .inr h
theorem outOf_false {c : Int} : ∀ (l : List Fnd), (∀ y, y ∈ l → y.Clause ≠ c) → outOf c l false = false
  | [], _ => rfl
  | y :: l, h => by
    rw [outOf]
    have := h y (List.mem_cons_self ..)
    simp only [Bool.false_eq_true, if_false, decide_eq_false this]
    exact outOf_false l fun z hz => h z (List.mem_cons_of_mem _ hz)
theorem in_next {f x : Fnd} {l : List Fnd} {i : Nat} {g R : Bool} (hx : l[i]? = some x) (h : inOf f (l.drop i) g = R) (hg : g = true) : inOf f (l.drop (i + 1)) true = R := by
  rw [drop_of_get hx, inOf, if_pos hg] at h; exact h
theorem in_next2 {f x : Fnd} {l : List Fnd} {i : Nat} {g R : Bool} (hx : l[i]? = some x) (h : inOf f (l.drop i) g = R) (hg : g = false) : inOf f (l.drop (i + 1)) (fndB x f) = R := by
  rw [drop_of_get hx, inOf, hg] at h; exact h
theorem in_end {f : Fnd} {l : List Fnd} {i : Nat} {g R : Bool} (hi : ¬ (i : Int) < l.length) (h : inOf f (l.drop i) g = R) : g = R := by
  rw [List.drop_eq_nil_of_le (by omega), inOf] at h; exact h
theorem out_next {c : Int} {x : Fnd} {l : List Fnd} {i : Nat} {g R : Bool} (hx : l[i]? = some x) (h : outOf c (l.drop i) g = R) (hg : g = true) : outOf c (l.drop (i + 1)) true = R := by
  rw [drop_of_get hx, outOf, if_pos hg] at h; exact h
theorem out_next2 {c : Int} {x : Fnd} {l : List Fnd} {i : Nat} {g R : Bool} (hx : l[i]? = some x) (h : outOf c (l.drop i) g = R) (hg : g = false) : outOf c (l.drop (i + 1)) (decide (x.Clause = c)) = R := by
  rw [drop_of_get hx, outOf, hg] at h; exact h
theorem out_end {c : Int} {l : List Fnd} {i : Nat} {g R : Bool} (hi : ¬ (i : Int) < l.length) (h : outOf c (l.drop i) g = R) : g = R := by
  rw [List.drop_eq_nil_of_le (by omega), outOf] at h; exact h

theorem auditF_len {b : Book} {l : List Rec} (hl : (l.length : Int) ≤ 1000) : (auditF b l).length ≤ 20000 := by
  by_cases he : dutyErr b l = 0
  · obtain ⟨hb, hr, hbeg, hc⟩ := dutyErr_0 he
    have key : ∀ (l : List Rec) (w : SW) (N : Nat), AOk w N → Chain w.m.Now l → (swAll b l w).x.out.length ≤ N + 20 * l.length := by
      intro l
      induction l with
      | nil => intro w N h _; exact h.len
      | cons x l ih =>
        intro w N h hc
        obtain ⟨c1, c2, c3⟩ := hc
        have hs := h.swept (b := b) c2 c1
        have := ih (sweptS b x w) (N + 20) hs.1 (by rw [hs.2]; exact c3)
        show (swAll b l (sweptS b x w)).x.out.length ≤ _
        rw [List.length_cons]; omega
    have := key l SW.start 0 .start hc
    unfold auditF; rw [if_pos he, sortF_len]; omega
  · rw [(audit_err he).2]; simp

theorem wit_no1 {f : Fnd} {l : List Fnd} {i : Nat} {g : Bool} (hi : ¬ (i : Int) < l.length) (h : inOf f (l.drop i) g = true) (hg : g = false) : false = true := by
  rw [← in_end hi h, hg]
theorem wit_no {f : Fnd} {l k : List Fnd} {i j : Nat} {g o : Bool} (hi : ¬ (i : Int) < l.length) (h : inOf f (l.drop i) g = true) (hj : ¬ (j : Int) < k.length) (h2 : outOf f.Clause (k.drop j) o = false) (ho : (bif false then true else o) = true) : false = true := by
  rw [cond_false] at ho; rw [← ho, out_end hj h2]

/-- What the law asks of a finding. -/
structure Witn (b : Book) (l : List Rec) (X : List Fnd) (E : Int) (i : Nat) (f : Fnd) : Prop where
  r : 0 ≤ f.From ∧ f.From < f.To ∧ f.To ≤ E
  p : ∀ q, X[((i : Int) - 1).toNat]? = some q → 0 < i → q.Clause < f.Clause
  y : inOf f (auditF b (uptoL f.To l)) false = true
  z : outOf f.Clause (auditF b (uptoL (f.To - 1) l)) false = false
theorem witn {b : Book} {l : List Rec} {i : Nat} {f : Fnd} (he : dutyErr b l = 0) (hx : (auditF b l)[i]? = some f) : Witn b l (auditF b l) (endOf l) i f := by
  have hm : f ∈ auditF b l := List.mem_of_getElem? hx
  have hr := audit_range he hm
  refine ⟨⟨hr.1.1, hr.1.2, hr.2⟩, fun q hq hi => ?_, ?_, ?_⟩
  · rw [show ((i : Int) - 1).toNat = i - 1 by omega] at hq
    exact audit_strict (i - 1) q f hq (by rw [show i - 1 + 1 = i by omega]; exact hx)
  · exact inOf_true _ _ (.inr ((audit_trunc he (by omega)).2 ⟨hm, Int.le_refl _⟩))
  · refine outOf_false _ fun y hy e => ?_
    have h1 := (audit_trunc he (by omega)).1 hy
    have : y = f := by
      obtain ⟨j, hj⟩ := List.getElem?_of_mem h1.1
      rcases Nat.lt_trichotomy j i with h | h | h
      · exact absurd e (by have := audit_lt (b := b) (l := l) j i h y f hj hx; omega)
      · subst h; rw [hj] at hx; exact Option.some.inj hx
      · exact absurd e (by have := audit_lt (b := b) (l := l) i j h f y hx hj; omega)
    rw [this] at h1; omega

def pl_W7_1 : Nat → Option (List Nat × List Nat) := (fun k => bif Nat.beq k 7 then some ([1000007, 1, 2, 5, 37, 38, 39], [102]) else bif Nat.beq k 15 then some ([1000015, 1, 2, 5, 8, 10, 11, 12, 13, 14, 37, 38, 39, 95, 96, 97], [102, 108]) else bif Nat.beq k 20 then some ([1000020, 1, 2, 5, 8, 10, 12, 13, 14, 37, 38, 39, 108, 109, 110], [102, 108]) else none)
def pl_W7_2 : Nat → Option (List Nat × List Nat) := (fun k => bif Nat.beq k 7 then some ([1000007, 1, 2, 5, 37, 38, 39], [102]) else bif Nat.beq k 15 then some ([1000015, 1, 2, 5, 8, 10, 11, 12, 13, 14, 37, 38, 39, 95, 96, 97], [102, 108]) else bif Nat.beq k 20 then some ([1000020, 1, 2, 5, 8, 10, 12, 13, 14, 37, 38, 39, 108, 109, 110], [102, 108]) else none)
def pl_W7_3 : Nat → Option (List Nat × List Nat) := (fun k => bif Nat.beq k 7 then some ([1000007, 1, 2, 5, 37, 38, 39], [102]) else bif Nat.beq k 15 then some ([1000015, 1, 2, 5, 8, 10, 11, 12, 13, 14, 37, 38, 39, 95, 96, 97], [102, 108]) else bif Nat.beq k 20 then some ([1000020, 1, 2, 5, 8, 10, 12, 13, 14, 37, 38, 39, 108, 109, 110], [102, 108]) else none)
set_option maxRecDepth 100000 in
set_option maxHeartbeats 2000000 in
theorem dutyWitness_ok (b : Book) (l : List Rec) : ICalls Try.prog 14 [b.g, .list 3 (recs l) none] [] (Done (gb true) []) := by
  by_cases hl : (l.length : Int) ≤ 60
  case neg =>
    refine ICalls.of_body Try.func14 rfl Try.call14 rfl (Nat.le_of_ble_eq_true rfl) pl_W7_1 rfl ?_
    repeat' ((conv => whnf); first
      | refine Br.yes rfl ?_
      | refine Br.no rfl ?_
      | refine Br.yes (beq_self_eq_true _) ?_
      | refine Br.not ?_
      | refine Br.yes (decide_eq_true (by assumption)) ?_
      | refine Br.no (decide_eq_false (by assumption)) ?_
      | refine Br.yes (beq_iff_eq.2 (by assumption)) ?_
      | refine Br.no (beq_eq_false_iff_ne.2 (by assumption)) ?_
      | refine Br.yes (bne_iff_ne.2 (by assumption)) ?_
      | (refine Br.dec (fun h => ?_) (fun h => ?_) <;> try dsimp only at h)
      | (refine Br.beqI (fun h => ?_) (fun h => ?_) <;> try dsimp only at h)
      | (refine Br.bneI (fun h => ?_) (fun h => ?_) <;> try dsimp only at h)
      | refine Br.mk (fun h => ?_) (fun h => ?_)
      | refine Need.mk (app_need (by first | (simp only [List.length_append, List.length_map, List.length_nil, List.length_cons, List.nil_append, Nat.zero_add, Nat.add_zero]; done) | (simp only [List.length_append, List.length_map, List.length_nil, List.length_cons, List.nil_append, Nat.zero_add, Nat.add_zero]; omega) | omega) (Nat.le_of_ble_eq_true rfl) (by first | (simp only [List.length_append, List.length_map, List.length_nil, List.length_cons, List.nil_append, Nat.zero_add, Nat.add_zero]; done) | (simp only [List.length_append, List.length_map, List.length_nil, List.length_cons, List.nil_append, Nat.zero_add, Nat.add_zero]; omega) | omega)) ?_
      | refine Need.mk (app_need0 (Nat.le_of_ble_eq_true rfl) (by first | (simp only [List.length_append, List.length_map, List.length_nil, List.length_cons, List.nil_append, Nat.zero_add, Nat.add_zero]; done) | (simp only [List.length_append, List.length_map, List.length_nil, List.length_cons, List.nil_append, Nat.zero_add, Nat.add_zero]; omega) | omega)) ?_
      | refine Need.mk (by first | kernel_rfl | exact ⟨of_decide_eq_true rfl, of_decide_eq_true rfl⟩ | omega) ?_
      | refine Len.mk ⟨_, by simp only [List.length_cons, List.length_nil, Nat.reduceAdd, Int.cast_ofNat_Int]; rfl, ?_⟩
      | refine Wr.lit _ (by simp only [Int.reduceAdd, Int.reduceSub, Int.reduceMul]; rfl) (by decide) ?_
      | refine Wr.fit (by omega) ?_
      | refine Wr.fit (by dsimp only; omega) ?_
      | refine Elem.mk ⟨_, ⟨of_decide_eq_true rfl, rfl⟩, ?_⟩
      | refine Len.map ?_
      | refine Len.dropM ?_
      | refine Elem.dropM ?_
      | refine Len.takeM ?_
      | refine Elem.takeM ?_
      | refine Elem.mapK (by assumption) ?_
      | refine Elem.mapI (by omega) (by assumption) ?_
      | refine Elem.mapN (by omega) (fun x hx => ?_)
      | refine Elem.map (by omega) (by omega) (fun x hx => ?_)
      | refine (alive16_ok).use ⟨rfl, ?_⟩
      | refine CallX.mk ⟨_, _, (alive16_ok).x, rfl, ?_⟩
      | refine Done.mk ⟨rfl, rfl⟩
      | refine Done.mk ⟨congrArg gb ?_, rfl⟩
      | refine Done.mk ⟨?_, rfl⟩
      | refine Done.mk ⟨?_, ?_⟩)
    all_goals omega
  case pos =>
    have h1 := audit_ok b l (by omega)
    by_cases he : dutyErr b l = 0
    case pos =>
      have hlen := auditF_len (b := b) (l := l) (by omega)
      have haud : ∀ m, ICalls Try.prog 48 [b.g, .list 3 (recs (uptoL m l)) none] [] (Done (.tup [.list 3 (fnds (auditF b (uptoL m l))) none, gi 0]) []) := fun m => by
        have := audit_ok b (uptoL m l) (by have := uptoL_le m l; omega)
        rwa [dutyErr_upto he] at this
      have hal : ∀ m, (auditF b (uptoL m l)).length ≤ 20000 := fun m => auditF_len (by have := uptoL_le m l; omega)
      have hw : ∀ (i : Nat) (f : Fnd), (auditF b l)[i]? = some f → Witn b l (auditF b l) (endOf l) i f := fun i f hx => witn he hx
      have hE : endOf l ≤ 40320 := by
        unfold endOf
        cases hg : l.getLast? with
        | none => decide
        | some r =>
          have := recErr_inv (chain_all l 0 (dutyErr_0 he).2.2.2 r (List.mem_of_getLast? hg))
          simp only; omega
      have hend := refEnd_ok l (by omega)
      have hup := fun m => upto_ok l m (by omega)
      rw [he] at h1
      generalize auditF b l = X at *
      generalize endOf l = E at *
      refine ICalls.of_body Try.func14 rfl Try.call14 rfl (Nat.le_of_ble_eq_true rfl) pl_W7_2 rfl ?_
      repeat' ((conv => whnf); first
        | refine Br.yes rfl ?_
        | refine Br.no rfl ?_
        | refine Need.mk (EqRun.flat (by kernel_rfl) rfl) ?_
        | (refine Elem.mapN (i := i) (by omega) (fun f hf => ?_))
        | (refine Elem.mapN (i := j) (by omega) (fun y hy => ?_))
        | (refine Elem.mapN (i := n) (by omega) (fun z hz => ?_))
        | (refine Elem.map (by omega) (by omega) (fun q hq => ?_))
        | (refine ILoop.ov 1000015 (fun ((j, g) : Nat × Bool) => [(97, gi j), (13, gb g)]) (fun ((j, g) : Nat × Bool) => []) (fun ((j, g) : Nat × Bool) => j ≤ (auditF b (uptoL f.To l)).length ∧ inOf f ((auditF b (uptoL f.To l)).drop j) g = true) (fun ((j, g) : Nat × Bool) => (auditF b (uptoL f.To l)).length - j) ((0, false)) (by exact rfl) ?_; (conv => whnf); refine Start.mk rfl ?_ ?_; (try dsimp only); rotate_left; rintro ⟨j, g⟩ ⟨hj, hin⟩; (have hal1 := hal f.To))
        | (refine Again.mk ⟨((j + 1, true)), rfl, ?_, ?_⟩ <;> try dsimp only)
        | (refine Again.mk ⟨((j + 1, (y.Clause == f.Clause) && ((y.From == f.From) && ((y.To == f.To) && true)))), rfl, ?_, ?_⟩ <;> try dsimp only)
        | (refine ILoop.ov 1000020 (fun ((o, n) : Bool × Nat) => [(110, gi n), (14, gb o)]) (fun ((o, n) : Bool × Nat) => []) (fun ((o, n) : Bool × Nat) => n ≤ (auditF b (uptoL (f.To - 1) l)).length ∧ outOf f.Clause ((auditF b (uptoL (f.To - 1) l)).drop n) o = false) (fun ((o, n) : Bool × Nat) => (auditF b (uptoL (f.To - 1) l)).length - n) ((false, 0)) (by exact rfl) ?_; (conv => whnf); refine Start.mk rfl ?_ ?_; (try dsimp only); rotate_left; rintro ⟨o, n⟩ ⟨hn, hout⟩; (have hal2 := hal (f.To - 1)))
        | (refine Again.mk ⟨((true, n + 1)), rfl, ?_, ?_⟩ <;> try dsimp only)
        | (refine Again.mk ⟨((decide (z.Clause = f.Clause), n + 1)), rfl, ?_, ?_⟩ <;> try dsimp only)
        | (refine ILoop.ov 1000007 (fun (i : Nat) => [(39, gi i)]) (fun (i : Nat) => []) (fun (i : Nat) => i ≤ X.length) (fun (i : Nat) => X.length - i) (0) (by exact rfl) ?_; (conv => whnf); refine Start.mk rfl ?_ ?_; (try dsimp only); rotate_left; rintro i hi)
        | (refine Again.mk ⟨(i + 1), rfl, ?_, ?_⟩ <;> try dsimp only)
        | refine Br.yes (beq_self_eq_true _) ?_
        | refine Br.not ?_
        | refine Br.yes (decide_eq_true (by assumption)) ?_
        | refine Br.no (decide_eq_false (by assumption)) ?_
        | refine Br.yes (beq_iff_eq.2 (by assumption)) ?_
        | refine Br.no (beq_eq_false_iff_ne.2 (by assumption)) ?_
        | refine Br.yes (bne_iff_ne.2 (by assumption)) ?_
        | (refine Br.dec (fun h => ?_) (fun h => ?_) <;> try dsimp only at h)
        | (refine Br.beqI (fun h => ?_) (fun h => ?_) <;> try dsimp only at h)
        | (refine Br.bneI (fun h => ?_) (fun h => ?_) <;> try dsimp only at h)
        | refine Br.mk (fun h => ?_) (fun h => ?_)
        | refine Need.mk (app_need (by first | (simp only [List.length_append, List.length_map, List.length_nil, List.length_cons, List.nil_append, Nat.zero_add, Nat.add_zero]; done) | (simp only [List.length_append, List.length_map, List.length_nil, List.length_cons, List.nil_append, Nat.zero_add, Nat.add_zero]; omega) | omega) (Nat.le_of_ble_eq_true rfl) (by first | (simp only [List.length_append, List.length_map, List.length_nil, List.length_cons, List.nil_append, Nat.zero_add, Nat.add_zero]; done) | (simp only [List.length_append, List.length_map, List.length_nil, List.length_cons, List.nil_append, Nat.zero_add, Nat.add_zero]; omega) | omega)) ?_
        | refine Need.mk (app_need0 (Nat.le_of_ble_eq_true rfl) (by first | (simp only [List.length_append, List.length_map, List.length_nil, List.length_cons, List.nil_append, Nat.zero_add, Nat.add_zero]; done) | (simp only [List.length_append, List.length_map, List.length_nil, List.length_cons, List.nil_append, Nat.zero_add, Nat.add_zero]; omega) | omega)) ?_
        | refine Need.mk (by first | kernel_rfl | exact ⟨of_decide_eq_true rfl, of_decide_eq_true rfl⟩ | omega) ?_
        | refine Len.mk ⟨_, by simp only [List.length_cons, List.length_nil, Nat.reduceAdd, Int.cast_ofNat_Int]; rfl, ?_⟩
        | refine Wr.lit _ (by simp only [Int.reduceAdd, Int.reduceSub, Int.reduceMul]; rfl) (by decide) ?_
        | refine Wr.fit (by omega) ?_
        | refine Wr.fit (by dsimp only; omega) ?_
        | refine Elem.mk ⟨_, ⟨of_decide_eq_true rfl, rfl⟩, ?_⟩
        | refine Len.map ?_
        | refine Len.dropM ?_
        | refine Elem.dropM ?_
        | refine Len.takeM ?_
        | refine Elem.takeM ?_
        | refine Elem.mapK (by assumption) ?_
        | refine Elem.mapI (by omega) (by assumption) ?_
        | refine Elem.mapN (by omega) (fun x hx => ?_)
        | refine Elem.map (by omega) (by omega) (fun x hx => ?_)
        | refine (h1).use ⟨rfl, ?_⟩
        | refine (hend).use ⟨rfl, ?_⟩
        | refine (hup f.To).use ⟨rfl, ?_⟩
        | refine (hup (f.To - 1)).use ⟨rfl, ?_⟩
        | refine (haud f.To).use ⟨rfl, ?_⟩
        | refine (haud (f.To - 1)).use ⟨rfl, ?_⟩
        | refine (alive16_ok).use ⟨rfl, ?_⟩
        | refine CallX.mk ⟨_, _, (h1).x, rfl, ?_⟩
        | refine CallX.mk ⟨_, _, (hend).x, rfl, ?_⟩
        | refine CallX.mk ⟨_, _, (hup f.To).x, rfl, ?_⟩
        | refine CallX.mk ⟨_, _, (hup (f.To - 1)).x, rfl, ?_⟩
        | refine CallX.mk ⟨_, _, (haud f.To).x, rfl, ?_⟩
        | refine CallX.mk ⟨_, _, (haud (f.To - 1)).x, rfl, ?_⟩
        | refine CallX.mk ⟨_, _, (alive16_ok).x, rfl, ?_⟩
        | refine Done.mk ⟨rfl, rfl⟩
        | refine Done.mk ⟨congrArg gb ?_, rfl⟩
        | refine Done.mk ⟨?_, rfl⟩
        | refine Done.mk ⟨?_, ?_⟩)
      all_goals first
        | omega
        | exact ⟨by omega, in_next hy hin (by assumption)⟩
        | exact ⟨by omega, in_next2 hy hin (by assumption)⟩
        | exact ⟨by omega, out_next hz hout (by assumption)⟩
        | exact ⟨by omega, out_next2 hz hout (by assumption)⟩
        | exact ⟨Nat.zero_le _, (hw i f hf).y⟩
        | exact ⟨Nat.zero_le _, (hw i f hf).z⟩
        | exact wit_no (by assumption) hin (by assumption) hout (by assumption)
        | exact wit_no1 (by assumption) hin (by assumption)
        | (exfalso; have W := (hw i f hf).r; omega)
        | (exfalso; have W := (hw i f hf).p q hq (by omega); omega)
    case neg =>
      obtain ⟨e1, e2⟩ := audit_err he
      rw [e2] at h1
      generalize dutyErr b l = e at *
      refine ICalls.of_body Try.func14 rfl Try.call14 rfl (Nat.le_of_ble_eq_true rfl) pl_W7_3 rfl ?_
      repeat' ((conv => whnf); first
        | refine Br.yes rfl ?_
        | refine Br.no rfl ?_
        | refine Br.yes (beq_self_eq_true _) ?_
        | refine Br.not ?_
        | refine Br.yes (decide_eq_true (by assumption)) ?_
        | refine Br.no (decide_eq_false (by assumption)) ?_
        | refine Br.yes (beq_iff_eq.2 (by assumption)) ?_
        | refine Br.no (beq_eq_false_iff_ne.2 (by assumption)) ?_
        | refine Br.yes (bne_iff_ne.2 (by assumption)) ?_
        | (refine Br.dec (fun h => ?_) (fun h => ?_) <;> try dsimp only at h)
        | (refine Br.beqI (fun h => ?_) (fun h => ?_) <;> try dsimp only at h)
        | (refine Br.bneI (fun h => ?_) (fun h => ?_) <;> try dsimp only at h)
        | refine Br.mk (fun h => ?_) (fun h => ?_)
        | refine Need.mk (app_need (by first | (simp only [List.length_append, List.length_map, List.length_nil, List.length_cons, List.nil_append, Nat.zero_add, Nat.add_zero]; done) | (simp only [List.length_append, List.length_map, List.length_nil, List.length_cons, List.nil_append, Nat.zero_add, Nat.add_zero]; omega) | omega) (Nat.le_of_ble_eq_true rfl) (by first | (simp only [List.length_append, List.length_map, List.length_nil, List.length_cons, List.nil_append, Nat.zero_add, Nat.add_zero]; done) | (simp only [List.length_append, List.length_map, List.length_nil, List.length_cons, List.nil_append, Nat.zero_add, Nat.add_zero]; omega) | omega)) ?_
        | refine Need.mk (app_need0 (Nat.le_of_ble_eq_true rfl) (by first | (simp only [List.length_append, List.length_map, List.length_nil, List.length_cons, List.nil_append, Nat.zero_add, Nat.add_zero]; done) | (simp only [List.length_append, List.length_map, List.length_nil, List.length_cons, List.nil_append, Nat.zero_add, Nat.add_zero]; omega) | omega)) ?_
        | refine Need.mk (by first | kernel_rfl | exact ⟨of_decide_eq_true rfl, of_decide_eq_true rfl⟩ | omega) ?_
        | refine Len.mk ⟨_, by simp only [List.length_cons, List.length_nil, Nat.reduceAdd, Int.cast_ofNat_Int]; rfl, ?_⟩
        | refine Wr.lit _ (by simp only [Int.reduceAdd, Int.reduceSub, Int.reduceMul]; rfl) (by decide) ?_
        | refine Wr.fit (by omega) ?_
        | refine Wr.fit (by dsimp only; omega) ?_
        | refine Elem.mk ⟨_, ⟨of_decide_eq_true rfl, rfl⟩, ?_⟩
        | refine Len.map ?_
        | refine Len.dropM ?_
        | refine Elem.dropM ?_
        | refine Len.takeM ?_
        | refine Elem.takeM ?_
        | refine Elem.mapK (by assumption) ?_
        | refine Elem.mapI (by omega) (by assumption) ?_
        | refine Elem.mapN (by omega) (fun x hx => ?_)
        | refine Elem.map (by omega) (by omega) (fun x hx => ?_)
        | refine (h1).use ⟨rfl, ?_⟩
        | refine (alive16_ok).use ⟨rfl, ?_⟩
        | refine CallX.mk ⟨_, _, (h1).x, rfl, ?_⟩
        | refine CallX.mk ⟨_, _, (alive16_ok).x, rfl, ?_⟩
        | refine Done.mk ⟨rfl, rfl⟩
        | refine Done.mk ⟨congrArg gb ?_, rfl⟩
        | refine Done.mk ⟨?_, rfl⟩
        | refine Done.mk ⟨?_, ?_⟩)
      all_goals first | omega | simp_all

theorem dutyWitness_law (g0 : GV) (h0 : ArgOk bookTy g0) (g1 : GV) (h1 : ArgOk (.list recTy) g1) :
    ICalls Try.prog 14 [g0, g1] [] (Done (gb true) []) := by
  obtain ⟨b, rfl, _⟩ := book_of h0
  obtain ⟨l, rfl, _⟩ := list_of el_rec h1
  exact dutyWitness_ok b l

end Go.Hl
