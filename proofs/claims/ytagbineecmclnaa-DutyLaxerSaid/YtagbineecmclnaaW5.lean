/- Contracts of functions, bundle W5; proved for whatever the arguments' types allow, as each theorem says. -/
import Derived.Test.YtagbineecmclnaaV2
import Derived.Test.YtagbineecmclnaaH9

/- Chapter 16: a timeline up to a minute; what is found in it.  -/
set_option linter.unusedVariables false
set_option linter.unusedSimpArgs false
namespace Go.Hl
open Go.Gh Go.Proofs

def cutR (m : Int) (r : Rec) : Rec := ⟨r.Kind, r.From, if m < r.To then m else r.To⟩
def uptoL (m : Int) : List Rec → List Rec
  | [] => []
  | r :: l => if r.From < m then cutR m r :: uptoL m l else uptoL m l
theorem uptoL_le (m : Int) : ∀ l : List Rec, (uptoL m l).length ≤ l.length
  | [] => Nat.le_refl _
  | r :: l => by have := uptoL_le m l; rw [uptoL]; split <;> simp <;> omega
theorem up_yes {m : Int} {l out R : List Rec} {i : Nat} {x : Rec} (hx : l[i]? = some x) (hr : out ++ uptoL m (l.drop i) = R) (h : x.From < m) : (out ++ [cutR m x]) ++ uptoL m (l.drop (i + 1)) = R := by
  rw [drop_of_get hx, uptoL, if_pos h] at hr; rw [← hr]; simp
theorem up_no {m : Int} {l out R : List Rec} {i : Nat} {x : Rec} (hx : l[i]? = some x) (hr : out ++ uptoL m (l.drop i) = R) (h : ¬ x.From < m) : out ++ uptoL m (l.drop (i + 1)) = R := by
  rw [drop_of_get hx, uptoL, if_neg h] at hr; exact hr
theorem up_end {m : Int} {l out R : List Rec} {i : Nat} (hi : ¬ (i : Int) < l.length) (hr : out ++ uptoL m (l.drop i) = R) : out = R := by
  rw [List.drop_eq_nil_of_le (by omega), uptoL, List.append_nil] at hr; exact hr
theorem cutR_yes {m : Int} {x : Rec} (h : m < x.To) : (Rec.mk x.Kind x.From m) = cutR m x := by unfold cutR; rw [if_pos h]
theorem cutR_no {m : Int} {x : Rec} (h : ¬ m < x.To) : x = cutR m x := by unfold cutR; rw [if_neg h]
theorem recs_push (out : List Rec) (r : Rec) : recs out ++ [.agg [gi r.Kind, gi r.From, gi r.To]] = recs (out ++ [r]) ∧ (recs out).length + [GV.agg [gi r.Kind, gi r.From, gi r.To]].length = (out ++ [r]).length :=
  ⟨by simp [recs, Rec.g, Rec.c], by simp [recs]⟩

def pl_W5_1 : Nat → Option (List Nat × List Nat) := (fun k => bif Nat.beq k 3 then some ([1000003, 1, 5, 8, 9, 10, 5000005, 6000004], [105, 127]) else bif Nat.beq k 5000005 then some ([], []) else bif Nat.beq k 6000004 then some ([], []) else none)
set_option maxRecDepth 100000 in
set_option maxHeartbeats 1000000 in
theorem upto_ok (l : List Rec) (m : Int) (hl : (l.length : Int) ≤ 1000000) : ICalls Try.prog 12 [.list 3 (recs l) none, gi m] [] (Done (.list 3 (recs (uptoL m l)) none) []) := by
  generalize hR : uptoL m l = R
  have hle := uptoL_le m l
  rw [hR] at hle
  refine ICalls.of_body Try.func12 rfl Try.call12 rfl (Nat.le_of_ble_eq_true rfl) pl_W5_1 rfl ?_
  repeat' ((conv => whnf); first
    | refine Br.yes rfl ?_
    | refine Br.no rfl ?_
    | (refine Elem.mapN (by omega) (fun x hx => ?_))
    | (refine Need.mk (app_needM rfl (Nat.le_of_ble_eq_true rfl) (by simp only [recs, List.length_map, List.length_cons, List.length_nil]; omega)) ?_)
    | (refine ILoop.ov 1000003 (fun ((i, out, g, k, v) : Nat × List Rec × List GV × Nat × Nat) => [(10, gi i), (5, .ms 3 105 v k)]) (fun ((i, out, g, k, v) : Nat × List Rec × List GV × Nat × Nat) => [(105, .mvec 34 3 g v)]) (fun ((i, out, g, k, v) : Nat × List Rec × List GV × Nat × Nat) => i ≤ l.length ∧ (g = recs out ∧ k = out.length) ∧ out ++ uptoL m (l.drop i) = R) (fun ((i, out, g, k, v) : Nat × List Rec × List GV × Nat × Nat) => l.length - i) ((0, [], [], 0, 0)) (by exact rfl) ?_; (conv => whnf); refine Start.mk rfl ?_ ?_; (try dsimp only); rotate_left; rintro ⟨i, out, g, k, v⟩ ⟨hi, ⟨rfl, rfl⟩, hr⟩; (have hol : out.length ≤ R.length := (by rw [← hr, List.length_append]; omega)))
    | (refine Again.mk ⟨((i + 1, out ++ [cutR m x], recs out ++ [_], _, _)), rfl, ?_, ?_⟩ <;> try dsimp only)
    | (refine Again.mk ⟨((i + 1, out, recs out, _, _)), rfl, ?_, ?_⟩ <;> try dsimp only)
    | refine Br.yes (beq_self_eq_true _) ?_
    | refine Br.not ?_
    | refine Br.yes (decide_eq_true (by assumption)) ?_
    | refine Br.no (decide_eq_false (by assumption)) ?_
    | refine Br.yes (beq_iff_eq.2 (by assumption)) ?_
    | refine Br.no (beq_eq_false_iff_ne.2 (by assumption)) ?_
    | refine Br.yes (bne_iff_ne.2 (by assumption)) ?_
    | (refine Br.dec (fun h => ?_) (fun h => ?_) <;> try dsimp only at h)
    | (refine Br.beqI (fun h => ?_) (fun h => ?_) <;> try dsimp only at h)
    | (refine Br.bneI (fun h => ?_) (fun h => ?_) <;> try dsimp only at h)
    | refine Br.mk (fun h => ?_) (fun h => ?_)
    | refine Need.mk (app_need (by first | (simp only [List.length_append, List.length_map, List.length_nil, List.length_cons, List.nil_append, Nat.zero_add, Nat.add_zero]; done) | (simp only [List.length_append, List.length_map, List.length_nil, List.length_cons, List.nil_append, Nat.zero_add, Nat.add_zero]; omega) | omega) (Nat.le_of_ble_eq_true rfl) (by first | (simp only [List.length_append, List.length_map, List.length_nil, List.length_cons, List.nil_append, Nat.zero_add, Nat.add_zero]; done) | (simp only [List.length_append, List.length_map, List.length_nil, List.length_cons, List.nil_append, Nat.zero_add, Nat.add_zero]; omega) | omega)) ?_
    | refine Need.mk (app_need0 (Nat.le_of_ble_eq_true rfl) (by first | (simp only [List.length_append, List.length_map, List.length_nil, List.length_cons, List.nil_append, Nat.zero_add, Nat.add_zero]; done) | (simp only [List.length_append, List.length_map, List.length_nil, List.length_cons, List.nil_append, Nat.zero_add, Nat.add_zero]; omega) | omega)) ?_
    | refine Need.mk (app_needM rfl (Nat.le_of_ble_eq_true rfl) (by first | (simp only [List.length_append, List.length_map, List.length_nil, List.length_cons, List.nil_append, Nat.zero_add, Nat.add_zero]; done) | (simp only [List.length_append, List.length_map, List.length_nil, List.length_cons, List.nil_append, Nat.zero_add, Nat.add_zero]; omega) | omega)) ?_
    | refine Need.mk (zeros_need (by omega) (Nat.le_of_ble_eq_true rfl) (by omega)) ?_
    | refine Need.mk (by first | kernel_rfl | exact ⟨of_decide_eq_true rfl, of_decide_eq_true rfl⟩ | omega) ?_
    | refine Len.mk ⟨_, by simp only [List.length_cons, List.length_nil, Nat.reduceAdd, Int.cast_ofNat_Int]; rfl, ?_⟩
    | refine Wr.lit _ (by simp only [Int.reduceAdd, Int.reduceSub, Int.reduceMul]; rfl) (by decide) ?_
    | refine Wr.fit (by omega) ?_
    | refine Wr.fit (by dsimp only; omega) ?_
    | refine Elem.mk ⟨_, ⟨of_decide_eq_true rfl, rfl⟩, ?_⟩
    | refine Len.map ?_
    | refine Len.dropM ?_
    | refine Elem.dropM ?_
    | refine Len.takeM ?_
    | refine Elem.takeM ?_
    | refine Elem.mapK (by assumption) ?_
    | refine Elem.mapI (by omega) (by assumption) ?_
    | refine Elem.mapN (by omega) (fun x hx => ?_)
    | refine Elem.map (by omega) (by omega) (fun x hx => ?_)
    | refine Done.mk ⟨rfl, rfl⟩
    | refine Done.mk ⟨congrArg gb ?_, rfl⟩
    | refine Done.mk ⟨?_, rfl⟩
    | refine Done.mk ⟨?_, ?_⟩)
  · refine ⟨by omega, ?_, ?_⟩
    · rw [← cutR_yes (by assumption)]; exact recs_push out ⟨x.Kind, x.From, m⟩
    · exact up_yes hx hr (by assumption)
  · omega
  · refine ⟨by omega, ?_, ?_⟩
    · have hc : x = cutR m x := cutR_no (by assumption)
      rw [← hc]; exact recs_push out x
    · exact up_yes hx hr (by assumption)
  · omega
  · exact ⟨by omega, ⟨rfl, rfl⟩, up_no hx hr (by assumption)⟩
  · omega
  · exact congrArg (fun q => GV.list 3 (recs q) none) (up_end (by assumption) hr)
  all_goals (first | exact ⟨Nat.zero_le _, ⟨rfl, rfl⟩, hR⟩ | omega)

theorem dutyErr_0 {b : Book} {l : List Rec} (h : dutyErr b l = 0) : b.May ∧ (recsErr 0 none l).2 = 0 ∧ beginOf l = 0 ∧ Chain 0 l := by
  unfold dutyErr at h
  split at h
  · rename_i hb
    split at h
    · rename_i hr
      have hc := chain_first hr
      split at h
      · cases h
      · rename_i hl
        have hbeg : beginOf l = 0 := by
          cases l with
          | nil => rfl
          | cons r t => simpa [late0, beginOf] using hl
        rw [hbeg] at hc
        refine ⟨?_, hr, hbeg, hc⟩
        unfold Book.code at hb
        split at hb
        · assumption
        · cases hb
    · rename_i hr; exact absurd h hr
  · rename_i hb; exact absurd h hb
theorem uptoL_nil {m : Int} : ∀ {l : List Rec} {a : Int}, Chain a l → m ≤ a → uptoL m l = []
  | [], _, _, _ => rfl
  | r :: l, a, ⟨c1, c2, c3⟩, h => by
    have hi := recErr_inv c2
    rw [uptoL, if_neg (by omega)]
    exact uptoL_nil c3 (by omega)
theorem chain_upto {m : Int} : ∀ {l : List Rec} {a : Int}, Chain a l → Chain a (uptoL m l)
  | [], _, _ => trivial
  | r :: l, a, hc => by
    have hc0 := hc
    obtain ⟨c1, c2, c3⟩ := hc
    have hi := recErr_inv c2
    rw [uptoL]
    split
    · rename_i hm
      by_cases hq : m < r.To
      · rw [uptoL_nil c3 (by omega)]
        have e : cutR m r = ⟨r.Kind, r.From, m⟩ := by unfold cutR; rw [if_pos hq]
        rw [e]
        refine ⟨c1, ?_, trivial⟩
        exact recErr_0 (by simp only; omega) (by simp only; omega) (by simp only; omega) (by simp only; omega) (by simp only; omega) (by simp only; omega) (by simp only; omega)
      · rw [← cutR_no hq]
        exact ⟨c1, c2, chain_upto c3⟩
    · rename_i hm
      rw [uptoL_nil c3 (by omega)]; trivial
theorem recsErr_chain : ∀ (l : List Rec) (i : Int) (q : Rec), Chain q.To l → recsErr i (some q) l = (0, 0)
  | [], _, _, _ => rfl
  | r :: t, i, q, ⟨c1, c2, c3⟩ => by
    have hg : gapErr q r = 0 := by unfold gapErr; rw [if_neg (by omega), if_neg (by omega)]
    rw [recsErr, if_neg (by omega), if_neg (by omega)]
    exact recsErr_chain t _ r c3
theorem dutyErr_of {b : Book} {l : List Rec} (hb : b.May) (hc : Chain 0 l) : dutyErr b l = 0 := by
  unfold dutyErr
  have h1 : b.code = 0 := by unfold Book.code; rw [if_pos hb]
  rw [if_pos h1]
  cases l with
  | nil => rfl
  | cons r t =>
    obtain ⟨c1, c2, c3⟩ := hc
    have e : recsErr 0 none (r :: t) = (0, 0) := by
      rw [recsErr, if_neg (fun h => h c2), recsErr_chain t _ r c3]
    rw [e, if_pos rfl]
    simp [late0, c1]
theorem dutyErr_upto {b : Book} {l : List Rec} {m : Int} (h : dutyErr b l = 0) : dutyErr b (uptoL m l) = 0 := by
  obtain ⟨hb, _, _, hc⟩ := dutyErr_0 h
  exact dutyErr_of hb (chain_upto hc)

end Go.Hl
