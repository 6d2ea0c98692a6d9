/- Contracts of functions, bundle H20; proved for whatever the arguments' types allow, as each theorem says. -/
import Derived.Test.YtoofplbjpkgdgaaH18

/- Normal timelines go as the timeline goes; rest breaks nothing; the law TruckRestful.  -/
set_option linter.unusedVariables false
set_option linter.unusedSimpArgs false
namespace Go.Hl
open Go.Gh Go.Proofs

def endFrom (s : Int) (l : List Rec) : Int := l.foldl (fun _ r => r.To) s
theorem endFrom_app (s : Int) (a b : List Rec) : endFrom s (a ++ b) = endFrom (endFrom s a) b := by simp [endFrom]
theorem endFrom_one (s : Int) (q : Rec) : endFrom s [q] = q.To := rfl
theorem endOf_from (l : List Rec) : endOf l = endFrom 0 l := by
  rcases List.eq_nil_or_concat l with rfl | ⟨i, q, rfl⟩
  · rfl
  · rw [List.concat_eq_append, endFrom_app]; simp [endOf, endFrom_one]
theorem chain_app : ∀ (a b : List Rec) (s : Int), Chain s (a ++ b) ↔ Chain s a ∧ Chain (endFrom s a) b
  | [], b, s => by simp [Chain, endFrom]
  | r :: t, b, s => by
    have ih := chain_app t b r.To
    show (r.From = s ∧ recErr r = 0 ∧ Chain r.To (t ++ b)) ↔ (r.From = s ∧ recErr r = 0 ∧ Chain r.To t) ∧ Chain (endFrom r.To t) b
    rw [ih]
    constructor
    · rintro ⟨h1, h2, h3, h4⟩; exact ⟨⟨h1, h2, h3⟩, h4⟩
    · rintro ⟨⟨h1, h2, h3⟩, h4⟩; exact ⟨h1, h2, h3, h4⟩
theorem chain_one (s : Int) (q : Rec) : Chain s [q] ↔ q.From = s ∧ recErr q = 0 := by
  show (q.From = s ∧ recErr q = 0 ∧ True) ↔ _
  simp
/-- No two neighbours of one kind. -/
def NoTwo : Option Int → List Rec → Prop
  | _, [] => True
  | k, x :: t => k ≠ some x.Kind ∧ NoTwo (some x.Kind) t
def lastK (k : Option Int) (l : List Rec) : Option Int := l.foldl (fun _ r => some r.Kind) k
theorem noTwo_app : ∀ (a b : List Rec) (k : Option Int), NoTwo k (a ++ b) ↔ NoTwo k a ∧ NoTwo (lastK k a) b
  | [], b, k => by simp [NoTwo, lastK]
  | r :: t, b, k => by
    have ih := noTwo_app t b (some r.Kind)
    show (k ≠ some r.Kind ∧ NoTwo (some r.Kind) (t ++ b)) ↔ (k ≠ some r.Kind ∧ NoTwo (some r.Kind) t) ∧ NoTwo (lastK (some r.Kind) t) b
    rw [ih, and_assoc]
theorem lastK_app (k : Option Int) (a b : List Rec) : lastK k (a ++ b) = lastK (lastK k a) b := by simp [lastK]
theorem mrgStep_snoc (i : List Rec) (q r : Rec) : mrgStep (i ++ [q]) r = if q.Kind = r.Kind then i ++ [⟨q.Kind, q.From, r.To⟩] else i ++ [q] ++ [r] := by
  have h : (i ++ [q])[(i ++ [q]).length - 1]? = some q := by simp
  split
  · rename_i e
    rw [mrg_same (acc := i ++ [q]) (i := (i ++ [q]).length - 1) rfl h e]
    simp
  · rename_i e
    rw [mrg_other (acc := i ++ [q]) (i := (i ++ [q]).length - 1) rfl h e]
theorem kinds_app (a b : List Rec) : kindsOf (a ++ b) = kindsOf a ++ kindsOf b := by simp [kindsOf]
theorem kinds_one (r : Rec) : kindsOf [r] = List.replicate (r.To - r.From).toNat r.Kind := by simp [kindsOf]

/-- One record more: still a timeline, normal, of the same minutes. -/
theorem mrgStep_good {acc : List Rec} {s : Int} {r : Rec} (hc : Chain s acc) (hn : NoTwo none acc) (hr : r.From = endFrom s acc) (he : recErr r = 0) :
    Chain s (mrgStep acc r) ∧ NoTwo none (mrgStep acc r) ∧ endFrom s (mrgStep acc r) = r.To ∧ kindsOf (mrgStep acc r) = kindsOf acc ++ kindsOf [r] := by
  rcases List.eq_nil_or_concat acc with rfl | ⟨i, q, rfl⟩
  · have e : mrgStep [] r = [r] := rfl
    rw [e]
    exact ⟨(chain_one s r).2 ⟨hr, he⟩, ⟨by simp, trivial⟩, rfl, by simp [kindsOf]⟩
  · rw [List.concat_eq_append] at *
    rw [mrgStep_snoc]
    obtain ⟨c1, c2⟩ := (chain_app i [q] s).1 hc
    obtain ⟨c3, c4⟩ := (chain_one _ q).1 c2
    obtain ⟨n1, n2⟩ := (noTwo_app i [q] none).1 hn
    rw [endFrom_app, endFrom_one] at hr
    have g1 := recErr_inv c4
    have g2 := recErr_inv he
    split
    · rename_i e
      refine ⟨(chain_app i _ s).2 ⟨c1, (chain_one _ _).2 ⟨c3, ?_⟩⟩, (noTwo_app i _ none).2 ⟨n1, n2⟩, by rw [endFrom_app]; rfl, ?_⟩
      · unfold recErr
        simp only
        rw [if_neg (by omega), if_neg (by omega), if_neg (by omega)]
      · rw [kinds_app, kinds_app, kinds_one, kinds_one, kinds_one, List.append_assoc]
        simp only
        rw [← e, List.replicate_append_replicate]
        congr 2; omega
    · rename_i e
      refine ⟨(chain_app _ [r] s).2 ⟨hc, (chain_one _ _).2 ⟨by rw [endFrom_app, endFrom_one]; exact hr, he⟩⟩, (noTwo_app _ [r] none).2 ⟨hn, ?_, trivial⟩, by rw [endFrom_app]; rfl, by rw [kinds_app]⟩
      rw [lastK_app]
      show some q.Kind ≠ some r.Kind
      intro h; exact e (Option.some.inj h)
theorem mrgL_good : ∀ (l acc : List Rec) (s : Int), Chain s acc → NoTwo none acc → Chain (endFrom s acc) l →
    Chain s (mrgL acc l) ∧ NoTwo none (mrgL acc l) ∧ endFrom s (mrgL acc l) = endFrom (endFrom s acc) l ∧ kindsOf (mrgL acc l) = kindsOf acc ++ kindsOf l
  | [], acc, s, h1, h2, _ => ⟨h1, h2, rfl, by simp [mrgL, kindsOf]⟩
  | r :: t, acc, s, h1, h2, ⟨h3, h4, h5⟩ => by
    obtain ⟨g1, g2, g3, g4⟩ := mrgStep_good h1 h2 h3 h4
    obtain ⟨k1, k2, k3, k4⟩ := mrgL_good t (mrgStep acc r) s g1 g2 (by rw [g3]; exact h5)
    refine ⟨k1, k2, ?_, ?_⟩
    · show endFrom s (mrgL (mrgStep acc r) t) = _
      rw [k3, g3]; rfl
    · show kindsOf (mrgL (mrgStep acc r) t) = _
      rw [k4, g4, List.append_assoc, ← kinds_app]; rfl
theorem mrgL_id : ∀ (l acc : List Rec), NoTwo (lastK none acc) l → mrgL acc l = acc ++ l
  | [], acc, _ => by simp [mrgL]
  | r :: t, acc, ⟨h1, h2⟩ => by
    have e : mrgStep acc r = acc ++ [r] := by
      rcases List.eq_nil_or_concat acc with rfl | ⟨i, q, rfl⟩
      · rfl
      · rw [List.concat_eq_append] at *
        rw [mrgStep_snoc, if_neg]
        intro hk; apply h1; rw [lastK_app, ← hk]; rfl
    show mrgL (mrgStep acc r) t = _
    rw [e, mrgL_id t (acc ++ [r]) (by rw [lastK_app]; exact h2)]; simp
theorem chain_code : ∀ (l : List Rec) (i : Int) (q : Rec), Chain q.To l → (recsErr i (some q) l).2 = 0
  | [], _, _, _ => rfl
  | r :: t, i, q, ⟨h1, h2, h3⟩ => by
    have hg : gapErr q r = 0 := by unfold gapErr; rw [if_neg (by omega), if_neg (by omega)]
    unfold recsErr
    rw [if_neg (by simp [h2]), if_neg (by simp [hg])]
    exact chain_code t _ r h3
theorem chain_codeR {l : List Rec} {s : Int} (h : Chain s l) : codeR l = 0 := by
  cases l with
  | nil => rfl
  | cons r t =>
    obtain ⟨h1, h2, h3⟩ := h
    unfold codeR recsErr
    rw [if_neg (by simp [h2])]
    exact chain_code t _ r h3
theorem chain_begin {l : List Rec} (h : Chain 0 l) : beginOf l = 0 := by
  cases l with
  | nil => rfl
  | cons r t => exact h.1
theorem past_chain {l : List Rec} (h : pastErr l = 0) : Chain 0 l := by
  have hc := chain_first (pastErr_code h)
  have hb : beginOf l = 0 := by
    unfold pastErr at h; rw [if_neg (by have := pastErr_code (l := l) h; omega)] at h
    split at h
    · cases h
    · omega
  rwa [hb] at hc
theorem chain_past {l : List Rec} (h : Chain 0 l) : pastErr l = 0 := by
  unfold pastErr; rw [if_neg (by simp [chain_codeR h]), if_neg (by simp [chain_begin h])]

/-- What is normal of a past: a past, normal, that ends where it ended, and comes to the same. -/
theorem norm_past {l : List Rec} (h : pastErr l = 0) : pastErr (normL l) = 0 ∧ isNormal (normL l) = true ∧ endOf (normL l) = endOf l ∧ kindsOf (normL l) = kindsOf l := by
  have hc := past_chain h
  obtain ⟨g1, g2, g3, g4⟩ := mrgL_good l [] 0 trivial trivial hc
  have hn : normL l = mrgL [] l := by unfold normL; rw [if_pos (pastErr_code h)]
  rw [hn]
  refine ⟨chain_past g1, ?_, by rw [endOf_from, endOf_from, g3]; rfl, by rw [g4]; simp [kindsOf]⟩
  unfold isNormal normL
  rw [if_pos (chain_codeR g1), chain_codeR g1, mrgL_id (mrgL [] l) [] g2]
  simp

end Go.Hl

/- Rest breaks nothing; the law TruckRestful.  -/
set_option linter.unusedVariables false
set_option linter.unusedSimpArgs false
namespace Go.Hl
open Go.Gh Go.Proofs

/-- So many minutes of rest later. -/
structure RestTo (x y : Meter) (n : Int) : Prop where
  now : y.Now = x.Now + n
  lie : y.Lie = x.Lie + n
  acc : y.Acc = x.Acc
  day : y.Day = x.Day
  dawn : y.Dawn = x.Dawn
  sab : y.Sabbath = x.Sabbath
  lon : y.Longers = x.Longers
  red : y.Reduces = x.Reduces
theorem rest_check {t R : Truck} {Q : List Rec} {p : Int} (hp : pastErr t.Past = 0) (hq : pastErr Q = 0) (hR : R = ⟨t.ID, t.Home, t.Room, t.Fixed, t.Rate, normL Q⟩) (h : truckErr t p ≠ 18) : truckErr R p = truckErr t p := by
  obtain ⟨n1, n2, n3, n4⟩ := norm_past hq
  subst hR
  unfold truckErr at h ⊢
  simp only at *
  rw [n1, n2, hp] at *
  split
  · rfl
  · rename_i h1; rw [if_neg h1] at h
    split
    · rfl
    · rename_i h2; rw [if_neg h2] at h
      split
      · rfl
      · rename_i h3; rw [if_neg h3] at h
        simp only [ne_eq, not_true_eq_false, if_false, if_true] at h ⊢
        split
        · rfl
        · rename_i h4; rw [if_neg h4] at h; exact absurd rfl h

end Go.Hl
