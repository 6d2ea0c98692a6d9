/- Ghost values and walks, bundle Gh14; proved for whatever the arguments' types allow, as each theorem says. -/
import Derived.Test.YtoofplbjpkgdgaaGh13

/- Small words for walks in ghost values; a law's call. -/
set_option linter.unusedVariables false
set_option linter.unusedSimpArgs false
namespace Go.Gh

abbrev gi (n : Int) : GV := .v (.int .i64 n)
abbrev gb (b : Bool) : GV := .v (.bool b)

/-- The call hands back just this, and leaves just these blocks. -/
structure Done (v0 : GV) (hs0 : List GB) (v : GV) (hs : List GB) : Prop where
  out : v = v0 ∧ hs = hs0

theorem ICalls.use {P : Program} {f : FuncId} {args : List GV} {hs hs0 : List GB} {v0 : GV} {R : GV → List GB → Prop} (h : ICalls P f args hs (Done v0 hs0)) (hR : R v0 hs0) : ICalls P f args hs R :=
  h.mono fun v hs' ⟨h1, h2⟩ => by rw [h1, h2]; exact hR

theorem ICalls.x {P : Program} {f : FuncId} {args : List GV} {hs hs0 : List GB} {v0 : GV} (h : ICalls P f args hs (Done v0 hs0)) : ICalls P f args hs (fun v hs' => v = v0 ∧ hs' = hs0) :=
  h.mono fun v hs' h => h.out

/-- The same answer, told otherwise. -/
theorem ICalls.to {P : Program} {f : FuncId} {args : List GV} {hs hs0 : List GB} {v0 v1 : GV} (h : ICalls P f args hs (Done v0 hs0)) (e : v0 = v1) : ICalls P f args hs (Done v1 hs0) := e ▸ h

theorem ILoop.unroll {P : Program} {N : Nat} {pl0 : Nat → Option (List Nat × List Nat)} {c : Code} {m : Nat} {F : GS → GQ → Prop} {pl : Option (List Nat × List Nat)} {Q : GQ} {s : GS} (n : Nat) (h : rounds m F pl Q n s) : ILoop P N pl0 c m F pl Q s := by
  unfold ILoop; exact ⟨n, h⟩

theorem ILoop.out {P : Program} {N : Nat} {pl0 : Nat → Option (List Nat × List Nat)} {c : Code} {m : Nat} {F : GS → GQ → Prop} {pl : Option (List Nat × List Nat)} {Q : GQ} {s : GS} (h : ILoop P N pl0 c m F pl Q s) : ∃ n, rounds m F pl Q n s := by
  unfold ILoop at h; exact h

/-! ### What is asked less may be had for more -/
theorem Out.wp0_mono {hp : Nat → Option GB} : ∀ {o : Out} {K K' : GV → (Nat → Option GB) → Prop}, (∀ x h, K x h → K' x h) → o.wp0 hp K → o.wp0 hp K'
  | .bad, _, _, _, h => h
  | .val x, _, _, hk, h => hk _ _ h
  | .upd x k b, _, _, hk, h => hk _ _ h
  | .need c o, _, _, hk, h => ⟨h.1, Out.wp0_mono (o := o) hk h.2⟩
  | .elem xs i f, _, _, hk, h => by
    obtain ⟨y, h1, h2⟩ := h
    exact ⟨y, h1, Out.wp0_mono (o := f y) hk h2⟩
  | .call _ _, _, _, _, h => h

theorem finK_mono {N : Nat} {src : Bool} {dst : Option Tmp} {env : Nat → GV} {K K' : GS → Prop} {x : GV} {hp : Nat → Option GB} (hk : ∀ s, K s → K' s) (h : finK N src dst env K x hp) : finK N src dst env K' x hp := by
  unfold finK at *
  split
  · exact hk _ h
  · rename_i d
    cases hb : Nat.blt d N with
    | false => simp only [hb, cond_false] at h
    | true =>
      simp only [hb, cond_true] at h ⊢
      cases src with
      | false => exact hk _ h
      | true =>
        simp only [cond_true] at h ⊢
        cases x with
        | v y =>
          cases y with
          | bool b => exact ⟨fun e => hk _ (h.1 e), fun e => hk _ (h.2 e)⟩
          | _ => exact hk _ h
        | _ => exact hk _ h

theorem goOps_mono {P : Program} {N : Nat} {all : List Oper} : ∀ {l : List Oper} {i : Nat} {s : GS} {K K' : GS → Prop}, (∀ s, K s → K' s) → goOps P N all i l s K → goOps P N all i l s K'
  | [], i, s, K, K', hk, h => hk _ h
  | o :: r, i, s, K, K', hk, h => by
    unfold goOps at *
    split
    · rename_i hw
      rw [hw] at h
      simp only at h
      have hf : ∀ x hp, finK N (isSrc all i) o.dst s.env (fun s' => goOps P N all (i + 1) r s' K) x hp → finK N (isSrc all i) o.dst s.env (fun s' => goOps P N all (i + 1) r s' K') x hp := fun x hp => finK_mono fun s' => goOps_mono hk
      unfold opWp at *
      split
      · rename_i g args hc
        rw [hc] at h
        exact ICalls.mono h fun v hs' ⟨nk, h1, h2, h3⟩ => ⟨nk, h1, h2, hf _ _ h3⟩
      · rename_i hc
        rw [hc] at h; exact h.elim
      · rename_i hc
        rw [hc] at h
        exact Out.wp0_mono (fun x hp => postK_mono hf) h
    · rename_i hw
      rw [hw] at h
      exact finK_mono (fun s' => goOps_mono hk) h
    · rename_i hw
      rw [hw] at h; exact h.elim

theorem goDr_mono {P : Program} {N : Nat} {all : List Oper} {ms : List Nat} {wl : List (Nat × Nat)} : ∀ {l : List Oper} {i : Nat} {s : GS} {K K' : GS → Prop}, (∀ s, K s → K' s) → goDr P N all ms wl i l s K → goDr P N all ms wl i l s K'
  | [], i, s, K, K', hk, h => hk _ h
  | o :: r, i, s, K, K', hk, h => by
    unfold goDr at *
    split
    · rename_i hw
      rw [hw] at h
      simp only at h
      have hf : ∀ x hp, finK N (isSrc all i) o.dst s.env (fun s' => goDr P N all ms wl (i + 1) r s' K) x hp → finK N (isSrc all i) o.dst s.env (fun s' => goDr P N all ms wl (i + 1) r s' K') x hp := fun x hp => finK_mono fun s' => goDr_mono hk
      unfold opDr at *
      split
      · rename_i g args hc
        rw [hc] at h
        obtain ⟨v, hs', h1, h2, hn, h3⟩ := h
        exact ⟨v, hs', h1, h2, hn, hf _ _ h3⟩
      · rename_i hc
        rw [hc] at h; exact h.elim
      · rename_i hc
        rw [hc] at h
        exact ⟨h.1, Out.wp0_mono hf h.2⟩
    · rename_i hw
      rw [hw] at h
      exact finK_mono (fun s' => goDr_mono hk) h
    · rename_i hw
      rw [hw] at h; exact h.elim

theorem keepW_mono {m : Nat} {pl : Option (List Nat × List Nat)} {s : GS} {K K' : GS → Prop} (hk : ∀ s, K s → K' s) (h : keepW m pl s K) : keepW m pl s K' := by
  rw [keepW_eq] at h ⊢
  split
  · exact hk _ h
  · rename_i L B
    cases hB : allBelow m B with
    | false => simp only [hB, cond_false] at h
    | true => simp only [hB, cond_true] at h ⊢; exact hk _ h

def FMono (F : GS → GQ → Prop) : Prop := ∀ (s : GS) (Q Q' : GQ), (∀ e s', Q e s' → Q' e s') → F s Q → F s Q'

theorem rounds_mono {m : Nat} {F : GS → GQ → Prop} {pl : Option (List Nat × List Nat)} {Q Q' : GQ} (hF : FMono F) (hq : ∀ e s, Q e s → Q' e s) : ∀ {n k : Nat} {s : GS}, n ≤ k → rounds m F pl Q n s → rounds m F pl Q' k s
  | 0, _, _, _, h => h.elim
  | n + 1, 0, _, hk, h => by omega
  | n + 1, k + 1, s, hk, h => by
    rw [rounds_next] at h ⊢
    refine keepW_mono (fun s0 h0 => hF _ _ _ ?_ h0) h
    intro e s' he
    cases e with
    | normal => exact rounds_mono hF hq (Nat.le_of_succ_le_succ hk) he
    | exit i => exact hq _ _ he
    | goto l => exact hq _ _ he
    | ret => exact hq _ _ he
    | panic ch => exact hq _ _ he
    | outgrown => exact hq _ _ he

theorem iwp_mono {P : Program} {N m : Nat} {pl : Nat → Option (List Nat × List Nat)} : ∀ (c : Code), FMono (iwp P N m pl c) := by
  intro c
  induction c with
  | skip => intro s Q Q' hq h; exact hq _ _ h
  | region id ops draw =>
    intro s Q Q' hq h
    simp only [iwp_skip, iwp_region, iwp_seqE, iwp_cond, iwp_block, iwp_loop, iwp_range, iwp_exit, iwp_scope, iwp_label, iwp_goto, iwp_ret, iwp_refuse] at *
    refine coolR_mono (fun s h => ?_) h
    cases draw with
    | false => simp only [cond_false, regF_eq] at *; exact goOps_mono (hq .normal) h
    | true =>
      simp only [cond_true] at *
      rw [drF_eq] at h ⊢
      exact ⟨h.1, goDr_mono (hq .normal) h.2⟩
  | seq a b iha ihb =>
    intro s Q Q' hq h
    simp only [iwp_skip, iwp_region, iwp_seqE, iwp_cond, iwp_block, iwp_loop, iwp_range, iwp_exit, iwp_scope, iwp_label, iwp_goto, iwp_ret, iwp_refuse] at *
    split
    · rename_i hp
      rw [hp] at h
      refine iha _ _ _ ?_ h
      intro e s' he
      cases e with
      | normal => exact ihb _ _ _ hq he
      | exit i => exact hq _ _ he
      | goto l => exact hq _ _ he
      | ret => exact hq _ _ he
      | panic ch => exact hq _ _ he
      | outgrown => exact hq _ _ he
    · rename_i L B hp
      rw [hp] at h
      obtain ⟨M, h, hM⟩ := h.ex
      refine Join.by M (iha _ _ _ ?_ h) fun S hS => ihb _ _ _ hq (hM S hS)
      intro e s' he
      cases e with
      | normal => exact he
      | exit i => exact hq _ _ he
      | goto l => exact hq _ _ he
      | ret => exact hq _ _ he
      | panic ch => exact hq _ _ he
      | outgrown => exact hq _ _ he
  | cond c a b iha ihb =>
    intro s Q Q' hq h
    simp only [iwp_skip, iwp_region, iwp_seqE, iwp_cond, iwp_block, iwp_loop, iwp_range, iwp_exit, iwp_scope, iwp_label, iwp_goto, iwp_ret, iwp_refuse] at *
    split
    · rename_i t ht
      rw [ht] at h
      exact ⟨fun e => iha _ _ _ hq (h.t e), fun e => ihb _ _ _ hq (h.f e)⟩
    · split at h
      · rename_i hne _ t ht; exact (hne t ht).elim
      · exact h
  | block id c ih =>
    intro s Q Q' hq h
    simp only [iwp_skip, iwp_region, iwp_seqE, iwp_cond, iwp_block, iwp_loop, iwp_range, iwp_exit, iwp_scope, iwp_label, iwp_goto, iwp_ret, iwp_refuse] at *
    refine ih _ _ _ ?_ h
    intro e s' he
    cases e with
    | exit i =>
      simp only at *
      cases hb : Nat.beq i id with
      | true => simp only [hb, cond_true] at he ⊢; exact hq _ _ he
      | false => simp only [hb, cond_false] at he ⊢; exact hq _ _ he
    | normal => exact hq _ _ he
    | goto l => exact hq _ _ he
    | ret => exact hq _ _ he
    | panic ch => exact hq _ _ he
    | outgrown => exact hq _ _ he
  | loop c ih =>
    intro s Q Q' hq h
    simp only [iwp_skip, iwp_region, iwp_seqE, iwp_cond, iwp_block, iwp_loop, iwp_range, iwp_exit, iwp_scope, iwp_label, iwp_goto, iwp_ret, iwp_refuse] at *
    obtain ⟨n, h⟩ := h.out
    exact ILoop.unroll n (rounds_mono ih hq (Nat.le_refl _) h)
  | rangeFunc f p x y _ _ => intro s Q Q' hq h; exact h.elim
  | exit id => intro s Q Q' hq h; exact hq _ _ h
  | scope c ih =>
    intro s Q Q' hq h
    simp only [iwp_skip, iwp_region, iwp_seqE, iwp_cond, iwp_block, iwp_loop, iwp_range, iwp_exit, iwp_scope, iwp_label, iwp_goto, iwp_ret, iwp_refuse] at *
    refine ih _ _ _ ?_ h
    intro e s' he
    cases e with
    | goto l => exact he
    | normal => exact hq _ _ he
    | exit i => exact hq _ _ he
    | ret => exact hq _ _ he
    | panic ch => exact hq _ _ he
    | outgrown => exact hq _ _ he
  | label l => intro s Q Q' hq h; exact hq _ _ h
  | goto l => intro s Q Q' hq h; exact h.elim
  | ret => intro s Q Q' hq h; exact hq _ _ h
  | refuse why => intro s Q Q' hq h; exact h.elim

/-- A loop by what holds of the slots that are kept: `Inv n s` where n bounds the rounds that are left. -/
theorem ILoop.inv {P : Program} {N m : Nat} {pl : Nat → Option (List Nat × List Nat)} {c : Code} {L B : List Nat} {Q : GQ} {s : GS} (Inv : Nat → GS → Prop) (n : Nat) (hB : allBelow m B = true) (h0 : Inv n (keepG L B s))
    (hstep : ∀ (n : Nat) (s : GS), Inv n s → iwp P N m pl c s (fun e s' => match e with
      | .normal => ∃ k, k < n ∧ Inv k (keepG L B s')
      | e => Q e s')) : ILoop P N pl c m (iwp P N m pl c) (some (L, B)) Q s := by
  have key : ∀ (n : Nat) (s : GS), Inv n (keepG L B s) → rounds m (iwp P N m pl c) (some (L, B)) Q (n + 1) s := by
    intro n
    induction n using Nat.strongRecOn with
    | _ n ih =>
      intro s hs
      rw [rounds_next]
      rw [keepW_eq]
      simp only [hB, cond_true]
      refine iwp_mono c _ _ _ ?_ (hstep n _ hs)
      intro e s' he
      cases e with
      | normal =>
        obtain ⟨k, hk, hi⟩ := he
        exact rounds_mono (iwp_mono c) (fun _ _ h => h) hk (ih k hk s' hi)
      | exit i => exact he
      | goto l => exact he
      | ret => exact he
      | panic ch => exact he
      | outgrown => exact he
  exact ILoop.unroll _ (key n s h0)

/-- The same for any body that asks no more of its end than it must. -/
theorem ILoop.by {P : Program} {N : Nat} {pl0 : Nat → Option (List Nat × List Nat)} {c : Code} {m : Nat} {F : GS → GQ → Prop} {Q : GQ} {s : GS} {pl : Option (List Nat × List Nat)} (L B : List Nat) (hpl : pl = some (L, B)) (hF : FMono F) (Inv : Nat → GS → Prop) (n : Nat) (hB : allBelow m B = true) (h0 : Inv n (keepG L B s))
    (hstep : ∀ (n : Nat) (s : GS), Inv n s → F s (seqQ (fun s' _ => ∃ k, k < n ∧ Inv k (keepG L B s')) Q)) : ILoop P N pl0 c m F pl Q s := by
  subst hpl
  have key : ∀ (n : Nat) (s : GS), Inv n (keepG L B s) → rounds m F (some (L, B)) Q (n + 1) s := by
    intro n
    induction n using Nat.strongRecOn with
    | _ n ih =>
      intro s hs
      rw [rounds_next, keepW_eq]
      simp only [hB, cond_true]
      refine hF _ _ _ ?_ (hstep n _ hs)
      intro e s' he
      cases e with
      | normal =>
        obtain ⟨k, hk, hi⟩ := he
        exact rounds_mono hF (fun _ _ h => h) hk (ih k hk s' hi)
      | exit i => exact he
      | goto l => exact he
      | ret => exact he
      | panic ch => exact he
      | outgrown => exact he
  exact ILoop.unroll _ (key n s h0)

/-! ### A law's arguments, one at a time -/
/-- The ghost value of an argument of such a type. -/
def ArgOk (ty : Ty) (g : GV) : Prop := (Ty.isAgg ty = true → ∃ cs, g = .agg cs ∧ WT ty cs) ∧ (Ty.isAgg ty = false → WT ty [g])

theorem read_arg {H : Type} {enc : TypeId × Value → H} {P : Program} {W : World} {sp : Nat → Bool} {held : Bool} {base : Nat} {t : TypeId} {v : Value} {d : DataW H} {p : List MemPlace} (ty : Ty) (hty : tyOk P ty t = true)
    (hv : Value.okWide P W .any base t v) (h : DataW.Trod enc P W 0 sp held t v d p) : ∃ g, ArgOk ty g ∧ VR W (I0 W) (fun _ => none) g v := by
  obtain ⟨fuel, hf⟩ := h
  cases ty with
  | int =>
    have hty' := hty
    simp only [tyOk] at hty'
    split at hty'
    · rename_i hu
      obtain ⟨n, rfl⟩ := Go.WideShapes.okWide_int hu hv
      obtain ⟨n', h1, _, hw⟩ := DataW.trod_int hu hf
      simp [Value.cells] at h1; subst h1
      refine ⟨gi n, ⟨fun h => (by cases h), fun _ => ⟨n, rfl, ?_⟩⟩, .v _ rfl⟩
      have := hw
      simp [Lit.wf] at this
      exact ⟨(show IntKind.i64.min = -9223372036854775808 from rfl) ▸ this.1, this.2⟩
    · cases hty'
  | bool =>
    have hty' := hty
    simp only [tyOk] at hty'
    split at hty'
    · rename_i hu
      obtain ⟨n, rfl⟩ := Go.WideShapes.okWide_bool hu hv
      exact ⟨gb n, ⟨fun h => (by cases h), fun _ => ⟨n, rfl⟩⟩, .v _ rfl⟩
    · cases hty'
  | str =>
    have hty' := hty
    simp only [tyOk] at hty'
    split at hty'
    · rename_i hu
      obtain ⟨n, rfl⟩ := Go.WideShapes.okWide_string hu hv
      exact ⟨.v (.string n), ⟨fun h => (by cases h), fun _ => ⟨n, rfl⟩⟩, .v _ rfl⟩
    · cases hty'
  | list e =>
    have hty' := hty
    simp only [tyOk] at hty'
    split at hty'
    · rename_i te hu
      obtain ⟨a, len, cap, rfl⟩ := Go.WideShapes.okWide_slice hu hv
      obtain ⟨gs, h1, h2, _⟩ := read_ok (.list e) fuel t _ _ hty hf (fun h => (by cases h))
      obtain ⟨xs, rfl, h3⟩ := h1
      exact ⟨_, ⟨fun h => (by cases h), fun _ => ⟨xs, rfl, h3⟩⟩, (h2.2 0 _ _ rfl rfl).1⟩
    · cases hty'
  | agg tys =>
    have hagg : ∃ cs, v = .agg cs ∧ cs.size = P.cellsOf t := by
      have hty' := hty
      simp only [tyOk] at hty'
      unfold Value.okWide at hv
      split at hty'
      · rename_i fs hu
        rw [hu] at hv
        obtain ⟨cs, h1, h2, _⟩ := hv
        exact ⟨cs, h1, h2⟩
      · rename_i n e hu
        rw [hu] at hv
        obtain ⟨cs, h1, h2, _⟩ := hv
        exact ⟨cs, h1, h2⟩
      · cases hty'
    obtain ⟨cs, rfl, hsz⟩ := hagg
    obtain ⟨gs, h1, h2, h3⟩ := read_ok (.agg tys) fuel t cs.toList _ hty hf (fun _ => by simpa using hsz)
    refine ⟨.agg gs, ⟨fun _ => ⟨gs, rfl, h1⟩, fun h => (by cases h)⟩, .agg (by simpa using h2.1.symm) (fun i r hr => h3 r (by simpa using Array.mem_of_getElem? hr)) fun i c r hc hr => (h2.2 i c r hc (by simpa using hr)).1⟩

/-- A law's call, out of its contract. -/
theorem law_calls {P : Program} {f : FuncId} {gs : List GV} {W : World} {vals : Array Value} (h : ICalls P f gs [] (Done (gb true) [])) (hl : vals.size = gs.length)
    (hv : ∀ (i : Nat) (c : GV) (r : Value), gs[i]? = some c → vals[i]? = some r → VR W (I0 W) (fun _ => none) c r) :
    Calls P f vals W (fun e W' => e = .returned (.bool true) ∧ Go.RowKit.Below W.heap.size W W') := by
  unfold ICalls at h
  have hr : HR P W (I0 W) (fun _ => none) (hpL []) :=
    ⟨fun k _ => rfl, fun k cs hk => (by simp [hpL] at hk), fun k e n hk => (by simp [hpL] at hk), fun k e es xs v hk => (by simp [hpL] at hk), fun k hk => (by simp [hpL] at hk), fun b o hi => hi, fun k n o hk => (by cases hk), fun k u e es n b o hk => (by cases hk), fun k u s v b o hk => (by cases hk), fun k k' x x' b hk => (by cases hk)⟩
  refine (h.2 W (I0 W) (fun _ => none) vals hr hl hv).mono ?_
  rintro e W' ⟨v, hs', r, I', T', ⟨rfl, rfl⟩, rfl, hx, hv, _⟩
  cases hv.v_inv
  exact ⟨rfl, hx.os, hx.tape, hx.output, hx.size, fun k hk => hx.frame k hk fun k' x hk' => by cases hk'⟩

end Go.Gh
