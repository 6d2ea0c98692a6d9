/- Contracts of functions, bundle H5; proved for whatever the arguments' types allow, as each theorem says. -/
import Derived.Test.YtoofplbjpkgdgaaH4

/- The reference's run of minutes.  -/
set_option linter.unusedVariables false
set_option linter.unusedSimpArgs false
namespace Go.Hl
open Go.Gh Go.Proofs

def al13 : Meter := ⟨300, 270, false, 0, 30, 270, 0, false, 0, 30, false, 270, 0, 270⟩
theorem runM_cons (b : Book) (k : Int) (r : List Int) (m : Meter) (bits : Int) : runM b (k :: r) m bits = if k < 0 ∨ 4 ≤ k then (Meter.zero, 0, 2) else if m.Now = 40320 then (Meter.zero, 0, 4) else runM b r (m.step b k) (stepBits b m k bits) := rfl
theorem runM_ok (b : Book) : ∀ (ks : List Int) (m : Meter) (n : Nat), m.May → n < 1024 → (runM b ks m n).2.2 = 0 → (runM b ks m n).1.May ∧ (∃ q : Nat, q < 1024 ∧ (runM b ks m n).2.1 = q) ∧ ∀ (ks2 : List Int), (∀ q : Nat, (runM b ks m n).2.1 = q → runM b (ks ++ ks2) m n = runM b ks2 (runM b ks m n).1 q)
  | [], m, n, hm, hn, h => ⟨hm, ⟨n, hn, rfl⟩, fun ks2 q hq => by simp only [runM] at hq ⊢; rw [List.nil_append, hq]⟩
  | k :: r, m, n, hm, hn, h => by
    rw [runM_cons] at h ⊢
    split at h
    · cases h
    · rename_i h1
      rw [if_neg h1]
      split at h
      · cases h
      · rename_i h2
        rw [if_neg h2]
        rw [stepBits_or b m k n hn] at *
        obtain ⟨g1, g2, g3⟩ := runM_ok b r _ _ (hm.step (by have := hm.now; omega) k).1 (Nat.or_lt_two_pow (n := 10) hn (stepN_lt b m k)) h
        refine ⟨g1, g2, fun ks2 q hq => ?_⟩
        have := g3 ks2 q hq
        rw [List.cons_append, runM_cons, if_neg h1, if_neg h2, stepBits_or b m k n hn]
        exact this
end Go.Hl
