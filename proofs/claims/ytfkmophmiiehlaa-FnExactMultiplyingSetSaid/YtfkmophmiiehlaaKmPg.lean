/- Contracts and lemmas for the statements of this seat, written for this claim; each theorem states its own conditions. -/
import Derived.Test.YtfkmophmiiehlaaKmB
set_option linter.unusedVariables false
set_option linter.unusedSimpArgs false
namespace Go.Proofs.Ytfkmophmiiehlaa
open Go.RowKit
theorem pigeon : ∀ (N : Nat) (f : Nat → Int) (m : Nat), (∀ a, a < m → 0 ≤ f a ∧ f a < N) → (∀ a b, a < b → b < m → f a ≠ f b) → m ≤ N
  | 0, f, m, h, _ => by
    rcases Nat.eq_zero_or_pos m with h0 | h0
    · omega
    · have := h 0 h0; omega
  | N + 1, f, m, h, hd => by
    by_cases hx : ∃ a, a < m ∧ f a = N
    · obtain ⟨a0, ha0, e0⟩ := hx
      have h2 : m - 1 ≤ N := by
        refine pigeon N (fun a => if a < a0 then f a else f (a + 1)) (m - 1) (fun a ha => ?_) (fun a b hab hb => ?_)
        · show 0 ≤ (if a < a0 then f a else f (a + 1)) ∧ (if a < a0 then f a else f (a + 1)) < (N : Int)
          split
          · rename_i hh
            have h1 := h a (by omega)
            have h3 := hd a a0 hh ha0
            omega
          · rename_i hh
            have h1 := h (a + 1) (by omega)
            have h3 := hd a0 (a + 1) (by omega) (by omega)
            omega
        · show (if a < a0 then f a else f (a + 1)) ≠ (if b < a0 then f b else f (b + 1))
          split <;> split
          · exact hd a b hab (by omega)
          · exact hd a (b + 1) (by omega) (by omega)
          · omega
          · exact hd (a + 1) (b + 1) (by omega) (by omega)
      omega
    · have : m ≤ N := by
        refine pigeon N f m (fun a ha => ?_) hd
        have h1 := h a ha
        have h2 : f a ≠ N := fun e => hx ⟨a, ha, e⟩
        omega
      omega

end Go.Proofs.Ytfkmophmiiehlaa
