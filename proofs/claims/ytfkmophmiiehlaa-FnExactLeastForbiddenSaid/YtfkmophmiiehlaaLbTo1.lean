/- Contracts and lemmas for the statements of this seat, written for this claim; each theorem states its own conditions. -/
import Derived.Test.YtfkmophmiiehlaaLbTn1
set_option linter.unusedVariables false
set_option linter.unusedSimpArgs false
namespace Go.Proofs.Ytfkmophmiiehlaa
open Go.RowKit
theorem lev_ColN {c : Int} {ts : List T4} {cn n : Nat} (hc : c = cn) (hs : isSetB c ts = true) (hn : 1 ≤ n) : ColN cn (lev c ts n) := by
  obtain ⟨_, ⟨c1, c6⟩, _⟩ := isSetB_parts hs
  intro k hk
  obtain ⟨_, _, h3⟩ := lev_codes c1 (isSetB_inC hs) n k hk
  have := h3 hn
  omega
end Go.Proofs.Ytfkmophmiiehlaa
