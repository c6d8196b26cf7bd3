/- Contracts and lemmas for the statements of this seat, written for this claim; each theorem states its own conditions. -/
import Derived.Test.YtfkmophmiiehlaaKmB
set_option linter.unusedVariables false
set_option linter.unusedSimpArgs false
namespace Go.Proofs.Ytfkmophmiiehlaa
open Go.RowKit
/-- a goal at which the walk stands still -/
def Hold (p : Prop) : Prop := p
theorem Hold.of {p : Prop} (h : Hold p) : p := h
theorem Hold.to {p : Prop} (h : p) : Hold p := h

end Go.Proofs.Ytfkmophmiiehlaa
