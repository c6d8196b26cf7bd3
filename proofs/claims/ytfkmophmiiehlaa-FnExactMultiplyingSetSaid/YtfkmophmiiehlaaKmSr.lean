/- Contracts and lemmas for the statements of this seat, written for this claim; each theorem states its own conditions. -/
import Derived.BigQuiet
import Derived.Laws.BitsLemmas
import Derived.Test.YtfkmophmiiehlaaKmLi
set_option linter.unusedVariables false
set_option linter.unusedSimpArgs false
namespace Go.Proofs.Ytfkmophmiiehlaa
open Go.RowKit
/-- a slice of bytes reads as a list -/
def BytesC (w : World) (A : Option Addr) (xs : List Int) : Prop :=
  ∀ j (h : j < xs.length), ∃ b off, A = some ⟨b, off, none⟩ ∧ w.cell? ⟨b, off + j, none⟩ = some (.int .u8 xs[j])
theorem BytesC.below {w w1 : World} {A : Option Addr} {xs : List Int} (h : BytesC w A xs) (hb : Below w.heap.size w w1) : BytesC w1 A xs := by
  intro j hj
  obtain ⟨b, off, hA, hc⟩ := h j hj
  exact ⟨b, off, hA, (hb.cell (p := ⟨b, _, none⟩) (World.block_lt_of_cell? w _ hc)).trans hc⟩
def BytesOk (xs : List Int) : Prop := xs.length ≤ 4096 ∧ ∀ x ∈ xs, 0 ≤ x ∧ x < 256
theorem BytesOk.at {xs : List Int} (h : BytesOk xs) (j : Nat) (hj : j < xs.length) : 0 ≤ xs[j] ∧ xs[j] < 256 := h.2 _ (List.getElem_mem hj)
end Go.Proofs.Ytfkmophmiiehlaa
