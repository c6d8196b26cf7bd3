/- Contracts and lemmas for the statements of this seat, written for this claim; each theorem states its own conditions. -/
import Derived.Laws.BitsLemmas
import Derived.Laws.IdiomCopy
import Derived.Test.YtldgapmabinflaaPmSw
import Derived.Test.YtldgapmabinflaaPmMk
import Derived.Test.YtldgapmabinflaaPmRo
import Derived.Test.YtldgapmabinflaaPmGr
set_option linter.unusedVariables false
set_option linter.unusedSimpArgs false
namespace Go.Proofs.Ytldgapmabinflaa
open Go.RowKit
/-- numbers from an address on, in a block that is not a given one -/
def BegOk (w : World) (o : Option Nat) (b off : Nat) (xs : List Int) : Prop := ∀ j (h : j < xs.length), b < w.heap.size ∧ some b ≠ o ∧ w.cell? ⟨b, off + j, none⟩ = some (.int .i64 xs[j])
def NowOk (w : World) (o : Option Nat) (A : Option Addr) (xs : List Bool) : Prop := ∀ j (h : j < xs.length), ∃ b off, A = some ⟨b, off, none⟩ ∧ b < w.heap.size ∧ some b ≠ o ∧ w.cell? ⟨b, off + j, none⟩ = some (.bool xs[j])
theorem BegOk.grown {w w' : World} {o : Option Nat} {b off : Nat} {xs : List Int} (h : BegOk w o b off xs) (hg : w.grownBy w' o) : BegOk w' o b off xs := fun j hj => by
  obtain ⟨h1, h2, h3⟩ := h j hj
  exact ⟨Nat.lt_of_lt_of_le h1 hg.size, h2, hg.cell h3 h2⟩
theorem NowOk.grown {w w' : World} {o : Option Nat} {A : Option Addr} {xs : List Bool} (h : NowOk w o A xs) (hg : w.grownBy w' o) : NowOk w' o A xs := fun j hj => by
  obtain ⟨b, off, e, h1, h2, h3⟩ := h j hj
  exact ⟨b, off, e, Nat.lt_of_lt_of_le h1 hg.size, h2, hg.cell h3 h2⟩
def OutAt (w : World) (o o' : Option Nat) : Prop := o' = o ∨ ∃ k, o' = some k ∧ w.heap.size ≤ k
theorem BegOk.hop {w w' : World} {o o' : Option Nat} {b off : Nat} {xs : List Int} (h : BegOk w o b off xs) (hg : w.grownBy w' o) (ha : OutAt w o o') : BegOk w' o' b off xs := fun j hj => by
  obtain ⟨h1, h2, h3⟩ := h j hj
  refine ⟨Nat.lt_of_lt_of_le h1 hg.size, ?_, hg.cell h3 h2⟩
  rcases ha with rfl | ⟨k, rfl, hk⟩
  · exact h2
  · intro e; injection e with e; omega
theorem NowOk.hop {w w' : World} {o o' : Option Nat} {A : Option Addr} {xs : List Bool} (h : NowOk w o A xs) (hg : w.grownBy w' o) (ha : OutAt w o o') : NowOk w' o' A xs := fun j hj => by
  obtain ⟨b, off, e, h1, h2, h3⟩ := h j hj
  refine ⟨b, off, e, Nat.lt_of_lt_of_le h1 hg.size, ?_, hg.cell h3 h2⟩
  rcases ha with rfl | ⟨k, rfl, hk⟩
  · exact h2
  · intro e; injection e with e; omega
theorem BegOk.below {w w' : World} {o : Option Nat} {b off : Nat} {xs : List Int} (h : BegOk w o b off xs) (hb : Below w.heap.size w w') : BegOk w' o b off xs := h.grown ⟨hb.os, hb.tape, hb.output, hb.size, fun k hk _ => hb.block k hk⟩
theorem NowOk.below {w w' : World} {o : Option Nat} {A : Option Addr} {xs : List Bool} (h : NowOk w o A xs) (hb : Below w.heap.size w w') : NowOk w' o A xs := h.grown ⟨hb.os, hb.tape, hb.output, hb.size, fun k hk _ => hb.block k hk⟩
end Go.Proofs.Ytldgapmabinflaa
