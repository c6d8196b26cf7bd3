/- Contracts and lemmas for the statements of this seat, written for this claim; each theorem states its own conditions. -/
import Derived.Test.YtpcooplalncdcaaWfRo
import Derived.Test.YtpcooplalncdcaaWfBa
import Derived.Test.YtpcooplalncdcaaWfAp
set_option linter.unusedVariables false
set_option linter.unusedSimpArgs false
namespace Go.Proofs.Ytpcooplalncdcaa
open Go.RowKit
def rowOk (n : Nat) (row : List Int) : Bool := row.length == 4 && row.all (inR 0 ((n : Int) - 1))
def areBlocksB (n : Nat) (L : List (List Int)) : Bool := L.all (rowOk n) && L.length == n
theorem areBlocksB_bad {n : Nat} {L : List (List Int)} {k : Nat} (hk : k < L.length) (h : rowOk n L[k] = false) : areBlocksB n L = false := by
  unfold areBlocksB
  have : L.all (rowOk n) = false := by
    rw [List.all_eq_false]
    exact ⟨L[k], List.getElem_mem hk, by simp [h]⟩
  simp [this]
theorem areBlocksB_all {n : Nat} {L : List (List Int)} (h : ∀ j (hj : j < L.length), rowOk n L[j] = true) : areBlocksB n L = (L.length == n) := by
  unfold areBlocksB
  have : L.all (rowOk n) = true := by
    rw [List.all_eq_true]
    intro x hx
    obtain ⟨j, hj, rfl⟩ := List.getElem_of_mem hx
    exact h j hj
  simp [this]
/-- blocks: as many as tiles, each of four numbers of tiles -/
def Blocks (n : Nat) (L : List (List Int)) : Prop := L.length = n ∧ ∀ k (h : k < L.length), ∃ hl : L[k].length = 4, ∀ j (hj : j < L[k].length), 0 ≤ L[k][j] ∧ L[k][j] < n
theorem areBlocksB_iff {n : Nat} {L : List (List Int)} (h : areBlocksB n L = true) : Blocks n L := by
  unfold areBlocksB at h
  rw [Bool.and_eq_true, List.all_eq_true] at h
  refine ⟨by simpa using h.2, fun k hk => ?_⟩
  have h1 := h.1 _ (List.getElem_mem hk)
  unfold rowOk at h1
  rw [Bool.and_eq_true, List.all_eq_true] at h1
  refine ⟨by simpa using h1.1, fun j hj => ?_⟩
  have h2 := h1.2 _ (List.getElem_mem hj)
  rw [inR_iff] at h2
  omega
end Go.Proofs.Ytpcooplalncdcaa
