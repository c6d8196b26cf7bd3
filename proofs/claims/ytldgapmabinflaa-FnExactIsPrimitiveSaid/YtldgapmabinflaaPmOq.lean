/- Contracts and lemmas for the statements of this seat, written for this claim; each theorem states its own conditions. -/
import Derived.Test.YtldgapmabinflaaPmOp
import Derived.Test.YtldgapmabinflaaPmRo
set_option linter.unusedVariables false
set_option linter.unusedSimpArgs false
namespace Go.Proofs.Ytldgapmabinflaa
open Go.RowKit
section
variable {H : Type} {enc : TypeId × Value → H} {w : World} {spare : Nat → Bool} {held : Bool}
theorem cellsSl : Try.prog.cellsOf 40 = 1 := by kernel_rfl
theorem trod_intss {n : Nat} {cs : List Value} {x : DataW H × List MemPlace} (h : DataW.trod enc Try.prog w 0 spare held n 25 cs = some x) :
    ∃ A cap, ∃ L : List (List Int), cs = [.slice A L.length cap] ∧ L.length ≤ 9223372036854775807 ∧ RowsC w A L ∧ Short 9223372036854775807 L := by
  rcases Go.Deep.open_slice1 Try.underlying25 cellsSl h with ⟨rfl, _⟩ | ⟨a, len, cap, m, n, V, D, Pl, rfl, _, hl, hm, hmm, _, hi⟩
  · exact ⟨none, 0, [], rfl, by simp, fun k hk => by simp at hk, fun k hk => by simp at hk⟩
  · have hlm : len ≤ m := by rw [hmm]; split <;> omega
    have hel : ∀ i, i < len → ∃ r : Option Addr × Nat × List Int, w.cell? (a.add i) = some (.slice r.1 r.2.2.length r.2.1) ∧ Cells w r.1 (ints r.2.2) ∧ r.2.2.length ≤ 9223372036854775807 := fun i hil => by
      obtain ⟨hc, ht⟩ := hi i (by omega)
      obtain ⟨A, cap, xs, e, l, C⟩ := trod_ints ht
      simp at e
      exact ⟨⟨A, cap, xs⟩, by rw [hc, e], C, l⟩
    obtain ⟨f, hf⟩ : ∃ f : Nat → Option Addr × Nat × List Int, ∀ i, i < len → w.cell? (a.add i) = some (.slice (f i).1 (f i).2.2.length (f i).2.1) ∧ Cells w (f i).1 (ints (f i).2.2) ∧ (f i).2.2.length ≤ 9223372036854775807 :=
      ⟨fun i => if h : i < len then (hel i h).choose else ⟨none, 0, []⟩, fun i hil => by simp only [dif_pos hil]; exact (hel i hil).choose_spec⟩
    refine ⟨some a, cap, (List.range len).map fun i => (f i).2.2, by simp, by simp [maxLen] at hm; simp; omega, fun k hk => ?_, fun k hk => ?_⟩
    · have hk' : k < len := by simpa using hk
      have hspot : a.spot = none := by
        have h0 := (hf 0 (by omega)).1
        simp only [Addr.add, if_true] at h0
        cases hs : a.spot with
        | none => rfl
        | some s =>
          exfalso
          unfold World.cell? at h0
          split at h0
          · simp [hs] at h0
          · simp at h0
      obtain ⟨b, off, sp⟩ := a
      simp only at hspot
      subst hspot
      obtain ⟨hk2, hk3, _⟩ := hf k hk'
      simp only [add_off] at hk2
      exact ⟨b, off, (f k).1, (f k).2.1, rfl, World.block_lt_of_cell? w _ hk2, by rw [hk2]; simp, by simpa using hk3⟩
    · have hk' : k < len := by simpa using hk
      simpa using (hf k hk').2.2
end

end Go.Proofs.Ytldgapmabinflaa
