/- Contracts and lemmas for the statements of this seat, written for this claim; each theorem states its own conditions. -/
import Derived.ProofKit
import Derived.OpenShut
import Derived.ShutString
import Derived.ChangeOld
import Derived.Below
import Derived.SizedLaws
import Derived.Deep.Slices
import Derived.Deep.Fields
import Derived.ChangeSame
import Derived.Lib.SmallJoins
import Derived.Laws.IdiomArrays
import Derived.Carry
import Derived.Test.YtkoocppchclalaaIv2B
set_option linter.unusedVariables false
set_option linter.unusedSimpArgs false
namespace Go.Proofs.Ytkoocppchclalaa
open Go.RowKit
theorem laidB : laidOutB Try.prog = true := by kernel_rfl
theorem ownKnobF : ownKnob Try.prog.godebug = none := by kernel_rfl
theorem cellsInt : Try.prog.cellsOf 2 = 1 := by kernel_rfl
section
variable {H : Type} {enc : TypeId × Value → H} {w : World} {spare : Nat → Bool} {held : Bool}
theorem trod_ints {n : Nat} {cs : List Value} {x : DataW H × List MemPlace} (h : DataW.trod enc Try.prog w 0 spare held n 22 cs = some x) :
    ∃ A cap, ∃ xs : List Int, cs = [.slice A xs.length cap] ∧ xs.length ≤ 9223372036854775807 ∧ Cells w A (ints xs) := by
  rcases Go.Deep.open_slice1 Try.underlying22 cellsInt h with ⟨rfl, _⟩ | ⟨a, len, cap, m, n, V, D, Pl, rfl, _, hl, hm, hmm, _, hi⟩
  · exact ⟨none, 0, [], rfl, by simp, fun k hk => by simp [ints] at hk⟩
  · have hlm : len ≤ m := by rw [hmm]; split <;> omega
    have hel : ∀ i, i < len → ∃ z : Int, w.cell? (a.add i) = some (.int .i64 z) := fun i hil => by
      obtain ⟨hc, ht⟩ := hi i (by omega)
      obtain ⟨z, hz, _⟩ := DataW.trod_int Try.underlying2 ht
      simp at hz
      exact ⟨z, by rw [hc, hz]⟩
    obtain ⟨f, hf⟩ : ∃ f : Nat → Int, ∀ i, i < len → w.cell? (a.add i) = some (.int .i64 (f i)) :=
      ⟨fun i => if h : i < len then (hel i h).choose else 0, fun i hil => by simp only [dif_pos hil]; exact (hel i hil).choose_spec⟩
    refine ⟨some a, cap, (List.range len).map f, by simp, by simp [maxLen] at hm; simp; omega, fun k hk => ?_⟩
    have hk' : k < len := by simpa [ints] using hk
    have hspot : a.spot = none := by
      have h0 := hf 0 (by omega)
      simp only [Addr.add, if_true] at h0
      cases hs : a.spot with
      | none => rfl
      | some s =>
        exfalso
        unfold World.cell? at h0
        split at h0
        · simp [hs] at h0
        · simp at h0
    obtain ⟨b, off, sp⟩ := a
    simp only at hspot
    subst hspot
    have hk2 := hf k hk'
    simp only [add_off] at hk2
    exact ⟨b, off, rfl, by rw [hk2]; simp [ints]⟩
end

end Go.Proofs.Ytkoocppchclalaa
