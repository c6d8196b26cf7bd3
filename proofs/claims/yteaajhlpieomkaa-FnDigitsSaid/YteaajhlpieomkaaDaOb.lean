/- Contracts and lemmas for the statements of this seat, written for this claim; each theorem states its own conditions. -/
import Derived.Test.YteaajhlpieomkaaDaOp
import Derived.Test.YteaajhlpieomkaaDaSr
set_option linter.unusedVariables false
set_option linter.unusedSimpArgs false
namespace Go.Proofs.Yteaajhlpieomkaa
open Go.RowKit
theorem cellsU8 : Try.prog.cellsOf 5 = 1 := by kernel_rfl
theorem u8_wf {z : Int} (h : (Lit.int .u8 z).wf = true) : 0 ≤ z ∧ z < 256 := by
  simp [Lit.wf, IntKind.min, IntKind.max, IntKind.wrap, IntKind.bits, IntKind.signed] at h
  omega
section
variable {H : Type} {enc : TypeId × Value → H} {w : World} {spare : Nat → Bool} {held : Bool}
theorem trod_bytes {n : Nat} {cs : List Value} {x : DataW H × List MemPlace} (h : DataW.trod enc Try.prog w 0 spare held n 22 cs = some x) :
    ∃ A cap, ∃ xs : List Int, cs = [.slice A xs.length cap] ∧ xs.length ≤ 9223372036854775807 ∧ BytesC w A xs ∧ ∀ x ∈ xs, 0 ≤ x ∧ x < 256 := by
  rcases Go.Deep.open_slice1 Try.underlying22 cellsU8 h with ⟨rfl, _⟩ | ⟨a, len, cap, m, n, V, D, Pl, rfl, _, hl, hm, hmm, _, hi⟩
  · exact ⟨none, 0, [], rfl, by simp, fun k hk => by simp at hk, by simp⟩
  · have hlm : len ≤ m := by rw [hmm]; split <;> omega
    have hel : ∀ i, i < len → ∃ z : Int, w.cell? (a.add i) = some (.int .u8 z) ∧ 0 ≤ z ∧ z < 256 := fun i hil => by
      obtain ⟨hc, ht⟩ := hi i (by omega)
      obtain ⟨z, hz, _, hwf⟩ := DataW.trod_int Try.underlying5 ht
      simp at hz
      exact ⟨z, by rw [hc, hz], u8_wf hwf⟩
    obtain ⟨f, hf⟩ : ∃ f : Nat → Int, ∀ i, i < len → w.cell? (a.add i) = some (.int .u8 (f i)) ∧ 0 ≤ f i ∧ f i < 256 :=
      ⟨fun i => if h : i < len then (hel i h).choose else 0, fun i hil => by simp only [dif_pos hil]; exact (hel i hil).choose_spec⟩
    refine ⟨some a, cap, (List.range len).map f, by simp, by simp [maxLen] at hm; simp; omega, fun k hk => ?_, fun x hx => ?_⟩
    rotate_left
    · simp only [List.mem_map, List.mem_range] at hx
      obtain ⟨k, hk, rfl⟩ := hx
      exact (hf k hk).2
    have hk' : k < len := by simpa using hk
    have hspot : a.spot = none := by
      have h0 := (hf 0 (by omega)).1
      simp only [Addr.add, if_true] at h0
      cases hs : a.spot with
      | none => rfl
      | some s =>
        exfalso
        unfold World.cell? at h0
        split at h0
        · simp [hs] at h0
        · simp at h0
    obtain ⟨b, off, sp⟩ := a
    simp only at hspot
    subst hspot
    have hk2 := (hf k hk').1
    simp only [add_off] at hk2
    exact ⟨b, off, rfl, by rw [hk2]; simp⟩
end

end Go.Proofs.Yteaajhlpieomkaa
