/- Contracts and lemmas for the statements of this seat, written for this claim; each theorem states its own conditions. -/
import Derived.ProofKit
import Derived.OpenShut
import Derived.ShutString
import Derived.ChangeOld
import Derived.Below
import Derived.SizedLaws
import Derived.Deep.Slices
import Derived.Deep.Fields
import Derived.ChangeSame
import Derived.Lib.SmallJoins
import Derived.Laws.IdiomArrays
import Derived.Carry
import Derived.BigQuiet
import Derived.Laws.BitsLemmas
import Derived.Test.YtfkmophmiiehlaaVpB
import Derived.Test.YtfkmophmiiehlaaVpRo
import Derived.Test.YtfkmophmiiehlaaVpLi
set_option linter.unusedVariables false
set_option linter.unusedSimpArgs false
namespace Go.Proofs.Ytfkmophmiiehlaa
open Go.RowKit
theorem laidB : laidOutB Try.prog = true := by kernel_rfl
theorem ownKnobF : ownKnob Try.prog.godebug = none := by kernel_rfl
theorem cellsInt : Try.prog.cellsOf 2 = 1 := by kernel_rfl
section
variable {H : Type} {enc : TypeId × Value → H} {w : World} {spare : Nat → Bool} {held : Bool}
theorem cellsArr4 : Try.prog.cellsOf 54 = 4 := by kernel_rfl
set_option maxRecDepth 100000 in
/-- four numbers, out of the reading of an array -/
theorem trod_arr4 {n : Nat} {cs : List Value} {x : DataW H × List MemPlace} (h : DataW.trod enc Try.prog w 0 spare held n 54 cs = some x) :
    ∃ t : T4, cs = [.int .i64 t.a, .int .i64 t.b, .int .i64 t.c, .int .i64 t.d] := by
  obtain ⟨xs, m, _, _, hl, hxl, hg⟩ := DataW.trod_array Try.underlying54 h
  rw [cellsArr4] at hl
  have g := fun (i : Nat) (hi : i < 4) => hg i hi
  simp only [cellsInt, Nat.mul_one] at g
  match cs, hl with
  | [c0, c1, c2, c3], _ =>
    have e : ∀ i, i < 4 → ∃ z, xs[i]? = some z := fun i hi => ⟨xs[i]'(by omega), List.getElem?_eq_getElem (by omega)⟩
    obtain ⟨z0, e0⟩ := e 0 (by omega)
    obtain ⟨z1, e1⟩ := e 1 (by omega)
    obtain ⟨z2, e2⟩ := e 2 (by omega)
    obtain ⟨z3, e3⟩ := e 3 (by omega)
    obtain ⟨n0, h0, _⟩ := DataW.trod_int Try.underlying2 ((g 0 (by omega)).trans e0)
    obtain ⟨n1, h1, _⟩ := DataW.trod_int Try.underlying2 ((g 1 (by omega)).trans e1)
    obtain ⟨n2, h2, _⟩ := DataW.trod_int Try.underlying2 ((g 2 (by omega)).trans e2)
    obtain ⟨n3, h3, _⟩ := DataW.trod_int Try.underlying2 ((g 3 (by omega)).trans e3)
    simp at h0 h1 h2 h3
    exact ⟨⟨n0, n1, n2, n3⟩, by simp [h0, h1, h2, h3]⟩
/-- a list of tiles, out of the reading of a slice of arrays -/
theorem trod_tiles {n : Nat} {cs : List Value} {x : DataW H × List MemPlace} (h : DataW.trod enc Try.prog w 0 spare held n 22 cs = some x) :
    ∃ A cap, ∃ ts : List T4, cs = [.slice A ts.length cap] ∧ ts.length ≤ cap ∧ cap ≤ 9223372036854775807 ∧ TileCells w A ts := by
  rcases Go.Deep.open_slice Try.underlying22 h with ⟨rfl, _⟩ | ⟨a, len, cap, m, n, D, Pl, rfl, _, hl, hm, hmm, _, hi⟩
  · exact ⟨none, 0, [], rfl, by simp, by omega, fun k hk => by simp at hk⟩
  · have hlm : len ≤ m := by rw [hmm]; split <;> omega
    have hel : ∀ i, i < len → ∃ t : T4, ∀ j, j < 4 → w.cell? ((a.add (i * 4)).add j) = [Value.int .i64 t.a, .int .i64 t.b, .int .i64 t.c, .int .i64 t.d][j]? := fun i hil => by
      obtain ⟨cs', hc, ht⟩ := hi i (by omega)
      rw [cellsArr4] at hc
      obtain ⟨_, hlen, hat⟩ := World.cells?_some hc
      obtain ⟨t, rfl⟩ := trod_arr4 ht
      exact ⟨t, hat⟩
    have hsel : ∃ f : Nat → T4, ∀ i, i < len → ∀ j, j < 4 → w.cell? ((a.add (i * 4)).add j) = [Value.int .i64 (f i).a, .int .i64 (f i).b, .int .i64 (f i).c, .int .i64 (f i).d][j]? :=
      ⟨fun i => if h : i < len then (hel i h).choose else default, fun i hil => by simp only [dif_pos hil]; exact (hel i hil).choose_spec⟩
    obtain ⟨f, hf⟩ := hsel
    refine ⟨some a, cap, (List.range len).map f, by simp, by simpa using hl, by simpa [maxLen] using hm, fun k hk => ?_⟩
    have hk' : k < len := by simpa using hk
    have hspot : a.spot = none := by
      have h0 := hf 0 (by omega) 0 (by omega)
      simp only [Nat.zero_mul, Addr.add, if_true] at h0
      cases hs : a.spot with
      | none => rfl
      | some s =>
        exfalso
        unfold World.cell? at h0
        split at h0
        · simp [hs] at h0
        · simp at h0
    obtain ⟨b, off, sp⟩ := a
    simp only at hspot
    subst hspot
    have hk2 := hf k hk'
    simp only [add_off] at hk2
    have c0 := hk2 0 (by omega)
    have c1 := hk2 1 (by omega)
    have c2 := hk2 2 (by omega)
    have c3 := hk2 3 (by omega)
    simp only [Nat.add_zero, List.getElem?_cons_zero, List.getElem?_cons_succ] at c0 c1 c2 c3
    refine ⟨b, off, rfl, World.block_lt_of_cell? w _ c0, ?_, ?_, ?_, ?_⟩ <;> simp only [List.getElem_map, List.getElem_range] <;> assumption
set_option maxRecDepth 100000 in
theorem trod_lset {n : Nat} {cs : List Value} {x : DataW H × List MemPlace} (h : DataW.trod enc Try.prog w 0 spare held n 24 cs = some x) :
    ∃ c A cap, ∃ ts : List T4, cs = [.int .i64 c, .slice A ts.length cap] ∧ (Lit.int .i64 c).wf = true ∧ ts.length ≤ 9223372036854775807 ∧ TileCells w A ts := by
  obtain ⟨xs, m, _, _, hl, hxl, hg⟩ := DataW.trod_struct Try.underlying24 h
  have hC : Try.prog.cellsOf 24 = 2 := by kernel_rfl
  have hC2 : Try.prog.cellsOf 22 = 1 := by kernel_rfl
  rw [hC] at hl
  match cs, hl with
  | [c0, c1], _ =>
    have g0 := hg 0 _ rfl
    have g1 := hg 1 _ rfl
    have hx : xs.length = 2 := by simpa using hxl
    rw [List.getElem?_eq_getElem (by omega)] at g0 g1
    simp [cellsInt] at g0
    simp [hC2] at g1
    obtain ⟨n0, h0, _, hw⟩ := DataW.trod_int Try.underlying2 g0
    obtain ⟨A, cap, ts, h1, hl, hm, hT⟩ := trod_tiles g1
    simp at h0 h1
    exact ⟨n0, A, cap, ts, by simp [h0, h1], hw, by omega, hT⟩
end
section
variable {H : Type} {enc : TypeId × Value → H} {w : World} {spare : Nat → Bool} {held : Bool}
theorem trod_ints {n : Nat} {cs : List Value} {x : DataW H × List MemPlace} (h : DataW.trod enc Try.prog w 0 spare held n 63 cs = some x) :
    ∃ A cap, ∃ xs : List Int, cs = [.slice A xs.length cap] ∧ xs.length ≤ 9223372036854775807 ∧ Cells w A (ints xs) := by
  rcases Go.Deep.open_slice1 Try.underlying63 cellsInt h with ⟨rfl, _⟩ | ⟨a, len, cap, m, n, V, D, Pl, rfl, _, hl, hm, hmm, _, hi⟩
  · exact ⟨none, 0, [], rfl, by simp, fun k hk => by simp [ints] at hk⟩
  · have hlm : len ≤ m := by rw [hmm]; split <;> omega
    have hel : ∀ i, i < len → ∃ z : Int, w.cell? (a.add i) = some (.int .i64 z) := fun i hil => by
      obtain ⟨hc, ht⟩ := hi i (by omega)
      obtain ⟨z, hz, _⟩ := DataW.trod_int Try.underlying2 ht
      simp at hz
      exact ⟨z, by rw [hc, hz]⟩
    obtain ⟨f, hf⟩ : ∃ f : Nat → Int, ∀ i, i < len → w.cell? (a.add i) = some (.int .i64 (f i)) :=
      ⟨fun i => if h : i < len then (hel i h).choose else 0, fun i hil => by simp only [dif_pos hil]; exact (hel i hil).choose_spec⟩
    refine ⟨some a, cap, (List.range len).map f, by simp, by simp [maxLen] at hm; simp; omega, fun k hk => ?_⟩
    have hk' : k < len := by simpa [ints] using hk
    have hspot : a.spot = none := by
      have h0 := hf 0 (by omega)
      simp only [Addr.add, if_true] at h0
      cases hs : a.spot with
      | none => rfl
      | some s =>
        exfalso
        unfold World.cell? at h0
        split at h0
        · simp [hs] at h0
        · simp at h0
    obtain ⟨b, off, sp⟩ := a
    simp only at hspot
    subst hspot
    have hk2 := hf k hk'
    simp only [add_off] at hk2
    exact ⟨b, off, rfl, by rw [hk2]; simp [ints]⟩
end

end Go.Proofs.Ytfkmophmiiehlaa
namespace Go.Proofs.Ytfkmophmiiehlaa
open Go.RowKit
section
variable {H : Type} {enc : TypeId × Value → H} {w : World} {spare : Nat → Bool} {held : Bool}
theorem cellsSl : Try.prog.cellsOf 63 = 1 := by kernel_rfl
theorem trod_intss {n : Nat} {cs : List Value} {x : DataW H × List MemPlace} (h : DataW.trod enc Try.prog w 0 spare held n 26 cs = some x) :
    ∃ A cap, ∃ L : List (List Int), cs = [.slice A L.length cap] ∧ L.length ≤ 9223372036854775807 ∧ RowsC w A L ∧ Short 9223372036854775807 L := by
  rcases Go.Deep.open_slice1 Try.underlying26 cellsSl h with ⟨rfl, _⟩ | ⟨a, len, cap, m, n, V, D, Pl, rfl, _, hl, hm, hmm, _, hi⟩
  · exact ⟨none, 0, [], rfl, by simp, fun k hk => by simp at hk, fun k hk => by simp at hk⟩
  · have hlm : len ≤ m := by rw [hmm]; split <;> omega
    have hel : ∀ i, i < len → ∃ r : Option Addr × Nat × List Int, w.cell? (a.add i) = some (.slice r.1 r.2.2.length r.2.1) ∧ Cells w r.1 (ints r.2.2) ∧ r.2.2.length ≤ 9223372036854775807 := fun i hil => by
      obtain ⟨hc, ht⟩ := hi i (by omega)
      obtain ⟨A, cap, xs, e, l, C⟩ := trod_ints ht
      simp at e
      exact ⟨⟨A, cap, xs⟩, by rw [hc, e], C, l⟩
    obtain ⟨f, hf⟩ : ∃ f : Nat → Option Addr × Nat × List Int, ∀ i, i < len → w.cell? (a.add i) = some (.slice (f i).1 (f i).2.2.length (f i).2.1) ∧ Cells w (f i).1 (ints (f i).2.2) ∧ (f i).2.2.length ≤ 9223372036854775807 :=
      ⟨fun i => if h : i < len then (hel i h).choose else ⟨none, 0, []⟩, fun i hil => by simp only [dif_pos hil]; exact (hel i hil).choose_spec⟩
    refine ⟨some a, cap, (List.range len).map fun i => (f i).2.2, by simp, by simp [maxLen] at hm; simp; omega, fun k hk => ?_, fun k hk => ?_⟩
    · have hk' : k < len := by simpa using hk
      have hspot : a.spot = none := by
        have h0 := (hf 0 (by omega)).1
        simp only [Addr.add, if_true] at h0
        cases hs : a.spot with
        | none => rfl
        | some s =>
          exfalso
          unfold World.cell? at h0
          split at h0
          · simp [hs] at h0
          · simp at h0
      obtain ⟨b, off, sp⟩ := a
      simp only at hspot
      subst hspot
      obtain ⟨hk2, hk3, _⟩ := hf k hk'
      simp only [add_off] at hk2
      exact ⟨b, off, (f k).1, (f k).2.1, rfl, World.block_lt_of_cell? w _ hk2, by rw [hk2]; simp, by simpa using hk3⟩
    · have hk' : k < len := by simpa using hk
      simpa using (hf k hk').2.2
end

end Go.Proofs.Ytfkmophmiiehlaa
namespace Go.Proofs.Ytfkmophmiiehlaa
open Go.RowKit
/-- a slice of bytes reads as a list -/
def BytesC (w : World) (A : Option Addr) (xs : List Int) : Prop :=
  ∀ j (h : j < xs.length), ∃ b off, A = some ⟨b, off, none⟩ ∧ w.cell? ⟨b, off + j, none⟩ = some (.int .u8 xs[j])
theorem BytesC.below {w w1 : World} {A : Option Addr} {xs : List Int} (h : BytesC w A xs) (hb : Below w.heap.size w w1) : BytesC w1 A xs := by
  intro j hj
  obtain ⟨b, off, hA, hc⟩ := h j hj
  exact ⟨b, off, hA, (hb.cell (p := ⟨b, _, none⟩) (World.block_lt_of_cell? w _ hc)).trans hc⟩
def BytesOk (xs : List Int) : Prop := xs.length ≤ 4096 ∧ ∀ x ∈ xs, 0 ≤ x ∧ x < 256
theorem BytesOk.at {xs : List Int} (h : BytesOk xs) (j : Nat) (hj : j < xs.length) : 0 ≤ xs[j] ∧ xs[j] < 256 := h.2 _ (List.getElem_mem hj)
end Go.Proofs.Ytfkmophmiiehlaa
