/- Contracts and lemmas for the statements of this seat, written for this claim; each theorem states its own conditions. -/
import Derived.Test.YtfkmophmiiehlaaKbM4
import Derived.Test.YtfkmophmiiehlaaKbOp
import Derived.Test.YtfkmophmiiehlaaKbBa
set_option linter.unusedVariables false
set_option linter.unusedSimpArgs false
namespace Go.Proofs.Ytfkmophmiiehlaa
open Go.RowKit
section
variable {H : Type} {enc : TypeId × Value → H} {w : World} {spare : Nat → Bool} {held : Bool}
theorem trod_tileS {n : Nat} {cs : List Value} {x : DataW H × List MemPlace} (h : DataW.trod enc Try.prog w 0 spare held n 22 cs = some x) :
    ∃ A cap, ∃ ts : List T4, cs = [.slice A ts.length cap] ∧ ts.length ≤ 9223372036854775807 ∧ TileCells w A ts := by
  obtain ⟨A, cap, ts, e, h1, h2, h3⟩ := trod_tiles h
  exact ⟨A, cap, ts, e, by omega, h3⟩
theorem cellsLP : Try.prog.cellsOf 138 = 2 := by kernel_rfl
theorem cellsLPs : Try.prog.cellsOf 84 = 1 := by kernel_rfl
set_option maxRecDepth 100000 in
theorem trod_pl1 {n : Nat} {cs : List Value} {x : DataW H × List MemPlace} (h : DataW.trod enc Try.prog w 0 spare held n 138 cs = some x) :
    ∃ t : P2, cs = [.int .i64 t.t, .int .i64 t.n] := by
  obtain ⟨xs, m, _, _, hl, hxl, hg⟩ := DataW.trod_struct Try.underlying138 h
  rw [cellsLP] at hl
  match cs, hl with
  | [c0, c1], _ =>
    have g0 := hg 0 _ rfl
    have g1 := hg 1 _ rfl
    have hx : xs.length = 2 := by simpa using hxl
    rw [List.getElem?_eq_getElem (by omega)] at g0 g1
    simp [cellsInt] at g0 g1
    obtain ⟨n0, h0, _, _⟩ := DataW.trod_int Try.underlying2 g0
    obtain ⟨n1, h1, _, _⟩ := DataW.trod_int Try.underlying2 g1
    simp at h0 h1
    exact ⟨⟨n0, n1⟩, by simp [h0, h1]⟩
theorem trod_pls {n : Nat} {cs : List Value} {x : DataW H × List MemPlace} (h : DataW.trod enc Try.prog w 0 spare held n 84 cs = some x) :
    ∃ A cap, ∃ ts : List P2, cs = [.slice A ts.length cap] ∧ ts.length ≤ 9223372036854775807 ∧ PCells w A ts := by
  rcases Go.Deep.open_slice Try.underlying84 h with ⟨rfl, _⟩ | ⟨a, len, cap, m, n, D, Pl, rfl, _, hl, hm, hmm, _, hi⟩
  · exact ⟨none, 0, [], rfl, by simp, fun k hk => by simp at hk⟩
  · have hlm : len ≤ m := by rw [hmm]; split <;> omega
    have hel : ∀ i, i < len → ∃ t : P2, ∀ j, j < 2 → w.cell? ((a.add (i * 2)).add j) = [Value.int .i64 t.t, .int .i64 t.n][j]? := fun i hil => by
      obtain ⟨cs', hc, ht⟩ := hi i (by omega)
      rw [cellsLP] at hc
      obtain ⟨_, hlen, hat⟩ := World.cells?_some hc
      obtain ⟨t, rfl⟩ := trod_pl1 ht
      exact ⟨t, hat⟩
    have hsel : ∃ f : Nat → P2, ∀ i, i < len → ∀ j, j < 2 → w.cell? ((a.add (i * 2)).add j) = [Value.int .i64 (f i).t, .int .i64 (f i).n][j]? :=
      ⟨fun i => if h : i < len then (hel i h).choose else default, fun i hil => by simp only [dif_pos hil]; exact (hel i hil).choose_spec⟩
    obtain ⟨f, hf⟩ := hsel
    refine ⟨some a, cap, (List.range len).map f, by simp, by simp [maxLen] at hm; simp; omega, fun k hk => ?_⟩
    have hk' : k < len := by simpa using hk
    have hspot : a.spot = none := by
      have h0 := hf 0 (by omega) 0 (by omega)
      simp only [Nat.zero_mul, Addr.add, if_true] at h0
      cases hs : a.spot with
      | none => rfl
      | some s =>
        exfalso
        unfold World.cell? at h0
        split at h0
        · simp [hs] at h0
        · simp at h0
    obtain ⟨b, off, sp⟩ := a
    simp only at hspot
    subst hspot
    have hk2 := hf k hk'
    simp only [add_off] at hk2
    have c0 := hk2 0 (by omega)
    have c1 := hk2 1 (by omega)
    simp only [Nat.add_zero, List.getElem?_cons_zero, List.getElem?_cons_succ] at c0 c1
    refine ⟨b, off, rfl, World.block_lt_of_cell? w _ c0, ?_, ?_⟩ <;> simp only [List.getElem_map, List.getElem_range] <;> assumption
theorem trod_plss {n : Nat} {cs : List Value} {x : DataW H × List MemPlace} (h : DataW.trod enc Try.prog w 0 spare held n 38 cs = some x) :
    ∃ A cap, ∃ L : List (List P2), cs = [.slice A L.length cap] ∧ L.length ≤ 9223372036854775807 ∧ RowsP w A L ∧ ShortP 9223372036854775807 L := by
  rcases Go.Deep.open_slice1 Try.underlying38 cellsLPs h with ⟨rfl, _⟩ | ⟨a, len, cap, m, n, V, D, Pl, rfl, _, hl, hm, hmm, _, hi⟩
  · exact ⟨none, 0, [], rfl, by simp, fun k hk => by simp at hk, fun k hk => by simp at hk⟩
  · have hlm : len ≤ m := by rw [hmm]; split <;> omega
    have hel : ∀ i, i < len → ∃ r : Option Addr × Nat × List P2, w.cell? (a.add i) = some (.slice r.1 r.2.2.length r.2.1) ∧ PCells w r.1 r.2.2 ∧ r.2.2.length ≤ 9223372036854775807 := fun i hil => by
      obtain ⟨hc, ht⟩ := hi i (by omega)
      obtain ⟨A, cap, xs, e, l, C⟩ := trod_pls ht
      simp at e
      exact ⟨⟨A, cap, xs⟩, by rw [hc, e], C, l⟩
    obtain ⟨f, hf⟩ : ∃ f : Nat → Option Addr × Nat × List P2, ∀ i, i < len → w.cell? (a.add i) = some (.slice (f i).1 (f i).2.2.length (f i).2.1) ∧ PCells w (f i).1 (f i).2.2 ∧ (f i).2.2.length ≤ 9223372036854775807 :=
      ⟨fun i => if h : i < len then (hel i h).choose else ⟨none, 0, []⟩, fun i hil => by simp only [dif_pos hil]; exact (hel i hil).choose_spec⟩
    refine ⟨some a, cap, (List.range len).map fun i => (f i).2.2, by simp, by simp [maxLen] at hm; simp; omega, fun k hk => ?_, fun k hk => ?_⟩
    · have hk' : k < len := by simpa using hk
      have hspot : a.spot = none := by
        have h0 := (hf 0 (by omega)).1
        simp only [Addr.add, if_true] at h0
        cases hs : a.spot with
        | none => rfl
        | some s =>
          exfalso
          unfold World.cell? at h0
          split at h0
          · simp [hs] at h0
          · simp at h0
      obtain ⟨b, off, sp⟩ := a
      simp only at hspot
      subst hspot
      obtain ⟨hk2, hk3, _⟩ := hf k hk'
      simp only [add_off] at hk2
      exact ⟨b, off, (f k).1, (f k).2.1, rfl, World.block_lt_of_cell? w _ hk2, by rw [hk2]; simp, by simpa using hk3⟩
    · have hk' : k < len := by simpa using hk
      simpa using (hf k hk').2.2
end

end Go.Proofs.Ytfkmophmiiehlaa
