/- Contracts and lemmas for the statements of this seat, written for this claim; each theorem states its own conditions. -/
import Derived.Test.YtkgnejhflnekaaaGreatMuY7
import Derived.Test.YtkgnejhflnekaaaGreatMuMk
import Derived.Test.YtkgnejhflnekaaaGreatMuCp
set_option linter.unusedVariables false
set_option linter.unusedSimpArgs false
namespace Go.Proofs.YtkgnejhflnekaaaGreat
open Go.RowKit
/-- a slice of slices of numbers none of whose blocks lies below N, each row with room enough -/
def RowsN (w : World) (N : Nat) (A : Option Addr) (L : List (List Int)) : Prop :=
  ∀ k (h : k < L.length), ∃ b off A' cx, A = some ⟨b, off, none⟩ ∧ N ≤ b ∧ b < w.heap.size ∧ w.cell? ⟨b, off + k, none⟩ = some (.slice A' L[k].length cx) ∧ L[k].length ≤ cx ∧ Cells w A' (ints L[k]) ∧ ∀ b1 o1, A' = some ⟨b1, o1, none⟩ → N ≤ b1
theorem RowsN.rows {w : World} {N : Nat} {A : Option Addr} {L : List (List Int)} (h : RowsN w N A L) : RowsC w A L := fun k hk => by
  obtain ⟨b, off, A', cx, e, h1, h2, h3, h4, h5, h6⟩ := h k hk
  exact ⟨b, off, A', cx, e, h2, h3, h5⟩
theorem RowsN.caps {w : World} {N : Nat} {A : Option Addr} {L : List (List Int)} (h : RowsN w N A L) : CapsC w A L := fun k hk b off A' cx e hc => by
  obtain ⟨b', off', A'', cx', e', h1, h2, h3, h4, h5, h6⟩ := h k hk
  rw [e] at e'
  injection e' with e'
  injection e' with e1 e2
  subst e1 e2
  rw [hc] at h3
  injection h3 with h3
  injection h3 with _ _ h3
  omega
theorem RowsN.grew {w w1 : World} {N g : Nat} {A : Option Addr} {L : List (List Int)} (h : RowsN w N A L) (hg : w.grownBy w1 (some g)) (hlt : g < N) : RowsN w1 N A L := fun k hk => by
  obtain ⟨b, off, A', cx, e, h1, h2, h3, h4, h5, h6⟩ := h k hk
  exact ⟨b, off, A', cx, e, h1, Nat.lt_of_lt_of_le h2 hg.size, hg.cell h3 (fun e => by injection e with e; dsimp only at e; omega), h4, h5.grown hg (fun b1 o1 e => by have := h6 b1 o1 e; omega), h6⟩
theorem RowsN.below {w w1 : World} {N : Nat} {A : Option Addr} {L : List (List Int)} (h : RowsN w N A L) (hb : Below w.heap.size w w1) : RowsN w1 N A L := fun k hk => by
  obtain ⟨b, off, A', cx, e, h1, h2, h3, h4, h5, h6⟩ := h k hk
  exact ⟨b, off, A', cx, e, h1, Nat.lt_of_lt_of_le h2 hb.size, (hb.cell (p := ⟨b, _, none⟩) h2).trans h3, h4, h5.below hb, h6⟩
theorem RowsN.store {w : World} {N b o : Nat} {v : Value} {A : Option Addr} {L : List (List Int)} (h : RowsN w N A L) (hb : b < N) : RowsN (w.setCell ⟨b, o, none⟩ v) N A L := fun k hk => by
  obtain ⟨b1, off, A', cx, e, h1, h2, h3, h4, h5, h6⟩ := h k hk
  refine ⟨b1, off, A', cx, e, h1, by simpa [World.setCell] using h2, by rw [cell_set_ne _ _ _ _ _ (by dsimp only; omega)]; exact h3, h4, fun j hj => ?_, h6⟩
  obtain ⟨b2, o2, e2, hc⟩ := h5 j hj
  exact ⟨b2, o2, e2, by rw [cell_set_ne _ _ _ _ _ (by have := h6 b2 o2 e2; dsimp only; omega)]; exact hc⟩
theorem RowsN.lower {w : World} {N N' : Nat} {A : Option Addr} {L : List (List Int)} (h : RowsN w N A L) (hN : N' ≤ N) : RowsN w N' A L := fun k hk => by
  obtain ⟨b1, off, A', cx, e, h1, h2, h3, h4, h5, h6⟩ := h k hk
  exact ⟨b1, off, A', cx, e, by omega, h2, h3, h4, h5, fun b o e => by have := h6 b o e; omega⟩
theorem OwnII.grew {w w1 : World} {B g : Nat} {v : Value} {L : List (List Int)} (h : OwnII w B v L) (hg : w.grownBy w1 (some g)) (hlt : g < B) : OwnII w1 B v L := by
  obtain ⟨vs, h1, h2, h3, h4⟩ := h
  refine ⟨vs, World.ownsRow.kept h1 hg ?_, fun i hi hi' => (h2 i hi hi').grew hg hlt, h3, h4⟩
  cases e : v.ownBlock with
  | none => exact .inl rfl
  | some k => exact .inr (fun e2 => by injection e2 with e2; have := (World.ownsRow.lt h1 k e).1; omega)
theorem OwnII.rowsN {w : World} {B n cx : Nat} {A : Option Addr} {L : List (List Int)} (h : OwnII w B (.slice A n cx) L) : RowsN w B A L := fun k hk => by
  have hc := h.caps
  obtain ⟨vs, h1, h2, h3, h4⟩ := h
  have hvl : vs.length = L.length := by have := h1.1; omega
  obtain ⟨A', c', e, hC, _⟩ := (h2 k (by omega) hk).shape
  obtain ⟨gv, rfl, hgv1, hgv2⟩ : ∃ gv, A = some ⟨gv, 0, none⟩ ∧ B ≤ gv ∧ gv < w.heap.size := by
    rcases h1.2 with ⟨_, e0⟩ | ⟨gv, cap, cur, e1, e2, e3, _⟩
    · omega
    · injection e1 with a1 _ _
      exact ⟨gv, a1, e2, (Array.getElem?_eq_some_iff.1 e3).1⟩
  have hn : n = L.length := by
    rcases h1.2 with ⟨e0, _⟩ | ⟨gv', cap, cur, e1, _⟩
    · cases e0
    · injection e1
  subst hn
  have hcell : w.cell? ⟨gv, 0 + k, none⟩ = some (.slice A' L[k].length c') := by rw [Nat.zero_add, World.ownsRow.cellAt h1 k (by omega), List.getElem?_eq_getElem (by omega), e]
  refine ⟨gv, 0, A', c', rfl, by omega, hgv2, hcell, hc k hk gv 0 A' c' rfl hcell, hC, fun b1 o1 ea => ?_⟩
  have := World.ownsRow.lt (h2 k (by omega) hk)
  rw [e, ea] at this
  obtain ⟨_, ⟨ev, _⟩ | ⟨gq, cap, cur, ev, hq, _⟩⟩ := h2 k (by omega) hk
  · rw [e, ea] at ev; cases ev
  · rw [e, ea] at ev
    injection ev with ev
    injection ev with ev
    injection ev with ev
    omega
/-- a row cut short in its place -/
theorem OwnII.cut {w : World} {B n cx : Nat} {A : Option Addr} {L : List (List Int)} (h : OwnII w B (.slice A n cx) L) (h0 : 0 < L.length) (m : Nat) (hm : m ≤ L[0].length) (h1' : 0 < L[0].length) :
    ∃ gv g0 c0, A = some ⟨gv, 0, none⟩ ∧ B ≤ gv ∧ gv < w.heap.size ∧ w.cell? ⟨gv, 0, none⟩ = some (.slice (some ⟨g0, 0, none⟩) L[0].length c0) ∧ w.frozen? ⟨gv, 0, none⟩ = false ∧ L[0].length ≤ c0 ∧
      RowsN (w.setCell ⟨gv, 0, none⟩ (.slice (some ⟨g0, 0, none⟩) m c0)) B A (L.set 0 (L[0].take m)) := by
  have hN := h.rowsN
  have hI := h
  obtain ⟨b, off, A0, c0, rfl, q1, q2, q3, q4, q5, q6⟩ := hN 0 h0
  obtain ⟨vs, h1, h2, h3, h4⟩ := hI
  have hvl : vs.length = L.length := by have := h1.1; omega
  obtain ⟨gv, e1, hgv1, hgv2⟩ : ∃ gv, (some ⟨b, off, none⟩ : Option Addr) = some ⟨gv, 0, none⟩ ∧ B ≤ gv ∧ gv < w.heap.size := by
    rcases h1.2 with ⟨_, e0⟩ | ⟨gv, cap, cur, e1, e2, e3, _⟩
    · omega
    · injection e1 with a1 _ _
      exact ⟨gv, a1, e2, (Array.getElem?_eq_some_iff.1 e3).1⟩
  injection e1 with e1
  injection e1 with e1 e2
  subst e1 e2
  have hn : n = L.length := by
    rcases h1.2 with ⟨e0, _⟩ | ⟨gv', cap, cur, e1, _⟩
    · cases e0
    · injection e1
  subst hn
  have hv0 : vs[0]'(by omega) = .slice A0 L[0].length c0 := by
    have := World.ownsRow.cellAt h1 0 (by omega)
    rw [List.getElem?_eq_getElem (by omega)] at this
    rw [Nat.add_zero] at q3
    rw [q3] at this
    injection this with this
    exact this.symm
  obtain ⟨g0, rfl⟩ : ∃ g0, A0 = some ⟨g0, 0, none⟩ := by
    obtain ⟨_, ⟨ev, ez⟩ | ⟨gq, cap, cur, ev, _⟩⟩ := h2 0 (by omega) h0
    · omega
    · rw [hv0] at ev
      injection ev with ev
      exact ⟨gq, ev⟩
  have hz : w.frozen? ⟨b, 0, none⟩ = false := World.ownsRow.frozenAt h1 0
  have hrow : ∀ i (hi : i < L.length) b1 o1, (∃ n' c', vs[i]'(by omega) = .slice (some ⟨b1, o1, none⟩) n' c') → b1 ≠ b := fun i hi b1 o1 ⟨n', c', e⟩ eb => by
    rcases h4 i (by omega) with e4 | e4
    · rw [e] at e4
      obtain ⟨_, ⟨ev, _⟩ | ⟨gq, cap, cur, ev, _⟩⟩ := h2 i (by omega) hi
      · rw [e] at ev; cases ev
      · rw [e] at ev
        injection ev with ev
        injection ev with ev
        injection ev with ev ev2
        subst ev ev2
        cases e4
    · obtain ⟨_, ⟨ev, _⟩ | ⟨gq, cap, cur, ev, _⟩⟩ := h2 i (by omega) hi
      · rw [e] at ev; cases ev
      · rw [e] at ev
        injection ev with ev
        injection ev with ev
        injection ev with ev ev2
        subst ev ev2
        rw [e] at e4
        exact e4 (by subst eb; rfl)
  refine ⟨b, g0, c0, rfl, hgv1, hgv2, q3, hz, q4, fun k hk => ?_⟩
  rw [List.length_set] at hk
  by_cases ek : k = 0
  · subst ek
    have hgb : g0 ≠ b := hrow 0 h0 g0 0 ⟨_, _, hv0⟩
    refine ⟨b, 0, some ⟨g0, 0, none⟩, c0, rfl, q1, by simpa [World.setCell] using q2, ?_, ?_, ?_, q6⟩
    · rw [List.getElem_set_self, List.length_take, Nat.min_eq_left hm, Nat.add_zero]
      exact World.cell?_setCell_same w _ _ q3
    · rw [List.getElem_set_self, List.length_take]; omega
    · rw [List.getElem_set_self]
      intro j hj
      rw [ints_length, List.length_take] at hj
      obtain ⟨b', o', e', hc'⟩ := q5 j (by rw [ints_length]; omega)
      injection e' with e'
      injection e' with e1 e2
      subst e1 e2
      refine ⟨g0, 0, rfl, ?_⟩
      rw [cell_set_ne _ _ _ _ _ hgb, hc']
      simp [ints]
  · obtain ⟨b', off', A', c', e', p1, p2, p3, p4, p5, p6⟩ := hN k hk
    injection e' with e'
    injection e' with e1 e2
    subst e1 e2
    have hvk : vs[k]'(by omega) = .slice A' L[k].length c' := by
      have := World.ownsRow.cellAt h1 k (by omega)
      rw [List.getElem?_eq_getElem (by omega)] at this
      rw [Nat.zero_add] at p3
      rw [p3] at this
      injection this with this
      exact this.symm
    refine ⟨b, 0, A', c', rfl, p1, by simpa [World.setCell] using p2, ?_, ?_, ?_, p6⟩
    · rw [List.getElem_set_ne (by omega)]
      exact (World.cell?_setCell_other w _ _ _ (by intro e; injection e with _ e; omega)).trans p3
    · rw [List.getElem_set_ne (by omega)]; exact p4
    · rw [List.getElem_set_ne (by omega)]
      intro j hj
      obtain ⟨b2, o2, e2, hc2⟩ := p5 j hj
      refine ⟨b2, o2, e2, ?_⟩
      rw [cell_set_ne _ _ _ _ _ (by subst e2; exact hrow k hk b2 o2 ⟨_, _, hvk⟩)]
      exact hc2
end Go.Proofs.YtkgnejhflnekaaaGreat
