/- Contracts and lemmas for the statements of this seat, written for this claim; each theorem states its own conditions. -/
import Derived.Deep.RegionHeld3
import Derived.Test.YtfkmophmiiehlaaVpTl1
import Derived.Test.YtfkmophmiiehlaaVpSe
import Derived.Test.YtfkmophmiiehlaaVpLw
import Derived.Test.YtfkmophmiiehlaaVpLi
import Derived.Test.YtfkmophmiiehlaaVpMk
import Derived.Test.YtfkmophmiiehlaaVpBy
set_option linter.unusedVariables false
set_option linter.unusedSimpArgs false
namespace Go.Proofs.Ytfkmophmiiehlaa
open Go.RowKit
theorem OwnBB.setBox {w : World} {B x j : Nat} {cs : List Value} {v y : Value} {L : List (List Bool)} (h : OwnBB w B v L) (hx : Blk w x cs 132) : OwnBB (w.setCell ⟨x, j, none⟩ y) B v L := by
  obtain ⟨vs, h1, h2, h3, h4⟩ := h
  exact ⟨vs, World.ownsRow.kept h1 (grownBy_store w x j y) (.inr (own_ne h1 hx (by decide))), fun i hi hi' => World.ownsRow.kept (h2 i hi hi') (grownBy_store w x j y) (.inr (own_ne (h2 i hi hi') hx (by decide))), h3, h4⟩
theorem OwnBB.ne {w : World} {B x : Nat} {cs : List Value} {v : Value} {L : List (List Bool)} (h : OwnBB w B v L) (hx : Blk w x cs 132) : v.ownBlock ≠ some x := by
  obtain ⟨vs, h1, _⟩ := h
  exact own_ne h1 hx (by decide)
theorem bstep_put (far nx : List Bool) (k : Col) (h : k.e.toNat < far.length) (h2 : k.w.toNat < nx.length) : nx.set k.w.toNat (nx[k.w.toNat] || far[k.e.toNat]) = bstep far nx k := by
  rw [bstep_eq far nx k h]
  cases far[k.e.toNat]
  · simp
  · simp
end Go.Proofs.Ytfkmophmiiehlaa
namespace Go.Proofs.Ytfkmophmiiehlaa
open Go.RowKit
/-- a list of lists that is read, away from a block -/
def RowsX (w : World) (B : Option Addr) (L : List (List Int)) (o : Option Nat) : Prop :=
  ∀ k (h : k < L.length), ∃ b off r ro cx, B = some ⟨b, off, none⟩ ∧ b < w.heap.size ∧ some b ≠ o ∧ w.cell? ⟨b, off + k, none⟩ = some (.slice (some ⟨r, ro, none⟩) L[k].length cx) ∧ r < w.heap.size ∧ some r ≠ o ∧
    ∀ j (hj : j < L[k].length), w.cell? ⟨r, ro + j, none⟩ = some (.int .i64 L[k][j])
theorem RowsX.rows {w : World} {B : Option Addr} {L : List (List Int)} {o : Option Nat} (h : RowsX w B L o) : RowsC w B L := by
  intro k hk
  obtain ⟨b, off, r, ro, cx, e, h1, h2, h3, h4, h5, h6⟩ := h k hk
  exact ⟨b, off, _, cx, e, h1, h3, fun j hj => ⟨r, ro, rfl, by simpa [ints] using h6 j (by simpa [ints] using hj)⟩⟩
theorem grown_cell {w w' : World} {o : Option Nat} {p : Addr} (hg : w.grownBy w' o) (h1 : p.block < w.heap.size) (h2 : some p.block ≠ o) : w'.cell? p = w.cell? p := by
  unfold World.cell?; rw [hg.block p.block h1 (fun e => h2 (by rw [← e]))]
theorem RowsX.kept {w w' : World} {B : Option Addr} {L : List (List Int)} {o : Option Nat} (h : RowsX w B L o) (hg : w.grownBy w' o) : RowsX w' B L o := by
  intro k hk
  obtain ⟨b, off, r, ro, cx, e, h1, h2, h3, h4, h5, h6⟩ := h k hk
  exact ⟨b, off, r, ro, cx, e, Nat.lt_of_lt_of_le h1 hg.size, h2, (grown_cell (p := ⟨b, off + k, none⟩) hg h1 h2).trans h3, Nat.lt_of_lt_of_le h4 hg.size, h5, fun j hj => (grown_cell (p := ⟨r, ro + j, none⟩) hg h4 h5).trans (h6 j hj)⟩
theorem RowsX.below {w w' : World} {B : Option Addr} {L : List (List Int)} {o : Option Nat} (h : RowsX w B L o) (hb : Below w.heap.size w w') : RowsX w' B L o := by
  intro k hk
  obtain ⟨b, off, r, ro, cx, e, h1, h2, h3, h4, h5, h6⟩ := h k hk
  exact ⟨b, off, r, ro, cx, e, Nat.lt_of_lt_of_le h1 hb.size, h2, (hb.cell (p := ⟨b, off + k, none⟩) h1).trans h3, Nat.lt_of_lt_of_le h4 hb.size, h5, fun j hj => (hb.cell (p := ⟨r, ro + j, none⟩) h4).trans (h6 j hj)⟩
theorem RowsX.other {w : World} {B : Option Addr} {L : List (List Int)} {o o' : Option Nat} (h : RowsX w B L o) (ho : ∀ q, o' = some q → o = some q ∨ w.heap.size ≤ q) : RowsX w B L o' := by
  intro k hk
  obtain ⟨b, off, r, ro, cx, e, h1, h2, h3, h4, h5, h6⟩ := h k hk
  refine ⟨b, off, r, ro, cx, e, h1, fun e2 => ?_, h3, h4, fun e2 => ?_, h6⟩
  · rcases ho b e2.symm with h7 | h7
    · exact h2 h7.symm
    · omega
  · rcases ho r e2.symm with h7 | h7
    · exact h5 h7.symm
    · omega
/-- behind an append to a list in block o that now lies in o' -/
theorem RowsX.step {w w' : World} {B : Option Addr} {L : List (List Int)} {o o' : Option Nat} (h : RowsX w B L o) (hg : w.grownBy w' o) (ho : ∀ q, o' = some q → o = some q ∨ w.heap.size ≤ q) : RowsX w' B L o' := by
  intro k hk
  obtain ⟨b, off, r, ro, cx, e, h1, h2, h3, h4, h5, h6⟩ := h k hk
  have hne : ∀ b, b < w.heap.size → some b ≠ o → some b ≠ o' := fun b hb hn e2 => by
    rcases ho b e2.symm with h7 | h7
    · exact hn h7.symm
    · omega
  exact ⟨b, off, r, ro, cx, e, Nat.lt_of_lt_of_le h1 hg.size, hne b h1 h2, (grown_cell (p := ⟨b, off + k, none⟩) hg h1 h2).trans h3, Nat.lt_of_lt_of_le h4 hg.size, hne r h4 h5, fun j hj => (grown_cell (p := ⟨r, ro + j, none⟩) hg h4 h5).trans (h6 j hj)⟩
theorem OwnII.rowsX {w : World} {B : Nat} {v : Value} {L : List (List Int)} {o : Option Nat} (h : OwnII w B v L) (hne : ∀ r ∈ L, 0 < r.length) (ho : ∀ q, o = some q → q < B) : ∃ A cx, v = .slice A L.length cx ∧ RowsX w A L o := by
  obtain ⟨A, cx, rfl, _⟩ := h.rows
  refine ⟨A, cx, rfl, fun k hk => ?_⟩
  obtain ⟨vs, h1, h2, h3, h4⟩ := id h
  have hp := hne _ (List.getElem_mem hk)
  obtain ⟨gv, g, cr, rfl, a1, a2, a3, a4, a5, _⟩ := h.at2 k hk 0 hp
  refine ⟨gv, 0, g, 0, cr, rfl, a2, fun e => by have := ho gv e.symm; omega, by rw [Nat.zero_add]; exact a3, a5, fun e => by have := ho g e.symm; omega, fun j hj => ?_⟩
  obtain ⟨gv', g', cr', e1, _, _, b3, _, _, b6, _⟩ := h.at2 k hk j hj
  injection e1 with e1; injection e1 with e1 _; subst e1
  rw [a3] at b3
  injection b3 with b3; injection b3 with b3 _ _; injection b3 with b3; injection b3 with b3 _; subst b3
  rw [Nat.zero_add]; exact b6
end Go.Proofs.Ytfkmophmiiehlaa
