/- Contracts and lemmas for the statements of this seat, written for this claim; each theorem states its own conditions. -/
import Derived.Laws.EntriesVeiled
import Derived.Test.YtfkmophmiiehlaaKmSt
set_option linter.unusedVariables false
set_option linter.unusedSimpArgs false
namespace Go.Proofs.Ytfkmophmiiehlaa
open Go.RowKit
/-- columns read as a list -/
def ColCells (w : World) (A : Option Addr) (xs : List Col) : Prop :=
  ∀ k (h : k < xs.length), ∃ b off, A = some ⟨b, off, none⟩ ∧ b < w.heap.size ∧ w.cell? ⟨b, off + k * 3, none⟩ = some (.int .i64 xs[k].w) ∧ w.cell? ⟨b, off + k * 3 + 1, none⟩ = some (.int .i64 xs[k].e) ∧ w.cell? ⟨b, off + k * 3 + 2, none⟩ = some (.int .i64 xs[k].n)
theorem ColCells.below {w w1 : World} {A : Option Addr} {xs : List Col} (h : ColCells w A xs) (hb : Below w.heap.size w w1) : ColCells w1 A xs := by
  intro k hk
  obtain ⟨b, off, hA, hlt, h0, h1, h2⟩ := h k hk
  exact ⟨b, off, hA, Nat.lt_of_lt_of_le hlt hb.size, (hb.cell (p := ⟨b, _, none⟩) hlt).trans h0, (hb.cell (p := ⟨b, _, none⟩) hlt).trans h1, (hb.cell (p := ⟨b, _, none⟩) hlt).trans h2⟩
theorem OwnC.cols {w : World} {B n cx : Nat} {A : Option Addr} {xs : List Col} (h : OwnC w B (.slice A n cx) xs) : ColCells w A xs := by
  intro k hk
  have h0 := h
  obtain ⟨h1, h2⟩ := h
  rcases h2 with ⟨e1, e2⟩ | ⟨g, cap, cur, e1, e2, e3, _⟩
  · omega
  · injection e1 with a1 a2 a3
    subst a1 a2 a3
    have hc := fun j (hj : j < 3) => World.ownsRow.cellAt h0 (k * 3 + j) (by omega)
    have hg := fun j (hj : j < 3) => ccells_get xs k j hk hj
    have c0 := hc 0 (by omega)
    have c1 := hc 1 (by omega)
    have c2 := hc 2 (by omega)
    rw [hg 0 (by omega)] at c0
    rw [hg 1 (by omega)] at c1
    rw [hg 2 (by omega)] at c2
    simp only [Nat.add_zero, List.getElem?_cons_zero, List.getElem?_cons_succ] at c0 c1 c2
    exact ⟨g, 0, rfl, World.block_lt_of_cell? w _ c0, by rw [Nat.zero_add]; exact c0, by rw [Nat.zero_add]; exact c1, by rw [Nat.zero_add]; exact c2⟩
/-- block g holds a strip that is only read any more -/
def StripR (w : World) (g : Nat) (c : Int) (A : Option Addr) (n cx : Nat) (h words : Int) (xs : List Col) : Prop :=
  ∃ C cc, Blk w g [.int .i64 c, .slice A n cx, .int .i64 h, .int .i64 words, .slice C xs.length cc] 131 ∧ ColCells w C xs
theorem StripR.below {w w1 : World} {g : Nat} {c : Int} {A : Option Addr} {n cx : Nat} {h words : Int} {xs : List Col} (hs : StripR w g c A n cx h words xs) (hb : Below w.heap.size w w1) : StripR w1 g c A n cx h words xs := by
  obtain ⟨C, cc, h1, h2⟩ := hs
  exact ⟨C, cc, h1.under hb, h2.below hb⟩
theorem StripSt.read {w : World} {B g : Nat} {c : Int} {A : Option Addr} {n cx : Nat} {h words : Int} {xs : List Col} (hs : StripSt w B g c A n cx h words xs) : StripR w g c A n cx h words xs := by
  obtain ⟨v, h1, h2⟩ := hs
  obtain ⟨C, cc, rfl⟩ := h2.shape
  exact ⟨C, cc, h1, h2.cols⟩
end Go.Proofs.Ytfkmophmiiehlaa
