/- Contracts and lemmas for the statements of this seat, written for this claim; each theorem states its own conditions. -/
import Derived.Laws.BitsLemmas
import Derived.Laws.IdiomCopy
import Derived.Test.YtfkmophmiiehlaaVpSu
set_option linter.unusedVariables false
set_option linter.unusedSimpArgs false
namespace Go.Proofs.Ytfkmophmiiehlaa
open Go.RowKit
theorem infoB : (Try.prog.info? 4).map (fun i => (i.zero, i.size, i.bytes)) = some (some (.bool false), 1, 1) := by kernel_rfl
def bcells (xs : List Bool) : List Value := xs.map fun x => .bool x
theorem bcells_length (xs : List Bool) : (bcells xs).length = xs.length := by simp [bcells]
theorem bcells_set (xs : List Bool) (k : Nat) (x : Bool) : (bcells xs).set k (.bool x) = bcells (xs.set k x) := by simp [bcells, List.map_set]
/-- a slice of truth values that the call made and owns -/
def OwnB (w : World) (B : Nat) (v : Value) (xs : List Bool) : Prop := w.ownsRow B 4 1 v xs.length (bcells xs)
theorem OwnB.below {w w1 : World} {B : Nat} {v : Value} {xs : List Bool} (h : OwnB w B v xs) (hb : Below w.heap.size w w1) : OwnB w1 B v xs :=
  World.ownsRow.kept (row := none) h ⟨hb.os, hb.tape, hb.output, hb.size, fun k hk _ => hb.block k hk⟩ (by cases h : v.ownBlock with | none => exact .inl rfl | some k => exact .inr (by simp))
theorem OwnB.weaken {w : World} {B B' : Nat} {v : Value} {xs : List Bool} (h : OwnB w B v xs) (hB : B' ≤ B) : OwnB w B' v xs := by
  obtain ⟨h1, h2⟩ := h
  refine ⟨h1, ?_⟩
  rcases h2 with h2 | ⟨g, cap, cur, e1, e2, e3⟩
  · exact .inl h2
  · exact .inr ⟨g, cap, cur, e1, Nat.le_trans hB e2, e3⟩
theorem OwnB.shape {w : World} {B : Nat} {v : Value} {xs : List Bool} (h : OwnB w B v xs) : ∃ A cx, v = .slice A xs.length cx := by
  obtain ⟨h1, h2⟩ := h
  rcases h2 with ⟨rfl, h2⟩ | ⟨g, cap, cur, rfl, _⟩
  · exact ⟨none, 0, by rw [h2]⟩
  · exact ⟨_, _, rfl⟩
theorem OwnB.lt {w : World} {B : Nat} {v : Value} {xs : List Bool} (h : OwnB w B v xs) : ∀ k, v.ownBlock = some k → B ≤ k ∧ k < w.heap.size := fun k hk => World.ownsRow.lt h k hk
theorem OwnB.at_ {w : World} {B n cx : Nat} {A : Option Addr} {xs : List Bool} (h : OwnB w B (.slice A n cx) xs) (j : Nat) (hj : j < xs.length) :
    ∃ g, A = some ⟨g, 0, none⟩ ∧ B ≤ g ∧ g < w.heap.size ∧ w.cell? ⟨g, j, none⟩ = some (.bool xs[j]) ∧ w.frozen? ⟨g, j, none⟩ = false := by
  have h0 := h
  obtain ⟨h1, h2⟩ := h
  rcases h2 with ⟨e1, e2⟩ | ⟨g, cap, cur, e1, e2, e3, _⟩
  · omega
  · injection e1 with a1 a2 a3
    subst a1 a2 a3
    have hc := World.ownsRow.cellAt h0 j (by omega)
    refine ⟨g, rfl, e2, (Array.getElem?_eq_some_iff.1 e3).1, ?_, World.ownsRow.frozenAt h0 j⟩
    rw [hc]; simp [bcells, hj]
theorem OwnB.set {w : World} {B n cx g : Nat} {xs : List Bool} (h : OwnB w B (.slice (some ⟨g, 0, none⟩) n cx) xs) (j : Nat) (y : Bool) :
    OwnB (w.setCell ⟨g, j, none⟩ (.bool y)) B (.slice (some ⟨g, 0, none⟩) n cx) (xs.set j y) ∧ w.grownBy (w.setCell ⟨g, j, none⟩ (.bool y)) (some g) := by
  have h0 := h
  obtain ⟨h1, h2⟩ := h
  rcases h2 with ⟨e1, e2⟩ | ⟨g', cap, cur, e1, _⟩
  · cases e1
  · injection e1 with a1 a2 a3
    subst a2
    obtain ⟨s1, s2⟩ := World.ownsRow.stored h0 j (.bool y)
    refine ⟨?_, s2⟩
    unfold OwnB
    rw [bcells_set] at s1
    rw [List.length_set]
    exact s1
theorem OwnB.made (w : World) (B n : Nat) (hB : B ≤ w.heap.size) (hn : n ≤ 1000000000) :
    OwnB (w.alloc (.cells (madeCells #[.bool false] n) 4)) B (.slice (some ⟨w.heap.size, 0, none⟩) n n) (List.replicate n false) := by
  have hs : (madeCells #[Value.bool false] n).size = n * 1 := by simp [madeCells]
  have := World.ownsRow_lit (base := B) (e := 4) (size := 1) w (madeCells #[.bool false] n) n hB (by simp [maxLen]; omega) hs
  rw [toList_madeCells_one] at this
  unfold OwnB
  simpa [bcells] using this
theorem OwnB.grown {w w1 : World} {B : Nat} {v : Value} {xs : List Bool} {row : Option Nat} (h : OwnB w B v xs) (hg : w.grownBy w1 row) (hne : v.ownBlock = none ∨ v.ownBlock ≠ row) : OwnB w1 B v xs := World.ownsRow.kept h hg hne
theorem make_b (n : Nat) (h : n ≤ 1000000000) (w : World) : (Instr.makeSlice 115 (.int .i64 (n : Int)) (.int .i64 (n : Int))).run Try.prog w = .ok (.slice (some ⟨w.heap.size, 0, none⟩) n n) (w.alloc (.cells (madeCells #[.bool false] n) 4)) := by
  have := make_k (P := Try.prog) 115 4 _ 1 1 Try.underlying115 infoB n (by omega) (by omega) w
  rw [Nat.mul_one] at this
  exact this
/-- truth values read as a list -/
def BoolC (w : World) (A : Option Addr) (xs : List Bool) : Prop := ∀ j (h : j < xs.length), ∃ b off, A = some ⟨b, off, none⟩ ∧ b < w.heap.size ∧ w.cell? ⟨b, off + j, none⟩ = some (.bool xs[j])
theorem BoolC.below {w w1 : World} {A : Option Addr} {xs : List Bool} (h : BoolC w A xs) (hb : Below w.heap.size w w1) : BoolC w1 A xs := by
  intro j hj
  obtain ⟨b, off, e, hlt, hc⟩ := h j hj
  exact ⟨b, off, e, Nat.lt_of_lt_of_le hlt hb.size, (hb.cell (p := ⟨b, _, none⟩) hlt).trans hc⟩
theorem OwnB.read {w : World} {B n cx : Nat} {A : Option Addr} {xs : List Bool} (h : OwnB w B (.slice A n cx) xs) : BoolC w A xs := by
  intro j hj
  obtain ⟨g, rfl, _, hlt, hc, _⟩ := h.at_ j hj
  exact ⟨g, 0, rfl, hlt, by rw [Nat.zero_add]; exact hc⟩
end Go.Proofs.Ytfkmophmiiehlaa
