/- Contracts and lemmas for the statements of this seat, written for this claim; each theorem states its own conditions. -/
import Derived.BigQuiet
import Derived.Test.YtfkmophmiiehlaaVpM2
import Derived.Test.YtfkmophmiiehlaaVpOp
import Derived.Test.YtfkmophmiiehlaaVpI2
import Derived.Test.YtfkmophmiiehlaaVpL1
import Derived.Test.YtfkmophmiiehlaaVpSe
import Derived.Test.YtfkmophmiiehlaaVpJ2
import Derived.Test.YtfkmophmiiehlaaVpOw
import Derived.Test.YtfkmophmiiehlaaVpLi
import Derived.Test.YtfkmophmiiehlaaVpSt
import Derived.Test.YtfkmophmiiehlaaVpSy
set_option linter.unusedVariables false
set_option linter.unusedSimpArgs false
namespace Go.Proofs.Ytfkmophmiiehlaa
open Go.RowKit
/-- as OwnPP, and the blocks of the rows lie ahead of N -/
def OwnPN (w : World) (B N : Nat) (v : Value) (L : List (List P2)) : Prop :=
  ∃ vs : List Value, w.ownsRow B 87 1 v L.length vs ∧ (∀ i (h : i < vs.length) (h' : i < L.length), OwnP w B vs[i] L[i]) ∧
    (∀ i j (h : i < vs.length) (h' : j < vs.length), i ≠ j → Apart vs[i] vs[j]) ∧ (∀ i (h : i < vs.length), Apart vs[i] v) ∧ ∀ i (h : i < vs.length) k, vs[i].ownBlock = some k → k < N
theorem OwnPP.toN {w : World} {B : Nat} {v : Value} {L : List (List P2)} (h : OwnPP w B v L) : OwnPN w B w.heap.size v L := by
  obtain ⟨vs, h1, h2, h3, h4⟩ := h
  have hl : vs.length = L.length := by have := h1.1; omega
  exact ⟨vs, h1, h2, h3, h4, fun i hi k hk => (World.ownsRow.lt (h2 i hi (by omega)) k hk).2⟩
theorem OwnPN.toII {w : World} {B N : Nat} {v : Value} {L : List (List P2)} (h : OwnPN w B N v L) : OwnPP w B v L := by
  obtain ⟨vs, h1, h2, h3, h4, _⟩ := h
  exact ⟨vs, h1, h2, h3, h4⟩
theorem OwnPN.same {w w' : World} {B N : Nat} {v : Value} {L : List (List P2)} (h : OwnPN w B N v L) (hs : ∀ k, B ≤ k → k < w.heap.size → w'.heap[k]? = w.heap[k]?) : OwnPN w' B N v L := by
  obtain ⟨vs, h1, h2, h3, h4, h5⟩ := h
  exact ⟨vs, ownsRow_same h1 fun k hk => hs k (World.ownsRow.lt h1 k hk).1 (World.ownsRow.lt h1 k hk).2, fun i hi hi' => (h2 i hi hi').same hs, h3, h4, h5⟩
theorem OwnPP.same {w w' : World} {B : Nat} {v : Value} {L : List (List P2)} (h : OwnPP w B v L) (hs : ∀ k, B ≤ k → k < w.heap.size → w'.heap[k]? = w.heap[k]?) : OwnPP w' B v L := by
  obtain ⟨vs, h1, h2, h3, h4⟩ := h
  exact ⟨vs, ownsRow_same h1 fun k hk => hs k (World.ownsRow.lt h1 k hk).1 (World.ownsRow.lt h1 k hk).2, fun i hi hi' => (h2 i hi hi').same hs, h3, h4⟩
theorem OwnPP.kept {w w' : World} {B : Nat} {v : Value} {L : List (List P2)} {row : Option Nat} (h : OwnPP w B v L) (hg : w.grownBy w' row) (hr : ∀ k, row = some k → k < B) : OwnPP w' B v L := by
  obtain ⟨vs, h1, h2, h3, h4⟩ := h
  have ne : ∀ (u : Value) (n : Nat) (xs : List Value) (e : TypeId) (s : Nat), w.ownsRow B e s u n xs → u.ownBlock = none ∨ u.ownBlock ≠ row := fun u n xs e s ho => by
    cases eu : u.ownBlock with
    | none => exact .inl rfl
    | some k =>
      right
      have := (World.ownsRow.lt ho k eu).1
      intro e2
      have := hr k e2.symm
      omega
  exact ⟨vs, World.ownsRow.kept h1 hg (ne _ _ _ _ _ h1), fun i hi hi' => World.ownsRow.kept (h2 i hi hi') hg (ne _ _ _ _ _ (h2 i hi hi')), h3, h4⟩
theorem OwnPP.below {w w1 : World} {B : Nat} {v : Value} {L : List (List P2)} (h : OwnPP w B v L) (hb : Below w.heap.size w w1) : OwnPP w1 B v L := by
  obtain ⟨vs, h1, h2, h3, h4⟩ := h
  refine ⟨vs, ?_, fun i hi hi' => (h2 i hi hi').below hb, h3, h4⟩
  exact World.ownsRow.kept (row := none) h1 ⟨hb.os, hb.tape, hb.output, hb.size, fun k hk _ => hb.block k hk⟩ (by cases h : v.ownBlock with | none => exact .inl rfl | some k => exact .inr (by simp))
theorem OwnPP.weaken {w : World} {B B' : Nat} {v : Value} {L : List (List P2)} (h : OwnPP w B v L) (hB : B' ≤ B) : OwnPP w B' v L := by
  obtain ⟨vs, ⟨a1, a2⟩, h2, h3, h4⟩ := h
  refine ⟨vs, ⟨a1, ?_⟩, fun i hi hi' => (h2 i hi hi').weaken hB, h3, h4⟩
  rcases a2 with a2 | ⟨g, cap, cur, e1, e2, e3⟩
  · exact .inl a2
  · exact .inr ⟨g, cap, cur, e1, Nat.le_trans hB e2, e3⟩
theorem OwnPP.nil (w : World) (B : Nat) : OwnPP w B (.slice none 0 0) [] := ⟨[], World.ownsRow_nil _ _ _ _, fun i h => by simp at h, fun i j h => by simp at h, fun i h => by simp at h⟩
theorem OwnPP.empty {w : World} {B g : Nat} (hg : w.heap.size = g) (hB : B ≤ w.heap.size) : OwnPP (w.alloc (.cells #[] 87)) B (.slice (some ⟨g, 0, none⟩) 0 0) [] := by
  subst hg
  exact ⟨[], World.ownsRow_lit (base := B) (e := 87) (size := 1) w #[] 0 hB (by simp [maxLen]) (by simp), fun i h => by simp at h, fun i j h => by simp at h, fun i h => by simp at h⟩
theorem OwnP.to2 {w w1 : World} {B : Nat} {v : Value} {xs : List P2} (h : OwnP w B v xs) (hb : Below w.heap.size w w1) : OwnP w1 B v xs := h.below hb

end Go.Proofs.Ytfkmophmiiehlaa
namespace Go.Proofs.Ytfkmophmiiehlaa
open Go.RowKit
/-- as OwnTT, and none of its blocks is g -/
def OwnTF (w : World) (B g : Nat) (v : Value) (L : List (List T4)) : Prop :=
  ∃ vs : List Value, w.ownsRow B 29 1 v L.length vs ∧ (∀ i (h : i < vs.length) (h' : i < L.length), OwnT w B vs[i] L[i]) ∧
    (∀ i j (h : i < vs.length) (h' : j < vs.length), i ≠ j → Apart vs[i] vs[j]) ∧ (∀ i (h : i < vs.length), Apart vs[i] v) ∧ (∀ k, v.ownBlock = some k → k ≠ g) ∧ ∀ i (h : i < vs.length) k, vs[i].ownBlock = some k → k ≠ g
theorem OwnTF.toTT {w : World} {B g : Nat} {v : Value} {L : List (List T4)} (h : OwnTF w B g v L) : OwnTT w B v L := by
  obtain ⟨vs, h1, h2, h3, h4, _⟩ := h
  exact ⟨vs, h1, h2, h3, h4⟩
theorem OwnTF.frb {w w' : World} {B g B' : Nat} {v : Value} {L : List (List T4)} (h : OwnTF w B g v L) (f : FrB B' g w w') (hB : w.heap.size ≤ B') : OwnTF w' B g v L := by
  obtain ⟨vs, h1, h2, h3, h4, h5, h6⟩ := h
  have hl : vs.length = L.length := by have := h1.1; omega
  refine ⟨vs, ownsRow_same h1 fun k hk => f.block k ?_ (h5 k hk), fun i hi hi' => ownsRow_same (h2 i hi hi') fun k hk => f.block k ?_ (h6 i hi k hk), h3, h4, h5, h6⟩
  · have := (World.ownsRow.lt h1 k hk).2; omega
  · have := (World.ownsRow.lt (h2 i hi hi') k hk).2; omega
theorem OwnTF.empty {w : World} {B g b : Nat} (hb : w.heap.size = b) (hB : B ≤ w.heap.size) (hg : b ≠ g) : OwnTF (w.alloc (.cells #[] 29)) B g (.slice (some ⟨b, 0, none⟩) 0 0) [] := by
  subst hb
  exact ⟨[], World.ownsRow_lit (base := B) (e := 29) (size := 1) w #[] 0 hB (by simp [maxLen]) (by simp), fun i h => by simp at h, fun i j h => by simp at h, fun i h => by simp at h, fun k hk => by have hk' : some w.heap.size = some k := hk; injection hk' with e; omega, fun i h => by simp at h⟩
theorem OwnTF.below {w w1 : World} {B g : Nat} {v : Value} {L : List (List T4)} (h : OwnTF w B g v L) (hb : Below w.heap.size w w1) : OwnTF w1 B g v L := h.frb (FrB.of_below hb (Nat.le_refl _)) (Nat.le_refl _)
end Go.Proofs.Ytfkmophmiiehlaa
