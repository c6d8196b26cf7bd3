/- Contracts and lemmas for the statements of this seat, written for this claim; each theorem states its own conditions. -/
import Derived.Test.YtfkmophmiiehlaaKmSu
import Derived.Test.YtfkmophmiiehlaaKmRo
import Derived.Test.YtfkmophmiiehlaaKmMk
set_option linter.unusedVariables false
set_option linter.unusedSimpArgs false
namespace Go.Proofs.Ytfkmophmiiehlaa
open Go.RowKit
def crow (k : Col) : List Int := [k.n, k.w, k.e, k.s]
def crows (l : List Col) : List (List Int) := l.map crow
theorem crows_len (l : List Col) : (crows l).length = l.length := by simp [crows]
theorem crows_append (l m : List Col) : crows (l ++ m) = crows l ++ crows m := by simp [crows]
theorem grown_dr {w W : World} {r : Option Nat} (h : w.grownBy W r) : w.grownBy W.drew r := ⟨h.os, h.tape, h.output, h.size, h.block⟩
theorem OwnII.lt {w : World} {B : Nat} {v : Value} {L : List (List Int)} (h : OwnII w B v L) : ∀ k, v.ownBlock = some k → B ≤ k ∧ k < w.heap.size := by
  obtain ⟨vs, h1, _⟩ := h
  exact fun k hk => World.ownsRow.lt h1 k hk
theorem OwnII.lit {w : World} {B g n : Nat} {cs : Array Value} {xs : List Int} (hg : w.heap.size = g) (hn : n = xs.length) (hc : cs.toList = ints xs) (hl : xs.length ≤ 1000000) (hB : B ≤ w.heap.size) :
    OwnII ((w.alloc (.cells cs 2)).alloc (.cells #[.slice (some ⟨g, 0, none⟩) n n] 63)) B (.slice (some ⟨g + 1, 0, none⟩) 1 1) [xs] := by
  subst hg hn
  refine ⟨[.slice (some ⟨w.heap.size, 0, none⟩) xs.length xs.length], ?_, fun i h h' => ?_, fun i j h h' hij => ?_, fun i h => ?_⟩
  · have := World.ownsRow_lit (base := B) (e := 63) (size := 1) (w.alloc (.cells cs 2)) #[.slice (some ⟨w.heap.size, 0, none⟩) xs.length xs.length] 1 (by simp; omega) (by simp [maxLen]) (by simp)
    simpa using this
  · have hi : i = 0 := by simp at h; omega
    subst hi
    exact (OwnI.made w B cs xs hc hB (by omega)).alloc _
  · simp at h h'; omega
  · have hi : i = 0 := by simp at h; omega
    subst hi
    exact Apart.blk (by omega)
end Go.Proofs.Ytfkmophmiiehlaa
