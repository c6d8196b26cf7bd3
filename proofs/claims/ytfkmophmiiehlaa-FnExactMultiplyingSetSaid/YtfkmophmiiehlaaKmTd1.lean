/- Contracts and lemmas for the statements of this seat, written for this claim; each theorem states its own conditions. -/
import Derived.Test.YtfkmophmiiehlaaKmTc1
import Derived.Test.YtfkmophmiiehlaaKmSy
set_option linter.unusedVariables false
set_option linter.unusedSimpArgs false
namespace Go.Proofs.Ytfkmophmiiehlaa
open Go.RowKit
theorem OwnBB.one {w : World} {B n cx : Nat} {A : Option Addr} {xs : List Bool} (hO : OwnB w B (.slice A n cx) xs) (hB : B ≤ w.heap.size) :
    OwnBB (w.alloc (.cells #[.slice A n cx] 115)) B (.slice (some ⟨w.heap.size, 0, none⟩) 1 1) [xs] := by
  refine ⟨[.slice A n cx], ?_, fun i h h' => ?_, fun i j h h' hij => ?_, fun i h => ?_⟩
  · have := World.ownsRow_lit (base := B) (e := 115) (size := 1) w #[.slice A n cx] 1 hB (by simp [maxLen]) (by simp)
    simpa using this
  · have hi : i = 0 := by simp at h; omega
    subst hi
    exact hO.below (below_al (Below.refl _ _))
  · simp at h h'; omega
  · have hi : i = 0 := by simp at h; omega
    subst hi
    cases e : (Value.slice A n cx).ownBlock with
    | none => exact .inl e
    | some k => right; rw [List.getElem_cons_zero, e]; intro e2; have h8 := (hO.lt k e).2; have e3 : some k = some w.heap.size := e2; injection e3 with e3; omega
/-- a step back: from where a column leads to one of some words -/
def bstep (far nx : List Bool) (k : Col) : List Bool := if far.getD k.e.toNat false = true then nx.set k.w.toNat true else nx
def bgo (S : Nat) (cols : List Col) (far : List Bool) : List Bool := cols.foldl (bstep far) (List.replicate S false)
def farAt (S : Nat) (cols : List Col) : Nat → List Bool
  | 0 => List.replicate S true
  | i + 1 => bgo S cols (farAt S cols i)
def farL (S : Nat) (cols : List Col) (n : Nat) : List (List Bool) := (List.range (n + 1)).map (farAt S cols)
theorem bstep_len (far nx : List Bool) (k : Col) : (bstep far nx k).length = nx.length := by unfold bstep; split <;> simp
theorem bgo_len (S : Nat) (cols : List Col) (far : List Bool) : (bgo S cols far).length = S := by
  unfold bgo
  suffices ∀ nx : List Bool, (cols.foldl (bstep far) nx).length = nx.length by rw [this]; simp
  intro nx
  induction cols generalizing nx with
  | nil => rfl
  | cons k l ih => rw [List.foldl_cons, ih, bstep_len]
theorem farAt_len (S : Nat) (cols : List Col) : ∀ i, (farAt S cols i).length = S
  | 0 => by simp [farAt]
  | _ + 1 => bgo_len ..
theorem farL_len (S : Nat) (cols : List Col) (n : Nat) : (farL S cols n).length = n + 1 := by simp [farL]
theorem farL_get (S : Nat) (cols : List Col) (n i : Nat) (h : i < (farL S cols n).length) : (farL S cols n)[i] = farAt S cols i := by simp [farL]
theorem farL_succ (S : Nat) (cols : List Col) (n : Nat) : farL S cols (n + 1) = farL S cols n ++ [farAt S cols (n + 1)] := by simp [farL, List.range_succ]
theorem bgo_take (S : Nat) (cols : List Col) (far : List Bool) (j : Nat) (hj : j < cols.length) : bgo S (cols.take (j + 1)) far = bstep far (bgo S (cols.take j) far) cols[j] := by
  unfold bgo; rw [List.take_succ_eq_append_getElem hj, List.foldl_append]; rfl
theorem bstep_eq (far nx : List Bool) (k : Col) (h : k.e.toNat < far.length) : bstep far nx k = if far[k.e.toNat] = true then nx.set k.w.toNat true else nx := by
  unfold bstep; simp [h]
end Go.Proofs.Ytfkmophmiiehlaa
