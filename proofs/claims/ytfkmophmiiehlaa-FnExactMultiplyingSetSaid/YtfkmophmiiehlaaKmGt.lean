/- Contracts and lemmas for the statements of this seat, written for this claim; each theorem states its own conditions. -/
import Derived.Test.YtfkmophmiiehlaaKmGr
set_option linter.unusedVariables false
set_option linter.unusedSimpArgs false
namespace Go.Proofs.Ytfkmophmiiehlaa
open Go.RowKit
theorem NumsIn_iff {N : Nat} {rows : List (List Int)} : NumsIn N rows ↔ ∀ r ∈ rows, ∀ x ∈ r, 0 ≤ x ∧ x < (N : Int) := by
  constructor
  · intro h r hr x hx
    obtain ⟨k, hk, rfl⟩ := List.getElem_of_mem hr
    obtain ⟨j, hj, rfl⟩ := List.getElem_of_mem hx
    exact h k hk j hj
  · intro h k hk j hj
    exact h _ (List.getElem_mem hk) _ (List.getElem_mem hj)
theorem Short_iff {n : Nat} {rows : List (List Int)} : Short n rows ↔ ∀ r ∈ rows, r.length ≤ n := by
  constructor
  · intro h r hr
    obtain ⟨k, hk, rfl⟩ := List.getElem_of_mem hr
    exact h k hk
  · intro h k hk
    exact h _ (List.getElem_mem hk)
theorem mem_grownL {L rows : List (List Int)} {r : List Int} : r ∈ grownL L rows ↔ ∃ row ∈ rows, r = gTop L row ∨ r = gBot L row := by
  unfold grownL; simp [List.mem_flatMap]
theorem grownL_nums {N : Nat} {L rows : List (List Int)} (hB : Blocks N L) (h : NumsIn N rows) : NumsIn N (grownL L rows) := by
  rw [NumsIn_iff] at *
  intro r hr x hx
  have key : ∀ i : Int, 0 ≤ i ∧ i < N → ∀ y ∈ L.getD i.toNat [], 0 ≤ y ∧ y < (N : Int) := fun i hi y hy => by
    obtain ⟨m, rfl⟩ := Int.eq_ofNat_of_zero_le hi.1
    have hm : m < L.length := by rw [hB.1]; omega
    rw [Int.toNat_natCast, show L.getD m [] = L[m] by simp [hm]] at hy
    obtain ⟨j, hj, rfl⟩ := List.getElem_of_mem hy
    exact (hB.2 m hm).2 j hj
  obtain ⟨row, hrow, rfl | rfl⟩ := mem_grownL.1 hr
  · obtain ⟨i, hi, hx⟩ := List.mem_flatMap.1 hx
    exact key i (h row hrow i hi) x (List.mem_of_mem_take hx)
  · obtain ⟨i, hi, hx⟩ := List.mem_flatMap.1 hx
    exact key i (h row hrow i hi) x (List.mem_of_mem_drop hx)
theorem grownL_short {N n : Nat} {L rows : List (List Int)} (hB : Blocks N L) (h : NumsIn N rows) (hs : Short n rows) : Short (2 * n) (grownL L rows) := by
  rw [Short_iff] at *
  rw [NumsIn_iff] at h
  intro r hr
  obtain ⟨row, hrow, e⟩ := mem_grownL.1 hr
  have hl := gTop_len hB (row := row) (fun j hj => h row hrow _ (List.getElem_mem hj))
  have := hs row hrow
  rcases e with rfl | rfl <;> omega
theorem tot_le {n : Nat} : ∀ {L : List (List Int)}, (∀ r ∈ L, r.length ≤ n) → tot L ≤ n * L.length
  | [], _ => by simp [tot]
  | r :: L, h => by
    rw [show tot (r :: L) = r.length + tot L by simp [tot], List.length_cons, Nat.mul_add]
    have h1 := h r (List.mem_cons_self ..)
    have h2 := tot_le (L := L) (fun x hx => h x (List.mem_cons_of_mem _ hx))
    omega
/-- what a call gives back that returns a new list of lists of numbers and a code -/
def RetIIC3 (w : World) (L : List (List Int)) (c : Int) (e : Ending) (w' : World) : Prop :=
  ∃ v, e = .returned (.tuple #[v, .int .i64 c]) ∧ OwnII w' w.heap.size v L ∧ Below w.heap.size w w'
theorem OwnII.one {w : World} {B g : Nat} (x : Int) (hg : w.heap.size = g) (hB : B ≤ w.heap.size) : OwnII ((w.alloc (.cells #[.int .i64 x] 2)).alloc (.cells #[.slice (some ⟨g, 0, none⟩) 1 1] 63)) B (.slice (some ⟨g + 1, 0, none⟩) 1 1) [[x]] := by
  subst hg
  refine ⟨[.slice (some ⟨w.heap.size, 0, none⟩) 1 1], ?_, fun i h h' => ?_, fun i j h h' hij => ?_, fun i h => ?_⟩
  · have := World.ownsRow_lit (base := B) (e := 63) (size := 1) (w.alloc (.cells #[.int .i64 x] 2)) #[.slice (some ⟨w.heap.size, 0, none⟩) 1 1] 1 (by simp; omega) (by simp [maxLen]) (by simp)
    simpa using this
  · have hi : i = 0 := by simp at h; omega
    subst hi
    exact (OwnI.made w B #[.int .i64 x] [x] rfl hB (by simp)).alloc _
  · simp at h h'; omega
  · have hi : i = 0 := by simp at h; omega
    subst hi
    exact Apart.blk (by omega)
end Go.Proofs.Ytfkmophmiiehlaa
