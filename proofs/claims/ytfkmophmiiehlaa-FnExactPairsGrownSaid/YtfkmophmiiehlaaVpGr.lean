/- Contracts and lemmas for the statements of this seat, written for this claim; each theorem states its own conditions. -/
import Derived.Test.YtfkmophmiiehlaaVpCp
import Derived.Test.YtfkmophmiiehlaaVpMk
set_option linter.unusedVariables false
set_option linter.unusedSimpArgs false
namespace Go.Proofs.Ytfkmophmiiehlaa
open Go.RowKit
/-- the slices of a list of slices have room for what they hold -/
def CapsC (w : World) (B : Option Addr) (L : List (List Int)) : Prop :=
  ∀ k (h : k < L.length) b off A cx, B = some ⟨b, off, none⟩ → w.cell? ⟨b, off + k, none⟩ = some (.slice A L[k].length cx) → L[k].length ≤ cx
theorem CapsC.below {w w1 : World} {B : Option Addr} {L : List (List Int)} (h : CapsC w B L) (hR : RowsC w B L) (hb : Below w.heap.size w w1) : CapsC w1 B L := by
  intro k hk b off A cx e hc
  obtain ⟨b', off', A', cx', e', hlt, hc', _⟩ := hR k hk
  rw [e] at e'
  injection e' with e'
  injection e' with e1 e2
  subst e1 e2
  rw [(hb.cell (p := ⟨b, _, none⟩) hlt)] at hc
  exact h k hk b off A cx e hc
theorem OwnI.cap {w : World} {B n cx : Nat} {A : Option Addr} {xs : List Int} (h : OwnI w B (.slice A n cx) xs) : xs.length ≤ cx := by
  obtain ⟨h1, h2⟩ := h
  rcases h2 with ⟨e1, e2⟩ | ⟨g', cap, cur, e1, _, _, e4, _⟩
  · omega
  · injection e1 with a1 a2 a3; omega
theorem OwnII.caps {w : World} {B n cx : Nat} {A : Option Addr} {L : List (List Int)} (h : OwnII w B (.slice A n cx) L) : CapsC w A L := by
  intro k hk b off A' cx' e hc
  obtain ⟨vs, h1, h2, _⟩ := h
  have hl : vs.length = L.length := by have := h1.1; omega
  have h0 := h1
  obtain ⟨_, h3⟩ := h1
  rcases h3 with ⟨h3, h4⟩ | ⟨g, cap, cur, e1, e2, e3, _⟩
  · omega
  · injection e1 with a1 a2 a3
    subst a1 a2 a3
    injection e with e
    injection e with e5 e6
    subst e5 e6
    have h9 := World.ownsRow.cellAt h0 k (by omega)
    rw [Nat.zero_add, h9, List.getElem?_eq_getElem (by omega)] at hc
    have ho := h2 k (by omega) hk
    rw [Option.some.inj hc] at ho
    exact ho.cap
def gTop (L : List (List Int)) (row : List Int) : List Int := row.flatMap fun i => (L.getD i.toNat []).take 2
def gBot (L : List (List Int)) (row : List Int) : List Int := row.flatMap fun i => (L.getD i.toNat []).drop 2
def grownL (L rows : List (List Int)) : List (List Int) := rows.flatMap fun r => [gTop L r, gBot L r]
def NumsIn (N : Nat) (rows : List (List Int)) : Prop := ∀ k (h : k < rows.length) j (hj : j < rows[k].length), 0 ≤ rows[k][j] ∧ rows[k][j] < N
theorem gTop_succ {L : List (List Int)} {row : List Int} {k m : Nat} {b0 b1 b2 b3 : Int} (hk : k < row.length) (hm : row[k] = (m : Int)) (h : m < L.length) (e : L[m] = [b0, b1, b2, b3]) :
    gTop L (row.take (k + 1)) = gTop L (row.take k) ++ [b0, b1] ∧ gBot L (row.take (k + 1)) = gBot L (row.take k) ++ [b2, b3] := by
  unfold gTop gBot; rw [List.take_succ_eq_append_getElem hk, List.flatMap_append, List.flatMap_append]
  simp [hm, h, e]
theorem gTop_len {N : Nat} {L : List (List Int)} (hB : Blocks N L) {row : List Int} (hr : ∀ j (hj : j < row.length), 0 ≤ row[j] ∧ row[j] < N) : (gTop L row).length = 2 * row.length ∧ (gBot L row).length = 2 * row.length := by
  induction row with
  | nil => simp [gTop, gBot]
  | cons x xs ih =>
    obtain ⟨i1, i2⟩ := ih (fun j hj => hr (j + 1) (by simpa using hj))
    obtain ⟨x0, x1⟩ := hr 0 (by simp)
    simp only [List.getElem_cons_zero] at x0 x1
    obtain ⟨m, rfl⟩ := Int.eq_ofNat_of_zero_le x0
    have hm : m < L.length := by rw [hB.1]; omega
    have h4 := (hB.2 m hm).1
    have e1 : gTop L ((m : Int) :: xs) = (L.getD m []).take 2 ++ gTop L xs := rfl
    have e2 : gBot L ((m : Int) :: xs) = (L.getD m []).drop 2 ++ gBot L xs := rfl
    have e3 : L.getD m [] = L[m] := by simp [hm]
    rw [e1, e2, e3, List.length_append, List.length_append, i1, i2, List.length_take, List.length_drop, h4, List.length_cons]
    omega
theorem grownL_succ {L rows : List (List Int)} {k : Nat} (hk : k < rows.length) : grownL L (rows.take (k + 1)) = grownL L (rows.take k) ++ [gTop L rows[k], gBot L rows[k]] := by
  unfold grownL; rw [List.take_succ_eq_append_getElem hk, List.flatMap_append]; simp
theorem grownL_len (L rows : List (List Int)) : (grownL L rows).length = 2 * rows.length := by
  unfold grownL
  induction rows with
  | nil => rfl
  | cons r rs ih => rw [List.flatMap_cons, List.length_append, ih]; simp; omega
theorem four_of {xs : List Int} (h : xs.length = 4) : ∃ a b c d, xs = [a, b, c, d] := by
  match xs, h with
  | [a, b, c, d], _ => exact ⟨a, b, c, d, rfl⟩
theorem OwnI.emptyAt {w : World} {B g : Nat} (hg : w.heap.size = g) (hB : B ≤ w.heap.size) : OwnI (w.alloc (.cells #[] 2)) B (.slice (some ⟨g, 0, none⟩) 0 0) [] := OwnI.newly hg rfl rfl hB (by simp)
end Go.Proofs.Ytfkmophmiiehlaa
namespace Go.Proofs.Ytfkmophmiiehlaa
open Go.RowKit
theorem NumsIn_iff {N : Nat} {rows : List (List Int)} : NumsIn N rows ↔ ∀ r ∈ rows, ∀ x ∈ r, 0 ≤ x ∧ x < (N : Int) := by
  constructor
  · intro h r hr x hx
    obtain ⟨k, hk, rfl⟩ := List.getElem_of_mem hr
    obtain ⟨j, hj, rfl⟩ := List.getElem_of_mem hx
    exact h k hk j hj
  · intro h k hk j hj
    exact h _ (List.getElem_mem hk) _ (List.getElem_mem hj)
theorem Short_iff {n : Nat} {rows : List (List Int)} : Short n rows ↔ ∀ r ∈ rows, r.length ≤ n := by
  constructor
  · intro h r hr
    obtain ⟨k, hk, rfl⟩ := List.getElem_of_mem hr
    exact h k hk
  · intro h k hk
    exact h _ (List.getElem_mem hk)
theorem mem_grownL {L rows : List (List Int)} {r : List Int} : r ∈ grownL L rows ↔ ∃ row ∈ rows, r = gTop L row ∨ r = gBot L row := by
  unfold grownL; simp [List.mem_flatMap]
theorem grownL_nums {N : Nat} {L rows : List (List Int)} (hB : Blocks N L) (h : NumsIn N rows) : NumsIn N (grownL L rows) := by
  rw [NumsIn_iff] at *
  intro r hr x hx
  have key : ∀ i : Int, 0 ≤ i ∧ i < N → ∀ y ∈ L.getD i.toNat [], 0 ≤ y ∧ y < (N : Int) := fun i hi y hy => by
    obtain ⟨m, rfl⟩ := Int.eq_ofNat_of_zero_le hi.1
    have hm : m < L.length := by rw [hB.1]; omega
    rw [Int.toNat_natCast, show L.getD m [] = L[m] by simp [hm]] at hy
    obtain ⟨j, hj, rfl⟩ := List.getElem_of_mem hy
    exact (hB.2 m hm).2 j hj
  obtain ⟨row, hrow, rfl | rfl⟩ := mem_grownL.1 hr
  · obtain ⟨i, hi, hx⟩ := List.mem_flatMap.1 hx
    exact key i (h row hrow i hi) x (List.mem_of_mem_take hx)
  · obtain ⟨i, hi, hx⟩ := List.mem_flatMap.1 hx
    exact key i (h row hrow i hi) x (List.mem_of_mem_drop hx)
theorem grownL_short {N n : Nat} {L rows : List (List Int)} (hB : Blocks N L) (h : NumsIn N rows) (hs : Short n rows) : Short (2 * n) (grownL L rows) := by
  rw [Short_iff] at *
  rw [NumsIn_iff] at h
  intro r hr
  obtain ⟨row, hrow, e⟩ := mem_grownL.1 hr
  have hl := gTop_len hB (row := row) (fun j hj => h row hrow _ (List.getElem_mem hj))
  have := hs row hrow
  rcases e with rfl | rfl <;> omega
theorem tot_le {n : Nat} : ∀ {L : List (List Int)}, (∀ r ∈ L, r.length ≤ n) → tot L ≤ n * L.length
  | [], _ => by simp [tot]
  | r :: L, h => by
    rw [show tot (r :: L) = r.length + tot L by simp [tot], List.length_cons, Nat.mul_add]
    have h1 := h r (List.mem_cons_self ..)
    have h2 := tot_le (L := L) (fun x hx => h x (List.mem_cons_of_mem _ hx))
    omega
/-- what a call gives back that returns a new list of lists of numbers and a code -/
def RetIIC3 (w : World) (L : List (List Int)) (c : Int) (e : Ending) (w' : World) : Prop :=
  ∃ v, e = .returned (.tuple #[v, .int .i64 c]) ∧ OwnII w' w.heap.size v L ∧ Below w.heap.size w w'
theorem OwnII.one {w : World} {B g : Nat} (x : Int) (hg : w.heap.size = g) (hB : B ≤ w.heap.size) : OwnII ((w.alloc (.cells #[.int .i64 x] 2)).alloc (.cells #[.slice (some ⟨g, 0, none⟩) 1 1] 63)) B (.slice (some ⟨g + 1, 0, none⟩) 1 1) [[x]] := by
  subst hg
  refine ⟨[.slice (some ⟨w.heap.size, 0, none⟩) 1 1], ?_, fun i h h' => ?_, fun i j h h' hij => ?_, fun i h => ?_⟩
  · have := World.ownsRow_lit (base := B) (e := 63) (size := 1) (w.alloc (.cells #[.int .i64 x] 2)) #[.slice (some ⟨w.heap.size, 0, none⟩) 1 1] 1 (by simp; omega) (by simp [maxLen]) (by simp)
    simpa using this
  · have hi : i = 0 := by simp at h; omega
    subst hi
    exact (OwnI.made w B #[.int .i64 x] [x] rfl hB (by simp)).alloc _
  · simp at h h'; omega
  · have hi : i = 0 := by simp at h; omega
    subst hi
    exact Apart.blk (by omega)
end Go.Proofs.Ytfkmophmiiehlaa
