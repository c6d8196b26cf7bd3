/- Contracts and lemmas for the statements of this seat, written for this claim; each theorem states its own conditions. -/
import Derived.Test.YtfkmophmiiehlaaKbCp
import Derived.Test.YtfkmophmiiehlaaKbMk
set_option linter.unusedVariables false
set_option linter.unusedSimpArgs false
namespace Go.Proofs.Ytfkmophmiiehlaa
open Go.RowKit
theorem NumsIn_iff {N : Nat} {rows : List (List Int)} : NumsIn N rows ↔ ∀ r ∈ rows, ∀ x ∈ r, 0 ≤ x ∧ x < (N : Int) := by
  constructor
  · intro h r hr x hx
    obtain ⟨k, hk, rfl⟩ := List.getElem_of_mem hr
    obtain ⟨j, hj, rfl⟩ := List.getElem_of_mem hx
    exact h k hk j hj
  · intro h k hk j hj
    exact h _ (List.getElem_mem hk) _ (List.getElem_mem hj)
theorem Short_iff {n : Nat} {rows : List (List Int)} : Short n rows ↔ ∀ r ∈ rows, r.length ≤ n := by
  constructor
  · intro h r hr
    obtain ⟨k, hk, rfl⟩ := List.getElem_of_mem hr
    exact h k hk
  · intro h k hk
    exact h _ (List.getElem_mem hk)
theorem mem_grownL {L rows : List (List Int)} {r : List Int} : r ∈ grownL L rows ↔ ∃ row ∈ rows, r = gTop L row ∨ r = gBot L row := by
  unfold grownL; simp [List.mem_flatMap]
theorem grownL_nums {N : Nat} {L rows : List (List Int)} (hB : Blocks N L) (h : NumsIn N rows) : NumsIn N (grownL L rows) := by
  rw [NumsIn_iff] at *
  intro r hr x hx
  have key : ∀ i : Int, 0 ≤ i ∧ i < N → ∀ y ∈ L.getD i.toNat [], 0 ≤ y ∧ y < (N : Int) := fun i hi y hy => by
    obtain ⟨m, rfl⟩ := Int.eq_ofNat_of_zero_le hi.1
    have hm : m < L.length := by rw [hB.1]; omega
    rw [Int.toNat_natCast, show L.getD m [] = L[m] by simp [hm]] at hy
    obtain ⟨j, hj, rfl⟩ := List.getElem_of_mem hy
    exact (hB.2 m hm).2 j hj
  obtain ⟨row, hrow, rfl | rfl⟩ := mem_grownL.1 hr
  · obtain ⟨i, hi, hx⟩ := List.mem_flatMap.1 hx
    exact key i (h row hrow i hi) x (List.mem_of_mem_take hx)
  · obtain ⟨i, hi, hx⟩ := List.mem_flatMap.1 hx
    exact key i (h row hrow i hi) x (List.mem_of_mem_drop hx)
theorem grownL_short {N n : Nat} {L rows : List (List Int)} (hB : Blocks N L) (h : NumsIn N rows) (hs : Short n rows) : Short (2 * n) (grownL L rows) := by
  rw [Short_iff] at *
  rw [NumsIn_iff] at h
  intro r hr
  obtain ⟨row, hrow, e⟩ := mem_grownL.1 hr
  have hl := gTop_len hB (row := row) (fun j hj => h row hrow _ (List.getElem_mem hj))
  have := hs row hrow
  rcases e with rfl | rfl <;> omega
theorem tot_le {n : Nat} : ∀ {L : List (List Int)}, (∀ r ∈ L, r.length ≤ n) → tot L ≤ n * L.length
  | [], _ => by simp [tot]
  | r :: L, h => by
    rw [show tot (r :: L) = r.length + tot L by simp [tot], List.length_cons, Nat.mul_add]
    have h1 := h r (List.mem_cons_self ..)
    have h2 := tot_le (L := L) (fun x hx => h x (List.mem_cons_of_mem _ hx))
    omega
/-- what a call gives back that returns a new list of lists of numbers and a code -/
def RetIIC3 (w : World) (L : List (List Int)) (c : Int) (e : Ending) (w' : World) : Prop :=
  ∃ v, e = .returned (.tuple #[v, .int .i64 c]) ∧ OwnII w' w.heap.size v L ∧ Below w.heap.size w w'
theorem OwnII.one {w : World} {B g : Nat} (x : Int) (hg : w.heap.size = g) (hB : B ≤ w.heap.size) : OwnII ((w.alloc (.cells #[.int .i64 x] 2)).alloc (.cells #[.slice (some ⟨g, 0, none⟩) 1 1] 63)) B (.slice (some ⟨g + 1, 0, none⟩) 1 1) [[x]] := by
  subst hg
  refine ⟨[.slice (some ⟨w.heap.size, 0, none⟩) 1 1], ?_, fun i h h' => ?_, fun i j h h' hij => ?_, fun i h => ?_⟩
  · have := World.ownsRow_lit (base := B) (e := 63) (size := 1) (w.alloc (.cells #[.int .i64 x] 2)) #[.slice (some ⟨w.heap.size, 0, none⟩) 1 1] 1 (by simp; omega) (by simp [maxLen]) (by simp)
    simpa using this
  · have hi : i = 0 := by simp at h; omega
    subst hi
    exact (OwnI.made w B #[.int .i64 x] [x] rfl hB (by simp)).alloc _
  · simp at h h'; omega
  · have hi : i = 0 := by simp at h; omega
    subst hi
    exact Apart.blk (by omega)
end Go.Proofs.Ytfkmophmiiehlaa
namespace Go.Proofs.Ytfkmophmiiehlaa
open Go.RowKit
theorem infoBool : (Try.prog.info? 4).map (fun i => (i.zero, i.size, i.bytes)) = some (some (.bool false), 1, 1) := by kernel_rfl
def bools (xs : List Bool) : List Value := xs.map fun x => .bool x
theorem bools_length (xs : List Bool) : (bools xs).length = xs.length := by simp [bools]
theorem bools_set (xs : List Bool) (k : Nat) (x : Bool) : (bools xs).set k (.bool x) = bools (xs.set k x) := by simp [bools, List.map_set]
theorem Blk.bool {w : World} {b : Nat} {xs : List Bool} {T : TypeId} (h : Blk w b (bools xs) T) (k : Nat) (hk : k < xs.length) : w.cell? ⟨b, k, none⟩ = some (.bool xs[k]) := by
  rw [h.cell k (by rw [bools_length]; exact hk)]; simp [bools]
theorem Blk.setBool {w : World} {b : Nat} {xs : List Bool} {T : TypeId} (h : Blk w b (bools xs) T) (k : Nat) (x : Bool) : Blk (w.setCell ⟨b, k, none⟩ (.bool x)) b (bools (xs.set k x)) T := by
  rw [← bools_set]; exact h.set k _
/-- which tiles were met, and the list of those that still are to be looked at -/
structure Met where
  met : List Bool
  list : List Int
def metOne (s : Met) (j : Int) : Met := if s.met.getD j.toNat false = true then s else ⟨s.met.set j.toNat true, s.list ++ [j]⟩
def metRow (row : List Int) (s : Met) (m : Nat) : Met := (row.take m).foldl metOne s
def metStep (L : List (List Int)) (s : Met) (k : Nat) : Met := metRow (L.getD (s.list.getD k 0).toNat []) s 4
def metTo (L : List (List Int)) (i : Int) : Nat → Met
  | 0 => ⟨(List.replicate L.length false).set i.toNat true, [i]⟩
  | k + 1 => metStep L (metTo L i k) k
theorem metRow_succ {row : List Int} {s : Met} {m : Nat} (h : m < row.length) : metRow row s (m + 1) = metOne (metRow row s m) row[m] := by
  unfold metRow; rw [List.take_succ_eq_append_getElem h, List.foldl_append]; rfl
theorem metRow_zero (row : List Int) (s : Met) : metRow row s 0 = s := by simp [metRow]
/-- what holds of all that is met: the list has each tile that was met, once -/
theorem getB_self {xs : List Bool} {m : Nat} (h : m < xs.length) : (xs.set m true).getD m false = true := by simp [h]
theorem getB_ne {xs : List Bool} {m k : Nat} (h : m ≠ k) : (xs.set m true).getD k false = xs.getD k false := by simp [List.getElem?_set_ne h]
def MetOk (N : Nat) (s : Met) : Prop := s.met.length = N ∧ (∀ x ∈ s.list, 0 ≤ x ∧ x < (N : Int) ∧ s.met.getD x.toNat false = true) ∧ s.list.Nodup
theorem metOne_ok {N : Nat} {s : Met} (h : MetOk N s) {j : Int} (j0 : 0 ≤ j) (j1 : j < N) : MetOk N (metOne s j) := by
  obtain ⟨h1, h2, h3⟩ := h
  obtain ⟨m, rfl⟩ := Int.eq_ofNat_of_zero_le j0
  have hm : m < N := by omega
  unfold metOne
  split
  · exact ⟨h1, h2, h3⟩
  · rename_i hf
    refine ⟨by simpa using h1, fun x hx => ?_, ?_⟩
    · rcases List.mem_append.1 hx with hx | hx
      · obtain ⟨a, b, c⟩ := h2 x hx
        refine ⟨a, b, ?_⟩
        rw [Int.toNat_natCast]
        by_cases e : m = x.toNat
        · rw [← e]; exact getB_self (by omega)
        · rw [getB_ne e]; exact c
      · simp at hx; subst hx
        exact ⟨by omega, by omega, getB_self (by rw [Int.toNat_natCast]; omega)⟩
    · rw [List.nodup_append]
      refine ⟨h3, by simp, fun x hx y hy => ?_⟩
      simp at hy; subst hy
      intro e; subst e
      exact hf (h2 _ hx).2.2
theorem metRow_ok {N : Nat} {row : List Int} {s : Met} (h : MetOk N s) (hr : ∀ j (hj : j < row.length), 0 ≤ row[j] ∧ row[j] < N) : ∀ m, m ≤ row.length → MetOk N (metRow row s m)
  | 0, _ => by rw [metRow_zero]; exact h
  | m + 1, hm => by
    rw [metRow_succ (by omega)]
    exact metOne_ok (metRow_ok h hr m (by omega)) (hr m (by omega)).1 (hr m (by omega)).2
theorem nodup_pigeon {N : Nat} {l : List Int} (h : l.Nodup) (hr : ∀ x ∈ l, 0 ≤ x ∧ x < (N : Int)) : l.length ≤ N := by
  refine pigeon N (fun k => l.getD k 0) l.length (fun a ha => ?_) (fun a b hab hb => ?_)
  · rw [show l.getD a 0 = l[a] by simp [ha]]; exact hr _ (List.getElem_mem ha)
  · have ha : a < l.length := by omega
    rw [show l.getD a 0 = l[a] by simp [ha], show l.getD b 0 = l[b] by simp [hb]]
    exact fun e => (List.pairwise_iff_getElem.1 h) a b ha hb hab e
theorem MetOk.len {N : Nat} {s : Met} (h : MetOk N s) : s.list.length ≤ N := nodup_pigeon h.2.2 (fun x hx => ⟨(h.2.1 x hx).1, (h.2.1 x hx).2.1⟩)
theorem metOne_len (s : Met) (j : Int) : s.list.length ≤ (metOne s j).list.length := by unfold metOne; split <;> simp
theorem metRow_len (row : List Int) (s : Met) (m : Nat) : s.list.length ≤ (metRow row s m).list.length := by
  unfold metRow
  generalize row.take m = l
  induction l generalizing s with
  | nil => exact Nat.le_refl _
  | cons x l ih => rw [List.foldl_cons]; exact Nat.le_trans (metOne_len s x) (ih _)
theorem metOne_pre (s : Met) (j : Int) : ∃ t, (metOne s j).list = s.list ++ t := by unfold metOne; split; exact ⟨[], by simp⟩; exact ⟨[j], rfl⟩
theorem metRow_pre (row : List Int) (s : Met) (m : Nat) : ∃ t, (metRow row s m).list = s.list ++ t := by
  unfold metRow
  generalize row.take m = l
  induction l generalizing s with
  | nil => exact ⟨[], by simp⟩
  | cons x l ih =>
    rw [List.foldl_cons]
    obtain ⟨t, ht⟩ := ih (metOne s x)
    obtain ⟨u, hu⟩ := metOne_pre s x
    exact ⟨u ++ t, by rw [ht, hu, List.append_assoc]⟩
def PreEnd (L : List (List Int)) (i : Int) (k : Nat) : Prop := ∀ j, j < k → j < (metTo L i j).list.length
def IsEnd (L : List (List Int)) (i : Int) (k : Nat) : Prop := PreEnd L i k ∧ (metTo L i k).list.length ≤ k
theorem IsEnd.uniq {L : List (List Int)} {i : Int} {k k' : Nat} (h : IsEnd L i k) (h' : IsEnd L i k') : k = k' := by
  rcases Nat.lt_trichotomy k k' with hh | hh | hh
  · have := h'.1 k hh; have := h.2; omega
  · exact hh
  · have := h.1 k' hh; have := h'.2; omega
noncomputable def endOf (L : List (List Int)) (i : Int) : Nat := open Classical in if h : ∃ k, IsEnd L i k then h.choose else 0
theorem endOf_eq {L : List (List Int)} {i : Int} {k : Nat} (h : IsEnd L i k) : endOf L i = k := by
  have he : ∃ k, IsEnd L i k := ⟨k, h⟩
  unfold endOf
  rw [dif_pos he]
  exact he.choose_spec.uniq h
noncomputable def metV (L : List (List Int)) (i : Int) : List Bool := (metTo L i (endOf L i)).met
theorem metTo_ok {N : Nat} {L : List (List Int)} (hB : Blocks N L) {i : Int} (h0 : 0 ≤ i) (h1 : i < N) : ∀ k, PreEnd L i k → MetOk N (metTo L i k)
  | 0, _ => by
    obtain ⟨m, rfl⟩ := Int.eq_ofNat_of_zero_le h0
    refine ⟨by simp [metTo, hB.1], fun x hx => ?_, by simp [metTo]⟩
    simp [metTo] at hx; subst hx
    exact ⟨by omega, h1, getB_self (by simp [hB.1]; omega)⟩
  | k + 1, hp => by
    have ih := metTo_ok hB h0 h1 k (fun j hj => hp j (by omega))
    have hk := hp k (by omega)
    obtain ⟨a, b, _⟩ := ih.2.1 _ (List.getElem_mem hk)
    obtain ⟨m, hm⟩ := Int.eq_ofNat_of_zero_le a
    have hmL : m < L.length := by rw [hB.1]; omega
    have h4 := (hB.2 m hmL)
    show MetOk N (metStep L (metTo L i k) k)
    unfold metStep
    rw [show (metTo L i k).list.getD k 0 = (metTo L i k).list[k] by simp [hk], hm, Int.toNat_natCast, show L.getD m [] = L[m] by simp [hmL]]
    exact metRow_ok ih h4.2 4 (by rw [h4.1]; omega)
theorem metTo_step {N : Nat} {L : List (List Int)} (hB : Blocks N L) {i : Int} (h0 : 0 ≤ i) (h1 : i < N) {k : Nat} (hp : PreEnd L i k) (hk : k < (metTo L i k).list.length) :
    ∃ m, ∃ h : m < L.length, (metTo L i k).list[k] = (m : Int) ∧ metTo L i (k + 1) = metRow L[m] (metTo L i k) 4 := by
  obtain ⟨a, b, _⟩ := (metTo_ok hB h0 h1 k hp).2.1 _ (List.getElem_mem hk)
  obtain ⟨m, hm⟩ := Int.eq_ofNat_of_zero_le a
  have hmL : m < L.length := by rw [hB.1]; omega
  refine ⟨m, hmL, hm, ?_⟩
  show metStep L (metTo L i k) k = _
  unfold metStep
  rw [show (metTo L i k).list.getD k 0 = (metTo L i k).list[k] by simp [hk], hm, Int.toNat_natCast, show L.getD m [] = L[m] by simp [hmL]]
theorem Blk.grown {w w' : World} {b : Nat} {cs : List Value} {T : TypeId} {row : Option Nat} (h : Blk w b cs T) (hg : w.grownBy w' row) (hne : some b ≠ row) : Blk w' b cs T := by
  obtain ⟨_, _, _, _, g5⟩ := hg
  exact (g5 b h.lt hne).trans h
theorem made_bools (n j : Nat) : ((madeCells #[Value.bool false] n).setIfInBounds j (.bool true)).toList = bools ((List.replicate n false).set j true) := by
  rw [Array.toList_setIfInBounds, toList_madeCells_one, ← bools_set]; simp [bools]
theorem made_bools0 (n : Nat) : (madeCells #[Value.bool false] n).toList = bools (List.replicate n false) := by
  rw [toList_madeCells_one]; simp [bools]
end Go.Proofs.Ytfkmophmiiehlaa
