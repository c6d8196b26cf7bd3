/- Contracts and lemmas for the statements of this seat, written for this claim; each theorem states its own conditions. -/
import Derived.Test.YtfkmophmiiehlaaKmSl
import Derived.Test.YtfkmophmiiehlaaKmOw
set_option linter.unusedVariables false
set_option linter.unusedSimpArgs false
namespace Go.Proofs.Ytfkmophmiiehlaa
open Go.RowKit
theorem OwnI.at_ {w : World} {B n cx : Nat} {A : Option Addr} {xs : List Int} (h : OwnI w B (.slice A n cx) xs) (j : Nat) (hj : j < xs.length) :
    ∃ g, A = some ⟨g, 0, none⟩ ∧ B ≤ g ∧ g < w.heap.size ∧ w.cell? ⟨g, j, none⟩ = some (.int .i64 xs[j]) ∧ w.frozen? ⟨g, j, none⟩ = false := by
  have h0 := h
  obtain ⟨h1, h2⟩ := h
  rcases h2 with ⟨e1, e2⟩ | ⟨g, cap, cur, e1, e2, e3, _⟩
  · omega
  · injection e1 with a1 a2 a3
    subst a1 a2 a3
    have hc := World.ownsRow.cellAt h0 j (by omega)
    refine ⟨g, rfl, e2, (Array.getElem?_eq_some_iff.1 e3).1, ?_, World.ownsRow.frozenAt h0 j⟩
    rw [hc]; simp [ints, hj]
theorem OwnI.set {w : World} {B n cx g : Nat} {xs : List Int} (h : OwnI w B (.slice (some ⟨g, 0, none⟩) n cx) xs) (j : Nat) (y : Int) :
    OwnI (w.setCell ⟨g, j, none⟩ (.int .i64 y)) B (.slice (some ⟨g, 0, none⟩) n cx) (xs.set j y) ∧ w.grownBy (w.setCell ⟨g, j, none⟩ (.int .i64 y)) (some g) := by
  have h0 := h
  obtain ⟨h1, h2⟩ := h
  rcases h2 with ⟨e1, e2⟩ | ⟨g', cap, cur, e1, _⟩
  · cases e1
  · injection e1 with a1 a2 a3
    subst a2
    obtain ⟨s1, s2⟩ := World.ownsRow.stored h0 j (.int .i64 y)
    refine ⟨?_, s2⟩
    unfold OwnI
    rw [ints_set] at s1
    rw [List.length_set]
    exact s1
theorem OwnI.len {w : World} {B n cx : Nat} {A : Option Addr} {xs : List Int} (h : OwnI w B (.slice A n cx) xs) : n = xs.length := by
  obtain ⟨h1, h2⟩ := h
  rcases h2 with ⟨e1, e2⟩ | ⟨g', cap, cur, e1, _⟩
  · injection e1 with a1 a2 a3; omega
  · injection e1 with a1 a2 a3
theorem OwnI.cells {w : World} {B n cx : Nat} {A : Option Addr} {xs : List Int} (h : OwnI w B (.slice A n cx) xs) : Cells w A (ints xs) := by
  obtain ⟨A', cx', e, hc, _⟩ := h.shape
  injection e with a1 a2 a3
  subst a1
  exact hc
theorem Blk.own {w : World} {b B : Nat} {xs : List Int} (h : Blk w b (ints xs) 2) (hB : B ≤ b) (hl : xs.length ≤ 9223372036854775807) : OwnI w B (.slice (some ⟨b, 0, none⟩) xs.length xs.length) xs := by
  refine ⟨by rw [ints_length, Nat.mul_one], .inr ⟨b, xs.length, (ints xs).toArray, rfl, hB, h, Nat.le_refl _, by simpa [maxLen] using hl, by simp [ints_length], ?_⟩⟩
  rw [Nat.mul_one]
  exact List.take_of_length_le (by rw [ints_length]; exact Nat.le_refl _)
theorem OwnI.grown {w w1 : World} {B : Nat} {v : Value} {xs : List Int} {row : Option Nat} (h : OwnI w B v xs) (hg : w.grownBy w1 row) (hne : v.ownBlock = none ∨ v.ownBlock ≠ row) : OwnI w1 B v xs := World.ownsRow.kept h hg hne
def marks (k n : Nat) : List Int := (List.range n).map fun j => ((k + j : Nat) : Int)
theorem marks_len (k n : Nat) : (marks k n).length = n := by simp [marks]
theorem marks_get (k n j : Nat) (h : j < (marks k n).length) : (marks k n)[j] = ((k + j : Nat) : Int) := by simp [marks]
theorem marks_step (k j : Nat) (xs : List Int) (hj : j < xs.length) : (marks k j ++ xs.drop j).set j ((k + j : Nat) : Int) = marks k (j + 1) ++ xs.drop (j + 1) := by
  rw [List.set_append_right _ _ (by rw [marks_len]; exact Nat.le_refl _), marks_len, Nat.sub_self, List.drop_eq_getElem_cons hj, List.set_cons_zero]
  simp [marks, List.range_succ]
set_option maxRecDepth 100000 in
set_option maxHeartbeats 1000000 in
theorem markInt64S_c (v : Value) (xs : List Int) (k B : Nat) (w : World) (hO : OwnI w B v xs) (hl : xs.length ≤ 1000000000) (hk : k ≤ 1000000000000) :
    Calls Try.prog 40 #[v, .int .i64 k] w fun e w' => e = .returned (.int .i64 ((k + xs.length : Nat) : Int)) ∧ OwnI w' B v (marks k xs.length) ∧ w.grownBy w' v.ownBlock := by
  obtain ⟨A, cx, rfl, hC, _⟩ := hO.shape
  clear hC
  go_enter Try.func40, Try.ntmps40
  go_wp2
  go_loopw [1, 5] (fun m i wr => ∃ j : Nat, j ≤ xs.length ∧ m = .int .i64 ((k + j : Nat) : Int) ∧ i = .int .i64 j ∧ OwnI wr B (.slice A xs.length cx) (marks k j ++ xs.drop j) ∧ w.grownBy wr (Value.ownBlock (.slice A xs.length cx))) (fun _ i _ => xs.length - (intOf i).toNat)
  case atStart => exact ⟨0, by omega, by simp, by simp, by simpa [marks] using hO, World.grownBy.refl _ _⟩
  case round =>
    obtain ⟨j, hj, rfl, rfl, hO1, hg⟩ := hrel
    by_cases h1 : j < xs.length
    · obtain ⟨g, rfl, p1, p2, p3, p4⟩ := hO1.at_ j (by simp [marks]; omega)
      have HO := Lib.hid hO1
      have HG := Lib.hid hg
      clear hO1 hg hO
      have HS := Lib.hid (marks_step k j xs h1)
      go_wp2
      go_roundw
      case rel => exact ⟨j + 1, by omega, by go_num, by go_num, by rw [← HS.out]; exact (HO.out.set j _).1, HG.out.trans (HO.out.set j _).2⟩
      case measure => simp [intOf]; omega
    · obtain rfl : j = xs.length := by omega
      clear hO
      go_wp2
      go_ret
      exact ⟨rfl, by simpa using hO1, hg⟩
end Go.Proofs.Ytfkmophmiiehlaa
