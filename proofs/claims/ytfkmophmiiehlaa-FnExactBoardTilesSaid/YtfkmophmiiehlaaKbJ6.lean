/- Contracts and lemmas for the statements of this seat, written for this claim; each theorem states its own conditions. -/
import Derived.BigQuiet
import Derived.Test.YtfkmophmiiehlaaKbJ2
import Derived.Test.YtfkmophmiiehlaaKbSe
import Derived.Test.YtfkmophmiiehlaaKbLi
import Derived.Test.YtfkmophmiiehlaaKbMk
import Derived.Test.YtfkmophmiiehlaaKbOp
set_option linter.unusedVariables false
set_option linter.unusedSimpArgs false
namespace Go.Proofs.Ytfkmophmiiehlaa
open Go.RowKit
/-- an owned slice of tiles, by its cells -/
def OwnTc (w : World) (B : Nat) (v : Value) (n : Nat) (cs : List Value) : Prop := w.ownsRow B 57 4 v n cs
theorem OwnT.toC {w : World} {B : Nat} {v : Value} {ts : List T4} (h : OwnT w B v ts) : OwnTc w B v ts.length (tcells ts) := h
theorem OwnTc.shape {w : World} {B : Nat} {v : Value} {n : Nat} {cs : List Value} (h : OwnTc w B v n cs) : ∃ A cx, v = .slice A n cx ∧ (0 < n → ∃ g, A = some ⟨g, 0, none⟩ ∧ B ≤ g ∧ g < w.heap.size) := by
  obtain ⟨h1, ⟨h3, h2⟩ | ⟨g, cap, cur, rfl, hB, hb, h3, h4, h5, h6⟩⟩ := h
  · exact ⟨none, 0, by rw [h3, h2], fun k => by omega⟩
  · exact ⟨some ⟨g, 0, none⟩, cap, rfl, fun _ => ⟨g, rfl, hB, (Array.getElem?_eq_some_iff.1 hb).1⟩⟩
theorem OwnTc.len {w : World} {B : Nat} {v : Value} {n : Nat} {cs : List Value} (h : OwnTc w B v n cs) : cs.length = n * 4 := h.1
theorem OwnTc.below {w w1 : World} {B : Nat} {v : Value} {n : Nat} {cs : List Value} (h : OwnTc w B v n cs) (hb : Below w.heap.size w w1) : OwnTc w1 B v n cs :=
  World.ownsRow.kept (row := none) h ⟨hb.os, hb.tape, hb.output, hb.size, fun k hk _ => hb.block k hk⟩ (by cases h : v.ownBlock with | none => exact .inl rfl | some k => exact .inr (by simp))
theorem OwnTc.grown {w w1 : World} {B : Nat} {v : Value} {n : Nat} {cs : List Value} {row : Option Nat} (h : OwnTc w B v n cs) (hg : w.grownBy w1 row) (hne : v.ownBlock = none ∨ v.ownBlock ≠ row) : OwnTc w1 B v n cs := World.ownsRow.kept h hg hne
theorem marks_step4 (k j : Nat) (cs : List Value) (hj : j < cs.length) : (ints (marks k j) ++ cs.drop j).set j (.int .i64 ((k + j : Nat) : Int)) = ints (marks k (j + 1)) ++ cs.drop (j + 1) := by
  rw [List.set_append_right _ _ (by rw [ints_length, marks_len]; exact Nat.le_refl _), ints_length, marks_len, Nat.sub_self, List.drop_eq_getElem_cons hj, List.set_cons_zero]
  simp [ints, marks, List.range_succ]
set_option maxRecDepth 100000 in
set_option maxHeartbeats 1000000 in
theorem markT_c (n : Nat) (cs : List Value) (v : Value) (k B : Nat) (w : World) (hO : OwnTc w B v n cs) (hn : n ≤ 1000000000) (hk : k ≤ 1000000000000) :
    Calls Try.prog 27 #[v, .int .i64 k] w fun e w' => e = .returned (.int .i64 ((k + n * 4 : Nat) : Int)) ∧ OwnTc w' B v n (ints (marks k (n * 4))) ∧ w.grownBy w' v.ownBlock := by
  obtain ⟨A, cx, rfl, hA⟩ := hO.shape
  have hcl := hO.len
  have HA := Lib.hid hA
  have HCL := Lib.hid hcl
  clear hA hcl
  go_enter Try.func27, Try.ntmps27
  go_wp2
  go_loopw [1, 5] (fun m i wr => ∃ j : Nat, j ≤ n ∧ m = .int .i64 ((k + j * 4 : Nat) : Int) ∧ i = .int .i64 j ∧ Hid (OwnTc wr B (.slice A n cx) n (ints (marks k (j * 4)) ++ cs.drop (j * 4))) ∧ Hid (w.grownBy wr (Value.ownBlock (.slice A n cx)))) (fun _ i _ => n - (intOf i).toNat)
  case atStart => exact ⟨0, by omega, by simp, rfl, by simpa [marks, ints] using Lib.hid hO, World.grownBy.refl _ _⟩
  case round =>
    obtain ⟨j, hj, rfl, rfl, HC, HG⟩ := hrel
    clear hO
    by_cases hjn : j < n
    · obtain ⟨g, rfl, hBg, hgw⟩ := HA.out (by omega)
      clear hBg hgw
      go_wp2_with fail
      go_loopw [1, 6] (fun m i wr => ∃ q : Nat, q ≤ 4 ∧ m = .int .i64 ((k + j * 4 + q : Nat) : Int) ∧ i = .int .i64 q ∧ Hid (OwnTc wr B (.slice (some ⟨g, 0, none⟩) n cx) n (ints (marks k (j * 4 + q)) ++ cs.drop (j * 4 + q))) ∧ Hid (w.grownBy wr (Value.ownBlock (.slice (some ⟨g, 0, none⟩) n cx)))) (fun _ i _ => 4 - (intOf i).toNat)
      case atStart => exact ⟨0, by omega, by simp, rfl, HC.out, HG.out⟩
      case round =>
        obtain ⟨q, hq, rfl, rfl, HC2, HG2⟩ := hrel
        by_cases hq4 : q < 4
        · have hlt : j * 4 + q < cs.length := by have := HCL.out; omega
          have HS := Lib.hid (marks_step4 k (j * 4 + q) cs hlt)
          have hl2 : j * 4 + q < (ints (marks k (j * 4 + q)) ++ cs.drop (j * 4 + q)).length := by rw [List.length_append, ints_length, marks_len, List.length_drop]; omega
          have r0 := World.ownsRow.cellAt HC2.out (j * 4 + q) (by omega)
          rw [List.getElem?_eq_getElem hl2] at r0
          have z0 := World.ownsRow.frozenAt HC2.out (j * 4 + q)
          generalize (ints (marks k (j * 4 + q)) ++ cs.drop (j * 4 + q))[j * 4 + q] = u at *
          have hlt0 : g < wr.heap.size := (World.ownsRow.lt HC2.out g rfl).2
          clear hl2
          go_wp2_with fail
          go_roundw
          case rel => exact ⟨q + 1, by omega, by go_num, by go_num, by show OwnTc _ _ _ _ _; have := (World.ownsRow.stored HC2.out (j * 4 + q) (.int .i64 ((k + (j * 4 + q) : Nat) : Int))).1; rw [HS.out] at this; rw [show j * 4 + (q + 1) = j * 4 + q + 1 by omega, show (k : Int) + j * 4 + q = ((k + (j * 4 + q) : Nat) : Int) by omega]; exact this, HG2.out.trans (World.ownsRow.stored HC2.out (j * 4 + q) _).2⟩
          case measure => simp [intOf]; omega
        · obtain rfl : q = 4 := by omega
          go_wp2_with fail
          go_roundw
          case rel => exact ⟨j + 1, by omega, by go_num, by go_num, by show OwnTc _ _ _ _ _; rw [show (j + 1) * 4 = j * 4 + 4 by omega]; exact HC2.out, HG2.out⟩
          case measure => simp [intOf]; omega
    · obtain rfl : j = n := by omega
      go_wp2
      go_ret
      refine ⟨rfl, ?_, HG.out⟩
      have := HC.out
      rw [List.drop_eq_nil_of_le (by have := HCL.out; omega), List.append_nil] at this
      exact this
end Go.Proofs.Ytfkmophmiiehlaa
namespace Go.Proofs.Ytfkmophmiiehlaa
open Go.RowKit
theorem Blk.grownB {w w' : World} {b : Nat} {cs : List Value} {T : TypeId} {row : Option Nat} (h : Blk w b cs T) (hg : w.grownBy w' row) (hne : row ≠ some b) : Blk w' b cs T := (hg.block b h.lt (fun e => hne e.symm)).trans h
theorem OwnT.grown {w w1 : World} {B : Nat} {v : Value} {ts : List T4} {row : Option Nat} (h : OwnT w B v ts) (hg : w.grownBy w1 row) (hne : v.ownBlock = none ∨ v.ownBlock ≠ row) : OwnT w1 B v ts := World.ownsRow.kept h hg hne
theorem OwnT.blt {w : World} {B : Nat} {v : Value} {ts : List T4} (h : OwnT w B v ts) : ∀ k, v.ownBlock = some k → B ≤ k ∧ k < w.heap.size := fun k hk => World.ownsRow.lt h k hk
theorem OwnT.tilesAt {w : World} {B n cx : Nat} {A : Option Addr} {ts : List T4} (h : OwnT w B (.slice A n cx) ts) : TileCells w A ts := by
  obtain ⟨A', cx', e, hT⟩ := h.tiles
  injection e with a1 a2 a3
  subst a1
  exact hT
end Go.Proofs.Ytfkmophmiiehlaa
namespace Go.Proofs.Ytfkmophmiiehlaa
open Go.RowKit
def minL : List Int → Int
  | [] => 0
  | x :: xs => xs.foldl min x
def maxL : List Int → Int
  | [] => 0
  | x :: xs => xs.foldl max x
theorem minL_take {xs : List Int} {k : Nat} (h0 : 0 < k) (h : k < xs.length) : minL (xs.take (k + 1)) = min (minL (xs.take k)) xs[k] := by
  cases xs with
  | nil => simp at h
  | cons x xs =>
    obtain ⟨j, rfl⟩ : ∃ j, k = j + 1 := ⟨k - 1, by omega⟩
    rw [List.take_succ_cons, List.take_succ_cons]
    show (xs.take (j + 1)).foldl min x = min ((xs.take j).foldl min x) _
    rw [List.take_succ_eq_append_getElem (by simpa using h), List.foldl_append]
    rfl
theorem maxL_take {xs : List Int} {k : Nat} (h0 : 0 < k) (h : k < xs.length) : maxL (xs.take (k + 1)) = max (maxL (xs.take k)) xs[k] := by
  cases xs with
  | nil => simp at h
  | cons x xs =>
    obtain ⟨j, rfl⟩ : ∃ j, k = j + 1 := ⟨k - 1, by omega⟩
    rw [List.take_succ_cons, List.take_succ_cons]
    show (xs.take (j + 1)).foldl max x = max ((xs.take j).foldl max x) _
    rw [List.take_succ_eq_append_getElem (by simpa using h), List.foldl_append]
    rfl
theorem foldl_min : ∀ (xs : List Int) (x : Int), xs.foldl min x ≤ x ∧ (∀ y ∈ xs, xs.foldl min x ≤ y) ∧ (xs.foldl min x = x ∨ xs.foldl min x ∈ xs)
  | [], x => by simp
  | z :: xs, x => by
    obtain ⟨h1, h2, h3⟩ := foldl_min xs (min x z)
    refine ⟨by rw [List.foldl_cons]; omega, fun y hy => ?_, ?_⟩
    · rw [List.foldl_cons]
      rcases List.mem_cons.1 hy with rfl | hy
      · omega
      · exact h2 y hy
    · rw [List.foldl_cons]
      rcases h3 with h3 | h3
      · rw [h3]
        rcases Int.le_total x z with h | h
        · left; omega
        · right; rw [show min x z = z by omega]; simp
      · right; simp [h3]
theorem foldl_max : ∀ (xs : List Int) (x : Int), x ≤ xs.foldl max x ∧ (∀ y ∈ xs, y ≤ xs.foldl max x) ∧ (xs.foldl max x = x ∨ xs.foldl max x ∈ xs)
  | [], x => by simp
  | z :: xs, x => by
    obtain ⟨h1, h2, h3⟩ := foldl_max xs (max x z)
    refine ⟨by rw [List.foldl_cons]; omega, fun y hy => ?_, ?_⟩
    · rw [List.foldl_cons]
      rcases List.mem_cons.1 hy with rfl | hy
      · omega
      · exact h2 y hy
    · rw [List.foldl_cons]
      rcases h3 with h3 | h3
      · rw [h3]
        rcases Int.le_total x z with h | h
        · right; rw [show max x z = z by omega]; simp
        · left; omega
      · right; simp [h3]
theorem minL_le {xs : List Int} {y : Int} (h : y ∈ xs) : minL xs ≤ y := by
  cases xs with
  | nil => simp at h
  | cons x xs =>
    obtain ⟨h1, h2, _⟩ := foldl_min xs x
    rcases List.mem_cons.1 h with rfl | h
    · exact h1
    · exact h2 y h
theorem le_maxL {xs : List Int} {y : Int} (h : y ∈ xs) : y ≤ maxL xs := by
  cases xs with
  | nil => simp at h
  | cons x xs =>
    obtain ⟨h1, h2, _⟩ := foldl_max xs x
    rcases List.mem_cons.1 h with rfl | h
    · exact h1
    · exact h2 y h
theorem minL_mem {xs : List Int} (h : xs ≠ []) : minL xs ∈ xs := by
  cases xs with
  | nil => exact absurd rfl h
  | cons x xs =>
    rcases (foldl_min xs x).2.2 with h | h
    · show xs.foldl min x ∈ _; rw [h]; simp
    · exact List.mem_cons_of_mem _ h
theorem maxL_mem {xs : List Int} (h : xs ≠ []) : maxL xs ∈ xs := by
  cases xs with
  | nil => exact absurd rfl h
  | cons x xs =>
    rcases (foldl_max xs x).2.2 with h | h
    · show xs.foldl max x ∈ _; rw [h]; simp
    · exact List.mem_cons_of_mem _ h
end Go.Proofs.Ytfkmophmiiehlaa
