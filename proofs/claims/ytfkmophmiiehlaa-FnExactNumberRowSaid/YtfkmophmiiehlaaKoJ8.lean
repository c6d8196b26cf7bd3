/- Contracts and lemmas for the statements of this seat, written for this claim; each theorem states its own conditions. -/
import Derived.BigQuiet
import Derived.Test.YtfkmophmiiehlaaKoJ4
import Derived.Test.YtfkmophmiiehlaaKoTg
import Derived.Test.YtfkmophmiiehlaaKoN8
import Derived.Test.YtfkmophmiiehlaaKoLi
set_option linter.unusedVariables false
set_option linter.unusedSimpArgs false
namespace Go.Proofs.Ytfkmophmiiehlaa
open Go.RowKit
def minL : List Int → Int
  | [] => 0
  | x :: xs => xs.foldl min x
def maxL : List Int → Int
  | [] => 0
  | x :: xs => xs.foldl max x
theorem minL_take {xs : List Int} {k : Nat} (h0 : 0 < k) (h : k < xs.length) : minL (xs.take (k + 1)) = min (minL (xs.take k)) xs[k] := by
  cases xs with
  | nil => simp at h
  | cons x xs =>
    obtain ⟨j, rfl⟩ : ∃ j, k = j + 1 := ⟨k - 1, by omega⟩
    rw [List.take_succ_cons, List.take_succ_cons]
    show (xs.take (j + 1)).foldl min x = min ((xs.take j).foldl min x) _
    rw [List.take_succ_eq_append_getElem (by simpa using h), List.foldl_append]
    rfl
theorem maxL_take {xs : List Int} {k : Nat} (h0 : 0 < k) (h : k < xs.length) : maxL (xs.take (k + 1)) = max (maxL (xs.take k)) xs[k] := by
  cases xs with
  | nil => simp at h
  | cons x xs =>
    obtain ⟨j, rfl⟩ : ∃ j, k = j + 1 := ⟨k - 1, by omega⟩
    rw [List.take_succ_cons, List.take_succ_cons]
    show (xs.take (j + 1)).foldl max x = max ((xs.take j).foldl max x) _
    rw [List.take_succ_eq_append_getElem (by simpa using h), List.foldl_append]
    rfl
theorem foldl_min : ∀ (xs : List Int) (x : Int), xs.foldl min x ≤ x ∧ (∀ y ∈ xs, xs.foldl min x ≤ y) ∧ (xs.foldl min x = x ∨ xs.foldl min x ∈ xs)
  | [], x => by simp
  | z :: xs, x => by
    obtain ⟨h1, h2, h3⟩ := foldl_min xs (min x z)
    refine ⟨by rw [List.foldl_cons]; omega, fun y hy => ?_, ?_⟩
    · rw [List.foldl_cons]
      rcases List.mem_cons.1 hy with rfl | hy
      · omega
      · exact h2 y hy
    · rw [List.foldl_cons]
      rcases h3 with h3 | h3
      · rw [h3]
        rcases Int.le_total x z with h | h
        · left; omega
        · right; rw [show min x z = z by omega]; simp
      · right; simp [h3]
theorem foldl_max : ∀ (xs : List Int) (x : Int), x ≤ xs.foldl max x ∧ (∀ y ∈ xs, y ≤ xs.foldl max x) ∧ (xs.foldl max x = x ∨ xs.foldl max x ∈ xs)
  | [], x => by simp
  | z :: xs, x => by
    obtain ⟨h1, h2, h3⟩ := foldl_max xs (max x z)
    refine ⟨by rw [List.foldl_cons]; omega, fun y hy => ?_, ?_⟩
    · rw [List.foldl_cons]
      rcases List.mem_cons.1 hy with rfl | hy
      · omega
      · exact h2 y hy
    · rw [List.foldl_cons]
      rcases h3 with h3 | h3
      · rw [h3]
        rcases Int.le_total x z with h | h
        · right; rw [show max x z = z by omega]; simp
        · left; omega
      · right; simp [h3]
theorem minL_le {xs : List Int} {y : Int} (h : y ∈ xs) : minL xs ≤ y := by
  cases xs with
  | nil => simp at h
  | cons x xs =>
    obtain ⟨h1, h2, _⟩ := foldl_min xs x
    rcases List.mem_cons.1 h with rfl | h
    · exact h1
    · exact h2 y h
theorem le_maxL {xs : List Int} {y : Int} (h : y ∈ xs) : y ≤ maxL xs := by
  cases xs with
  | nil => simp at h
  | cons x xs =>
    obtain ⟨h1, h2, _⟩ := foldl_max xs x
    rcases List.mem_cons.1 h with rfl | h
    · exact h1
    · exact h2 y h
theorem minL_mem {xs : List Int} (h : xs ≠ []) : minL xs ∈ xs := by
  cases xs with
  | nil => exact absurd rfl h
  | cons x xs =>
    rcases (foldl_min xs x).2.2 with h | h
    · show xs.foldl min x ∈ _; rw [h]; simp
    · exact List.mem_cons_of_mem _ h
theorem maxL_mem {xs : List Int} (h : xs ≠ []) : maxL xs ∈ xs := by
  cases xs with
  | nil => exact absurd rfl h
  | cons x xs =>
    rcases (foldl_max xs x).2.2 with h | h
    · show xs.foldl max x ∈ _; rw [h]; simp
    · exact List.mem_cons_of_mem _ h
set_option maxRecDepth 100000 in
set_option maxHeartbeats 1000000 in
theorem minI_c (xs : List Int) (A : Option Addr) (cx : Nat) (w : World) (hx : Cells w A (ints xs)) (h0 : 0 < xs.length) (hl : xs.length ≤ 1000000000) :
    Calls Try.prog 92 #[.slice A xs.length cx] w fun e w' => e = .returned (.int .i64 (minL xs)) ∧ w = w' := by
  obtain ⟨b, off, rfl, hlt, hc0⟩ := hx.int 0 h0
  have HX := Lib.hid hx
  clear hx
  simp only [Nat.add_zero] at hc0
  have HX0 : Hid (minL (xs.take 1) = xs[0]) := by
    show _ = _
    cases xs with
    | nil => simp at h0
    | cons x xs => rfl
  generalize hx0 : xs[0] = x0 at *
  clear hx0
  go_enter Try.func92, Try.ntmps92
  go_wp2
  go_loop [3, 4] (fun m i => ∃ k : Nat, 0 < k ∧ k ≤ xs.length ∧ i = .int .i64 k ∧ m = .int .i64 (minL (xs.take k))) (fun _ i => xs.length - (intOf i).toNat)
  case atStart => exact ⟨1, by omega, by omega, rfl, by rw [HX0.out]⟩
  case round =>
    obtain ⟨k, hk0, hk, rfl, rfl⟩ := hrel
    by_cases h1 : k < xs.length
    · obtain ⟨b', off', e, hlt', hc⟩ := HX.out.int k h1
      injection e with e
      injection e with e1 e2
      subst e1 e2
      have HS := Lib.hid (minL_take hk0 h1)
      generalize xs[k] = y at *
      generalize minL (xs.take k) = m at *
      clear hc0
      go_wp2
      all_goals
        go_round
        case rel => exact ⟨k + 1, by omega, by omega, by go_num, by rw [HS.out]⟩
        case measure => simp [intOf]; omega
    · have HE := Lib.hid (show xs.take k = xs by rw [show k = xs.length by omega, List.take_length])
      go_wp2
      go_ret
      exact ⟨by rw [HE.out]; rfl, rfl⟩
set_option maxRecDepth 100000 in
set_option maxHeartbeats 1000000 in
theorem maxI_c (xs : List Int) (A : Option Addr) (cx : Nat) (w : World) (hx : Cells w A (ints xs)) (h0 : 0 < xs.length) (hl : xs.length ≤ 1000000000) :
    Calls Try.prog 93 #[.slice A xs.length cx] w fun e w' => e = .returned (.int .i64 (maxL xs)) ∧ w = w' := by
  obtain ⟨b, off, rfl, hlt, hc0⟩ := hx.int 0 h0
  have HX := Lib.hid hx
  clear hx
  simp only [Nat.add_zero] at hc0
  have HX0 : Hid (maxL (xs.take 1) = xs[0]) := by
    show _ = _
    cases xs with
    | nil => simp at h0
    | cons x xs => rfl
  generalize hx0 : xs[0] = x0 at *
  clear hx0
  go_enter Try.func93, Try.ntmps93
  go_wp2
  go_loop [3, 4] (fun m i => ∃ k : Nat, 0 < k ∧ k ≤ xs.length ∧ i = .int .i64 k ∧ m = .int .i64 (maxL (xs.take k))) (fun _ i => xs.length - (intOf i).toNat)
  case atStart => exact ⟨1, by omega, by omega, rfl, by rw [HX0.out]⟩
  case round =>
    obtain ⟨k, hk0, hk, rfl, rfl⟩ := hrel
    by_cases h1 : k < xs.length
    · obtain ⟨b', off', e, hlt', hc⟩ := HX.out.int k h1
      injection e with e
      injection e with e1 e2
      subst e1 e2
      have HS := Lib.hid (maxL_take hk0 h1)
      generalize xs[k] = y at *
      generalize maxL (xs.take k) = m at *
      clear hc0
      go_wp2
      all_goals
        go_round
        case rel => exact ⟨k + 1, by omega, by omega, by go_num, by rw [HS.out]⟩
        case measure => simp [intOf]; omega
    · have HE := Lib.hid (show xs.take k = xs by rw [show k = xs.length by omega, List.take_length])
      go_wp2
      go_ret
      exact ⟨by rw [HE.out]; rfl, rfl⟩
set_option maxRecDepth 100000 in
set_option maxHeartbeats 1000000 in
theorem l08Ends_c (xs : List Int) (A : Option Addr) (cx : Nat) (w : World) (hx : Cells w A (ints xs)) (h0 : 0 < xs.length) (hl : xs.length ≤ 1000000000) :
    Calls Try.prog 87 #[.slice A xs.length cx] w fun e w' => e = .returned (.tuple #[.int .i64 (minL xs), .int .i64 (maxL xs)]) ∧ Below w.heap.size w w' := by
  obtain ⟨b, off, rfl, hlt, hc0⟩ := hx.int 0 h0
  have HX := Lib.hid hx
  clear hx
  simp only [Nat.add_zero] at hc0
  have HX0 : Hid (minL (xs.take 1) = xs[0] ∧ maxL (xs.take 1) = xs[0]) := by
    show _ ∧ _
    cases xs with
    | nil => simp at h0
    | cons x xs => exact ⟨rfl, rfl⟩
  generalize hx0 : xs[0] = x0 at *
  clear hx0
  go_enter Try.func87, Try.ntmps87
  go_wp2_with fail
  repeat (go_quiet (fail); try go_wp2_with fail)
  have hbw : Below w.heap.size w (w.drewN nq) := below_drN (Below.refl _ _)
  generalize w.drewN nq = wq at *
  clear hc0
  go_loopw [4, 5, 6] (fun m n i wr => ∃ k : Nat, 0 < k ∧ k ≤ xs.length ∧ i = .int .i64 k ∧ m = .int .i64 (minL (xs.take k)) ∧ n = .int .i64 (maxL (xs.take k)) ∧ Below w.heap.size w wr) (fun _ _ i _ => xs.length - (intOf i).toNat)
  case atStart => exact ⟨1, by omega, by omega, rfl, by rw [HX0.out.1], by rw [HX0.out.2], hbw⟩
  case round =>
    obtain ⟨k, hk0, hk, rfl, rfl, rfl, hb⟩ := hrel
    by_cases h1 : k < xs.length
    · obtain ⟨b', off', e, hlt', hc⟩ := (HX.out.below hb).int k h1
      injection e with e
      injection e with e1 e2
      subst e1 e2
      have HS := Lib.hid (minL_take hk0 h1)
      have HS2 := Lib.hid (maxL_take hk0 h1)
      generalize xs[k] = y at *
      generalize minL (xs.take k) = m at *
      generalize maxL (xs.take k) = n at *
      go_wp2
      all_goals
        go_roundw
        case rel => exact ⟨k + 1, by omega, by omega, by go_num, by rw [HS.out], by rw [HS2.out], hb⟩
        case measure => simp [intOf]; omega
    · have HE := Lib.hid (show xs.take k = xs by rw [show k = xs.length by omega, List.take_length])
      go_wp2
      go_ret2
      exact ⟨by rw [HE.out]; rfl, hb⟩
set_option maxRecDepth 100000 in
set_option maxHeartbeats 1000000 in
theorem indexTile_c (ts : List T4) (t : T4) (A : Option Addr) (cx : Nat) (w : World) (hT : TileCells w A ts) (hl : ts.length ≤ 1000000000) :
    Calls Try.prog 94 #[.slice A ts.length cx, .agg #[.int .i64 t.a, .int .i64 t.b, .int .i64 t.c, .int .i64 t.d]] w fun e w' => e = .returned (.int .i64 (idxT (fun x => decide (t = x)) ts)) ∧ Below w.heap.size w w' := by
  have HT := Lib.hid hT
  clear hT
  have heq := eql_tile
  have hgd := guard_tile
  have q := Lib.hid (Blk.newA w #[.int .i64 t.a, .int .i64 t.b, .int .i64 t.c, .int .i64 t.d] 57)
  go_enter Try.func94, Try.ntmps94
  go_wp2_with fail
  go_loopw [8] (fun i wr => ∃ k : Nat, k ≤ ts.length ∧ i = .int .i64 k ∧ Hid (∀ j (h : j < ts.length), j < k → decide (t = ts[j]) = false) ∧ Hid (Below (w.heap.size + 1) (w.alloc (.cells #[.int .i64 t.a, .int .i64 t.b, .int .i64 t.c, .int .i64 t.d] 57)) wr)) (fun i _ => ts.length - (intOf i).toNat)
  case atStart => exact ⟨0, by omega, rfl, fun j _ h => by omega, Below.refl _ _⟩
  case round =>
    obtain ⟨k, hk, rfl, HN, HB⟩ := hrel
    have HBw : Hid (Below w.heap.size w wr) := ((Below.refl w.heap.size w).alloc (Nat.le_refl _) _).trans (HB.out.mono (by omega))
    by_cases h1 : k < ts.length
    · obtain ⟨b, off, rfl, hlt, c0, c1, c2, c3⟩ := (HT.out.below HBw.out) k h1
      have q1 := q.out.below HB.out (by omega)
      have e0 := q1.cell 0 (by simp)
      have e1 := q1.cell 1 (by simp)
      have e2 := q1.cell 2 (by simp)
      have e3 := q1.cell 3 (by simp)
      simp only [List.getElem_cons_zero, List.getElem_cons_succ] at e0 e1 e2 e3
      clear q1
      have HX := Lib.hid (show ∀ x, ts[k] = x → ts[k] = x from fun _ h => h)
      generalize hx : ts[k] = x at c0 c1 c2 c3
      have HK := Lib.hid hx
      clear hx HX
      by_cases htx : t = x
      · have hd : decide (t = x) = true := by simp [htx]
        have HTX := Lib.hid htx
        clear htx
        go_wp2_with fail
        repeat (go_quiet (fail); try go_wp2)
        go_ret
        exact ⟨ret_int (idxT_some h1 HN.out (by rw [HK.out, HTX.out]; simp)).symm, by have h := HBw.out; (repeat (first | (with_reducible exact Below.refl _ _) | (with_reducible assumption) | (with_reducible refine below_al ?_) | (with_reducible refine below_dr ?_) | (with_reducible refine below_drN ?_) | (with_reducible refine below_set ?_ (by first | exact Nat.le_refl _ | (dsimp only; omega) | omega)) | (with_reducible refine below_tr (by with_reducible assumption) ?_)))⟩
      · have hd : decide (t = x) = false := by simp [htx]
        have HTX := Lib.hid htx
        clear htx
        go_wp2_with fail
        repeat (go_quiet (fail); try go_wp2)
        go_roundw
        case rel => exact ⟨k + 1, by omega, by go_num, (fun j h hj => by
          by_cases e : j = k
          · subst e; rw [HK.out]; simp [HTX.out]
          · exact HN.out j h (by omega)), (by have h := HB.out; exact ⟨h.os, h.tape, h.output, h.size, h.block⟩)⟩
        case measure => simp [intOf]; omega
    · go_wp2
      go_ret
      exact ⟨ret_int (idxT_none (fun j h => HN.out j h (by omega))).symm, HBw.out⟩

end Go.Proofs.Ytfkmophmiiehlaa
