/- Contracts and lemmas for the statements of this seat, written for this claim; each theorem states its own conditions. -/
import Derived.Deep.RegionHeld3
import Derived.Test.YtlmplacadihjfaaDaLw
set_option linter.unusedVariables false
set_option linter.unusedSimpArgs false
namespace Go.Proofs.Ytlmplacadihjfaa
open Go.RowKit
set_option maxRecDepth 100000 in
set_option maxHeartbeats 1000000 in
theorem law_IsDesk (c d : Int) (xs ys : List T4) (A B : Option Addr) (cx cy : Nat) (w : World) (hX : TileCells w A xs) (hY : TileCells w B ys) (lx : xs.length ≤ 9223372036854775807) (ly : ys.length ≤ 9223372036854775807) :
    Calls Try.prog 3 #[.agg #[.int .i64 c, .slice A xs.length cx, .int .i64 d, .slice B ys.length cy]] w fun e w' => e = .returned (.bool true) ∧ Below w.heap.size w w' := by
  have X := Lib.hid hX
  have Y := Lib.hid hY
  clear hX hY
  have HZ := Lib.hid (fun w => szDesk_c c d A B xs.length ys.length cx cy 1048576 w (by omega) (by omega) (by omega) (by omega))
  have hz : szV xs.length 1048576 < 0 ∨ (0 ≤ szV xs.length 1048576 ∧ szV ys.length (szV xs.length 1048576) = -1) ∨ (0 ≤ szV xs.length 1048576 ∧ 0 ≤ szV ys.length (szV xs.length 1048576) ∧ xs.length ≤ 1048576 ∧ ys.length ≤ 1048576) := by
    unfold szV; split <;> split <;> omega
  rcases hz with h | ⟨h0, h⟩ | ⟨h0, h, lx', ly'⟩
  · rw [if_pos h] at HZ
    clear h
    go_enter Try.func3, Try.ntmps3
    go_wp2_with (go_at_call 9; refine (HZ.out _).mono ?_; rintro e w1 ⟨rfl, hb1⟩)
    go_ret
    exact ⟨rfl, by (repeat (first | (with_reducible exact Below.refl _ _) | (with_reducible assumption) | (with_reducible refine below_al ?_) | (with_reducible refine below_dr ?_) | (with_reducible refine below_drN ?_) | (with_reducible refine below_set ?_ (by first | exact Nat.le_refl _ | (dsimp only; omega) | omega)) | (with_reducible refine below_tr (by with_reducible assumption) ?_)))⟩
  · rw [if_neg (by omega), h] at HZ
    clear h h0
    go_enter Try.func3, Try.ntmps3
    go_wp2_with (go_at_call 9; refine (HZ.out _).mono ?_; rintro e w1 ⟨rfl, hb1⟩)
    go_ret
    exact ⟨rfl, by (repeat (first | (with_reducible exact Below.refl _ _) | (with_reducible assumption) | (with_reducible refine below_al ?_) | (with_reducible refine below_dr ?_) | (with_reducible refine below_drN ?_) | (with_reducible refine below_set ?_ (by first | exact Nat.le_refl _ | (dsimp only; omega) | omega)) | (with_reducible refine below_tr (by with_reducible assumption) ?_)))⟩
  · rw [if_neg (by omega)] at HZ
    generalize szV ys.length (szV xs.length 1048576) = z at *
    clear h0
    have HD := Lib.hid (fun w h h' => toDesk_c c d xs ys A B cx cy w h h' lx' ly')
    have HS := Lib.hid (fun A B cx cy w h h' => specIsDesk_c c d xs ys A B cx cy w h h' (by omega) (by omega))
    have HI := Lib.hid (fun A B cx cy w h h' => implIsDesk_c c d xs ys A B cx cy w h h' (by omega) (by omega))
    generalize hr : (isSetB c xs && isSetB d ys) = r at *
    clear hr
    have hrr : (r != r) = false := by cases r <;> rfl
    go_enter Try.func3, Try.ntmps3
    go_wp2_with fail
    refine (HZ.out _).mono ?_
    rintro e w1 ⟨rfl, hb1⟩
    have Hw1 : Hid (Below w.heap.size w w1) := by (show Below _ _ _); (repeat (first | (with_reducible exact Below.refl _ _) | (with_reducible assumption) | (with_reducible refine below_al ?_) | (with_reducible refine below_dr ?_) | (with_reducible refine below_drN ?_) | (with_reducible refine below_set ?_ (by first | exact Nat.le_refl _ | (dsimp only; omega) | omega)) | (with_reducible refine below_tr (by with_reducible assumption) ?_)))
    obtain ⟨hc1, hf1⟩ := bcell hb1
    have n0 : w.heap.size < w1.heap.size := by have := hb1.size; simp at this; omega
    clear hb1
    go_wp2_with fail
    refine (HD.out _ (X.out.below Hw1.out) (Y.out.below Hw1.out)).mono ?_
    rintro e w2 ⟨b1, b2, rfl, p1, p2, p3, B1, B2, hb2⟩
    go_wp2_with fail
    refine (HS.out _ _ _ _ _ B1.tiles B2.tiles).mono ?_
    rintro e w3 ⟨rfl, hb3⟩
    have Hw3 : Hid (Below w1.heap.size w1 w3) := by (show Below _ _ _); (repeat (first | (with_reducible exact Below.refl _ _) | (with_reducible assumption) | (with_reducible refine below_al ?_) | (with_reducible refine below_dr ?_) | (with_reducible refine below_drN ?_) | (with_reducible refine below_set ?_ (by first | exact Nat.le_refl _ | (dsimp only; omega) | omega)) | (with_reducible refine below_tr (by with_reducible assumption) ?_)))
    obtain ⟨hc3, hf3⟩ := bcell Hw3.out
    have n1 := Hw3.out.size
    have n2 : w.heap.size < w3.heap.size := by omega
    clear B1 B2 p1 p2 p3 hb2 hb3
    go_wp2_with fail
    refine (HD.out _ (X.out.below (by have h1 := Hw1.out; have h3 := Hw3.out; (repeat (first | (with_reducible exact Below.refl _ _) | (with_reducible assumption) | (with_reducible refine below_al ?_) | (with_reducible refine below_dr ?_) | (with_reducible refine below_drN ?_) | (with_reducible refine below_set ?_ (by first | exact Nat.le_refl _ | (dsimp only; omega) | omega)) | (with_reducible refine below_tr (by with_reducible assumption) ?_))))) (Y.out.below (by have h1 := Hw1.out; have h3 := Hw3.out; (repeat (first | (with_reducible exact Below.refl _ _) | (with_reducible assumption) | (with_reducible refine below_al ?_) | (with_reducible refine below_dr ?_) | (with_reducible refine below_drN ?_) | (with_reducible refine below_set ?_ (by first | exact Nat.le_refl _ | (dsimp only; omega) | omega)) | (with_reducible refine below_tr (by with_reducible assumption) ?_)))))).mono ?_
    rintro e w4 ⟨b1, b2, rfl, p1, p2, p3, B1, B2, hb4⟩
    have Hb4 := Lib.hid hb4
    obtain ⟨hc4, hf4⟩ := bcell hb4
    have n4 : w.heap.size < w4.heap.size := by have := hb4.size; omega
    have HB1 := Lib.hid B1
    have HB2 := Lib.hid B2
    clear hb4 B1 B2 p1 p2 p3
    go_wp2_with fail
    refine (HI.out _ _ _ _ _ (TileCells.below HB1.out.tiles (by (repeat (first | (with_reducible exact Below.refl _ _) | (with_reducible assumption) | (with_reducible refine below_al ?_) | (with_reducible refine below_dr ?_) | (with_reducible refine below_drN ?_) | (with_reducible refine below_set ?_ (by first | exact Nat.le_refl _ | (dsimp only; omega) | omega)) | (with_reducible refine below_tr (by with_reducible assumption) ?_))))) (TileCells.below HB2.out.tiles (by (repeat (first | (with_reducible exact Below.refl _ _) | (with_reducible assumption) | (with_reducible refine below_al ?_) | (with_reducible refine below_dr ?_) | (with_reducible refine below_drN ?_) | (with_reducible refine below_set ?_ (by first | exact Nat.le_refl _ | (dsimp only; omega) | omega)) | (with_reducible refine below_tr (by with_reducible assumption) ?_)))))).mono ?_
    rintro e w5 ⟨rfl, hb5⟩
    have Hb5 := Lib.hid hb5
    obtain ⟨hc5, hf5⟩ := bcell hb5
    have n5 : w4.heap.size < w5.heap.size := by have := hb5.size; simp at this; omega
    have q0 : w5.cell? ⟨w4.heap.size, 0, none⟩ = some (.int .i64 c) := by rw [hc5 _ _ (by simp)]; simp
    have q1 : w5.cell? ⟨w4.heap.size, 1, none⟩ = some (.slice (some ⟨b1, 0, none⟩) xs.length xs.length) := by rw [hc5 _ _ (by simp)]; simp
    have q2 : w5.cell? ⟨w4.heap.size, 2, none⟩ = some (.int .i64 d) := by rw [hc5 _ _ (by simp)]; simp
    have q3 : w5.cell? ⟨w4.heap.size, 3, none⟩ = some (.slice (some ⟨b2, 0, none⟩) ys.length ys.length) := by rw [hc5 _ _ (by simp)]; simp
    have q : ∀ o v, w1.cell? ⟨w.heap.size, o, none⟩ = some v → w5.cell? ⟨w.heap.size, o, none⟩ = some v := fun o v h => by
      rw [hc5 _ _ (by simp; omega)]
      exact cell_alloc_old _ _ _ _ _ (by rw [hc4 _ _ (by omega), hc3 _ _ (by omega)]; exact h)
    have q4 := q 0 (.int .i64 c) (by rw [hc1 _ _ (by simp)]; simp)
    have q5 := q 1 (.slice A xs.length cx) (by rw [hc1 _ _ (by simp)]; simp)
    have q6 := q 2 (.int .i64 d) (by rw [hc1 _ _ (by simp)]; simp)
    have q7 := q 3 (.slice B ys.length cy) (by rw [hc1 _ _ (by simp)]; simp)
    have H5 : Hid (Below w.heap.size w w5) := by
      have h1 := Hw1.out; have h3 := Hw3.out; have h4 := Hb4.out; have h5 := Hb5.out
      show Below _ _ _
      (repeat (first | (with_reducible exact Below.refl _ _) | (with_reducible assumption) | (with_reducible refine below_al ?_) | (with_reducible refine below_dr ?_) | (with_reducible refine below_drN ?_) | (with_reducible refine below_set ?_ (by first | exact Nat.le_refl _ | (dsimp only; omega) | omega)) | (with_reducible refine below_tr (by with_reducible assumption) ?_)))
    have hX5 := Lib.hid (X.out.below H5.out)
    have hY5 := Lib.hid (Y.out.below H5.out)
    have T1 : Hid (TileCells w5 (some ⟨b1, 0, none⟩) xs) := TileCells.below HB1.out.tiles (by have h5 := Hb5.out; (repeat (first | (with_reducible exact Below.refl _ _) | (with_reducible assumption) | (with_reducible refine below_al ?_) | (with_reducible refine below_dr ?_) | (with_reducible refine below_drN ?_) | (with_reducible refine below_set ?_ (by first | exact Nat.le_refl _ | (dsimp only; omega) | omega)) | (with_reducible refine below_tr (by with_reducible assumption) ?_))))
    have T2 : Hid (TileCells w5 (some ⟨b2, 0, none⟩) ys) := TileCells.below HB2.out.tiles (by have h5 := Hb5.out; (repeat (first | (with_reducible exact Below.refl _ _) | (with_reducible assumption) | (with_reducible refine below_al ?_) | (with_reducible refine below_dr ?_) | (with_reducible refine below_drN ?_) | (with_reducible refine below_set ?_ (by first | exact Nat.le_refl _ | (dsimp only; omega) | omega)) | (with_reducible refine below_tr (by with_reducible assumption) ?_))))
    have n6 : w.heap.size < w5.heap.size := by omega
    clear hc1 hf1 hc3 hf3 hc4 hf4 hc5 hf5 hb5 Hb5 Hb4 Hw3 Hw1 HB1 HB2 q X Y HI HS HZ n0 n1 n2 n4
    go_wp2_with fail
    have F0 := keepC q0
    have F1 := keepC q1
    have F2 := keepC q2
    have F3 := keepC q3
    have F4 := keepC q4
    have F5 := keepC q5
    have F6 := keepC q6
    have F7 := keepC q7
    clear q0 q1 q2 q3 q4 q5 q6 q7
    refine wp_region_mix [(0, true), (1, true), (2, false), (3, false), (4, true)] (fun w' => Below w5.heap.size w5 w') (by kernel_rfl) (by kernel_rfl) (fun _ _ d _ _ h => by cases d <;> exact h) (Below.refl _ _).drew ?_
    (refine mix_do (v := ?_) rfl rfl (fun w1 hb => ?_) (fun K' hK' => ?_); rotate_left
     · go_simp; rfl
     go_simp; refine hK' _ ?_; clear hK' K')
    (refine mix_do (v := ?_) rfl rfl (fun w1 hb => ?_) (fun K' hK' => ?_); rotate_left
     · go_simp; rfl
     go_simp; refine hK' _ ?_; clear hK' K')
    refine mix_call rfl rfl (fun K' hK' => ?_)
    go_simp
    refine (HD.out _ (hX5.out.below (by (repeat (first | (with_reducible exact Below.refl _ _) | (with_reducible assumption) | (with_reducible refine below_al ?_) | (with_reducible refine below_dr ?_) | (with_reducible refine below_drN ?_) | (with_reducible refine below_set ?_ (by first | exact Nat.le_refl _ | (dsimp only; omega) | omega)) | (with_reducible refine below_tr (by with_reducible assumption) ?_))))) (hY5.out.below (by (repeat (first | (with_reducible exact Below.refl _ _) | (with_reducible assumption) | (with_reducible refine below_al ?_) | (with_reducible refine below_dr ?_) | (with_reducible refine below_drN ?_) | (with_reducible refine below_set ?_ (by first | exact Nat.le_refl _ | (dsimp only; omega) | omega)) | (with_reducible refine below_tr (by with_reducible assumption) ?_)))))).mono ?_
    rintro e w6 ⟨c1, c2, rfl, p1, p2, p3, C1, C2, hb6⟩
    refine hK' _ _ (by (repeat (first | (with_reducible exact Below.refl _ _) | (with_reducible assumption) | (with_reducible refine below_al ?_) | (with_reducible refine below_dr ?_) | (with_reducible refine below_drN ?_) | (with_reducible refine below_set ?_ (by first | exact Nat.le_refl _ | (dsimp only; omega) | omega)) | (with_reducible refine below_tr (by with_reducible assumption) ?_)))) ?_
    clear hK' K'
    refine mix_call rfl rfl (fun K' hK' => ?_)
    go_simp
    refine (eqDesk_c c d c d xs ys xs ys _ _ _ _ _ _ _ _ _ (TileCells.below T1.out (by (repeat (first | (with_reducible exact Below.refl _ _) | (with_reducible assumption) | (with_reducible refine below_al ?_) | (with_reducible refine below_dr ?_) | (with_reducible refine below_drN ?_) | (with_reducible refine below_set ?_ (by first | exact Nat.le_refl _ | (dsimp only; omega) | omega)) | (with_reducible refine below_tr (by with_reducible assumption) ?_))))) (TileCells.below T2.out (by (repeat (first | (with_reducible exact Below.refl _ _) | (with_reducible assumption) | (with_reducible refine below_al ?_) | (with_reducible refine below_dr ?_) | (with_reducible refine below_drN ?_) | (with_reducible refine below_set ?_ (by first | exact Nat.le_refl _ | (dsimp only; omega) | omega)) | (with_reducible refine below_tr (by with_reducible assumption) ?_))))) C1.tiles C2.tiles (by omega) (by omega) (by omega) (by omega)).mono ?_
    rintro e w7 ⟨rfl, hb7⟩
    have heq : (eqS c xs c xs && eqS d ys d ys) = true := by simp [eqS, eqTs]
    rw [heq]
    refine hK' _ _ (by (repeat (first | (with_reducible exact Below.refl _ _) | (with_reducible assumption) | (with_reducible refine below_al ?_) | (with_reducible refine below_dr ?_) | (with_reducible refine below_drN ?_) | (with_reducible refine below_set ?_ (by first | exact Nat.le_refl _ | (dsimp only; omega) | omega)) | (with_reducible refine below_tr (by with_reducible assumption) ?_)))) ?_
    clear hK' K'
    (refine mix_do (v := ?_) rfl rfl (fun w1 hb => ?_) (fun K' hK' => ?_); rotate_left
     · go_simp; rfl
     go_simp; refine hK' _ ?_; clear hK' K')
    refine mix_nil ?_
    go_wp2
    go_ret
    exact ⟨rfl, by have h5 := H5.out; (repeat (first | (with_reducible exact Below.refl _ _) | (with_reducible assumption) | (with_reducible refine below_al ?_) | (with_reducible refine below_dr ?_) | (with_reducible refine below_drN ?_) | (with_reducible refine below_set ?_ (by first | exact Nat.le_refl _ | (dsimp only; omega) | omega)) | (with_reducible refine below_tr (by with_reducible assumption) ?_)))⟩

end Go.Proofs.Ytlmplacadihjfaa
