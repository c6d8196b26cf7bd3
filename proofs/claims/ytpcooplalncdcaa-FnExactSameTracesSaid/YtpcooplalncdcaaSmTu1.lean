/- Contracts and lemmas for the statements of this seat, written for this claim; each theorem states its own conditions. -/
import Derived.Deep.RegionHeld3
import Derived.Test.YtpcooplalncdcaaSmTs1
import Derived.Test.YtpcooplalncdcaaSmLw
import Derived.Test.YtpcooplalncdcaaSmLi
set_option linter.unusedVariables false
set_option linter.unusedSimpArgs false
namespace Go.Proofs.Ytpcooplalncdcaa
open Go.RowKit
set_option maxRecDepth 100000 in
set_option maxHeartbeats 1000000 in
theorem law_SameTraces (c : Int) (ts : List T4) (A : Option Addr) (cx : Nat) (d : Int) (us : List T4) (B : Option Addr) (cy : Nat) (hh n : Int) (w : World) (hX : TileCells w A ts) (lx : ts.length ≤ 9223372036854775807) (hY : TileCells w B us) (ly : us.length ≤ 9223372036854775807) :
    Calls Try.prog 7 #[.agg #[.int .i64 c, .slice A ts.length cx], .agg #[.int .i64 d, .slice B us.length cy], .int .i64 hh, .int .i64 n] w fun e w' => e = .returned (.bool true) ∧ Below w.heap.size w w' := by
  have X := Lib.hid hX
  have Y := Lib.hid hY
  clear hX hY
  have HZ := Lib.hid (fun w => szSet_c c A ts.length cx 1048576 w (by omega) (by omega) lx)
  have hz : szV ts.length 1048576 = -1 ∨ (0 ≤ szV ts.length 1048576 ∧ szV ts.length 1048576 ≤ 1048576 ∧ ts.length ≤ 1048576) := by unfold szV; split <;> omega
  rcases hz with h | ⟨h, hu, lx'⟩
  · rw [h] at HZ
    clear h
    go_enter Try.func7, Try.ntmps7
    go_wp2_with (go_at_call 9; refine (HZ.out _).mono ?_; rintro e w1 ⟨rfl, hb1⟩)
    go_ret
    exact ⟨rfl, by (repeat (first | (with_reducible exact Below.refl _ _) | (with_reducible assumption) | (with_reducible refine below_al ?_) | (with_reducible refine below_dr ?_) | (with_reducible refine below_drN ?_) | (with_reducible refine below_set ?_ (by first | exact Nat.le_refl _ | (dsimp only; omega) | omega)) | (with_reducible refine below_tr (by with_reducible assumption) ?_)))⟩
  generalize szV ts.length 1048576 = z at *
  have HZ2 := Lib.hid (fun w => szSet_c d B us.length cy z w (by omega) (by omega) ly)
  have hz2 : szV us.length z = -1 ∨ (0 ≤ szV us.length z ∧ us.length ≤ 1048576) := by unfold szV; split <;> omega
  rcases hz2 with h2 | ⟨h2, ly'⟩
  · rw [h2] at HZ2
    clear h2
    go_enter Try.func7, Try.ntmps7
    go_wp2_with fail
    refine (HZ.out _).mono ?_
    rintro e w1 ⟨rfl, hb1⟩
    have Hw1 : Hid (Below w.heap.size w w1) := by (show Below _ _ _); (repeat (first | (with_reducible exact Below.refl _ _) | (with_reducible assumption) | (with_reducible refine below_al ?_) | (with_reducible refine below_dr ?_) | (with_reducible refine below_drN ?_) | (with_reducible refine below_set ?_ (by first | exact Nat.le_refl _ | (dsimp only; omega) | omega)) | (with_reducible refine below_tr (by with_reducible assumption) ?_)))
    have q0 : w1.cell? ⟨w.heap.size, 0, none⟩ = some (.int .i64 c) := by rw [(bcell hb1).1 _ _ (by simp <;> omega)]; exact cell_alloc_old _ _ _ _ _ (cell_alloc_at _ _ _ _ _ rfl)
    have q1 : w1.cell? ⟨w.heap.size, 1, none⟩ = some (.slice A ts.length cx) := by rw [(bcell hb1).1 _ _ (by simp <;> omega)]; exact cell_alloc_old _ _ _ _ _ (cell_alloc_at _ _ _ _ _ rfl)
    have q2 : w1.cell? ⟨w.heap.size + 1, 0, none⟩ = some (.int .i64 d) := by rw [(bcell hb1).1 _ _ (by simp <;> omega)]; simp
    have q3 : w1.cell? ⟨w.heap.size + 1, 1, none⟩ = some (.slice B us.length cy) := by rw [(bcell hb1).1 _ _ (by simp <;> omega)]; simp
    have Q0 := Lib.hid (keepC q0)
    have Q1 := Lib.hid (keepC q1)
    have Q2 := Lib.hid (keepC q2)
    have Q3 := Lib.hid (keepC q3)
    have hN : w.heap.size + 1 < w1.heap.size := by have := hb1.size; simp at this; omega
    clear hb1
    go_wp2_with fail
    refine (HZ2.out _).mono ?_
    rintro e w2 ⟨rfl, hb2⟩
    have Hw2 := Lib.hid (Hw1.out.trans (hb2.mono Hw1.out.size))
    have d0 := Q0.out _ hb2
    have d1 := Q1.out _ hb2
    have d2 := Q2.out _ hb2
    have d3 := Q3.out _ hb2
    have hN2 : w.heap.size + 1 < w2.heap.size := Nat.lt_of_lt_of_le hN hb2.size
    clear hb2 q0 q1 q2 q3 d0 d1 d2 d3
    go_wp2
    go_ret
    exact ⟨rfl, Hw2.out⟩
  · generalize szV us.length z = y at *
    have HD := Lib.hid (fun w h => toSet_c c ts A cx w h lx')
    have HDU := Lib.hid (fun w h => toSet_c d us B cy w h ly')
    have HS := Lib.hid (fun A cx B cy w h h' => specSameTraces_c c d hh n ts us A B cx cy w h h' (by omega) (by omega))
    have HI := Lib.hid (fun A cx B cy w h h' => implSameTraces_c c d hh n ts us A B cx cy w h h' (by omega) (by omega))
    have HE := Lib.hid (fun A B cx cy w h h' => eqSet_c c c ts ts A B cx cy w h h' (by omega) (by omega))
    have HEU := Lib.hid (fun A B cx cy w h h' => eqSet_c d d us us A B cx cy w h h' (by omega) (by omega))
    have heq : eqS c ts c ts = true := by simp [eqS, eqTs]
    have heq2 : eqS d us d us = true := by simp [eqS, eqTs]
    rw [heq] at HE
    rw [heq2] at HEU
    generalize smV c ts d us hh n = r at *
    generalize smCode c ts d us hh n = cd at *
    clear heq heq2
    have hrr : (r != r) = false := by cases r <;> rfl
    have hdd : (cd != cd) = false := by simp
    go_enter Try.func7, Try.ntmps7
    go_wp2_with fail
    refine (HZ.out _).mono ?_
    rintro e w1 ⟨rfl, hb1⟩
    have Hw1 : Hid (Below w.heap.size w w1) := by (show Below _ _ _); (repeat (first | (with_reducible exact Below.refl _ _) | (with_reducible assumption) | (with_reducible refine below_al ?_) | (with_reducible refine below_dr ?_) | (with_reducible refine below_drN ?_) | (with_reducible refine below_set ?_ (by first | exact Nat.le_refl _ | (dsimp only; omega) | omega)) | (with_reducible refine below_tr (by with_reducible assumption) ?_)))
    have q0 : w1.cell? ⟨w.heap.size, 0, none⟩ = some (.int .i64 c) := by rw [(bcell hb1).1 _ _ (by simp <;> omega)]; exact cell_alloc_old _ _ _ _ _ (cell_alloc_at _ _ _ _ _ rfl)
    have q1 : w1.cell? ⟨w.heap.size, 1, none⟩ = some (.slice A ts.length cx) := by rw [(bcell hb1).1 _ _ (by simp <;> omega)]; exact cell_alloc_old _ _ _ _ _ (cell_alloc_at _ _ _ _ _ rfl)
    have q2 : w1.cell? ⟨w.heap.size + 1, 0, none⟩ = some (.int .i64 d) := by rw [(bcell hb1).1 _ _ (by simp <;> omega)]; simp
    have q3 : w1.cell? ⟨w.heap.size + 1, 1, none⟩ = some (.slice B us.length cy) := by rw [(bcell hb1).1 _ _ (by simp <;> omega)]; simp
    have Q0 := Lib.hid (keepC q0)
    have Q1 := Lib.hid (keepC q1)
    have Q2 := Lib.hid (keepC q2)
    have Q3 := Lib.hid (keepC q3)
    have hN : w.heap.size + 1 < w1.heap.size := by have := hb1.size; simp at this; omega
    clear hb1
    go_wp2_with fail
    refine (HZ2.out _).mono ?_
    rintro e w2 ⟨rfl, hb2⟩
    have Hw2 := Lib.hid (Hw1.out.trans (hb2.mono Hw1.out.size))
    have d0 := Q0.out _ hb2
    have d1 := Q1.out _ hb2
    have d2 := Q2.out _ hb2
    have d3 := Q3.out _ hb2
    have hN2 : w.heap.size + 1 < w2.heap.size := Nat.lt_of_lt_of_le hN hb2.size
    have Hb2 := Lib.hid hb2
    have E0 := keepC d0
    have E1 := keepC d1
    have E2 := keepC d2
    have E3 := keepC d3
    clear q0 q1 q2 q3 hb2 d0 d1 d2 d3
    go_wp2_with fail
    refine wp_region_mix [(0, true), (2, true), (4, true), (5, true), (1, false), (3, false), (6, false), (7, true), (8, true), (9, true), (10, true), (11, true)] (fun w' => Below (w2).heap.size (w2) w') (by kernel_rfl) (by kernel_rfl) (fun _ _ d _ _ h => by cases d <;> exact h) ((Below.refl _ _).drew) ?_
    repeat (first
      | (refine mix_skip rfl rfl (fun K' hK' => ?_); go_simp; refine hK' _ ?_; clear hK' K')
      | (refine mix_do (v := ?_) rfl rfl (fun w1 hb => ?_) (fun K' hK' => ?_); rotate_left
         · go_simp
           rfl
         go_simp; refine hK' _ ?_; clear hK' K'))
    refine mix_call rfl rfl (fun K' hK' => ?_)
    go_simp
    refine (HD.out _ (X.out.below (Hw2.out.trans ((Below.refl _ w2).drew.mono Hw2.out.size)))).mono ?_
    rintro e w3 ⟨b1, rfl, p1, B1, hb3⟩
    have Hb3 : Hid (Below w2.heap.size w2 w3) := by (show Below _ _ _); (repeat (first | (with_reducible exact Below.refl _ _) | (with_reducible assumption) | (with_reducible refine below_al ?_) | (with_reducible refine below_dr ?_) | (with_reducible refine below_drN ?_) | (with_reducible refine below_set ?_ (by first | exact Nat.le_refl _ | (dsimp only; omega) | omega)) | (with_reducible refine below_tr (by with_reducible assumption) ?_)))
    have HB1 := Lib.hid B1.tiles
    clear p1 B1 hb3
    refine hK' _ _ (Hb3.out) ?_; clear hK' K'
    repeat (first
      | (refine mix_skip rfl rfl (fun K' hK' => ?_); go_simp; refine hK' _ ?_; clear hK' K')
      | (refine mix_do (v := ?_) rfl rfl (fun w1 hb => ?_) (fun K' hK' => ?_); rotate_left
         · go_simp
           rfl
         go_simp; refine hK' _ ?_; clear hK' K'))
    refine mix_call rfl rfl (fun K' hK' => ?_)
    go_simp
    refine (HDU.out _ (Y.out.below (Hw2.out.trans (Hb3.out.mono Hw2.out.size)))).mono ?_
    rintro e w4 ⟨b2, rfl, p2, B2, hb4⟩
    have Hb4 : Hid (Below w2.heap.size w2 w4) := by (show Below _ _ _); have h3 := Hb3.out; (repeat (first | (with_reducible exact Below.refl _ _) | (with_reducible assumption) | (with_reducible refine below_al ?_) | (with_reducible refine below_dr ?_) | (with_reducible refine below_drN ?_) | (with_reducible refine below_set ?_ (by first | exact Nat.le_refl _ | (dsimp only; omega) | omega)) | (with_reducible refine below_tr (by with_reducible assumption) ?_)))
    have HB2 := Lib.hid B2.tiles
    have HB1 := Lib.hid (HB1.out.below (show Below w3.heap.size w3 w4 by (repeat (first | (with_reducible exact Below.refl _ _) | (with_reducible assumption) | (with_reducible refine below_al ?_) | (with_reducible refine below_dr ?_) | (with_reducible refine below_drN ?_) | (with_reducible refine below_set ?_ (by first | exact Nat.le_refl _ | (dsimp only; omega) | omega)) | (with_reducible refine below_tr (by with_reducible assumption) ?_)))))
    clear p2 B2 hb4
    refine hK' _ _ (Hb4.out) ?_; clear hK' K'
    repeat (first
      | (refine mix_skip rfl rfl (fun K' hK' => ?_); go_simp; refine hK' _ ?_; clear hK' K')
      | (refine mix_do (v := ?_) rfl rfl (fun w1 hb => ?_) (fun K' hK' => ?_); rotate_left
         · go_simp
           rfl
         go_simp; refine hK' _ ?_; clear hK' K'))
    refine mix_call rfl rfl (fun K' hK' => ?_)
    go_simp
    refine (HS.out _ _ _ _ _ HB1.out HB2.out).mono ?_
    rintro e w5 ⟨rfl, hb5⟩
    have Hb5 : Hid (Below w2.heap.size w2 w5) := by (show Below _ _ _); have h3 := Hb4.out; (repeat (first | (with_reducible exact Below.refl _ _) | (with_reducible assumption) | (with_reducible refine below_al ?_) | (with_reducible refine below_dr ?_) | (with_reducible refine below_drN ?_) | (with_reducible refine below_set ?_ (by first | exact Nat.le_refl _ | (dsimp only; omega) | omega)) | (with_reducible refine below_tr (by with_reducible assumption) ?_)))
    clear hb5
    refine hK' _ _ (Hb5.out) ?_; clear hK' K'
    repeat (first
      | (refine mix_skip rfl rfl (fun K' hK' => ?_); go_simp; refine hK' _ ?_; clear hK' K')
      | (refine mix_do (v := ?_) rfl rfl (fun w1 hb => ?_) (fun K' hK' => ?_); rotate_left
         · go_simp
           rfl
         go_simp; refine hK' _ ?_; clear hK' K'))
    refine mix_nil ?_
    have d0 := E0 _ Hb5.out
    have d1 := E1 _ Hb5.out
    have n5 : w.heap.size < w5.heap.size := by have := Hb5.out.size; omega
    have Hw5 := Lib.hid (Hw2.out.trans (Hb5.out.mono Hw2.out.size))
    clear HB1 HB2
    have n5b : w.heap.size + 1 < w5.heap.size := by have := Hb5.out.size; omega
    go_wp2_with fail
    refine (HD.out _ (X.out.below Hw5.out)).mono ?_
    rintro e w6 ⟨b1, rfl, p1, B1, hb6⟩
    have HB1 := Lib.hid B1.tiles
    have Hb6 : Hid (Below w5.heap.size w5 w6) := by (show Below _ _ _); (repeat (first | (with_reducible exact Below.refl _ _) | (with_reducible assumption) | (with_reducible refine below_al ?_) | (with_reducible refine below_dr ?_) | (with_reducible refine below_drN ?_) | (with_reducible refine below_set ?_ (by first | exact Nat.le_refl _ | (dsimp only; omega) | omega)) | (with_reducible refine below_tr (by with_reducible assumption) ?_)))
    have d2 := E2 _ (Hb5.out.trans (Hb6.out.mono Hb5.out.size))
    have d3 := E3 _ (Hb5.out.trans (Hb6.out.mono Hb5.out.size))
    have n6 : w.heap.size + 1 < w6.heap.size := by have := Hb6.out.size; omega
    have Hw6 := Lib.hid (Hw5.out.trans (Hb6.out.mono Hw5.out.size))
    clear p1 B1 hb6 d0 d1
    go_wp2_with fail
    have Hx6 : Hid (Below w6.heap.size w6 (w6.alloc (.cells #[.int .i64 c, .slice (some ⟨b1, 0, none⟩) ts.length ts.length] 31))) := below_al (Below.refl _ _)
    refine (HDU.out _ (Y.out.below (Hw6.out.trans (Hx6.out.mono Hw6.out.size)))).mono ?_
    rintro e w7 ⟨b2, rfl, p2, B2, hb7⟩
    have HB2 := Lib.hid B2.tiles
    have Hb7 : Hid (Below w6.heap.size w6 w7) := Hx6.out.trans (hb7.mono Hx6.out.size)
    have q0 : w7.cell? ⟨w6.heap.size, 0, none⟩ = some (.int .i64 c) := by rw [(bcell hb7).1 _ _ (by simp)]; exact cell_alloc_at _ _ _ _ _ rfl
    have q1 : w7.cell? ⟨w6.heap.size, 1, none⟩ = some (.slice (some ⟨b1, 0, none⟩) ts.length ts.length) := by rw [(bcell hb7).1 _ _ (by simp)]; exact cell_alloc_at _ _ _ _ _ rfl
    have n7 : w6.heap.size < w7.heap.size := by have := hb7.size; simp at this; omega
    have HT7 := Lib.hid (HB1.out.below Hb7.out)
    clear p2 B2 hb7 d2 d3 HB1
    have Hx7 : Hid (Below w7.heap.size w7 (w7.alloc (.cells #[.int .i64 d, .slice (some ⟨b2, 0, none⟩) us.length us.length] 31))) := below_al (Below.refl _ _)
    go_wp2_with fail
    refine (HI.out _ _ _ _ _ (HT7.out.below Hx7.out) (HB2.out.below Hx7.out)).mono ?_
    rintro e w8 ⟨rfl, hb8⟩
    have Hb8 : Hid (Below w7.heap.size w7 w8) := Hx7.out.trans (hb8.mono Hx7.out.size)
    have q2 : w8.cell? ⟨w7.heap.size, 0, none⟩ = some (.int .i64 d) := by rw [(bcell hb8).1 _ _ (by simp)]; exact cell_alloc_at _ _ _ _ _ rfl
    have q3 : w8.cell? ⟨w7.heap.size, 1, none⟩ = some (.slice (some ⟨b2, 0, none⟩) us.length us.length) := by rw [(bcell hb8).1 _ _ (by simp)]; exact cell_alloc_at _ _ _ _ _ rfl
    have hB8 : Below w2.heap.size w2 w8 := Hb5.out.trans (((Hb6.out.trans ((Hb7.out.trans (Hb8.out.mono Hb7.out.size)).mono Hb6.out.size))).mono Hb5.out.size)
    have HB8 := Lib.hid hB8
    have Hw8 := Lib.hid (Hw2.out.trans (hB8.mono Hw2.out.size))
    have HT8 := Lib.hid (HT7.out.below Hb8.out)
    have HU8 := Lib.hid (HB2.out.below Hb8.out)
    have F0 := keepC ((Hb8.out.cell (p := ⟨w6.heap.size, 0, none⟩) n7).trans q0)
    have F1 := keepC ((Hb8.out.cell (p := ⟨w6.heap.size, 1, none⟩) n7).trans q1)
    have F2 := keepC q2
    have F3 := keepC q3
    have D0 := keepC (E0 _ hB8)
    have D1 := keepC (E1 _ hB8)
    have D2 := keepC (E2 _ hB8)
    have D3 := keepC (E3 _ hB8)
    clear E0 E1 E2 E3 q0 q1 q2 q3 hb8 hB8
    go_wp2_with fail
    refine wp_region_mix [(0, true), (1, true), (2, false), (3, false), (4, true)] (fun w' => Below (w8).heap.size (w8) w') (by kernel_rfl) (by kernel_rfl) (fun _ _ d _ _ h => by cases d <;> exact h) ((Below.refl _ _).drew) ?_
    repeat (first
      | (refine mix_skip rfl rfl (fun K' hK' => ?_); go_simp; refine hK' _ ?_; clear hK' K')
      | (refine mix_do (v := ?_) rfl rfl (fun w1 hb => ?_) (fun K' hK' => ?_); rotate_left
         · go_simp
           rfl
         go_simp; refine hK' _ ?_; clear hK' K'))
    refine mix_call rfl rfl (fun K' hK' => ?_)
    go_simp
    refine (HD.out _ (X.out.below (Hw8.out.trans ((Below.refl _ w8).drew.mono Hw8.out.size)))).mono ?_
    rintro e w9 ⟨b3, rfl, p3, B3, hb9⟩
    have Hb9 : Hid (Below w8.heap.size w8 w9) := by (show Below _ _ _); (repeat (first | (with_reducible exact Below.refl _ _) | (with_reducible assumption) | (with_reducible refine below_al ?_) | (with_reducible refine below_dr ?_) | (with_reducible refine below_drN ?_) | (with_reducible refine below_set ?_ (by first | exact Nat.le_refl _ | (dsimp only; omega) | omega)) | (with_reducible refine below_tr (by with_reducible assumption) ?_)))
    have HB3 := Lib.hid B3.tiles
    clear p3 B3 hb9
    refine hK' _ _ (Hb9.out) ?_; clear hK' K'
    repeat (first
      | (refine mix_skip rfl rfl (fun K' hK' => ?_); go_simp; refine hK' _ ?_; clear hK' K')
      | (refine mix_do (v := ?_) rfl rfl (fun w1 hb => ?_) (fun K' hK' => ?_); rotate_left
         · go_simp
           rfl
         go_simp; refine hK' _ ?_; clear hK' K'))
    refine mix_call rfl rfl (fun K' hK' => ?_)
    go_simp
    refine (HE.out _ _ _ _ _ (HT8.out.below Hb9.out) HB3.out).mono ?_
    rintro e w10 ⟨rfl, hb10⟩
    have Hb10 : Hid (Below w8.heap.size w8 w10) := Hb9.out.trans (hb10.mono Hb9.out.size)
    clear hb10
    refine hK' _ _ (Hb10.out) ?_; clear hK' K'
    repeat (first
      | (refine mix_skip rfl rfl (fun K' hK' => ?_); go_simp; refine hK' _ ?_; clear hK' K')
      | (refine mix_do (v := ?_) rfl rfl (fun w1 hb => ?_) (fun K' hK' => ?_); rotate_left
         · go_simp
           rfl
         go_simp; refine hK' _ ?_; clear hK' K'))
    refine mix_nil ?_
    replace F2 := keepC (F2 _ Hb10.out)
    replace F3 := keepC (F3 _ Hb10.out)
    replace D2 := keepC (D2 _ Hb10.out)
    replace D3 := keepC (D3 _ Hb10.out)
    have Hw10 := Lib.hid (Hw8.out.trans (Hb10.out.mono Hw8.out.size))
    have HU10 := Lib.hid (HU8.out.below Hb10.out)
    clear F0 F1 D0 D1 HB3
    go_wp2_with fail
    refine wp_region_mix [(0, true), (1, true), (2, false), (3, false), (4, true)] (fun w' => Below (w10).heap.size (w10) w') (by kernel_rfl) (by kernel_rfl) (fun _ _ d _ _ h => by cases d <;> exact h) ((Below.refl _ _).drew) ?_
    repeat (first
      | (refine mix_skip rfl rfl (fun K' hK' => ?_); go_simp; refine hK' _ ?_; clear hK' K')
      | (refine mix_do (v := ?_) rfl rfl (fun w1 hb => ?_) (fun K' hK' => ?_); rotate_left
         · go_simp
           rfl
         go_simp; refine hK' _ ?_; clear hK' K'))
    refine mix_call rfl rfl (fun K' hK' => ?_)
    go_simp
    refine (HDU.out _ (Y.out.below (Hw10.out.trans ((Below.refl _ w10).drew.mono Hw10.out.size)))).mono ?_
    rintro e w11 ⟨b4, rfl, p4, B4, hb11⟩
    have Hb11 : Hid (Below w10.heap.size w10 w11) := by (show Below _ _ _); (repeat (first | (with_reducible exact Below.refl _ _) | (with_reducible assumption) | (with_reducible refine below_al ?_) | (with_reducible refine below_dr ?_) | (with_reducible refine below_drN ?_) | (with_reducible refine below_set ?_ (by first | exact Nat.le_refl _ | (dsimp only; omega) | omega)) | (with_reducible refine below_tr (by with_reducible assumption) ?_)))
    have HB4 := Lib.hid B4.tiles
    clear p4 B4 hb11
    refine hK' _ _ (Hb11.out) ?_; clear hK' K'
    repeat (first
      | (refine mix_skip rfl rfl (fun K' hK' => ?_); go_simp; refine hK' _ ?_; clear hK' K')
      | (refine mix_do (v := ?_) rfl rfl (fun w1 hb => ?_) (fun K' hK' => ?_); rotate_left
         · go_simp
           rfl
         go_simp; refine hK' _ ?_; clear hK' K'))
    refine mix_call rfl rfl (fun K' hK' => ?_)
    go_simp
    refine (HEU.out _ _ _ _ _ (HU10.out.below Hb11.out) HB4.out).mono ?_
    rintro e w12 ⟨rfl, hb12⟩
    have Hb12 : Hid (Below w10.heap.size w10 w12) := Hb11.out.trans (hb12.mono Hb11.out.size)
    clear hb12
    refine hK' _ _ (Hb12.out) ?_; clear hK' K'
    repeat (first
      | (refine mix_skip rfl rfl (fun K' hK' => ?_); go_simp; refine hK' _ ?_; clear hK' K')
      | (refine mix_do (v := ?_) rfl rfl (fun w1 hb => ?_) (fun K' hK' => ?_); rotate_left
         · go_simp
           rfl
         go_simp; refine hK' _ ?_; clear hK' K'))
    refine mix_nil ?_
    clear F2 F3 D2 D3
    go_wp2
    go_ret
    exact ⟨rfl, Hw10.out.trans (Hb12.out.mono Hw10.out.size)⟩

end Go.Proofs.Ytpcooplalncdcaa
