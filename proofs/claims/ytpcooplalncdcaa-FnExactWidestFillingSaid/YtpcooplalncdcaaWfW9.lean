/- Contracts and lemmas for the statements of this seat, written for this claim; each theorem states its own conditions. -/
import Derived.Deep.RegionHeld3
import Derived.Test.YtpcooplalncdcaaWfW7
import Derived.Test.YtpcooplalncdcaaWfLw
import Derived.Test.YtpcooplalncdcaaWfLi
set_option linter.unusedVariables false
set_option linter.unusedSimpArgs false
namespace Go.Proofs.Ytpcooplalncdcaa
open Go.RowKit
set_option maxRecDepth 100000 in
set_option maxHeartbeats 1000000 in
theorem law_WidestFilling (c : Int) (ts : List T4) (A : Option Addr) (cx : Nat) (h0 : Int) (w : World) (hX : TileCells w A ts) (lx : ts.length ≤ 9223372036854775807) :
    Calls Try.prog 4 #[.agg #[.int .i64 c, .slice A ts.length cx], .int .i64 h0] w fun e w' => e = .returned (.bool true) ∧ Below w.heap.size w w' := by
  have X := Lib.hid hX
  clear hX
  have HZ := Lib.hid (fun w => szSet_c c A ts.length cx 1048576 w (by omega) (by omega) lx)
  have hz : szV ts.length 1048576 = -1 ∨ (0 ≤ szV ts.length 1048576 ∧ ts.length ≤ 1048576) := by unfold szV; split <;> omega
  rcases hz with h | ⟨h, lx'⟩
  · rw [h] at HZ
    clear h
    go_enter Try.func4, Try.ntmps4
    go_wp2_with (go_at_call 9; refine (HZ.out _).mono ?_; rintro e w1 ⟨rfl, hb1⟩)
    go_ret
    exact ⟨rfl, by (repeat (first | (with_reducible exact Below.refl _ _) | (with_reducible assumption) | (with_reducible refine below_al ?_) | (with_reducible refine below_dr ?_) | (with_reducible refine below_drN ?_) | (with_reducible refine below_set ?_ (by first | exact Nat.le_refl _ | (dsimp only; omega) | omega)) | (with_reducible refine below_tr (by with_reducible assumption) ?_)))⟩
  · generalize szV ts.length 1048576 = z at *
    have HD := Lib.hid (fun w h => toSet_c c ts A cx w h lx')
    have HS := Lib.hid (fun A cx w h => specWidest_c c ts A cx h0 w h (by omega))
    have HI := Lib.hid (fun A cx w h => implWidest_c c ts A cx h0 w h (by omega))
    have HE := Lib.hid (fun A B cx cy w h h' => eqSet_c c c ts ts A B cx cy w h h' (by omega) (by omega))
    have heq : eqS c ts c ts = true := by simp [eqS, eqTs]
    rw [heq] at HE
    generalize wfVal c ts h0 = r at *
    generalize wfCode c ts h0 = d at *
    clear heq
    have hrr : (r != r) = false := by simp
    have hdd : (d != d) = false := by simp
    go_enter Try.func4, Try.ntmps4
    go_wp2_with fail
    refine (HZ.out _).mono ?_
    rintro e w1 ⟨rfl, hb1⟩
    have Hw1 : Hid (Below w.heap.size w w1) := by (show Below _ _ _); (repeat (first | (with_reducible exact Below.refl _ _) | (with_reducible assumption) | (with_reducible refine below_al ?_) | (with_reducible refine below_dr ?_) | (with_reducible refine below_drN ?_) | (with_reducible refine below_set ?_ (by first | exact Nat.le_refl _ | (dsimp only; omega) | omega)) | (with_reducible refine below_tr (by with_reducible assumption) ?_)))
    have q0 : ∀ o v, (w.alloc (.cells #[.int .i64 c, .slice A ts.length cx] 24)).cell? ⟨w.heap.size, o, none⟩ = some v → ∀ w2, Below w1.heap.size w1 w2 → w2.cell? ⟨w.heap.size, o, none⟩ = some v := fun o v h w2 hb => by
      have := hb1.size; simp at this
      rw [(bcell hb).1 _ _ (by omega), (bcell hb1).1 _ _ (by simp)]; exact h
    have Q0 := Lib.hid (q0 0 (.int .i64 c) (by simp))
    have Q1 := Lib.hid (q0 1 (.slice A ts.length cx) (by simp))
    clear q0
    have d0 := Q0.out w1 (Below.refl _ _)
    have d1 := Q1.out w1 (Below.refl _ _)
    clear hb1
    go_wp2_with fail
    refine (HD.out _ (X.out.below Hw1.out)).mono ?_
    rintro e w2 ⟨b1, rfl, p1, B1, hb2⟩
    go_wp2_with fail
    refine (HS.out _ _ _ B1.tiles).mono ?_
    rintro e w3 ⟨rfl, hb3⟩
    have Hw3 : Hid (Below w1.heap.size w1 w3) := by (show Below _ _ _); (repeat (first | (with_reducible exact Below.refl _ _) | (with_reducible assumption) | (with_reducible refine below_al ?_) | (with_reducible refine below_dr ?_) | (with_reducible refine below_drN ?_) | (with_reducible refine below_set ?_ (by first | exact Nat.le_refl _ | (dsimp only; omega) | omega)) | (with_reducible refine below_tr (by with_reducible assumption) ?_)))
    have d0 := Q0.out w3 Hw3.out
    have d1 := Q1.out w3 Hw3.out
    clear B1 p1 hb2 hb3
    go_wp2_with fail
    refine (HD.out _ (X.out.below (by have h1 := Hw1.out; have h3 := Hw3.out; (repeat (first | (with_reducible exact Below.refl _ _) | (with_reducible assumption) | (with_reducible refine below_al ?_) | (with_reducible refine below_dr ?_) | (with_reducible refine below_drN ?_) | (with_reducible refine below_set ?_ (by first | exact Nat.le_refl _ | (dsimp only; omega) | omega)) | (with_reducible refine below_tr (by with_reducible assumption) ?_)))))).mono ?_
    rintro e w4 ⟨b1, rfl, p1, B1, hb4⟩
    have HB1 := Lib.hid B1
    have Hw4 : Hid (Below w1.heap.size w1 w4) := by (show Below _ _ _); have h3 := Hw3.out; (repeat (first | (with_reducible exact Below.refl _ _) | (with_reducible assumption) | (with_reducible refine below_al ?_) | (with_reducible refine below_dr ?_) | (with_reducible refine below_drN ?_) | (with_reducible refine below_set ?_ (by first | exact Nat.le_refl _ | (dsimp only; omega) | omega)) | (with_reducible refine below_tr (by with_reducible assumption) ?_)))
    clear p1 B1 hb4
    go_wp2_with fail
    refine (HI.out _ _ _ (TileCells.below HB1.out.tiles (by (repeat (first | (with_reducible exact Below.refl _ _) | (with_reducible assumption) | (with_reducible refine below_al ?_) | (with_reducible refine below_dr ?_) | (with_reducible refine below_drN ?_) | (with_reducible refine below_set ?_ (by first | exact Nat.le_refl _ | (dsimp only; omega) | omega)) | (with_reducible refine below_tr (by with_reducible assumption) ?_)))))).mono ?_
    rintro e w5 ⟨rfl, hb5⟩
    have Hw5 : Hid (Below w1.heap.size w1 w5) := by (show Below _ _ _); have h4 := Hw4.out; (repeat (first | (with_reducible exact Below.refl _ _) | (with_reducible assumption) | (with_reducible refine below_al ?_) | (with_reducible refine below_dr ?_) | (with_reducible refine below_drN ?_) | (with_reducible refine below_set ?_ (by first | exact Nat.le_refl _ | (dsimp only; omega) | omega)) | (with_reducible refine below_tr (by with_reducible assumption) ?_)))
    have HT5 : Hid (TileCells w5 (some ⟨b1, 0, none⟩) ts) := TileCells.below HB1.out.tiles (by (repeat (first | (with_reducible exact Below.refl _ _) | (with_reducible assumption) | (with_reducible refine below_al ?_) | (with_reducible refine below_dr ?_) | (with_reducible refine below_drN ?_) | (with_reducible refine below_set ?_ (by first | exact Nat.le_refl _ | (dsimp only; omega) | omega)) | (with_reducible refine below_tr (by with_reducible assumption) ?_))))
    have q2 : w5.cell? ⟨w4.heap.size, 0, none⟩ = some (.int .i64 c) := by rw [(bcell hb5).1 _ _ (by simp)]; first | (go_simp; done) | simp
    have q3 : w5.cell? ⟨w4.heap.size, 1, none⟩ = some (.slice (some ⟨b1, 0, none⟩) ts.length ts.length) := by rw [(bcell hb5).1 _ _ (by simp)]; first | (go_simp; done) | simp
    clear hb5
    have d0 := Q0.out w5 Hw5.out
    have d1 := Q1.out w5 Hw5.out
    have HX5 : Hid (TileCells w5 A ts) := X.out.below (by have h1 := Hw1.out; have h5 := Hw5.out; (repeat (first | (with_reducible exact Below.refl _ _) | (with_reducible assumption) | (with_reducible refine below_al ?_) | (with_reducible refine below_dr ?_) | (with_reducible refine below_drN ?_) | (with_reducible refine below_set ?_ (by first | exact Nat.le_refl _ | (dsimp only; omega) | omega)) | (with_reducible refine below_tr (by with_reducible assumption) ?_))))
    have F0 := keepC q2
    have F1 := keepC q3
    have F2 := keepC d0
    have F3 := keepC d1
    clear q2 q3 d0 d1
    go_wp2_with fail
    refine wp_region_mix [(0, true), (1, true), (2, false), (3, false), (4, true)] (fun w' => Below w5.heap.size w5 w') (by kernel_rfl) (by kernel_rfl) (fun _ _ d _ _ h => by cases d <;> exact h) (Below.refl _ _).drew ?_
    repeat (first
      | (refine mix_skip rfl rfl (fun K' hK' => ?_); go_simp; refine hK' _ ?_; clear hK' K')
      | (refine mix_do (v := ?_) rfl rfl (fun w1 hb => ?_) (fun K' hK' => ?_); rotate_left
         · go_simp
           rfl
         go_simp; refine hK' _ ?_; clear hK' K'))
    refine mix_call rfl rfl (fun K' hK' => ?_)
    go_simp
    refine (HD.out _ (HX5.out.below (by (repeat (first | (with_reducible exact Below.refl _ _) | (with_reducible assumption) | (with_reducible refine below_al ?_) | (with_reducible refine below_dr ?_) | (with_reducible refine below_drN ?_) | (with_reducible refine below_set ?_ (by first | exact Nat.le_refl _ | (dsimp only; omega) | omega)) | (with_reducible refine below_tr (by with_reducible assumption) ?_)))))).mono ?_
    rintro e w6 ⟨b2, rfl, p2, B2, hb6⟩
    refine hK' _ _ (by (repeat (first | (with_reducible exact Below.refl _ _) | (with_reducible assumption) | (with_reducible refine below_al ?_) | (with_reducible refine below_dr ?_) | (with_reducible refine below_drN ?_) | (with_reducible refine below_set ?_ (by first | exact Nat.le_refl _ | (dsimp only; omega) | omega)) | (with_reducible refine below_tr (by with_reducible assumption) ?_)))) ?_; clear hK' K'
    refine mix_call rfl rfl (fun K' hK' => ?_)
    go_simp
    refine (HE.out _ _ _ _ _ (TileCells.below HT5.out (by (repeat (first | (with_reducible exact Below.refl _ _) | (with_reducible assumption) | (with_reducible refine below_al ?_) | (with_reducible refine below_dr ?_) | (with_reducible refine below_drN ?_) | (with_reducible refine below_set ?_ (by first | exact Nat.le_refl _ | (dsimp only; omega) | omega)) | (with_reducible refine below_tr (by with_reducible assumption) ?_))))) B2.tiles).mono ?_
    rintro e w7 ⟨rfl, hb7⟩
    refine hK' _ _ (by (repeat (first | (with_reducible exact Below.refl _ _) | (with_reducible assumption) | (with_reducible refine below_al ?_) | (with_reducible refine below_dr ?_) | (with_reducible refine below_drN ?_) | (with_reducible refine below_set ?_ (by first | exact Nat.le_refl _ | (dsimp only; omega) | omega)) | (with_reducible refine below_tr (by with_reducible assumption) ?_)))) ?_; clear hK' K'
    repeat (first
      | (refine mix_skip rfl rfl (fun K' hK' => ?_); go_simp; refine hK' _ ?_; clear hK' K')
      | (refine mix_do (v := ?_) rfl rfl (fun w1 hb => ?_) (fun K' hK' => ?_); rotate_left
         · go_simp
           rfl
         go_simp; refine hK' _ ?_; clear hK' K'))
    refine mix_nil ?_
    go_wp2
    go_ret
    exact ⟨rfl, by have h1 := Hw1.out; have h5 := Hw5.out; (repeat (first | (with_reducible exact Below.refl _ _) | (with_reducible assumption) | (with_reducible refine below_al ?_) | (with_reducible refine below_dr ?_) | (with_reducible refine below_drN ?_) | (with_reducible refine below_set ?_ (by first | exact Nat.le_refl _ | (dsimp only; omega) | omega)) | (with_reducible refine below_tr (by with_reducible assumption) ?_)))⟩


end Go.Proofs.Ytpcooplalncdcaa
