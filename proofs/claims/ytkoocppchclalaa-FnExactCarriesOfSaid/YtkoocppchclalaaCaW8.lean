/- Contracts and lemmas for the statements of this seat, written for this claim; each theorem states its own conditions. -/
import Derived.Test.YtkoocppchclalaaCaN8b
import Derived.Test.YtkoocppchclalaaCaLi
set_option linter.unusedVariables false
set_option linter.unusedSimpArgs false
namespace Go.Proofs.Ytkoocppchclalaa
open Go.RowKit
theorem carXs_len (p q a b s n : Int) : (carXs p q a b s n).length ≤ 1000 := by
  unfold carXs; split
  · rename_i h
    simp only [Bool.and_eq_true, placesB_iff] at h
    simp [digs, cars]; omega
  · simp
set_option maxRecDepth 100000 in
set_option maxHeartbeats 1000000 in
theorem law_CarriesOf (p q a b s n : Int) (w : World) :
    Calls Try.prog 4 #[.int .i64 p, .int .i64 q, .int .i64 a, .int .i64 b, .int .i64 s, .int .i64 n] w fun e w' => e = .returned (.bool true) ∧ Below w.heap.size w w' := by
  have HS := Lib.hid (fun w => specCarriesOf_c p q a b s n w)
  have HI := Lib.hid (fun w => implCarriesOf_c p q a b s n w)
  have hl := carXs_len p q a b s n
  generalize carXs p q a b s n = xs at *
  generalize carCode p q a b s n = c at *
  have hcc : (c != c) = false := by simp
  have hmm : (((1 + xs.length : Nat) : Int) != ((1 + xs.length : Nat) : Int)) = false := by simp
  go_enter Try.func4, Try.ntmps4
  go_wp2_with fail
  refine (HS.out _).mono ?_
  rintro e w1 ⟨v0, rfl, hO0, hb1⟩
  obtain ⟨A0, cx0, rfl, hC0, _⟩ := hO0.shape
  go_wp2_with fail
  refine (HI.out _).mono ?_
  rintro e w2 ⟨v1, rfl, hO1, hb2⟩
  obtain ⟨A1, cx1, rfl, hC1, _⟩ := hO1.shape
  go_wp2_with fail
  refine (eqInt64S_c xs xs A1 A0 cx1 cx0 w2 hC1 (hC0.below hb2) (by omega) (by omega)).mono ?_
  rintro e w3 ⟨rfl, hb3⟩
  rw [eqI_refl]
  go_wp2_with fail
  refine (markInt64S_c _ xs 1 w1.heap.size w3 (hO1.below hb3) (by omega) (by omega)).mono ?_
  rintro e w4 ⟨rfl, hM, hg4⟩
  have hb4 : Below w1.heap.size w1 w4 := below_grown (by (repeat (first | (with_reducible exact Below.refl _ _) | (with_reducible assumption) | (with_reducible refine below_al ?_) | (with_reducible refine below_dr ?_) | (with_reducible refine below_drN ?_) | (with_reducible refine below_set ?_ (by first | exact Nat.le_refl _ | (dsimp only; omega) | omega)) | (with_reducible refine below_tr (by with_reducible assumption) ?_)))) hg4 (hO1.below hb3) (Nat.le_refl _)
  go_wp2_with fail
  refine (heldInt64S_c A1 1 xs.length cx1 w4 hM.cells (by omega) (by omega)).mono ?_
  rintro e w5 ⟨rfl, rfl⟩
  go_wp2_with fail
  refine (HI.out _).mono ?_
  rintro e w6 ⟨v2, rfl, hO2, hb6⟩
  obtain ⟨A2, cx2, rfl, hC2, _⟩ := hO2.shape
  go_wp2_with fail
  refine (eqInt64S_c xs xs A2 A0 cx2 cx0 w6 hC2 ((hC0.below hb4).below hb6) (by omega) (by omega)).mono ?_
  rintro e w7 ⟨rfl, hb7⟩
  rw [eqI_refl]
  go_wp2_with fail
  refine (heldInt64S_c A1 1 xs.length cx1 w7 (((hM.cells).below hb6).below hb7) (by omega) (by omega)).mono ?_
  rintro e w8 ⟨rfl, rfl⟩
  go_wp2
  go_ret
  exact ⟨rfl, by (repeat (first | (with_reducible exact Below.refl _ _) | (with_reducible assumption) | (with_reducible refine below_al ?_) | (with_reducible refine below_dr ?_) | (with_reducible refine below_drN ?_) | (with_reducible refine below_set ?_ (by first | exact Nat.le_refl _ | (dsimp only; omega) | omega)) | (with_reducible refine below_tr (by with_reducible assumption) ?_)))⟩

end Go.Proofs.Ytkoocppchclalaa
