/- Contracts and lemmas for the statements of this seat, written for this claim; each theorem states its own conditions. -/
import Derived.Test.YtfkmophmiiehlaaKmL1
import Derived.Test.YtfkmophmiiehlaaKmOw
set_option linter.unusedVariables false
set_option linter.unusedSimpArgs false
namespace Go.Proofs.Ytfkmophmiiehlaa
open Go.RowKit
def placesB (p n : Int) : Bool := inR 1 1000 p && inR 1 20 n
theorem placesB_iff {p n : Int} : placesB p n = true ↔ (1 ≤ p ∧ p ≤ 1000) ∧ 1 ≤ n ∧ n ≤ 20 := by simp [placesB, inR]
def factB (p q : Int) : Bool := inR 1 3 p && inR 1 3 q
theorem factB_iff {p q : Int} : factB p q = true ↔ (1 ≤ p ∧ p ≤ 3) ∧ 1 ≤ q ∧ q ≤ 3 := by simp [factB, inR]
set_option maxRecDepth 100000 in
set_option maxHeartbeats 1000000 in
theorem l08Factor_c (a b : Int) (w : World) :
    Calls Try.prog 79 #[.int .i64 a, .int .i64 b] w fun e w' => e = .returned (.bool (factB a b)) ∧ w = w' := by
  have H1 := Lib.hid (fun w => l01In_c a 1 3 w)
  have H2 := Lib.hid (fun w => l01In_c b 1 3 w)
  have hR := Lib.hid (show factB a b = (inR 1 3 a && inR 1 3 b) from rfl)
  generalize inR 1 3 a = p at *
  generalize inR 1 3 b = q at *
  cases p
  · go_enter Try.func79, Try.ntmps79
    go_wp2_with (go_at_call 47; refine (H1.out _).mono ?_; rintro e w1 ⟨rfl, rfl⟩)
    go_ret
    exact ⟨ret_bool hR.out.symm, rfl⟩
  · cases q
    all_goals
      go_enter Try.func79, Try.ntmps79
      go_wp2_with fail
      refine (H1.out _).mono ?_
      rintro e w1 ⟨rfl, rfl⟩
      go_wp2_with fail
      refine (H2.out _).mono ?_
      rintro e w1 ⟨rfl, rfl⟩
      go_wp2
      go_ret
      exact ⟨ret_bool hR.out.symm, rfl⟩
set_option maxRecDepth 100000 in
set_option maxHeartbeats 1000000 in
theorem isFactor_c (a b : Int) (w : World) :
    Calls Try.prog 81 #[.int .i64 a, .int .i64 b] w fun e w' => e = .returned (.bool (factB a b)) ∧ w = w' := by
  have H1 := Lib.hid (fun w => within_c a 1 3 w)
  have H2 := Lib.hid (fun w => within_c b 1 3 w)
  have hR := Lib.hid (show factB a b = (inR 1 3 a && inR 1 3 b) from rfl)
  generalize inR 1 3 a = p at *
  generalize inR 1 3 b = q at *
  cases p
  · go_enter Try.func81, Try.ntmps81
    go_wp2_with (go_at_call 53; refine (H1.out _).mono ?_; rintro e w1 ⟨rfl, rfl⟩)
    go_ret
    exact ⟨ret_bool hR.out.symm, rfl⟩
  · cases q
    all_goals
      go_enter Try.func81, Try.ntmps81
      go_wp2_with fail
      refine (H1.out _).mono ?_
      rintro e w1 ⟨rfl, rfl⟩
      go_wp2_with fail
      refine (H2.out _).mono ?_
      rintro e w1 ⟨rfl, rfl⟩
      go_wp2
      go_ret
      exact ⟨ret_bool hR.out.symm, rfl⟩
end Go.Proofs.Ytfkmophmiiehlaa
