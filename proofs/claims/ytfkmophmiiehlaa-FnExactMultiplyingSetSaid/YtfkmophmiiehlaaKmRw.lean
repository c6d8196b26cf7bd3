/- Contracts and lemmas for the statements of this seat, written for this claim; each theorem states its own conditions. -/
import Derived.Test.YtfkmophmiiehlaaKmBa
import Derived.Test.YtfkmophmiiehlaaKmAp
set_option linter.unusedVariables false
set_option linter.unusedSimpArgs false
namespace Go.Proofs.Ytfkmophmiiehlaa
open Go.RowKit
set_option maxRecDepth 100000 in
set_option maxHeartbeats 1000000 in
theorem isNumber_c (c : Int) (A : Option Addr) (n cx : Nat) (x : Int) (w : World) (hl : n ≤ 1000000000) :
    Calls Try.prog 136 #[.agg #[.int .i64 c, .slice A n cx], .int .i64 x] w fun e w' => e = .returned (.bool (inR 0 ((n : Int) - 1) x)) ∧ Below w.heap.size w w' := by
  have q : IntKind.i64.wrap ((n : Int) - 1) = (n : Int) - 1 := IntWalk.i64_in _ (by omega)
  have H := Lib.hid (fun w => within_c x 0 ((n : Int) - 1) w)
  generalize inR 0 ((n : Int) - 1) x = r at *
  go_enter Try.func136, Try.ntmps136
  go_wp2_with fail
  refine (H.out _).mono ?_
  rintro e w1 ⟨rfl, rfl⟩
  go_wp2
  go_ret
  exact ⟨rfl, by (repeat (first | (with_reducible exact Below.refl _ _) | (with_reducible assumption) | (with_reducible refine below_al ?_) | (with_reducible refine below_dr ?_) | (with_reducible refine below_drN ?_) | (with_reducible refine below_set ?_ (by first | exact Nat.le_refl _ | (dsimp only; omega) | omega)) | (with_reducible refine below_tr (by with_reducible assumption) ?_)))⟩
end Go.Proofs.Ytfkmophmiiehlaa
