/- Contracts and lemmas for the statements of this seat, written for this claim; each theorem states its own conditions. -/
import Derived.Test.YtkoocppchclalaaDgN8
set_option linter.unusedVariables false
set_option linter.unusedSimpArgs false
namespace Go.Proofs.Ytkoocppchclalaa
open Go.RowKit
/-- what a call gives back that returns a new list of numbers and a code -/
def RetIC (w : World) (xs : List Int) (c : Int) (e : Ending) (w' : World) : Prop :=
  ∃ v, e = .returned (.tuple #[v, .int .i64 c]) ∧ OwnI w' w.heap.size v xs ∧ Below w.heap.size w w'
def digXs (a b p n : Int) : List Int := if (fracB a b && placesB p n) = true then digs a b p n.toNat else []
def digCode (a b p n : Int) : Int := if (fracB a b && placesB p n) = true then 0 else 2
set_option maxRecDepth 100000 in
set_option maxHeartbeats 1000000 in
theorem specDigitsOf_c (a b p n : Int) (w : World) :
    Calls Try.prog 6 #[.int .i64 a, .int .i64 b, .int .i64 p, .int .i64 n] w (RetIC w (digXs a b p n) (digCode a b p n)) := by
  have H1 := Lib.hid (fun w => l08Fraction_c a b w)
  have H2 := Lib.hid (fun w => l08Places_c p n w)
  have hx : digXs a b p n = if (fracB a b && placesB p n) = true then digs a b p n.toNat else [] := rfl
  have hc : digCode a b p n = if (fracB a b && placesB p n) = true then 0 else 2 := rfl
  have i1 : fracB a b = true → (1 ≤ b ∧ b ≤ 20) ∧ 0 ≤ a ∧ a ≤ 5 * b := fracB_iff.1
  have i2 : placesB p n = true → (1 ≤ p ∧ p ≤ 1000) ∧ 1 ≤ n ∧ n ≤ 20 := placesB_iff.1
  generalize fracB a b = f at *
  generalize placesB p n = g at *
  cases f
  · rw [if_neg (by simp)] at hx hc
    rw [hx, hc]
    clear i1 i2 hx hc
    go_enter Try.func6, Try.ntmps6
    go_wp2_with fail
    refine (H1.out _).mono ?_
    rintro e w1 ⟨rfl, rfl⟩
    go_wp2
    go_ret2
    exact ⟨_, rfl, OwnI.nil _ _, Below.refl _ _⟩
  · obtain ⟨⟨q1, q2⟩, q3, q4⟩ := i1 rfl
    cases g
    · rw [if_neg (by simp)] at hx hc
      rw [hx, hc]
      clear i1 i2 hx hc
      go_enter Try.func6, Try.ntmps6
      go_wp2_with fail
      refine (H1.out _).mono ?_
      rintro e w1 ⟨rfl, rfl⟩
      go_wp2_with fail
      refine (H2.out _).mono ?_
      rintro e w1 ⟨rfl, rfl⟩
      go_wp2
      go_ret2
      exact ⟨_, rfl, OwnI.nil _ _, Below.refl _ _⟩
    · obtain ⟨⟨q5, q6⟩, q7, q8⟩ := i2 rfl
      rw [if_pos (by simp)] at hx hc
      rw [hx, hc]
      clear i1 i2 hx hc
      obtain ⟨m, rfl⟩ := Int.eq_ofNat_of_zero_le (by omega : 0 ≤ n)
      have HD := Lib.hid (fun w => l08Digits_c a b p m w q3 (by omega) q1 (by omega) q5 q6 (by omega))
      go_enter Try.func6, Try.ntmps6
      go_wp2_with fail
      refine (H1.out _).mono ?_
      rintro e w1 ⟨rfl, rfl⟩
      go_wp2_with fail
      refine (H2.out _).mono ?_
      rintro e w1 ⟨rfl, rfl⟩
      go_wp2_with fail
      refine (HD.out _).mono ?_
      rintro e w1 ⟨v, rfl, hO, hb1⟩
      go_wp2
      go_ret2
      exact ⟨_, rfl, hO, hb1⟩
set_option maxRecDepth 100000 in
set_option maxHeartbeats 1000000 in
theorem implDigitsOf_c (a b p n : Int) (w : World) :
    Calls Try.prog 7 #[.int .i64 a, .int .i64 b, .int .i64 p, .int .i64 n] w (RetIC w (digXs a b p n) (digCode a b p n)) := by
  have H1 := Lib.hid (fun w => isFraction_c a b w)
  have H2 := Lib.hid (fun w => arePlaces_c p n w)
  have hx : digXs a b p n = if (fracB a b && placesB p n) = true then digs a b p n.toNat else [] := rfl
  have hc : digCode a b p n = if (fracB a b && placesB p n) = true then 0 else 2 := rfl
  have i1 : fracB a b = true → (1 ≤ b ∧ b ≤ 20) ∧ 0 ≤ a ∧ a ≤ 5 * b := fracB_iff.1
  have i2 : placesB p n = true → (1 ≤ p ∧ p ≤ 1000) ∧ 1 ≤ n ∧ n ≤ 20 := placesB_iff.1
  generalize fracB a b = f at *
  generalize placesB p n = g at *
  cases f
  · rw [if_neg (by simp)] at hx hc
    rw [hx, hc]
    clear i1 i2 hx hc
    go_enter Try.func7, Try.ntmps7
    go_wp2_with fail
    refine (H1.out _).mono ?_
    rintro e w1 ⟨rfl, rfl⟩
    go_wp2
    go_ret2
    exact ⟨_, rfl, OwnI.nil _ _, Below.refl _ _⟩
  · obtain ⟨⟨q1, q2⟩, q3, q4⟩ := i1 rfl
    cases g
    · rw [if_neg (by simp)] at hx hc
      rw [hx, hc]
      clear i1 i2 hx hc
      go_enter Try.func7, Try.ntmps7
      go_wp2_with fail
      refine (H1.out _).mono ?_
      rintro e w1 ⟨rfl, rfl⟩
      go_wp2_with fail
      refine (H2.out _).mono ?_
      rintro e w1 ⟨rfl, rfl⟩
      go_wp2
      go_ret2
      exact ⟨_, rfl, OwnI.nil _ _, Below.refl _ _⟩
    · obtain ⟨⟨q5, q6⟩, q7, q8⟩ := i2 rfl
      rw [if_pos (by simp)] at hx hc
      rw [hx, hc]
      clear i1 i2 hx hc
      obtain ⟨m, rfl⟩ := Int.eq_ofNat_of_zero_le (by omega : 0 ≤ n)
      have HD := Lib.hid (fun w => digits_c a b p m w q3 (by omega) q1 (by omega) q5 q6 (by omega))
      go_enter Try.func7, Try.ntmps7
      go_wp2_with fail
      refine (H1.out _).mono ?_
      rintro e w1 ⟨rfl, rfl⟩
      go_wp2_with fail
      refine (H2.out _).mono ?_
      rintro e w1 ⟨rfl, rfl⟩
      go_wp2_with fail
      refine (HD.out _).mono ?_
      rintro e w1 ⟨v, rfl, hO, hb1⟩
      go_wp2
      go_ret2
      exact ⟨_, rfl, hO, hb1⟩
end Go.Proofs.Ytkoocppchclalaa
