/- Contracts and lemmas for the statements of this seat, written for this claim; each theorem states its own conditions. -/
import Derived.Test.YteaajhlpieomkaaDaN8
set_option linter.unusedVariables false
set_option linter.unusedSimpArgs false
namespace Go.Proofs.Yteaajhlpieomkaa
open Go.RowKit
/-- what a call gives back that returns a new list of numbers and a code -/
def RetIC (w : World) (xs : List Int) (c : Int) (e : Ending) (w' : World) : Prop :=
  ∃ v, e = .returned (.tuple #[v, .int .i64 c]) ∧ OwnI w' w.heap.size v xs ∧ Below w.heap.size w w'
def digXs (a b p n : Int) : List Int := if (fracB a b && placesB p n) = true then digs a b p n.toNat else []
def digCode (a b p n : Int) : Int := if (fracB a b && placesB p n) = true then 0 else 2
set_option maxRecDepth 100000 in
set_option maxHeartbeats 1000000 in
theorem specDigitsOf_c (a b p n : Int) (w : World) :
    Calls Try.prog 7 #[.int .i64 a, .int .i64 b, .int .i64 p, .int .i64 n] w (RetIC w (digXs a b p n) (digCode a b p n)) := by
  have H1 := Lib.hid (fun w => l08Fraction_c a b w)
  have H2 := Lib.hid (fun w => l08Places_c p n w)
  have hx : digXs a b p n = if (fracB a b && placesB p n) = true then digs a b p n.toNat else [] := rfl
  have hc : digCode a b p n = if (fracB a b && placesB p n) = true then 0 else 2 := rfl
  have i1 : fracB a b = true → (1 ≤ b ∧ b ≤ 20) ∧ 0 ≤ a ∧ a ≤ 5 * b := fracB_iff.1
  have i2 : placesB p n = true → (1 ≤ p ∧ p ≤ 1000) ∧ 1 ≤ n ∧ n ≤ 20 := placesB_iff.1
  generalize fracB a b = f at *
  generalize placesB p n = g at *
  cases f
  · rw [if_neg (by simp)] at hx hc
    rw [hx, hc]
    clear i1 i2 hx hc
    go_enter Try.func7, Try.ntmps7
    go_wp2_with fail
    refine (H1.out _).mono ?_
    rintro e w1 ⟨rfl, rfl⟩
    go_wp2
    go_ret2
    exact ⟨_, rfl, OwnI.nil _ _, Below.refl _ _⟩
  · obtain ⟨⟨q1, q2⟩, q3, q4⟩ := i1 rfl
    cases g
    · rw [if_neg (by simp)] at hx hc
      rw [hx, hc]
      clear i1 i2 hx hc
      go_enter Try.func7, Try.ntmps7
      go_wp2_with fail
      refine (H1.out _).mono ?_
      rintro e w1 ⟨rfl, rfl⟩
      go_wp2_with fail
      refine (H2.out _).mono ?_
      rintro e w1 ⟨rfl, rfl⟩
      go_wp2
      go_ret2
      exact ⟨_, rfl, OwnI.nil _ _, Below.refl _ _⟩
    · obtain ⟨⟨q5, q6⟩, q7, q8⟩ := i2 rfl
      rw [if_pos (by simp)] at hx hc
      rw [hx, hc]
      clear i1 i2 hx hc
      obtain ⟨m, rfl⟩ := Int.eq_ofNat_of_zero_le (by omega : 0 ≤ n)
      have HD := Lib.hid (fun w => l08Digits_c a b p m w q3 (by omega) q1 (by omega) q5 q6 (by omega))
      go_enter Try.func7, Try.ntmps7
      go_wp2_with fail
      refine (H1.out _).mono ?_
      rintro e w1 ⟨rfl, rfl⟩
      go_wp2_with fail
      refine (H2.out _).mono ?_
      rintro e w1 ⟨rfl, rfl⟩
      go_wp2_with fail
      refine (HD.out _).mono ?_
      rintro e w1 ⟨v, rfl, hO, hb1⟩
      go_wp2
      go_ret2
      exact ⟨_, rfl, hO, hb1⟩
set_option maxRecDepth 100000 in
set_option maxHeartbeats 1000000 in
theorem implDigitsOf_c (a b p n : Int) (w : World) :
    Calls Try.prog 6 #[.int .i64 a, .int .i64 b, .int .i64 p, .int .i64 n] w (RetIC w (digXs a b p n) (digCode a b p n)) := by
  have H1 := Lib.hid (fun w => isFraction_c a b w)
  have H2 := Lib.hid (fun w => arePlaces_c p n w)
  have hx : digXs a b p n = if (fracB a b && placesB p n) = true then digs a b p n.toNat else [] := rfl
  have hc : digCode a b p n = if (fracB a b && placesB p n) = true then 0 else 2 := rfl
  have i1 : fracB a b = true → (1 ≤ b ∧ b ≤ 20) ∧ 0 ≤ a ∧ a ≤ 5 * b := fracB_iff.1
  have i2 : placesB p n = true → (1 ≤ p ∧ p ≤ 1000) ∧ 1 ≤ n ∧ n ≤ 20 := placesB_iff.1
  generalize fracB a b = f at *
  generalize placesB p n = g at *
  cases f
  · rw [if_neg (by simp)] at hx hc
    rw [hx, hc]
    clear i1 i2 hx hc
    go_enter Try.func6, Try.ntmps6
    go_wp2_with fail
    refine (H1.out _).mono ?_
    rintro e w1 ⟨rfl, rfl⟩
    go_wp2
    go_ret2
    exact ⟨_, rfl, OwnI.nil _ _, Below.refl _ _⟩
  · obtain ⟨⟨q1, q2⟩, q3, q4⟩ := i1 rfl
    cases g
    · rw [if_neg (by simp)] at hx hc
      rw [hx, hc]
      clear i1 i2 hx hc
      go_enter Try.func6, Try.ntmps6
      go_wp2_with fail
      refine (H1.out _).mono ?_
      rintro e w1 ⟨rfl, rfl⟩
      go_wp2_with fail
      refine (H2.out _).mono ?_
      rintro e w1 ⟨rfl, rfl⟩
      go_wp2
      go_ret2
      exact ⟨_, rfl, OwnI.nil _ _, Below.refl _ _⟩
    · obtain ⟨⟨q5, q6⟩, q7, q8⟩ := i2 rfl
      rw [if_pos (by simp)] at hx hc
      rw [hx, hc]
      clear i1 i2 hx hc
      obtain ⟨m, rfl⟩ := Int.eq_ofNat_of_zero_le (by omega : 0 ≤ n)
      have HD := Lib.hid (fun w => digits_c a b p m w q3 (by omega) q1 (by omega) q5 q6 (by omega))
      go_enter Try.func6, Try.ntmps6
      go_wp2_with fail
      refine (H1.out _).mono ?_
      rintro e w1 ⟨rfl, rfl⟩
      go_wp2_with fail
      refine (H2.out _).mono ?_
      rintro e w1 ⟨rfl, rfl⟩
      go_wp2_with fail
      refine (HD.out _).mono ?_
      rintro e w1 ⟨v, rfl, hO, hb1⟩
      go_wp2
      go_ret2
      exact ⟨_, rfl, hO, hb1⟩
def carXs (p q a b s n : Int) : List Int := if (factB p q && fracB a b && placesB s n) = true then cars p q a b (s - 1) (n.toNat + 1) else []
def carCode (p q a b s n : Int) : Int := if (factB p q && fracB a b && placesB s n) = true then 0 else 2
set_option maxRecDepth 100000 in
set_option maxHeartbeats 1000000 in
theorem specCarriesOf_c (p q a b s n : Int) (w : World) :
    Calls Try.prog 14 #[.int .i64 p, .int .i64 q, .int .i64 a, .int .i64 b, .int .i64 s, .int .i64 n] w (RetIC w (carXs p q a b s n) (carCode p q a b s n)) := by
  have H0 := Lib.hid (fun w => l08Factor_c p q w)
  have H1 := Lib.hid (fun w => l08Fraction_c a b w)
  have H2 := Lib.hid (fun w => l08Places_c s n w)
  have hx : carXs p q a b s n = if (factB p q && fracB a b && placesB s n) = true then cars p q a b (s - 1) (n.toNat + 1) else [] := rfl
  have hc : carCode p q a b s n = if (factB p q && fracB a b && placesB s n) = true then 0 else 2 := rfl
  have i0 : factB p q = true → (1 ≤ p ∧ p ≤ 3) ∧ 1 ≤ q ∧ q ≤ 3 := factB_iff.1
  have i1 : fracB a b = true → (1 ≤ b ∧ b ≤ 20) ∧ 0 ≤ a ∧ a ≤ 5 * b := fracB_iff.1
  have i2 : placesB s n = true → (1 ≤ s ∧ s ≤ 1000) ∧ 1 ≤ n ∧ n ≤ 20 := placesB_iff.1
  generalize factB p q = h at *
  generalize fracB a b = f at *
  generalize placesB s n = g at *
  cases h
  · rw [if_neg (by simp)] at hx hc
    rw [hx, hc]
    clear i0 i1 i2 hx hc
    go_enter Try.func14, Try.ntmps14
    go_wp2_with fail
    refine (H0.out _).mono ?_
    rintro e w1 ⟨rfl, rfl⟩
    go_wp2
    go_ret2
    exact ⟨_, rfl, OwnI.nil _ _, Below.refl _ _⟩
  · obtain ⟨⟨r1, r2⟩, r3, r4⟩ := i0 rfl
    cases f
    · rw [if_neg (by simp)] at hx hc
      rw [hx, hc]
      clear i0 i1 i2 hx hc
      go_enter Try.func14, Try.ntmps14
      go_wp2_with fail
      refine (H0.out _).mono ?_
      rintro e w1 ⟨rfl, rfl⟩
      go_wp2_with fail
      refine (H1.out _).mono ?_
      rintro e w1 ⟨rfl, rfl⟩
      go_wp2
      go_ret2
      exact ⟨_, rfl, OwnI.nil _ _, Below.refl _ _⟩
    · obtain ⟨⟨q1, q2⟩, q3, q4⟩ := i1 rfl
      cases g
      · rw [if_neg (by simp)] at hx hc
        rw [hx, hc]
        clear i0 i1 i2 hx hc
        go_enter Try.func14, Try.ntmps14
        go_wp2_with fail
        refine (H0.out _).mono ?_
        rintro e w1 ⟨rfl, rfl⟩
        go_wp2_with fail
        refine (H1.out _).mono ?_
        rintro e w1 ⟨rfl, rfl⟩
        go_wp2_with fail
        refine (H2.out _).mono ?_
        rintro e w1 ⟨rfl, rfl⟩
        go_wp2
        go_ret2
        exact ⟨_, rfl, OwnI.nil _ _, Below.refl _ _⟩
      · obtain ⟨⟨q5, q6⟩, q7, q8⟩ := i2 rfl
        rw [if_pos (by simp)] at hx hc
        rw [hx, hc]
        clear i0 i1 i2 hx hc
        obtain ⟨m, rfl⟩ := Int.eq_ofNat_of_zero_le (by omega : 0 ≤ n)
        have HD := Lib.hid (fun w => l08Carries_c p q a b s m w r1 r2 r3 r4 q1 q2 q3 (by omega) q5 q6 (by omega))
        go_enter Try.func14, Try.ntmps14
        go_wp2_with fail
        refine (H0.out _).mono ?_
        rintro e w1 ⟨rfl, rfl⟩
        go_wp2_with fail
        refine (H1.out _).mono ?_
        rintro e w1 ⟨rfl, rfl⟩
        go_wp2_with fail
        refine (H2.out _).mono ?_
        rintro e w1 ⟨rfl, rfl⟩
        go_wp2_with fail
        refine (HD.out _).mono ?_
        rintro e w1 ⟨v, rfl, hO, hb1⟩
        go_wp2
        go_ret2
        exact ⟨_, rfl, hO, hb1⟩
set_option maxRecDepth 100000 in
set_option maxHeartbeats 1000000 in
theorem implCarriesOf_c (p q a b s n : Int) (w : World) :
    Calls Try.prog 13 #[.int .i64 p, .int .i64 q, .int .i64 a, .int .i64 b, .int .i64 s, .int .i64 n] w (RetIC w (carXs p q a b s n) (carCode p q a b s n)) := by
  have H0 := Lib.hid (fun w => isFactor_c p q w)
  have H1 := Lib.hid (fun w => isFraction_c a b w)
  have H2 := Lib.hid (fun w => arePlaces_c s n w)
  have hx : carXs p q a b s n = if (factB p q && fracB a b && placesB s n) = true then cars p q a b (s - 1) (n.toNat + 1) else [] := rfl
  have hc : carCode p q a b s n = if (factB p q && fracB a b && placesB s n) = true then 0 else 2 := rfl
  have i0 : factB p q = true → (1 ≤ p ∧ p ≤ 3) ∧ 1 ≤ q ∧ q ≤ 3 := factB_iff.1
  have i1 : fracB a b = true → (1 ≤ b ∧ b ≤ 20) ∧ 0 ≤ a ∧ a ≤ 5 * b := fracB_iff.1
  have i2 : placesB s n = true → (1 ≤ s ∧ s ≤ 1000) ∧ 1 ≤ n ∧ n ≤ 20 := placesB_iff.1
  generalize factB p q = h at *
  generalize fracB a b = f at *
  generalize placesB s n = g at *
  cases h
  · rw [if_neg (by simp)] at hx hc
    rw [hx, hc]
    clear i0 i1 i2 hx hc
    go_enter Try.func13, Try.ntmps13
    go_wp2_with fail
    refine (H0.out _).mono ?_
    rintro e w1 ⟨rfl, rfl⟩
    go_wp2
    go_ret2
    exact ⟨_, rfl, OwnI.nil _ _, Below.refl _ _⟩
  · obtain ⟨⟨r1, r2⟩, r3, r4⟩ := i0 rfl
    cases f
    · rw [if_neg (by simp)] at hx hc
      rw [hx, hc]
      clear i0 i1 i2 hx hc
      go_enter Try.func13, Try.ntmps13
      go_wp2_with fail
      refine (H0.out _).mono ?_
      rintro e w1 ⟨rfl, rfl⟩
      go_wp2_with fail
      refine (H1.out _).mono ?_
      rintro e w1 ⟨rfl, rfl⟩
      go_wp2
      go_ret2
      exact ⟨_, rfl, OwnI.nil _ _, Below.refl _ _⟩
    · obtain ⟨⟨q1, q2⟩, q3, q4⟩ := i1 rfl
      cases g
      · rw [if_neg (by simp)] at hx hc
        rw [hx, hc]
        clear i0 i1 i2 hx hc
        go_enter Try.func13, Try.ntmps13
        go_wp2_with fail
        refine (H0.out _).mono ?_
        rintro e w1 ⟨rfl, rfl⟩
        go_wp2_with fail
        refine (H1.out _).mono ?_
        rintro e w1 ⟨rfl, rfl⟩
        go_wp2_with fail
        refine (H2.out _).mono ?_
        rintro e w1 ⟨rfl, rfl⟩
        go_wp2
        go_ret2
        exact ⟨_, rfl, OwnI.nil _ _, Below.refl _ _⟩
      · obtain ⟨⟨q5, q6⟩, q7, q8⟩ := i2 rfl
        rw [if_pos (by simp)] at hx hc
        rw [hx, hc]
        clear i0 i1 i2 hx hc
        obtain ⟨m, rfl⟩ := Int.eq_ofNat_of_zero_le (by omega : 0 ≤ n)
        have HD := Lib.hid (fun w => carries_c p q a b s m w r1 r2 r3 r4 q1 q2 q3 (by omega) q5 q6 (by omega))
        go_enter Try.func13, Try.ntmps13
        go_wp2_with fail
        refine (H0.out _).mono ?_
        rintro e w1 ⟨rfl, rfl⟩
        go_wp2_with fail
        refine (H1.out _).mono ?_
        rintro e w1 ⟨rfl, rfl⟩
        go_wp2_with fail
        refine (H2.out _).mono ?_
        rintro e w1 ⟨rfl, rfl⟩
        go_wp2_with fail
        refine (HD.out _).mono ?_
        rintro e w1 ⟨v, rfl, hO, hb1⟩
        go_wp2
        go_ret2
        exact ⟨_, rfl, hO, hb1⟩

end Go.Proofs.Yteaajhlpieomkaa
