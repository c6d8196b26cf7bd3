/- Contracts and lemmas for the statements of this seat, written for this claim; each theorem states its own conditions. -/
import Derived.Test.YteaajhlpieomkaaDaN8
set_option linter.unusedVariables false
set_option linter.unusedSimpArgs false
namespace Go.Proofs.Yteaajhlpieomkaa
open Go.RowKit
theorem carAt_range {p q a b i : Int} (hp : 1 ≤ p) (hq : 1 ≤ q) (hb : 1 ≤ b) (ha : 0 ≤ a) (hi : 0 ≤ i) : 1 - p ≤ carAt p q a b i ∧ carAt p q a b i ≤ q - 1 := by
  unfold carAt
  have hm : 0 ≤ i * a := Int.mul_nonneg hi ha
  generalize i * a = m at *
  have hbq : 0 < b * q := Int.mul_pos (by omega) (by omega)
  have h1 : m / b * b ≤ m := Int.ediv_mul_le m (by omega)
  have h2 : m < (m / b + 1) * b := Int.lt_ediv_add_one_mul_self m (by omega)
  have h3 : m * p / (b * q) * (b * q) ≤ m * p := Int.ediv_mul_le _ (by omega)
  have h4 : m * p < (m * p / (b * q) + 1) * (b * q) := Int.lt_ediv_add_one_mul_self _ hbq
  generalize m / b = x at *
  generalize m * p / (b * q) = y at *
  have e1 : x * b * p ≤ m * p := Int.mul_le_mul_of_nonneg_right h1 (by omega)
  have e2 : m * p < (x + 1) * b * p := Int.mul_lt_mul_of_pos_right h2 (by omega)
  have k1 : p * x < q * y + q := by
    refine Int.lt_of_mul_lt_mul_right (a := b) ?_ (by omega)
    have a1 : p * x * b = x * b * p := by simp only [Int.mul_comm, Int.mul_left_comm, Int.mul_assoc]
    have a2 : (q * y + q) * b = (y + 1) * (b * q) := by
      rw [show q * y + q = q * (y + 1) by rw [Int.mul_add, Int.mul_one]]
      simp only [Int.mul_comm, Int.mul_left_comm, Int.mul_assoc]
    omega
  have k2 : q * y < p * x + p := by
    refine Int.lt_of_mul_lt_mul_right (a := b) ?_ (by omega)
    have a1 : q * y * b = y * (b * q) := by simp only [Int.mul_comm, Int.mul_left_comm, Int.mul_assoc]
    have a2 : (p * x + p) * b = (x + 1) * b * p := by
      rw [show p * x + p = p * (x + 1) by rw [Int.mul_add, Int.mul_one]]
      simp only [Int.mul_comm, Int.mul_left_comm, Int.mul_assoc]
    omega
  omega
theorem carAt_zero (p q a b : Int) : carAt p q a b 0 = 0 := by simp [carAt]
theorem digAt_range {a b i : Int} (hb : 1 ≤ b) : a / b ≤ digAt a b i ∧ digAt a b i ≤ a / b + 1 := by
  unfold digAt
  have e : i * a = (i - 1) * a + a := by rw [Int.sub_mul, Int.one_mul]; omega
  rw [e]
  generalize (i - 1) * a = m at *
  have h1 : m / b * b ≤ m := Int.ediv_mul_le m (by omega)
  have h2 : m < (m / b + 1) * b := Int.lt_ediv_add_one_mul_self m (by omega)
  have h3 : a / b * b ≤ a := Int.ediv_mul_le a (by omega)
  have h4 : a < (a / b + 1) * b := Int.lt_ediv_add_one_mul_self a (by omega)
  have h5 : (m + a) / b * b ≤ m + a := Int.ediv_mul_le _ (by omega)
  have h6 : m + a < ((m + a) / b + 1) * b := Int.lt_ediv_add_one_mul_self _ (by omega)
  generalize m / b = x at *
  generalize a / b = y at *
  generalize (m + a) / b = z at *
  have k1 : x + y < z + 1 := by
    refine Int.lt_of_mul_lt_mul_right (a := b) ?_ (by omega)
    have : (x + y) * b = x * b + y * b := Int.add_mul _ _ _
    omega
  have k2 : z < x + y + 2 := by
    refine Int.lt_of_mul_lt_mul_right (a := b) ?_ (by omega)
    have a1 : (x + y + 2) * b = (x + 1) * b + (y + 1) * b := by rw [← Int.add_mul]; congr 1; omega
    omega
  omega

end Go.Proofs.Yteaajhlpieomkaa
