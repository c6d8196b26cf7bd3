/- Contracts and lemmas for the statements of this seat, written for this claim; each theorem states its own conditions. -/
import Derived.Test.YteaajhlpieomkaaDaDl
import Derived.Test.YteaajhlpieomkaaDaIv
set_option linter.unusedVariables false
set_option linter.unusedSimpArgs false
namespace Go.Proofs.Yteaajhlpieomkaa
open Go.RowKit
theorem ivS_digs (a b : Int) (n : Nat) : ∀ k, k ≤ n → ivS (digs a b 1 n) k = (k : Int) * a / b
  | 0, _ => by simp [ivS]
  | k + 1, hk => by
    have ih := ivS_digs a b n k (by omega)
    have hg : (digs a b 1 n).getD k 0 = digAt a b (1 + (k : Int)) := by simp [digs, show k < n by omega]
    show ivS (digs a b 1 n) k + (digs a b 1 n).getD k 0 = _
    rw [ih, hg]
    unfold digAt
    rw [show (1 + (k : Int)) - 1 = (k : Int) by omega, show ((k + 1 : Nat) : Int) = 1 + (k : Int) by omega]
    omega
theorem low_eq {s n : Int} : lowA s n * n = s * lowB s n := by
  unfold lowA lowB gcdI
  have d1 : ((Int.gcd s n : Nat) : Int) ∣ s := Int.gcd_dvd_left ..
  have d2 : ((Int.gcd s n : Nat) : Int) ∣ n := Int.gcd_dvd_right ..
  obtain ⟨x, hx⟩ := d1
  obtain ⟨y, hy⟩ := d2
  generalize ((Int.gcd s n : Nat) : Int) = g at *
  by_cases h0 : g = 0
  · subst h0; simp at hx hy; subst hx hy; simp
  · subst hx hy
    rw [Int.mul_ediv_cancel_left _ h0, Int.mul_ediv_cancel_left _ h0]
    simp only [Int.mul_comm, Int.mul_left_comm, Int.mul_assoc]
def LowOk (a b : Int) (l : Int × Int) : Prop := 1 ≤ l.2 ∧ l.1 * b ≤ a * l.2
def HighOk (a b : Int) (h : Int × Int) : Prop := 1 ≤ h.2 ∧ a * h.2 < h.1 * b
theorem ivLow_ok {a b s n : Int} {l : Int × Int} (hl : LowOk a b l) (hs : 0 ≤ s) (hn : 1 ≤ n) (h : s * b ≤ n * a) : LowOk a b (ivLow l s n) := by
  unfold ivLow
  split
  · have hb := low_bounds hs hn
    refine ⟨hb.2.2.1, ?_⟩
    have e := low_eq (s := s) (n := n)
    generalize lowA s n = x at *
    generalize lowB s n = y at *
    show x * b ≤ a * y
    refine Int.le_of_mul_le_mul_right (a := n) ?_ (by omega)
    have a1 : x * b * n = s * b * y := by
      rw [show x * b * n = x * n * b by simp only [Int.mul_comm, Int.mul_left_comm, Int.mul_assoc], e]
      simp only [Int.mul_comm, Int.mul_left_comm, Int.mul_assoc]
    have a2 : a * y * n = n * a * y := by simp only [Int.mul_comm, Int.mul_left_comm, Int.mul_assoc]
    rw [a1, a2]
    exact Int.mul_le_mul_of_nonneg_right h (by omega)
  · exact hl
theorem ivHigh_ok {a b s n : Int} {l : Int × Int} (hl : HighOk a b l) (hs : 0 ≤ s) (hn : 1 ≤ n) (h : n * a < (s + 1) * b) : HighOk a b (ivHigh l s n) := by
  unfold ivHigh
  split
  · have hb := low_bounds (show 0 ≤ s + 1 by omega) hn
    refine ⟨hb.2.2.1, ?_⟩
    have e := low_eq (s := s + 1) (n := n)
    generalize lowA (s + 1) n = x at *
    generalize lowB (s + 1) n = y at *
    generalize s + 1 = t at *
    show a * y < x * b
    refine Int.lt_of_mul_lt_mul_right (a := n) ?_ (by omega)
    have a1 : x * b * n = t * b * y := by
      rw [show x * b * n = x * n * b by simp only [Int.mul_comm, Int.mul_left_comm, Int.mul_assoc], e]
      simp only [Int.mul_comm, Int.mul_left_comm, Int.mul_assoc]
    have a2 : a * y * n = n * a * y := by simp only [Int.mul_comm, Int.mul_left_comm, Int.mul_assoc]
    rw [a1, a2]
    exact Int.mul_lt_mul_of_pos_right h (by omega)
  · exact hl
theorem iv_digs {a b : Int} (ha : 0 ≤ a) (hb : 1 ≤ b) (h5 : a ≤ 5 * b) (n : Nat) : ∀ k, k ≤ n → LowOk a b (ivL (digs a b 1 n) k) ∧ HighOk a b (ivH (6, 1) (digs a b 1 n) k)
  | 0, _ => ⟨⟨by simp [ivL], by simp [ivL]; omega⟩, ⟨by simp [ivH], by simp [ivH]; omega⟩⟩
  | k + 1, hk => by
    obtain ⟨i1, i2⟩ := iv_digs ha hb h5 n k (by omega)
    have hm : 0 ≤ ((k + 1 : Nat) : Int) * a := Int.mul_nonneg (by omega) ha
    have hs := ivS_digs a b n (k + 1) hk
    have e : ((k : Int) + 1) = ((k + 1 : Nat) : Int) := by omega
    have s0 : 0 ≤ ((k + 1 : Nat) : Int) * a / b := Int.ediv_nonneg hm (by omega)
    have h1 : ((k + 1 : Nat) : Int) * a / b * b ≤ ((k + 1 : Nat) : Int) * a := Int.ediv_mul_le _ (by omega)
    have h2 : ((k + 1 : Nat) : Int) * a < (((k + 1 : Nat) : Int) * a / b + 1) * b := Int.lt_ediv_add_one_mul_self _ (by omega)
    constructor
    · show LowOk a b (ivLow _ (ivS (digs a b 1 n) (k + 1)) ((k : Int) + 1))
      rw [hs, e]
      exact ivLow_ok i1 s0 (by omega) h1
    · show HighOk a b (ivHigh _ (ivS (digs a b 1 n) (k + 1)) ((k : Int) + 1))
      rw [hs, e]
      exact ivHigh_ok i2 s0 (by omega) h2
theorem iv_apart {a b : Int} (ha : 0 ≤ a) (hb : 1 ≤ b) {l h : Int × Int} (hl : LowOk a b l) (hh : HighOk a b h) : l.1 * h.2 < h.1 * l.2 := by
  obtain ⟨l1, l2⟩ := hl
  obtain ⟨h1, h2⟩ := hh
  generalize l.1 = x at *
  generalize l.2 = y at *
  generalize h.1 = z at *
  generalize h.2 = t at *
  refine Int.lt_of_mul_lt_mul_right (a := b) ?_ (by omega)
  have a1 : x * t * b = x * b * t := by simp only [Int.mul_comm, Int.mul_left_comm, Int.mul_assoc]
  have a2 : z * y * b = z * b * y := by simp only [Int.mul_comm, Int.mul_left_comm, Int.mul_assoc]
  have a3 : a * y * t = a * t * y := by simp only [Int.mul_comm, Int.mul_left_comm, Int.mul_assoc]
  have k1 : x * b * t ≤ a * y * t := Int.mul_le_mul_of_nonneg_right l2 (by omega)
  have k2 : a * t * y < z * b * y := Int.mul_lt_mul_of_pos_right h2 (by omega)
  omega

end Go.Proofs.Yteaajhlpieomkaa
