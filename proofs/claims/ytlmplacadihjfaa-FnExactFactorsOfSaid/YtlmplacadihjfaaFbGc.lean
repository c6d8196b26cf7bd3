/- Contracts and lemmas for the statements of this seat, written for this claim; each theorem states its own conditions. -/
import Derived.Test.YtlmplacadihjfaaFbL1
import Derived.Test.YtlmplacadihjfaaFbOw
set_option linter.unusedVariables false
set_option linter.unusedSimpArgs false
namespace Go.Proofs.Ytlmplacadihjfaa
open Go.RowKit
attribute [local go_sem] addUpon_value addUpon_skip addUpon_enter
def gcdI (a b : Int) : Int := (Int.gcd a b : Int)
theorem gcdI_zero {a : Int} (h : 0 ≤ a) : gcdI a 0 = a := by simp [gcdI]; omega
theorem gcdI_step {a b : Int} (h : 0 ≤ a) (hb : 0 < b) : gcdI a b = gcdI b (a.tmod b) := by
  unfold gcdI
  rw [Int.tmod_eq_emod_of_nonneg h]
  obtain ⟨m, rfl⟩ := Int.eq_ofNat_of_zero_le h
  obtain ⟨n, rfl⟩ := Int.eq_ofNat_of_zero_le (Int.le_of_lt hb)
  rw [show ((m : Int) % (n : Int)) = ((m % n : Nat) : Int) by omega]
  show ((Nat.gcd m n : Nat) : Int) = ((Nat.gcd n (m % n) : Nat) : Int)
  rw [Nat.gcd_comm m n, Nat.gcd_rec n m, Nat.gcd_comm]
theorem gcdI_pos {a b : Int} (hb : 1 ≤ b) : 1 ≤ gcdI a b := by
  unfold gcdI
  have : Int.gcd a b ≠ 0 := by intro e; rw [Int.gcd_eq_zero_iff] at e; omega
  omega
set_option maxRecDepth 100000 in
set_option maxHeartbeats 1000000 in
theorem divisor_c (a b : Int) (w : World) (ha : 0 ≤ a) (hb : 0 ≤ b) (la : a ≤ 1000000000) (lb : b ≤ 1000000000) :
    Calls Try.prog 59 #[.int .i64 a, .int .i64 b] w fun e w' => e = .returned (.int .i64 (gcdI a b)) ∧ Below w.heap.size w w' := by
  go_enter Try.func59, Try.ntmps59
  go_wp2
  go_loopw [0, 1] (fun x y wr => ∃ i j : Int, x = .int .i64 i ∧ y = .int .i64 j ∧ 0 ≤ i ∧ 0 ≤ j ∧ i ≤ 1000000000 ∧ j ≤ 1000000000 ∧ Hid (gcdI a b = gcdI i j) ∧ Below w.heap.size w wr) (fun _ y _ => (intOf y).toNat)
  case atStart => exact ⟨a, b, rfl, rfl, ha, hb, la, lb, rfl, Below.refl _ _⟩
  case round =>
    obtain ⟨i, j, rfl, rfl, hi, hj, li, lj, HG, hbw⟩ := hrel
    by_cases h0 : j = 0
    · subst h0
      have hn : ((0 : Int) != 0) = false := rfl
      have HR := Lib.hid (HG.out.trans (gcdI_zero hi))
      go_wp2
      go_ret
      exact ⟨ret_int HR.out.symm, hbw⟩
    · have hn : (j != 0) = true := by simpa using h0
      have HR := Lib.hid (HG.out.trans (gcdI_step hi (by omega)))
      have q1 := Int.tmod_nonneg j hi
      have q2 := Int.tmod_lt_of_pos i (show 0 < j by omega)
      obtain ⟨m, hm⟩ : ∃ m, m = i.tmod j := ⟨_, rfl⟩
      have hm' := hm.symm
      rw [← hm] at q1 q2 HR
      clear hm
      go_wp2_with fail
      refine wp_region_add (fun w' => Below (wr).heap.size (wr) w') (by kernel_rfl) (by kernel_rfl) ((Below.refl _ _).drew) ?_
      repeat (first
        | (refine add_skip rfl (fun K' hK' => ?_); go_simp; refine hK' _ ?_; clear hK' K')
        | (refine add_do (v := ?_) rfl (fun w1 hb => ?_) (fun K' hK' => ?_); rotate_left
           · go_simp
             first
             | (with_reducible exact rfl)
             | (with_reducible exact ⟨rfl, hb⟩)
             | exact rfl
             | exact ⟨rfl, hb⟩
           go_simp; refine hK' _ ?_; clear hK' K'))
      refine add_nil ?_
      intro wa hba
      go_wp2
      go_roundw
      case rel => exact ⟨j, m, rfl, rfl, by omega, q1, by omega, by omega, HR, hbw.trans (hba.mono hbw.size)⟩
      case measure => simp [intOf]; omega
set_option maxRecDepth 100000 in
set_option maxHeartbeats 1000000 in
theorem l06Gcd_c (a b : Int) (w : World) (ha : 0 ≤ a) (hb : 0 ≤ b) (la : a ≤ 1000000000) (lb : b ≤ 1000000000) :
    Calls Try.prog 57 #[.int .i64 a, .int .i64 b] w fun e w' => e = .returned (.int .i64 (gcdI a b)) ∧ w = w' := by
  go_enter Try.func57, Try.ntmps57
  go_wp2
  go_loop [0, 1] (fun x y => ∃ i j : Int, x = .int .i64 i ∧ y = .int .i64 j ∧ 0 ≤ i ∧ 0 ≤ j ∧ i ≤ 1000000000 ∧ j ≤ 1000000000 ∧ Hid (gcdI a b = gcdI i j)) (fun _ y => (intOf y).toNat)
  case atStart => exact ⟨a, b, rfl, rfl, ha, hb, la, lb, rfl⟩
  case round =>
    obtain ⟨i, j, rfl, rfl, hi, hj, li, lj, HG⟩ := hrel
    by_cases h0 : 0 < j
    · have HR := Lib.hid (HG.out.trans (gcdI_step hi (by omega)))
      have q1 := Int.tmod_nonneg j hi
      have q2 := Int.tmod_lt_of_pos i (show 0 < j by omega)
      have hn : ¬ j = 0 := by omega
      obtain ⟨m, hm⟩ : ∃ m, m = i.tmod j := ⟨_, rfl⟩
      have hm' := hm.symm
      rw [← hm] at q1 q2 HR
      clear hm
      go_wp2
      go_round
      case rel => exact ⟨j, m, rfl, by first | rw [hm'] | rw [← hm', Int.tmod_eq_emod_of_nonneg hi], by omega, q1, by omega, by omega, HR⟩
      case measure => simp [intOf]; omega
    · obtain rfl : j = 0 := by omega
      have HR := Lib.hid (HG.out.trans (gcdI_zero hi))
      go_wp2
      go_ret
      exact ⟨ret_int HR.out.symm, rfl⟩
end Go.Proofs.Ytlmplacadihjfaa
