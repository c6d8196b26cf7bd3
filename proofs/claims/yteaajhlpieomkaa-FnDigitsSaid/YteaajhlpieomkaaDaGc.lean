/- Contracts and lemmas for the statements of this seat, written for this claim; each theorem states its own conditions. -/
import Derived.Test.YteaajhlpieomkaaDaL1
import Derived.Test.YteaajhlpieomkaaDaOw
set_option linter.unusedVariables false
set_option linter.unusedSimpArgs false
namespace Go.Proofs.Yteaajhlpieomkaa
open Go.RowKit
attribute [local go_sem] addUpon_value addUpon_skip addUpon_enter
def gcdI (a b : Int) : Int := (Int.gcd a b : Int)
theorem gcdI_zero {a : Int} (h : 0 ≤ a) : gcdI a 0 = a := by simp [gcdI]; omega
theorem gcdI_step {a b : Int} (h : 0 ≤ a) (hb : 0 < b) : gcdI a b = gcdI b (a.tmod b) := by
  unfold gcdI
  rw [Int.tmod_eq_emod_of_nonneg h]
  obtain ⟨m, rfl⟩ := Int.eq_ofNat_of_zero_le h
  obtain ⟨n, rfl⟩ := Int.eq_ofNat_of_zero_le (Int.le_of_lt hb)
  rw [show ((m : Int) % (n : Int)) = ((m % n : Nat) : Int) by omega]
  show ((Nat.gcd m n : Nat) : Int) = ((Nat.gcd n (m % n) : Nat) : Int)
  rw [Nat.gcd_comm m n, Nat.gcd_rec n m, Nat.gcd_comm]
theorem gcdI_pos {a b : Int} (hb : 1 ≤ b) : 1 ≤ gcdI a b := by
  unfold gcdI
  have : Int.gcd a b ≠ 0 := by intro e; rw [Int.gcd_eq_zero_iff] at e; omega
  omega
set_option maxRecDepth 100000 in
set_option maxHeartbeats 1000000 in
theorem divisor_c (a b : Int) (w : World) (ha : 0 ≤ a) (hb : 0 ≤ b) (la : a ≤ 1000000000) (lb : b ≤ 1000000000) :
    Calls Try.prog 38 #[.int .i64 a, .int .i64 b] w fun e w' => e = .returned (.int .i64 (gcdI a b)) ∧ Below w.heap.size w w' := by
  go_enter Try.func38, Try.ntmps38
  go_wp2
  go_loopw [0, 1] (fun x y wr => ∃ i j : Int, x = .int .i64 i ∧ y = .int .i64 j ∧ 0 ≤ i ∧ 0 ≤ j ∧ i ≤ 1000000000 ∧ j ≤ 1000000000 ∧ Hid (gcdI a b = gcdI i j) ∧ Below w.heap.size w wr) (fun _ y _ => (intOf y).toNat)
  case atStart => exact ⟨a, b, rfl, rfl, ha, hb, la, lb, rfl, Below.refl _ _⟩
  case round =>
    obtain ⟨i, j, rfl, rfl, hi, hj, li, lj, HG, hbw⟩ := hrel
    by_cases h0 : j = 0
    · subst h0
      have hn : ((0 : Int) != 0) = false := rfl
      have HR := Lib.hid (HG.out.trans (gcdI_zero hi))
      go_wp2
      go_ret
      exact ⟨ret_int HR.out.symm, hbw⟩
    · have hn : (j != 0) = true := by simpa using h0
      have HR := Lib.hid (HG.out.trans (gcdI_step hi (by omega)))
      have q1 := Int.tmod_nonneg j hi
      have q2 := Int.tmod_lt_of_pos i (show 0 < j by omega)
      obtain ⟨m, hm⟩ : ∃ m, m = i.tmod j := ⟨_, rfl⟩
      have hm' := hm.symm
      rw [← hm] at q1 q2 HR
      clear hm
      go_wp2_with fail
      refine wp_region_add (fun w' => Below (wr).heap.size (wr) w') (by kernel_rfl) (by kernel_rfl) ((Below.refl _ _).drew) ?_
      repeat (first
        | (refine add_skip rfl (fun K' hK' => ?_); go_simp; refine hK' _ ?_; clear hK' K')
        | (refine add_do (v := ?_) rfl (fun w1 hb => ?_) (fun K' hK' => ?_); rotate_left
           · go_simp
             first
             | (with_reducible exact rfl)
             | (with_reducible exact ⟨rfl, hb⟩)
             | exact rfl
             | exact ⟨rfl, hb⟩
           go_simp; refine hK' _ ?_; clear hK' K'))
      refine add_nil ?_
      intro wa hba
      go_wp2
      go_roundw
      case rel => exact ⟨j, m, rfl, rfl, by omega, q1, by omega, by omega, HR, hbw.trans (hba.mono hbw.size)⟩
      case measure => simp [intOf]; omega
set_option maxRecDepth 100000 in
set_option maxHeartbeats 1000000 in
theorem l06Gcd_c (a b : Int) (w : World) (ha : 0 ≤ a) (hb : 0 ≤ b) (la : a ≤ 1000000000) (lb : b ≤ 1000000000) :
    Calls Try.prog 39 #[.int .i64 a, .int .i64 b] w fun e w' => e = .returned (.int .i64 (gcdI a b)) ∧ w = w' := by
  go_enter Try.func39, Try.ntmps39
  go_wp2
  go_loop [0, 1] (fun x y => ∃ i j : Int, x = .int .i64 i ∧ y = .int .i64 j ∧ 0 ≤ i ∧ 0 ≤ j ∧ i ≤ 1000000000 ∧ j ≤ 1000000000 ∧ Hid (gcdI a b = gcdI i j)) (fun _ y => (intOf y).toNat)
  case atStart => exact ⟨a, b, rfl, rfl, ha, hb, la, lb, rfl⟩
  case round =>
    obtain ⟨i, j, rfl, rfl, hi, hj, li, lj, HG⟩ := hrel
    by_cases h0 : 0 < j
    · have HR := Lib.hid (HG.out.trans (gcdI_step hi (by omega)))
      have q1 := Int.tmod_nonneg j hi
      have q2 := Int.tmod_lt_of_pos i (show 0 < j by omega)
      have hn : ¬ j = 0 := by omega
      obtain ⟨m, hm⟩ : ∃ m, m = i.tmod j := ⟨_, rfl⟩
      have hm' := hm.symm
      rw [← hm] at q1 q2 HR
      clear hm
      go_wp2
      go_round
      case rel => exact ⟨j, m, rfl, by first | rw [hm'] | rw [← hm', Int.tmod_eq_emod_of_nonneg hi], by omega, q1, by omega, by omega, HR⟩
      case measure => simp [intOf]; omega
    · obtain rfl : j = 0 := by omega
      have HR := Lib.hid (HG.out.trans (gcdI_zero hi))
      go_wp2
      go_ret
      exact ⟨ret_int HR.out.symm, rfl⟩
def lowA (a b : Int) : Int := a / gcdI a b
def lowB (a b : Int) : Int := b / gcdI a b
theorem gcdI_le {a b : Int} (hb : 1 ≤ b) : gcdI a b ≤ b := Int.gcd_le_right a (by omega)
theorem lowA_wrap {a b : Int} (ha : 0 ≤ a) (la : a ≤ 1000000) (hb : 1 ≤ b) : IntKind.i64.wrap (a.tdiv (gcdI a b)) = lowA a b := by
  have := gcdI_pos (a := a) hb
  rw [Int.tdiv_eq_ediv_of_nonneg ha]
  have d1 : 0 ≤ a / gcdI a b := Int.ediv_nonneg ha (by omega)
  have d2 : a / gcdI a b ≤ a := Int.ediv_le_self _ ha
  exact IntWalk.i64_in _ (by omega)
theorem lowB_wrap {a b : Int} (lb : b ≤ 1000000) (hb : 1 ≤ b) : IntKind.i64.wrap (b.tdiv (gcdI a b)) = lowB a b := by
  have := gcdI_pos (a := a) hb
  rw [Int.tdiv_eq_ediv_of_nonneg (by omega)]
  have d1 : 0 ≤ b / gcdI a b := Int.ediv_nonneg (by omega) (by omega)
  have d2 : b / gcdI a b ≤ b := Int.ediv_le_self _ (by omega)
  exact IntWalk.i64_in _ (by omega)
theorem low_bounds {a b : Int} (ha : 0 ≤ a) (hb : 1 ≤ b) : 0 ≤ lowA a b ∧ lowA a b ≤ a ∧ 1 ≤ lowB a b ∧ lowB a b ≤ b := by
  have := gcdI_pos (a := a) hb
  refine ⟨Int.ediv_nonneg ha (by omega), Int.ediv_le_self _ ha, ?_, Int.ediv_le_self _ (by omega)⟩
  have := gcdI_le (a := a) hb
  exact (Int.le_ediv_iff_mul_le (by omega)).2 (by omega)
set_option maxRecDepth 100000 in
set_option maxHeartbeats 1000000 in
theorem l08Lowest_c (a b : Int) (w : World) (ha : 0 ≤ a) (hb : 1 ≤ b) (la : a ≤ 1000000) (lb : b ≤ 1000000) :
    Calls Try.prog 31 #[.int .i64 a, .int .i64 b] w fun e w' => ∃ v, e = .returned v ∧ OwnI w' w.heap.size v [lowA a b, lowB a b] ∧ Below w.heap.size w w' := by
  have HG := Lib.hid (fun w => l06Gcd_c a b w ha (by omega) (by omega) (by omega))
  have g1 := gcdI_pos (a := a) hb
  have e1 := lowA_wrap (b := b) ha la hb
  have e2 := lowB_wrap (a := a) lb hb
  generalize gcdI a b = g at *
  generalize lowA a b = x at *
  generalize lowB a b = y at *
  have hg : ¬ g = 0 := by omega
  go_enter Try.func31, Try.ntmps31
  go_wp2_with fail
  refine (HG.out _).mono ?_
  rintro e w1 ⟨rfl, rfl⟩
  have hb1 := Below.refl w.heap.size w
  go_wp2_with fail
  refine wp_region_mix [(0, true), (1, true), (2, true), (3, true), (4, true), (5, true), (6, false), (7, false)] (fun w' => Below (w).heap.size (w) w') (by kernel_rfl) (by kernel_rfl) (fun _ _ d _ _ h => by cases d <;> exact h) (Below.drew hb1) ?_
  repeat (first
    | (refine mix_skip rfl rfl (fun K' hK' => ?_); go_simp; refine hK' _ ?_; clear hK' K')
    | (refine mix_do (v := ?_) rfl rfl (fun w1 hb => ?_) (fun K' hK' => ?_); rotate_left
       · go_simp
         rfl
       go_simp; refine hK' _ ?_; clear hK' K'))
  refine mix_call rfl rfl (fun K' hK' => ?_)
  go_simp
  refine hK' _ _ (below_al (Below.drew hb1)) ?_; clear hK' K'
  refine mix_call rfl rfl (fun K' hK' => ?_)
  go_simp
  refine hK' _ _ (below_al (Below.drew hb1)) ?_; clear hK' K'
  refine mix_nil ?_
  go_wp2
  go_ret
  exact ⟨_, rfl, OwnI.made _ _ _ [x, y] (by simp [ints, e1, e2]) hb1.size (by simp), below_al (Below.drew hb1)⟩
set_option maxRecDepth 100000 in
set_option maxHeartbeats 1000000 in
theorem lowest_c (a b : Int) (w : World) (ha : 0 ≤ a) (hb : 1 ≤ b) (la : a ≤ 1000000) (lb : b ≤ 1000000) :
    Calls Try.prog 29 #[.int .i64 a, .int .i64 b] w fun e w' => ∃ v, e = .returned v ∧ OwnI w' w.heap.size v [lowA a b, lowB a b] ∧ Below w.heap.size w w' := by
  have HG := Lib.hid (fun w => divisor_c a b w ha (by omega) (by omega) (by omega))
  have g1 := gcdI_pos (a := a) hb
  have e1 := lowA_wrap (b := b) ha la hb
  have e2 := lowB_wrap (a := a) lb hb
  generalize gcdI a b = g at *
  generalize lowA a b = x at *
  generalize lowB a b = y at *
  have hg : ¬ g = 0 := by omega
  go_enter Try.func29, Try.ntmps29
  go_wp2_with fail
  refine (HG.out _).mono ?_
  rintro e w1 ⟨rfl, hb1⟩
  skip
  go_wp2_with fail
  refine wp_region_mix [(0, true), (1, true), (2, true), (3, true), (4, true), (5, true), (6, false), (7, false)] (fun w' => Below (w).heap.size (w) w') (by kernel_rfl) (by kernel_rfl) (fun _ _ d _ _ h => by cases d <;> exact h) (Below.drew hb1) ?_
  repeat (first
    | (refine mix_skip rfl rfl (fun K' hK' => ?_); go_simp; refine hK' _ ?_; clear hK' K')
    | (refine mix_do (v := ?_) rfl rfl (fun w1 hb => ?_) (fun K' hK' => ?_); rotate_left
       · go_simp
         rfl
       go_simp; refine hK' _ ?_; clear hK' K'))
  refine mix_call rfl rfl (fun K' hK' => ?_)
  go_simp
  refine hK' _ _ (below_al (Below.drew hb1)) ?_; clear hK' K'
  refine mix_call rfl rfl (fun K' hK' => ?_)
  go_simp
  refine hK' _ _ (below_al (Below.drew hb1)) ?_; clear hK' K'
  refine mix_nil ?_
  go_wp2
  go_ret
  exact ⟨_, rfl, OwnI.made _ _ _ [x, y] (by simp [ints, e1, e2]) hb1.size (by simp), below_al (Below.drew hb1)⟩

end Go.Proofs.Yteaajhlpieomkaa
