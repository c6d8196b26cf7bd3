/- Contracts and lemmas for the statements of this seat, written for this claim; each theorem states its own conditions. -/
import Derived.Test.YtkgnejhflnekaaaGreatMuL1
import Derived.Test.YtkgnejhflnekaaaGreatMuB
set_option linter.unusedVariables false
set_option linter.unusedSimpArgs false
namespace Go.Proofs.YtkgnejhflnekaaaGreat
open Go.RowKit
def fracB (a b : Int) : Bool := inR 1 20 b && inR 0 (5 * b) a
theorem fracB_iff {a b : Int} : fracB a b = true ↔ (1 ≤ b ∧ b ≤ 20) ∧ 0 ≤ a ∧ a ≤ 5 * b := by simp [fracB, inR]
set_option maxRecDepth 100000 in
set_option maxHeartbeats 1000000 in
theorem l08Fraction_c (a b : Int) (w : World) :
    Calls Tryz.prog 126 #[.int .i64 a, .int .i64 b] w fun e w' => e = .returned (.bool (fracB a b)) ∧ w = w' := by
  have H1 := Lib.hid (fun w => l01In_c b 1 20 w)
  have H2 := Lib.hid (fun w => l01In_c a 0 (5 * b) w)
  have hR := Lib.hid (show fracB a b = (inR 1 20 b && inR 0 (5 * b) a) from rfl)
  have hb : inR 1 20 b = true → 1 ≤ b ∧ b ≤ 20 := inR_iff.1
  generalize inR 1 20 b = p at *
  generalize inR 0 (5 * b) a = q at *
  cases p
  · clear hb
    go_enter Tryz.func126, Tryz.ntmps126
    go_wp2_with (go_at_call 66; refine (H1.out _).mono ?_; rintro e w1 ⟨rfl, rfl⟩)
    go_ret
    exact ⟨ret_bool hR.out.symm, rfl⟩
  · obtain ⟨h1, h2⟩ := hb rfl
    clear hb
    cases q
    all_goals
      go_enter Tryz.func126, Tryz.ntmps126
      go_wp2_with fail
      refine (H1.out _).mono ?_
      rintro e w1 ⟨rfl, rfl⟩
      go_wp2_with fail
      refine (H2.out _).mono ?_
      rintro e w1 ⟨rfl, rfl⟩
      go_wp2
      go_ret
      exact ⟨ret_bool hR.out.symm, rfl⟩
set_option maxRecDepth 100000 in
set_option maxHeartbeats 1000000 in
theorem isFraction_c (a b : Int) (w : World) :
    Calls Tryz.prog 119 #[.int .i64 a, .int .i64 b] w fun e w' => e = .returned (.bool (fracB a b)) ∧ w = w' := by
  have H1 := Lib.hid (fun w => within_c b 1 20 w)
  have H2 := Lib.hid (fun w => within_c a 0 (5 * b) w)
  have hR := Lib.hid (show fracB a b = (inR 1 20 b && inR 0 (5 * b) a) from rfl)
  have hb : inR 1 20 b = true → 1 ≤ b ∧ b ≤ 20 := inR_iff.1
  generalize inR 1 20 b = p at *
  generalize inR 0 (5 * b) a = q at *
  cases p
  · clear hb
    go_enter Tryz.func119, Tryz.ntmps119
    go_wp2_with (go_at_call 148; refine (H1.out _).mono ?_; rintro e w1 ⟨rfl, rfl⟩)
    go_ret
    exact ⟨ret_bool hR.out.symm, rfl⟩
  · obtain ⟨h1, h2⟩ := hb rfl
    clear hb
    cases q
    all_goals
      go_enter Tryz.func119, Tryz.ntmps119
      go_wp2_with fail
      refine (H1.out _).mono ?_
      rintro e w1 ⟨rfl, rfl⟩
      go_wp2_with fail
      refine (H2.out _).mono ?_
      rintro e w1 ⟨rfl, rfl⟩
      go_wp2
      go_ret
      exact ⟨ret_bool hR.out.symm, rfl⟩
def placesB (p n : Int) : Bool := inR 1 1000 p && inR 1 20 n
theorem placesB_iff {p n : Int} : placesB p n = true ↔ (1 ≤ p ∧ p ≤ 1000) ∧ 1 ≤ n ∧ n ≤ 20 := by simp [placesB, inR]
def factB (p q : Int) : Bool := inR 1 3 p && inR 1 3 q
theorem factB_iff {p q : Int} : factB p q = true ↔ (1 ≤ p ∧ p ≤ 3) ∧ 1 ≤ q ∧ q ≤ 3 := by simp [factB, inR]
set_option maxRecDepth 100000 in
set_option maxHeartbeats 1000000 in
theorem l08Places_c (a b : Int) (w : World) :
    Calls Tryz.prog 127 #[.int .i64 a, .int .i64 b] w fun e w' => e = .returned (.bool (placesB a b)) ∧ w = w' := by
  have H1 := Lib.hid (fun w => l01In_c a 1 1000 w)
  have H2 := Lib.hid (fun w => l01In_c b 1 20 w)
  have hR := Lib.hid (show placesB a b = (inR 1 1000 a && inR 1 20 b) from rfl)
  generalize inR 1 1000 a = p at *
  generalize inR 1 20 b = q at *
  cases p
  · go_enter Tryz.func127, Tryz.ntmps127
    go_wp2_with (go_at_call 66; refine (H1.out _).mono ?_; rintro e w1 ⟨rfl, rfl⟩)
    go_ret
    exact ⟨ret_bool hR.out.symm, rfl⟩
  · cases q
    all_goals
      go_enter Tryz.func127, Tryz.ntmps127
      go_wp2_with fail
      refine (H1.out _).mono ?_
      rintro e w1 ⟨rfl, rfl⟩
      go_wp2_with fail
      refine (H2.out _).mono ?_
      rintro e w1 ⟨rfl, rfl⟩
      go_wp2
      go_ret
      exact ⟨ret_bool hR.out.symm, rfl⟩
set_option maxRecDepth 100000 in
set_option maxHeartbeats 1000000 in
theorem arePlaces_c (a b : Int) (w : World) :
    Calls Tryz.prog 120 #[.int .i64 a, .int .i64 b] w fun e w' => e = .returned (.bool (placesB a b)) ∧ w = w' := by
  have H1 := Lib.hid (fun w => within_c a 1 1000 w)
  have H2 := Lib.hid (fun w => within_c b 1 20 w)
  have hR := Lib.hid (show placesB a b = (inR 1 1000 a && inR 1 20 b) from rfl)
  generalize inR 1 1000 a = p at *
  generalize inR 1 20 b = q at *
  cases p
  · go_enter Tryz.func120, Tryz.ntmps120
    go_wp2_with (go_at_call 148; refine (H1.out _).mono ?_; rintro e w1 ⟨rfl, rfl⟩)
    go_ret
    exact ⟨ret_bool hR.out.symm, rfl⟩
  · cases q
    all_goals
      go_enter Tryz.func120, Tryz.ntmps120
      go_wp2_with fail
      refine (H1.out _).mono ?_
      rintro e w1 ⟨rfl, rfl⟩
      go_wp2_with fail
      refine (H2.out _).mono ?_
      rintro e w1 ⟨rfl, rfl⟩
      go_wp2
      go_ret
      exact ⟨ret_bool hR.out.symm, rfl⟩
set_option maxRecDepth 100000 in
set_option maxHeartbeats 1000000 in
theorem l08Factor_c (a b : Int) (w : World) :
    Calls Tryz.prog 116 #[.int .i64 a, .int .i64 b] w fun e w' => e = .returned (.bool (factB a b)) ∧ w = w' := by
  have H1 := Lib.hid (fun w => l01In_c a 1 3 w)
  have H2 := Lib.hid (fun w => l01In_c b 1 3 w)
  have hR := Lib.hid (show factB a b = (inR 1 3 a && inR 1 3 b) from rfl)
  generalize inR 1 3 a = p at *
  generalize inR 1 3 b = q at *
  cases p
  · go_enter Tryz.func116, Tryz.ntmps116
    go_wp2_with (go_at_call 66; refine (H1.out _).mono ?_; rintro e w1 ⟨rfl, rfl⟩)
    go_ret
    exact ⟨ret_bool hR.out.symm, rfl⟩
  · cases q
    all_goals
      go_enter Tryz.func116, Tryz.ntmps116
      go_wp2_with fail
      refine (H1.out _).mono ?_
      rintro e w1 ⟨rfl, rfl⟩
      go_wp2_with fail
      refine (H2.out _).mono ?_
      rintro e w1 ⟨rfl, rfl⟩
      go_wp2
      go_ret
      exact ⟨ret_bool hR.out.symm, rfl⟩
set_option maxRecDepth 100000 in
set_option maxHeartbeats 1000000 in
theorem isFactor_c (a b : Int) (w : World) :
    Calls Tryz.prog 114 #[.int .i64 a, .int .i64 b] w fun e w' => e = .returned (.bool (factB a b)) ∧ w = w' := by
  have H1 := Lib.hid (fun w => within_c a 1 3 w)
  have H2 := Lib.hid (fun w => within_c b 1 3 w)
  have hR := Lib.hid (show factB a b = (inR 1 3 a && inR 1 3 b) from rfl)
  generalize inR 1 3 a = p at *
  generalize inR 1 3 b = q at *
  cases p
  · go_enter Tryz.func114, Tryz.ntmps114
    go_wp2_with (go_at_call 148; refine (H1.out _).mono ?_; rintro e w1 ⟨rfl, rfl⟩)
    go_ret
    exact ⟨ret_bool hR.out.symm, rfl⟩
  · cases q
    all_goals
      go_enter Tryz.func114, Tryz.ntmps114
      go_wp2_with fail
      refine (H1.out _).mono ?_
      rintro e w1 ⟨rfl, rfl⟩
      go_wp2_with fail
      refine (H2.out _).mono ?_
      rintro e w1 ⟨rfl, rfl⟩
      go_wp2
      go_ret
      exact ⟨ret_bool hR.out.symm, rfl⟩
def digAt (a b i : Int) : Int := i * a / b - (i - 1) * a / b
def digs (a b p : Int) (n : Nat) : List Int := (List.range n).map fun j : Nat => digAt a b (p + j)
theorem digs_succ (a b p : Int) (n : Nat) : digs a b p (n + 1) = digs a b p n ++ [digAt a b (p + n)] := by simp [digs, List.range_succ]
theorem digs_len (a b p : Int) (n : Nat) : (digs a b p n).length = n := by simp [digs]
theorem digAt_wraps {a b i m1 : Int} (hb : 1 ≤ b) (ha : 0 ≤ a) (ha' : a ≤ 1000) (h1 : 1 ≤ i) (h2 : i ≤ 1020) (hm : m1 = i * a) :
    IntKind.i64.wrap (IntKind.i64.wrap (m1.tdiv b) - IntKind.i64.wrap ((IntKind.i64.wrap (IntKind.i64.wrap (i - 1) * a)).tdiv b)) = digAt a b i := by
  have b1 : 0 ≤ i * a := Int.mul_nonneg (by omega) ha
  have b2 : i * a ≤ 1020 * 1000 := Int.mul_le_mul h2 ha' ha (by omega)
  have b3 : 0 ≤ (i - 1) * a := Int.mul_nonneg (by omega) ha
  have b4 : (i - 1) * a ≤ 1020 * 1000 := Int.mul_le_mul (by omega) ha' ha (by omega)
  rw [IntWalk.i64_in (i - 1) (by omega), IntWalk.i64_in ((i - 1) * a) (by omega), hm, Int.tdiv_eq_ediv_of_nonneg b1, Int.tdiv_eq_ediv_of_nonneg b3]
  have d1 : 0 ≤ i * a / b := Int.ediv_nonneg b1 (by omega)
  have d2 : i * a / b ≤ i * a := Int.ediv_le_self _ b1
  have d3 : 0 ≤ (i - 1) * a / b := Int.ediv_nonneg b3 (by omega)
  have d4 : (i - 1) * a / b ≤ (i - 1) * a := Int.ediv_le_self _ b3
  rw [IntWalk.i64_in (i * a / b) (by omega), IntWalk.i64_in ((i - 1) * a / b) (by omega), IntWalk.i64_in _ (by omega)]
  rfl
set_option maxRecDepth 100000 in
set_option maxHeartbeats 1000000 in
theorem l08Digits_c (a b p : Int) (n : Nat) (w : World) (ha : 0 ≤ a) (ha' : a ≤ 1000) (hb : 1 ≤ b) (hb' : b ≤ 1000) (hp : 1 ≤ p) (hp' : p ≤ 1000) (hn : n ≤ 20) :
    Calls Tryz.prog 128 #[.int .i64 a, .int .i64 b, .int .i64 p, .int .i64 n] w fun e w' => ∃ v, e = .returned v ∧ OwnI w' w.heap.size v (digs a b p n) ∧ Below w.heap.size w w' := by
  go_enter Tryz.func128, Tryz.ntmps128
  go_wp2
  go_loopw [9, 10] (fun v i wr => ∃ k : Nat, k ≤ n ∧ i = .int .i64 (p + k) ∧ OwnI wr w.heap.size v (digs a b p k) ∧ Below w.heap.size w wr) (fun _ i _ => n - ((intOf i) - p).toNat)
  case atStart => exact ⟨0, by omega, by simp, OwnI.made w _ #[] [] rfl (Nat.le_refl _) (by simp), by (repeat (first | (with_reducible exact Below.refl _ _) | (with_reducible assumption) | (with_reducible refine below_al ?_) | (with_reducible refine below_dr ?_) | (with_reducible refine below_drN ?_) | (with_reducible refine below_set ?_ (by first | exact Nat.le_refl _ | (dsimp only; omega) | omega)) | (with_reducible refine below_tr (by with_reducible assumption) ?_)))⟩
  case round =>
    obtain ⟨k, hk, rfl, hO, hbw⟩ := hrel
    by_cases h1 : k < n
    · have b1 : 0 ≤ (p + k) * a := Int.mul_nonneg (by omega) ha
      have b2 : (p + k) * a ≤ 1020 * 1000 := Int.mul_le_mul (by omega) ha' ha (by omega)
      obtain ⟨m1, f1⟩ : ∃ m, m = (p + k) * a := ⟨_, rfl⟩
      rw [← f1] at b1 b2
      have e1 : IntKind.i64.wrap ((p + k) * a) = m1 := by rw [← f1]; exact IntWalk.i64_in _ (by omega)
      have b0 : ¬ b = 0 := by omega
      have HY := Lib.hid (digAt_wraps (i := p + k) hb ha ha' (by omega) (by omega) f1)
      have HS := Lib.hid (digs_succ a b p k)
      have HL := digs_len a b p k
      clear f1
      go_wp2
      refine wp_region_mix [(0, true), (1, true), (2, true), (3, true), (4, true), (5, true), (6, true), (7, true), (8, true), (9, true), (10, true), (11, true), (12, true), (13, false), (14, false), (15, false)] (fun w' => Below (w).heap.size (w) w') (by kernel_rfl) (by kernel_rfl) (fun _ _ d _ _ h => by cases d <;> exact h) (hbw.drew) ?_
      repeat (first
        | (refine mix_skip rfl rfl (fun K' hK' => ?_); go_simp; refine hK' _ ?_; clear hK' K')
        | (refine mix_do (v := ?_) rfl rfl (fun w1 hb => ?_) (fun K' hK' => ?_); rotate_left
           · go_simp
             rfl
           go_simp; refine hK' _ ?_; clear hK' K'))
      refine mix_call rfl rfl (fun K' hK' => ?_)
      go_simp
      refine hK' _ _ (below_al hbw.drew) ?_; clear hK' K'
      refine mix_call rfl rfl (fun K' hK' => ?_)
      refine app_int (.tmp 20) (.tmp 33) rfl w.heap.size u9 _ _ rfl (hO.drew.alloc _) wr.heap.size 0 rfl (cell_alloc_at _ _ _ _ _ rfl) (by omega) (by have := hbw.size; simp; omega) (fun v' w' h1 h2 => ?_)
      rw [HY.out, ← HS.out] at h1
      have h3 := below_grown (below_al hbw.drew) h2 (hO.drew.alloc _) (Nat.le_refl _)
      refine hK' _ _ h3 ?_
      clear hK' K'
      refine mix_call rfl rfl (fun K' hK' => ?_)
      go_simp
      refine hK' _ _ (h3) ?_; clear hK' K'
      refine mix_nil ?_
      go_wp2
      go_roundw
      case rel => exact ⟨k + 1, by omega, by go_num, h1, h3⟩
      case measure => simp [intOf]; omega
    · obtain rfl : k = n := by omega
      go_wp2
      go_ret
      exact ⟨_, rfl, hO, hbw⟩
set_option maxRecDepth 100000 in
set_option maxHeartbeats 1000000 in
theorem digits_c (a b p : Int) (n : Nat) (w : World) (ha : 0 ≤ a) (ha' : a ≤ 1000) (hb : 1 ≤ b) (hb' : b ≤ 1000) (hp : 1 ≤ p) (hp' : p ≤ 1000) (hn : n ≤ 20) :
    Calls Tryz.prog 121 #[.int .i64 a, .int .i64 b, .int .i64 p, .int .i64 n] w fun e w' => ∃ v, e = .returned v ∧ OwnI w' w.heap.size v (digs a b p n) ∧ Below w.heap.size w w' := by
  go_enter Tryz.func121, Tryz.ntmps121
  go_wp2
  go_loopw [9, 10] (fun v i wr => ∃ k : Nat, k ≤ n ∧ i = .int .i64 (p + k) ∧ OwnI wr w.heap.size v (digs a b p k) ∧ Below w.heap.size w wr) (fun _ i _ => n - ((intOf i) - p).toNat)
  case atStart => exact ⟨0, by omega, by simp, OwnI.made w _ #[] [] rfl (Nat.le_refl _) (by simp), by (repeat (first | (with_reducible exact Below.refl _ _) | (with_reducible assumption) | (with_reducible refine below_al ?_) | (with_reducible refine below_dr ?_) | (with_reducible refine below_drN ?_) | (with_reducible refine below_set ?_ (by first | exact Nat.le_refl _ | (dsimp only; omega) | omega)) | (with_reducible refine below_tr (by with_reducible assumption) ?_)))⟩
  case round =>
    obtain ⟨k, hk, rfl, hO, hbw⟩ := hrel
    by_cases h1 : k < n
    · have b1 : 0 ≤ (p + k) * a := Int.mul_nonneg (by omega) ha
      have b2 : (p + k) * a ≤ 1020 * 1000 := Int.mul_le_mul (by omega) ha' ha (by omega)
      obtain ⟨m1, f1⟩ : ∃ m, m = (p + k) * a := ⟨_, rfl⟩
      rw [← f1] at b1 b2
      have e1 : IntKind.i64.wrap ((p + k) * a) = m1 := by rw [← f1]; exact IntWalk.i64_in _ (by omega)
      have b0 : ¬ b = 0 := by omega
      have HY := Lib.hid (digAt_wraps (i := p + k) hb ha ha' (by omega) (by omega) f1)
      have HS := Lib.hid (digs_succ a b p k)
      have HL := digs_len a b p k
      clear f1
      go_wp2
      refine wp_region_mix [(0, true), (1, true), (2, true), (3, true), (4, true), (5, true), (6, true), (7, true), (8, true), (9, true), (10, true), (11, true), (12, true), (13, false), (14, false), (15, false)] (fun w' => Below (w).heap.size (w) w') (by kernel_rfl) (by kernel_rfl) (fun _ _ d _ _ h => by cases d <;> exact h) (hbw.drew) ?_
      repeat (first
        | (refine mix_skip rfl rfl (fun K' hK' => ?_); go_simp; refine hK' _ ?_; clear hK' K')
        | (refine mix_do (v := ?_) rfl rfl (fun w1 hb => ?_) (fun K' hK' => ?_); rotate_left
           · go_simp
             rfl
           go_simp; refine hK' _ ?_; clear hK' K'))
      refine mix_call rfl rfl (fun K' hK' => ?_)
      go_simp
      refine hK' _ _ (below_al hbw.drew) ?_; clear hK' K'
      refine mix_call rfl rfl (fun K' hK' => ?_)
      refine app_int (.tmp 20) (.tmp 33) rfl w.heap.size u9 _ _ rfl (hO.drew.alloc _) wr.heap.size 0 rfl (cell_alloc_at _ _ _ _ _ rfl) (by omega) (by have := hbw.size; simp; omega) (fun v' w' h1 h2 => ?_)
      rw [HY.out, ← HS.out] at h1
      have h3 := below_grown (below_al hbw.drew) h2 (hO.drew.alloc _) (Nat.le_refl _)
      refine hK' _ _ h3 ?_
      clear hK' K'
      refine mix_call rfl rfl (fun K' hK' => ?_)
      go_simp
      refine hK' _ _ (h3) ?_; clear hK' K'
      refine mix_nil ?_
      go_wp2
      go_roundw
      case rel => exact ⟨k + 1, by omega, by go_num, h1, h3⟩
      case measure => simp [intOf]; omega
    · obtain rfl : k = n := by omega
      go_wp2
      go_ret
      exact ⟨_, rfl, hO, hbw⟩
def carAt (p q a b i : Int) : Int := p * (i * a / b) - q * (i * a * p / (b * q))
def cars (p q a b s : Int) (n : Nat) : List Int := (List.range n).map fun j : Nat => carAt p q a b (s + j)
theorem cars_succ (p q a b s : Int) (n : Nat) : cars p q a b s (n + 1) = cars p q a b s n ++ [carAt p q a b (s + n)] := by simp [cars, List.range_succ]
theorem cars_len (p q a b s : Int) (n : Nat) : (cars p q a b s n).length = n := by simp [cars]
theorem car_bounds {p q a b i : Int} (hp : 1 ≤ p) (hp' : p ≤ 3) (hq : 1 ≤ q) (hq' : q ≤ 3) (hb : 1 ≤ b) (hb' : b ≤ 20) (ha : 0 ≤ a) (ha' : a ≤ 100) (h1 : 0 ≤ i) (h2 : i ≤ 1020) :
    0 ≤ i * a ∧ i * a ≤ 1020 * 100 ∧ 1 ≤ b * q ∧ b * q ≤ 20 * 3 ∧ 0 ≤ i * a * p ∧ i * a * p ≤ 1020 * 100 * 3 := by
  have b1 : 0 ≤ i * a := Int.mul_nonneg h1 ha
  have b2 : i * a ≤ 1020 * 100 := Int.mul_le_mul h2 ha' ha (by omega)
  have b3 : 1 * 1 ≤ b * q := Int.mul_le_mul hb hq (by omega) (by omega)
  exact ⟨b1, b2, by omega, Int.mul_le_mul hb' hq' (by omega) (by omega), Int.mul_nonneg b1 (by omega), Int.mul_le_mul b2 hp' (by omega) (by omega)⟩
theorem carAt_wraps {p q a b i m1 m2 : Int} (hp : 1 ≤ p) (hp' : p ≤ 3) (hq : 1 ≤ q) (hq' : q ≤ 3) (hb : 1 ≤ b) (hb' : b ≤ 20) (ha : 0 ≤ a) (ha' : a ≤ 100) (h1 : 0 ≤ i) (h2 : i ≤ 1020) (hm : m1 = i * a) (hm2 : m2 = b * q) :
    IntKind.i64.wrap (IntKind.i64.wrap (p * IntKind.i64.wrap (m1.tdiv b)) - IntKind.i64.wrap (q * IntKind.i64.wrap ((IntKind.i64.wrap (m1 * p)).tdiv m2))) = carAt p q a b i := by
  obtain ⟨b1, b2, b3, b4, b5, b6⟩ := car_bounds hp hp' hq hq' hb hb' ha ha' h1 h2
  subst hm hm2
  rw [IntWalk.i64_in (i * a * p) (by omega), Int.tdiv_eq_ediv_of_nonneg b1, Int.tdiv_eq_ediv_of_nonneg b5]
  have d1 : 0 ≤ i * a / b := Int.ediv_nonneg b1 (by omega)
  have d2 : i * a / b ≤ i * a := Int.ediv_le_self _ b1
  have d3 : 0 ≤ i * a * p / (b * q) := Int.ediv_nonneg b5 (by omega)
  have d4 : i * a * p / (b * q) ≤ i * a * p := Int.ediv_le_self _ b5
  have e1 : 0 ≤ p * (i * a / b) := Int.mul_nonneg (by omega) d1
  have e2 : p * (i * a / b) ≤ 3 * (1020 * 100) := Int.mul_le_mul hp' (by omega) d1 (by omega)
  have e3 : 0 ≤ q * (i * a * p / (b * q)) := Int.mul_nonneg (by omega) d3
  have e4 : q * (i * a * p / (b * q)) ≤ 3 * (1020 * 100 * 3) := Int.mul_le_mul hq' (by omega) d3 (by omega)
  rw [IntWalk.i64_in (i * a / b) (by omega), IntWalk.i64_in (i * a * p / (b * q)) (by omega), IntWalk.i64_in (p * (i * a / b)) (by omega), IntWalk.i64_in (q * (i * a * p / (b * q))) (by omega), IntWalk.i64_in _ (by omega)]
  rfl
set_option maxRecDepth 100000 in
set_option maxHeartbeats 1000000 in
theorem l08Carries_c (p q a b s : Int) (n : Nat) (w : World) (hp : 1 ≤ p) (hp' : p ≤ 3) (hq : 1 ≤ q) (hq' : q ≤ 3) (hb : 1 ≤ b) (hb' : b ≤ 20) (ha : 0 ≤ a) (ha' : a ≤ 100) (hs : 1 ≤ s) (hs' : s ≤ 1000) (hn : n ≤ 20) :
    Calls Tryz.prog 129 #[.int .i64 p, .int .i64 q, .int .i64 a, .int .i64 b, .int .i64 s, .int .i64 n] w fun e w' => ∃ v, e = .returned v ∧ OwnI w' w.heap.size v (cars p q a b (s - 1) (n + 1)) ∧ Below w.heap.size w w' := by
  go_enter Tryz.func129, Tryz.ntmps129
  go_wp2
  go_loopw [13, 14] (fun v i wr => ∃ k : Nat, k ≤ n + 1 ∧ i = .int .i64 (s - 1 + k) ∧ OwnI wr w.heap.size v (cars p q a b (s - 1) k) ∧ Below w.heap.size w wr) (fun _ i _ => n + 1 - ((intOf i) - (s - 1)).toNat)
  case atStart => exact ⟨0, by omega, by simp, OwnI.made w _ #[] [] rfl (Nat.le_refl _) (by simp), by (repeat (first | (with_reducible exact Below.refl _ _) | (with_reducible assumption) | (with_reducible refine below_al ?_) | (with_reducible refine below_dr ?_) | (with_reducible refine below_drN ?_) | (with_reducible refine below_set ?_ (by first | exact Nat.le_refl _ | (dsimp only; omega) | omega)) | (with_reducible refine below_tr (by with_reducible assumption) ?_)))⟩
  case round =>
    obtain ⟨k, hk, rfl, hO, hbw⟩ := hrel
    by_cases h1 : k < n + 1
    · obtain ⟨b1, b2, b3, b4, b5, b6⟩ := car_bounds (i := s - 1 + k) hp hp' hq hq' hb hb' ha ha' (by omega) (by omega)
      obtain ⟨m1, f1⟩ : ∃ m, m = (s - 1 + k) * a := ⟨_, rfl⟩
      obtain ⟨m2, f2⟩ : ∃ m, m = b * q := ⟨_, rfl⟩
      rw [← f1] at b1 b2
      rw [← f2] at b3 b4
      have e1 : IntKind.i64.wrap ((s - 1 + k) * a) = m1 := by rw [← f1]; exact IntWalk.i64_in _ (by omega)
      have e2 : IntKind.i64.wrap (b * q) = m2 := by rw [← f2]; exact IntWalk.i64_in _ (by omega)
      have b0 : ¬ b = 0 := by omega
      have b0' : ¬ m2 = 0 := by omega
      have HY := Lib.hid (carAt_wraps (i := s - 1 + k) hp hp' hq hq' hb hb' ha ha' (by omega) (by omega) f1 f2)
      have HS := Lib.hid (cars_succ p q a b (s - 1) k)
      have HL := cars_len p q a b (s - 1) k
      clear f1 f2 b5 b6
      go_wp2
      refine wp_region_mix [(0, true), (1, true), (2, true), (3, true), (4, true), (5, true), (6, true), (7, true), (8, true), (9, true), (10, true), (11, true), (12, true), (13, true), (14, true), (15, true), (16, true), (17, true), (18, true), (19, true), (20, false), (21, false), (22, false)] (fun w' => Below (w).heap.size (w) w') (by kernel_rfl) (by kernel_rfl) (fun _ _ d _ _ h => by cases d <;> exact h) (hbw.drew) ?_
      repeat (first
        | (refine mix_skip rfl rfl (fun K' hK' => ?_); go_simp; refine hK' _ ?_; clear hK' K')
        | (refine mix_do (v := ?_) rfl rfl (fun w1 hb => ?_) (fun K' hK' => ?_); rotate_left
           · go_simp
             rfl
           go_simp; refine hK' _ ?_; clear hK' K'))
      refine mix_call rfl rfl (fun K' hK' => ?_)
      go_simp
      refine hK' _ _ (below_al hbw.drew) ?_; clear hK' K'
      refine mix_call rfl rfl (fun K' hK' => ?_)
      refine app_int (.tmp 25) (.tmp 45) rfl w.heap.size u13 _ _ rfl (hO.drew.alloc _) wr.heap.size 0 rfl (cell_alloc_at _ _ _ _ _ rfl) (by omega) (by have := hbw.size; simp; omega) (fun v' w' h1 h2 => ?_)
      rw [HY.out, ← HS.out] at h1
      have h3 := below_grown (below_al hbw.drew) h2 (hO.drew.alloc _) (Nat.le_refl _)
      refine hK' _ _ h3 ?_
      clear hK' K'
      refine mix_call rfl rfl (fun K' hK' => ?_)
      go_simp
      refine hK' _ _ (h3) ?_; clear hK' K'
      refine mix_nil ?_
      go_wp2
      go_roundw
      case rel => exact ⟨k + 1, by omega, by go_num, h1, h3⟩
      case measure => simp [intOf]; omega
    · obtain rfl : k = n + 1 := by omega
      go_wp2
      go_ret
      exact ⟨_, rfl, hO, hbw⟩
set_option maxRecDepth 100000 in
set_option maxHeartbeats 1000000 in
theorem carries_c (p q a b s : Int) (n : Nat) (w : World) (hp : 1 ≤ p) (hp' : p ≤ 3) (hq : 1 ≤ q) (hq' : q ≤ 3) (hb : 1 ≤ b) (hb' : b ≤ 20) (ha : 0 ≤ a) (ha' : a ≤ 100) (hs : 1 ≤ s) (hs' : s ≤ 1000) (hn : n ≤ 20) :
    Calls Tryz.prog 122 #[.int .i64 p, .int .i64 q, .int .i64 a, .int .i64 b, .int .i64 s, .int .i64 n] w fun e w' => ∃ v, e = .returned v ∧ OwnI w' w.heap.size v (cars p q a b (s - 1) (n + 1)) ∧ Below w.heap.size w w' := by
  go_enter Tryz.func122, Tryz.ntmps122
  go_wp2
  go_loopw [13, 14] (fun v i wr => ∃ k : Nat, k ≤ n + 1 ∧ i = .int .i64 (s - 1 + k) ∧ OwnI wr w.heap.size v (cars p q a b (s - 1) k) ∧ Below w.heap.size w wr) (fun _ i _ => n + 1 - ((intOf i) - (s - 1)).toNat)
  case atStart => exact ⟨0, by omega, by simp, OwnI.made w _ #[] [] rfl (Nat.le_refl _) (by simp), by (repeat (first | (with_reducible exact Below.refl _ _) | (with_reducible assumption) | (with_reducible refine below_al ?_) | (with_reducible refine below_dr ?_) | (with_reducible refine below_drN ?_) | (with_reducible refine below_set ?_ (by first | exact Nat.le_refl _ | (dsimp only; omega) | omega)) | (with_reducible refine below_tr (by with_reducible assumption) ?_)))⟩
  case round =>
    obtain ⟨k, hk, rfl, hO, hbw⟩ := hrel
    by_cases h1 : k < n + 1
    · obtain ⟨b1, b2, b3, b4, b5, b6⟩ := car_bounds (i := s - 1 + k) hp hp' hq hq' hb hb' ha ha' (by omega) (by omega)
      obtain ⟨m1, f1⟩ : ∃ m, m = (s - 1 + k) * a := ⟨_, rfl⟩
      obtain ⟨m2, f2⟩ : ∃ m, m = b * q := ⟨_, rfl⟩
      rw [← f1] at b1 b2
      rw [← f2] at b3 b4
      have e1 : IntKind.i64.wrap ((s - 1 + k) * a) = m1 := by rw [← f1]; exact IntWalk.i64_in _ (by omega)
      have e2 : IntKind.i64.wrap (b * q) = m2 := by rw [← f2]; exact IntWalk.i64_in _ (by omega)
      have b0 : ¬ b = 0 := by omega
      have b0' : ¬ m2 = 0 := by omega
      have HY := Lib.hid (carAt_wraps (i := s - 1 + k) hp hp' hq hq' hb hb' ha ha' (by omega) (by omega) f1 f2)
      have HS := Lib.hid (cars_succ p q a b (s - 1) k)
      have HL := cars_len p q a b (s - 1) k
      clear f1 f2 b5 b6
      go_wp2
      refine wp_region_mix [(0, true), (1, true), (2, true), (3, true), (4, true), (5, true), (6, true), (7, true), (8, true), (9, true), (10, true), (11, true), (12, true), (13, true), (14, true), (15, true), (16, true), (17, true), (18, true), (19, true), (20, false), (21, false), (22, false)] (fun w' => Below (w).heap.size (w) w') (by kernel_rfl) (by kernel_rfl) (fun _ _ d _ _ h => by cases d <;> exact h) (hbw.drew) ?_
      repeat (first
        | (refine mix_skip rfl rfl (fun K' hK' => ?_); go_simp; refine hK' _ ?_; clear hK' K')
        | (refine mix_do (v := ?_) rfl rfl (fun w1 hb => ?_) (fun K' hK' => ?_); rotate_left
           · go_simp
             rfl
           go_simp; refine hK' _ ?_; clear hK' K'))
      refine mix_call rfl rfl (fun K' hK' => ?_)
      go_simp
      refine hK' _ _ (below_al hbw.drew) ?_; clear hK' K'
      refine mix_call rfl rfl (fun K' hK' => ?_)
      refine app_int (.tmp 25) (.tmp 45) rfl w.heap.size u13 _ _ rfl (hO.drew.alloc _) wr.heap.size 0 rfl (cell_alloc_at _ _ _ _ _ rfl) (by omega) (by have := hbw.size; simp; omega) (fun v' w' h1 h2 => ?_)
      rw [HY.out, ← HS.out] at h1
      have h3 := below_grown (below_al hbw.drew) h2 (hO.drew.alloc _) (Nat.le_refl _)
      refine hK' _ _ h3 ?_
      clear hK' K'
      refine mix_call rfl rfl (fun K' hK' => ?_)
      go_simp
      refine hK' _ _ (h3) ?_; clear hK' K'
      refine mix_nil ?_
      go_wp2
      go_roundw
      case rel => exact ⟨k + 1, by omega, by go_num, h1, h3⟩
      case measure => simp [intOf]; omega
    · obtain rfl : k = n + 1 := by omega
      go_wp2
      go_ret
      exact ⟨_, rfl, hO, hbw⟩

end Go.Proofs.YtkgnejhflnekaaaGreat
namespace Go.Proofs.YtkgnejhflnekaaaGreat
open Go.RowKit
/-- what a call gives back that returns a new list of numbers and a code -/
def RetIC (w : World) (xs : List Int) (c : Int) (e : Ending) (w' : World) : Prop :=
  ∃ v, e = .returned (.tuple #[v, .int .i64 c]) ∧ OwnI w' w.heap.size v xs ∧ Below w.heap.size w w'
def digXs (a b p n : Int) : List Int := if (fracB a b && placesB p n) = true then digs a b p n.toNat else []
def digCode (a b p n : Int) : Int := if (fracB a b && placesB p n) = true then 0 else 2
set_option maxRecDepth 100000 in
set_option maxHeartbeats 1000000 in
theorem implDigitsOf_c (a b p n : Int) (w : World) :
    Calls Tryz.prog 60 #[.int .i64 a, .int .i64 b, .int .i64 p, .int .i64 n] w (RetIC w (digXs a b p n) (digCode a b p n)) := by
  have H1 := Lib.hid (fun w => isFraction_c a b w)
  have H2 := Lib.hid (fun w => arePlaces_c p n w)
  have hx : digXs a b p n = if (fracB a b && placesB p n) = true then digs a b p n.toNat else [] := rfl
  have hc : digCode a b p n = if (fracB a b && placesB p n) = true then 0 else 2 := rfl
  have i1 : fracB a b = true → (1 ≤ b ∧ b ≤ 20) ∧ 0 ≤ a ∧ a ≤ 5 * b := fracB_iff.1
  have i2 : placesB p n = true → (1 ≤ p ∧ p ≤ 1000) ∧ 1 ≤ n ∧ n ≤ 20 := placesB_iff.1
  generalize fracB a b = f at *
  generalize placesB p n = g at *
  cases f
  · rw [if_neg (by simp)] at hx hc
    rw [hx, hc]
    clear i1 i2 hx hc
    go_enter Tryz.func60, Tryz.ntmps60
    go_wp2_with fail
    refine (H1.out _).mono ?_
    rintro e w1 ⟨rfl, rfl⟩
    go_wp2
    go_ret2
    exact ⟨_, rfl, OwnI.nil _ _, Below.refl _ _⟩
  · obtain ⟨⟨q1, q2⟩, q3, q4⟩ := i1 rfl
    cases g
    · rw [if_neg (by simp)] at hx hc
      rw [hx, hc]
      clear i1 i2 hx hc
      go_enter Tryz.func60, Tryz.ntmps60
      go_wp2_with fail
      refine (H1.out _).mono ?_
      rintro e w1 ⟨rfl, rfl⟩
      go_wp2_with fail
      refine (H2.out _).mono ?_
      rintro e w1 ⟨rfl, rfl⟩
      go_wp2
      go_ret2
      exact ⟨_, rfl, OwnI.nil _ _, Below.refl _ _⟩
    · obtain ⟨⟨q5, q6⟩, q7, q8⟩ := i2 rfl
      rw [if_pos (by simp)] at hx hc
      rw [hx, hc]
      clear i1 i2 hx hc
      obtain ⟨m, rfl⟩ := Int.eq_ofNat_of_zero_le (by omega : 0 ≤ n)
      have HD := Lib.hid (fun w => digits_c a b p m w q3 (by omega) q1 (by omega) q5 q6 (by omega))
      go_enter Tryz.func60, Tryz.ntmps60
      go_wp2_with fail
      refine (H1.out _).mono ?_
      rintro e w1 ⟨rfl, rfl⟩
      go_wp2_with fail
      refine (H2.out _).mono ?_
      rintro e w1 ⟨rfl, rfl⟩
      go_wp2_with fail
      refine (HD.out _).mono ?_
      rintro e w1 ⟨v, rfl, hO, hb1⟩
      go_wp2
      go_ret2
      exact ⟨_, rfl, hO, hb1⟩
end Go.Proofs.YtkgnejhflnekaaaGreat
