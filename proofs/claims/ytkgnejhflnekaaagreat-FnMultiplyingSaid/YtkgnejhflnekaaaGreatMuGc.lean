/- Contracts and lemmas for the statements of this seat, written for this claim; each theorem states its own conditions. -/
import Derived.Test.YtkgnejhflnekaaaGreatMuL1
import Derived.Test.YtkgnejhflnekaaaGreatMuB
import Derived.Test.YtkgnejhflnekaaaGreatMuSe
set_option linter.unusedVariables false
set_option linter.unusedSimpArgs false
namespace Go.Proofs.YtkgnejhflnekaaaGreat
open Go.RowKit
attribute [local go_sem] addUpon_value addUpon_skip addUpon_enter
def gcdI (a b : Int) : Int := (Int.gcd a b : Int)
theorem gcdI_zero {a : Int} (h : 0 ≤ a) : gcdI a 0 = a := by simp [gcdI]; omega
theorem gcdI_step {a b : Int} (h : 0 ≤ a) (hb : 0 < b) : gcdI a b = gcdI b (a.tmod b) := by
  unfold gcdI
  rw [Int.tmod_eq_emod_of_nonneg h]
  obtain ⟨m, rfl⟩ := Int.eq_ofNat_of_zero_le h
  obtain ⟨n, rfl⟩ := Int.eq_ofNat_of_zero_le (Int.le_of_lt hb)
  rw [show ((m : Int) % (n : Int)) = ((m % n : Nat) : Int) by omega]
  show ((Nat.gcd m n : Nat) : Int) = ((Nat.gcd n (m % n) : Nat) : Int)
  rw [Nat.gcd_comm m n, Nat.gcd_rec n m, Nat.gcd_comm]
theorem gcdI_pos {a b : Int} (hb : 1 ≤ b) : 1 ≤ gcdI a b := by
  unfold gcdI
  have : Int.gcd a b ≠ 0 := by intro e; rw [Int.gcd_eq_zero_iff] at e; omega
  omega
set_option maxRecDepth 100000 in
set_option maxHeartbeats 1000000 in
theorem divisor_c (a b : Int) (w : World) (ha : 0 ≤ a) (hb : 0 ≤ b) (la : a ≤ 1000000000) (lb : b ≤ 1000000000) :
    Calls Tryz.prog 142 #[.int .i64 a, .int .i64 b] w fun e w' => e = .returned (.int .i64 (gcdI a b)) ∧ Below w.heap.size w w' := by
  go_enter Tryz.func142, Tryz.ntmps142
  go_wp2
  go_loopw [0, 1] (fun x y wr => ∃ i j : Int, x = .int .i64 i ∧ y = .int .i64 j ∧ 0 ≤ i ∧ 0 ≤ j ∧ i ≤ 1000000000 ∧ j ≤ 1000000000 ∧ Hid (gcdI a b = gcdI i j) ∧ Below w.heap.size w wr) (fun _ y _ => (intOf y).toNat)
  case atStart => exact ⟨a, b, rfl, rfl, ha, hb, la, lb, rfl, Below.refl _ _⟩
  case round =>
    obtain ⟨i, j, rfl, rfl, hi, hj, li, lj, HG, hbw⟩ := hrel
    by_cases h0 : j = 0
    · subst h0
      have hn : ((0 : Int) != 0) = false := rfl
      have HR := Lib.hid (HG.out.trans (gcdI_zero hi))
      go_wp2
      go_ret
      exact ⟨ret_int HR.out.symm, hbw⟩
    · have hn : (j != 0) = true := by simpa using h0
      have HR := Lib.hid (HG.out.trans (gcdI_step hi (by omega)))
      have q1 := Int.tmod_nonneg j hi
      have q2 := Int.tmod_lt_of_pos i (show 0 < j by omega)
      obtain ⟨m, hm⟩ : ∃ m, m = i.tmod j := ⟨_, rfl⟩
      have hm' := hm.symm
      rw [← hm] at q1 q2 HR
      clear hm
      go_wp2_with fail
      refine wp_region_add (fun w' => Below (wr).heap.size (wr) w') (by kernel_rfl) (by kernel_rfl) ((Below.refl _ _).drew) ?_
      repeat (first
        | (refine add_skip rfl (fun K' hK' => ?_); go_simp; refine hK' _ ?_; clear hK' K')
        | (refine add_do (v := ?_) rfl (fun w1 hb => ?_) (fun K' hK' => ?_); rotate_left
           · go_simp
             first
             | (with_reducible exact rfl)
             | (with_reducible exact ⟨rfl, hb⟩)
             | exact rfl
             | exact ⟨rfl, hb⟩
           go_simp; refine hK' _ ?_; clear hK' K'))
      refine add_nil ?_
      intro wa hba
      go_wp2
      go_roundw
      case rel => exact ⟨j, m, rfl, rfl, by omega, q1, by omega, by omega, HR, hbw.trans (hba.mono hbw.size)⟩
      case measure => simp [intOf]; omega
set_option maxRecDepth 100000 in
set_option maxHeartbeats 1000000 in
theorem l06Gcd_c (a b : Int) (w : World) (ha : 0 ≤ a) (hb : 0 ≤ b) (la : a ≤ 1000000000) (lb : b ≤ 1000000000) :
    Calls Tryz.prog 143 #[.int .i64 a, .int .i64 b] w fun e w' => e = .returned (.int .i64 (gcdI a b)) ∧ w = w' := by
  go_enter Tryz.func143, Tryz.ntmps143
  go_wp2
  go_loop [0, 1] (fun x y => ∃ i j : Int, x = .int .i64 i ∧ y = .int .i64 j ∧ 0 ≤ i ∧ 0 ≤ j ∧ i ≤ 1000000000 ∧ j ≤ 1000000000 ∧ Hid (gcdI a b = gcdI i j)) (fun _ y => (intOf y).toNat)
  case atStart => exact ⟨a, b, rfl, rfl, ha, hb, la, lb, rfl⟩
  case round =>
    obtain ⟨i, j, rfl, rfl, hi, hj, li, lj, HG⟩ := hrel
    by_cases h0 : 0 < j
    · have HR := Lib.hid (HG.out.trans (gcdI_step hi (by omega)))
      have q1 := Int.tmod_nonneg j hi
      have q2 := Int.tmod_lt_of_pos i (show 0 < j by omega)
      have hn : ¬ j = 0 := by omega
      obtain ⟨m, hm⟩ : ∃ m, m = i.tmod j := ⟨_, rfl⟩
      have hm' := hm.symm
      rw [← hm] at q1 q2 HR
      clear hm
      go_wp2
      go_round
      case rel => exact ⟨j, m, rfl, by first | rw [hm'] | rw [← hm', Int.tmod_eq_emod_of_nonneg hi], by omega, q1, by omega, by omega, HR⟩
      case measure => simp [intOf]; omega
    · obtain rfl : j = 0 := by omega
      have HR := Lib.hid (HG.out.trans (gcdI_zero hi))
      go_wp2
      go_ret
      exact ⟨ret_int HR.out.symm, rfl⟩
end Go.Proofs.YtkgnejhflnekaaaGreat
namespace Go.Proofs.YtkgnejhflnekaaaGreat
open Go.RowKit
def codeB (s b : Bool) : Int := if s = true then (if b = true then 0 else 2) else 1
set_option maxRecDepth 100000 in
set_option maxHeartbeats 1000000 in
theorem setCode_c (c : Int) (ts : List T4) (A : Option Addr) (cx : Nat) (k : FuncId) (caps : Array Value) (b : Bool) (w : World) (hk : ∀ args w, Sem.run Tryz.prog (callFunc k args) w = .ok (.enter k args) w)
    (hT : TileCells w A ts) (hl : ts.length ≤ 1000000000) (hf : isSetB c ts = true → ∀ w1, Below w.heap.size w w1 → Calls Tryz.prog k caps w1 fun e w2 => e = .returned (.bool b) ∧ Below w1.heap.size w1 w2) :
    Calls Tryz.prog 85 #[.agg #[.int .i64 c, .slice A ts.length cx], .func (.func k) #[] caps] w fun e w' => e = .returned (.int .i64 (codeB (isSetB c ts) b)) ∧ Below w.heap.size w w' := by
  have HI := Lib.hid (fun w h => isSet_c c ts A cx w h hl)
  have HT := Lib.hid hT
  have HF := Lib.hid hf
  clear hT hf
  cases hs : isSetB c ts
  · rw [hs] at HI
    clear hs
    go_enter Tryz.func85, Tryz.ntmps85
    go_wp2_with fail
    refine (HI.out _ (HT.out.below (by (repeat (first | (with_reducible exact Below.refl _ _) | (with_reducible assumption) | (with_reducible refine below_al ?_) | (with_reducible refine below_dr ?_) | (with_reducible refine below_drN ?_) | (with_reducible refine below_set ?_ (by first | exact Nat.le_refl _ | (dsimp only; omega) | omega)) | (with_reducible refine below_tr (by with_reducible assumption) ?_)))))).mono ?_
    rintro e w1 ⟨rfl, hb1⟩
    go_wp2
    go_ret
    exact ⟨rfl, by (repeat (first | (with_reducible exact Below.refl _ _) | (with_reducible assumption) | (with_reducible refine below_al ?_) | (with_reducible refine below_dr ?_) | (with_reducible refine below_drN ?_) | (with_reducible refine below_set ?_ (by first | exact Nat.le_refl _ | (dsimp only; omega) | omega)) | (with_reducible refine below_tr (by with_reducible assumption) ?_)))⟩
  · rw [hs] at HI
    have HF2 := Lib.hid (HF.out hs)
    clear hs HF
    cases b
    all_goals
      go_enter Tryz.func85, Tryz.ntmps85
      go_wp2_with fail
      refine (HI.out _ (HT.out.below (by (repeat (first | (with_reducible exact Below.refl _ _) | (with_reducible assumption) | (with_reducible refine below_al ?_) | (with_reducible refine below_dr ?_) | (with_reducible refine below_drN ?_) | (with_reducible refine below_set ?_ (by first | exact Nat.le_refl _ | (dsimp only; omega) | omega)) | (with_reducible refine below_tr (by with_reducible assumption) ?_)))))).mono ?_
      rintro e w1 ⟨rfl, hb1⟩
      have Hw1 : Hid (Below w.heap.size w w1) := by (show Below _ _ _); (repeat (first | (with_reducible exact Below.refl _ _) | (with_reducible assumption) | (with_reducible refine below_al ?_) | (with_reducible refine below_dr ?_) | (with_reducible refine below_drN ?_) | (with_reducible refine below_set ?_ (by first | exact Nat.le_refl _ | (dsimp only; omega) | omega)) | (with_reducible refine below_tr (by with_reducible assumption) ?_)))
      clear hb1
      go_wp2_with fail
      refine (HF2.out _ Hw1.out).mono ?_
      rintro e w2 ⟨rfl, hb2⟩
      go_wp2
      go_ret
      exact ⟨rfl, Hw1.out.trans (hb2.mono Hw1.out.size)⟩
def fiveB (p q : Int) : Bool := inR 1 5 p && inR 1 5 q
theorem fiveB_iff {p q : Int} : fiveB p q = true ↔ (1 ≤ p ∧ p ≤ 5) ∧ 1 ≤ q ∧ q ≤ 5 := by simp [fiveB, inR]
set_option maxRecDepth 100000 in
set_option maxHeartbeats 1000000 in
theorem areFive_c (a b : Int) (w : World) :
    Calls Tryz.prog 135 #[.int .i64 a, .int .i64 b] w fun e w' => e = .returned (.bool (fiveB a b)) ∧ w = w' := by
  have H1 := Lib.hid (fun w => within_c a 1 5 w)
  have H2 := Lib.hid (fun w => within_c b 1 5 w)
  have hR := Lib.hid (show fiveB a b = (inR 1 5 a && inR 1 5 b) from rfl)
  generalize inR 1 5 a = p at *
  generalize inR 1 5 b = q at *
  cases p
  · go_enter Tryz.func135, Tryz.ntmps135
    go_wp2_with (go_at_call 148; refine (H1.out _).mono ?_; rintro e w1 ⟨rfl, rfl⟩)
    go_ret
    exact ⟨ret_bool hR.out.symm, rfl⟩
  · cases q
    all_goals
      go_enter Tryz.func135, Tryz.ntmps135
      go_wp2_with fail
      refine (H1.out _).mono ?_
      rintro e w1 ⟨rfl, rfl⟩
      go_wp2_with fail
      refine (H2.out _).mono ?_
      rintro e w1 ⟨rfl, rfl⟩
      go_wp2
      go_ret
      exact ⟨ret_bool hR.out.symm, rfl⟩
set_option maxRecDepth 100000 in
set_option maxHeartbeats 1000000 in
theorem isBalanced1_c (p q : Int) (b1 b2 : Nat) (w : World) (h1 : w.cell? ⟨b1, 0, none⟩ = some (.int .i64 p)) (h2 : w.cell? ⟨b2, 0, none⟩ = some (.int .i64 q)) :
    Calls Tryz.prog 139 #[.pointer (some ⟨b1, 0, none⟩), .pointer (some ⟨b2, 0, none⟩)] w fun e w' => e = .returned (.bool (fiveB p q)) ∧ w = w' := by
  go_enter Tryz.func139, Tryz.ntmps139
  go_wp2_with (go_at_call 135; refine (areFive_c _ _ _).mono ?_; rintro e w' ⟨rfl, rfl⟩)
  go_ret
  exact ⟨rfl, rfl⟩

end Go.Proofs.YtkgnejhflnekaaaGreat
