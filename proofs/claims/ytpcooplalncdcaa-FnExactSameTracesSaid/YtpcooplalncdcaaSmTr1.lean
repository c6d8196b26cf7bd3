/- Contracts and lemmas for the statements of this seat, written for this claim; each theorem states its own conditions. -/
import Derived.Test.YtpcooplalncdcaaSmTo1
import Derived.Test.YtpcooplalncdcaaSmSe
set_option linter.unusedVariables false
set_option linter.unusedSimpArgs false
namespace Go.Proofs.Ytpcooplalncdcaa
open Go.RowKit
attribute [local go_sem] addUpon_value addUpon_skip addUpon_enter
set_option maxRecDepth 100000 in
set_option maxHeartbeats 1000000 in
theorem l10Equal_c (xs ys : List Int) (A B : Option Addr) (cx cy : Nat) (w : World) (hx : Cells w A (ints xs)) (hy : Cells w B (ints ys)) (lx : xs.length ≤ 1000000000) (ly : ys.length ≤ 1000000000) :
    Calls Try.prog 75 #[.slice A xs.length cx, .slice B ys.length cy] w fun e w' => e = .returned (.bool (eqI xs ys)) ∧ Below w.heap.size w w' := by
  by_cases hl : xs.length = ys.length
  · have HL := Lib.hid hl
    have hl' : ((xs.length : Int) != (ys.length : Int)) = false := by simp; omega
    have hl2 : ys.length ≤ xs.length := by omega
    have hl3 : xs.length ≤ ys.length := by omega
    clear hl
    go_enter Try.func75, Try.ntmps75
    go_wp2
    go_loopw [5] (fun i wr => ∃ k : Nat, k ≤ xs.length ∧ i = .int .i64 k ∧ Hid (∀ j (h1 : j < xs.length) (h2 : j < ys.length), j < k → xs[j] = ys[j]) ∧ Below w.heap.size w wr) (fun i _ => xs.length - (intOf i).toNat)
    case atStart => exact ⟨0, by omega, rfl, fun j _ _ h => by omega, Below.refl _ _⟩
    case round =>
      obtain ⟨k, hk, rfl, Hn, hb⟩ := hrel
      have Hb := Lib.hid hb
      by_cases h1 : k < xs.length
      · have h2 : k < ys.length := by omega
        obtain ⟨b, off, rfl, hlt, c0⟩ := (hx.below hb).int k h1
        obtain ⟨b', off', rfl, hlt', d0⟩ := (hy.below hb).int k h2
        by_cases hE : xs[k] = ys[k]
        · have HE : Hid (∀ j (h1 : j < xs.length) (h2 : j < ys.length), j < k + 1 → xs[j] = ys[j]) := fun j h1 h2 hj => by
            by_cases e : j = k
            · subst e; exact hE
            · exact Hn.out j h1 h2 (by omega)
          have hE' : (xs[k] != ys[k]) = false := by simp [hE]
          have e0 := keepC c0
          have f0 := keepC d0
          clear hE hx hy hb c0 d0
          generalize xs[k] = s at *
          generalize ys[k] = t at *
          go_wp2_with fail
          refine wp_region_add (fun w' => Below (wr).heap.size (wr) w') (by kernel_rfl) (by kernel_rfl) ((Below.refl _ _).drew) ?_
          repeat (first
            | (refine add_skip rfl (fun K' hK' => ?_); go_simp; refine hK' _ ?_; clear hK' K')
            | (refine add_do (v := ?_) rfl (fun w1 hb => ?_) (fun K' hK' => ?_); rotate_left
               · go_simp
                 first
                 | (with_reducible exact rfl)
                 | (with_reducible exact ⟨rfl, hb⟩)
                 | exact rfl
                 | exact ⟨rfl, hb⟩
               go_simp; refine hK' _ ?_; clear hK' K'))
          refine add_nil ?_
          intro wa hba
          go_wp2
          go_roundw
          case rel => exact ⟨k + 1, by omega, by go_num, HE, by have h3 := Hb.out; (repeat (first | (with_reducible exact Below.refl _ _) | (with_reducible assumption) | (with_reducible refine below_al ?_) | (with_reducible refine below_dr ?_) | (with_reducible refine below_drN ?_) | (with_reducible refine below_set ?_ (by first | exact Nat.le_refl _ | (dsimp only; omega) | omega)) | (with_reducible refine below_tr (by with_reducible assumption) ?_)))⟩
          case measure => simp [intOf]; omega
        · have HE : Hid (eqI xs ys = false) := by
            show eqI xs ys = false
            simp only [eqI, decide_eq_false_iff_not]; intro e; exact hE (by simp [e])
          have hE' : (xs[k] != ys[k]) = true := by simp [hE]
          have e0 := keepC c0
          have f0 := keepC d0
          clear hE hx hy hb c0 d0
          generalize xs[k] = s at *
          generalize ys[k] = t at *
          go_wp2_with fail
          refine wp_region_add (fun w' => Below (wr).heap.size (wr) w') (by kernel_rfl) (by kernel_rfl) ((Below.refl _ _).drew) ?_
          repeat (first
            | (refine add_skip rfl (fun K' hK' => ?_); go_simp; refine hK' _ ?_; clear hK' K')
            | (refine add_do (v := ?_) rfl (fun w1 hb => ?_) (fun K' hK' => ?_); rotate_left
               · go_simp
                 first
                 | (with_reducible exact rfl)
                 | (with_reducible exact ⟨rfl, hb⟩)
                 | exact rfl
                 | exact ⟨rfl, hb⟩
               go_simp; refine hK' _ ?_; clear hK' K'))
          refine add_nil ?_
          intro wa hba
          go_wp2
          go_ret
          exact ⟨ret_bool HE.out.symm, by have h3 := Hb.out; (repeat (first | (with_reducible exact Below.refl _ _) | (with_reducible assumption) | (with_reducible refine below_al ?_) | (with_reducible refine below_dr ?_) | (with_reducible refine below_drN ?_) | (with_reducible refine below_set ?_ (by first | exact Nat.le_refl _ | (dsimp only; omega) | omega)) | (with_reducible refine below_tr (by with_reducible assumption) ?_)))⟩
      · have hE : Hid (eqI xs ys = true) := by
          show eqI xs ys = true
          simp only [eqI, decide_eq_true_eq]
          exact List.ext_getElem HL.out fun j h1 h2 => Hn.out j h1 h2 (by omega)
        clear hx hy
        go_wp2
        go_ret
        exact ⟨ret_bool hE.out.symm, hb⟩
  · have hR : Hid (eqI xs ys = false) := by
      show eqI xs ys = false
      simp only [eqI, decide_eq_false_iff_not]; intro e; exact hl (by rw [e])
    have hl' : ((xs.length : Int) != (ys.length : Int)) = true := by simp; omega
    clear hl
    go_enter Try.func75, Try.ntmps75
    go_wp2
    go_ret
    exact ⟨ret_bool hR.out.symm, Below.refl _ _⟩
set_option maxRecDepth 100000 in
set_option maxHeartbeats 1000000 in
theorem l10Same_c (xs ys : List (List Int)) (A B : Option Addr) (cx cy : Nat) (w : World) (hx : RowsC w A xs) (hy : RowsC w B ys) (lx : xs.length ≤ 1000000000) (ly : ys.length ≤ 1000000000) (sx : Short 1000000000 xs) (sy : Short 1000000000 ys) :
    Calls Try.prog 52 #[.slice A xs.length cx, .slice B ys.length cy] w fun e w' => e = .returned (.bool (eqII xs ys)) ∧ Below w.heap.size w w' := by
  by_cases hl : xs.length = ys.length
  · have HL := Lib.hid hl
    have hl' : ((xs.length : Int) != (ys.length : Int)) = false := by simp; omega
    have hl2 : ys.length ≤ xs.length := by omega
    have hl3 : xs.length ≤ ys.length := by omega
    clear hl
    go_enter Try.func52, Try.ntmps52
    go_wp2
    go_loopw [5] (fun i wr => ∃ k : Nat, k ≤ xs.length ∧ i = .int .i64 k ∧ Hid (∀ j (h1 : j < xs.length) (h2 : j < ys.length), j < k → eqI xs[j] ys[j] = true) ∧ Below w.heap.size w wr) (fun i _ => xs.length - (intOf i).toNat)
    case atStart => exact ⟨0, by omega, rfl, fun j _ _ h => by omega, Below.refl _ _⟩
    case round =>
      obtain ⟨k, hk, rfl, Hn, hb⟩ := hrel
      have Hb := Lib.hid hb
      by_cases h1 : k < xs.length
      · have h2 : k < ys.length := by omega
        obtain ⟨b, off, A1, c1, rfl, hlt, c0, r1⟩ := (hx.below hb) k h1
        obtain ⟨b', off', B1, d1, rfl, hlt', d0, r2⟩ := (hy.below hb) k h2
        have HA := Lib.hid (fun w (hc : Cells w A1 (ints (xs[k]'h1))) (hd : Cells w B1 (ints (ys[k]'h2))) => l10Equal_c (xs[k]'h1) (ys[k]'h2) A1 B1 c1 d1 w hc hd (sx k h1) (sy k h2))
        have R1 := Lib.hid r1
        have R2 := Lib.hid r2
        have HBad := Lib.hid (eqII_bad h1 h2)
        have HE : Hid (eqI xs[k] ys[k] = true → ∀ j (h1 : j < xs.length) (h2 : j < ys.length), j < k + 1 → eqI xs[j] ys[j] = true) := fun hE j h1 h2 hj => by
          by_cases e : j = k
          · subst e; exact hE
          · exact Hn.out j h1 h2 (by omega)
        have e0 := keepC c0
        have f0 := keepC d0
        clear c0 d0 r1 r2 hx hy hb sx sy
        generalize eqI xs[k] ys[k] = r at *
        cases r
        · have HE := Lib.hid (HBad.out rfl)
          go_wp2_with fail
          refine wp_region_add (fun w' => Below (wr).heap.size (wr) w') (by kernel_rfl) (by kernel_rfl) ((Below.refl _ _).drew) ?_
          repeat (first
            | (refine add_skip rfl (fun K' hK' => ?_); go_simp; refine hK' _ ?_; clear hK' K')
            | (refine add_do (v := ?_) rfl (fun w1 hb => ?_) (fun K' hK' => ?_); rotate_left
               · go_simp
                 first
                 | (with_reducible exact rfl)
                 | (with_reducible exact ⟨rfl, hb⟩)
                 | (with_reducible exact (addCall (HA.out w1 (R1.out.below hb) (R2.out.below hb)) hb).2)
                 | exact (addCall (HA.out w1 (R1.out.below hb) (R2.out.below hb)) hb).2
                 | exact rfl
                 | exact ⟨rfl, hb⟩
               go_simp; refine hK' _ ?_; clear hK' K'))
          refine add_nil ?_
          intro wa hba
          go_wp2
          go_ret
          exact ⟨ret_bool HE.out.symm, by have h3 := Hb.out; (repeat (first | (with_reducible exact Below.refl _ _) | (with_reducible assumption) | (with_reducible refine below_al ?_) | (with_reducible refine below_dr ?_) | (with_reducible refine below_drN ?_) | (with_reducible refine below_set ?_ (by first | exact Nat.le_refl _ | (dsimp only; omega) | omega)) | (with_reducible refine below_tr (by with_reducible assumption) ?_)))⟩
        · have HE2 := Lib.hid (HE.out rfl)
          go_wp2_with fail
          refine wp_region_add (fun w' => Below (wr).heap.size (wr) w') (by kernel_rfl) (by kernel_rfl) ((Below.refl _ _).drew) ?_
          repeat (first
            | (refine add_skip rfl (fun K' hK' => ?_); go_simp; refine hK' _ ?_; clear hK' K')
            | (refine add_do (v := ?_) rfl (fun w1 hb => ?_) (fun K' hK' => ?_); rotate_left
               · go_simp
                 first
                 | (with_reducible exact rfl)
                 | (with_reducible exact ⟨rfl, hb⟩)
                 | (with_reducible exact (addCall (HA.out w1 (R1.out.below hb) (R2.out.below hb)) hb).2)
                 | exact (addCall (HA.out w1 (R1.out.below hb) (R2.out.below hb)) hb).2
                 | exact rfl
                 | exact ⟨rfl, hb⟩
               go_simp; refine hK' _ ?_; clear hK' K'))
          refine add_nil ?_
          intro wa hba
          go_wp2
          go_roundw
          case rel => exact ⟨k + 1, by omega, by go_num, HE2, by have h3 := Hb.out; (repeat (first | (with_reducible exact Below.refl _ _) | (with_reducible assumption) | (with_reducible refine below_al ?_) | (with_reducible refine below_dr ?_) | (with_reducible refine below_drN ?_) | (with_reducible refine below_set ?_ (by first | exact Nat.le_refl _ | (dsimp only; omega) | omega)) | (with_reducible refine below_tr (by with_reducible assumption) ?_)))⟩
          case measure => simp [intOf]; omega
      · have hE := Lib.hid (eqII_all HL.out (fun j h1 h2 => Hn.out j h1 h2 (by omega)))
        clear hx hy sx sy
        go_wp2
        go_ret
        exact ⟨ret_bool hE.out.symm, hb⟩
  · have hR := Lib.hid (eqII_len hl)
    have hl' : ((xs.length : Int) != (ys.length : Int)) = true := by simp; omega
    clear hl
    go_enter Try.func52, Try.ntmps52
    go_wp2
    go_ret
    exact ⟨ret_bool hR.out.symm, Below.refl _ _⟩
theorem cmpI_zero {a b : Int} : cmpI a b = 0 ↔ a = b := by
  unfold cmpI
  split
  · constructor <;> intro h <;> omega
  · split
    · constructor <;> intro h <;> omega
    · constructor <;> intro h <;> omega
theorem cmpL_zero : ∀ (xs ys : List Int), cmpL xs ys = 0 ↔ xs = ys
  | [], [] => by simp [cmpL]
  | [], _ :: _ => by simp [cmpL]
  | _ :: _, [] => by simp [cmpL]
  | x :: xs, y :: ys => by
    unfold cmpL
    by_cases h : cmpI x y = 0
    · rw [if_neg (by simp [h]), cmpL_zero xs ys]
      have := cmpI_zero.1 h
      simp [this]
    · rw [if_pos h]
      constructor
      · intro e; exact absurd e h
      · intro e; injection e with e _; exact absurd (cmpI_zero.2 e) h
set_option maxRecDepth 100000 in
set_option maxHeartbeats 1000000 in
theorem compareRows1_c (xs ys : List Int) (A B : Option Addr) (cx cy : Nat) (w : World) (hx : Cells w A (ints xs)) (hy : Cells w B (ints ys)) (lx : xs.length ≤ 1000000000) (ly : ys.length ≤ 1000000000) :
    Calls Try.prog 80 #[.slice A xs.length cx, .slice B ys.length cy] w fun e w' => e = .returned (.int .i64 (cmpL xs ys)) ∧ w = w' := by
  have H := Lib.hid (slicesCompare_c xs ys A B cx cy w hx hy lx ly)
  clear hx hy
  go_enter Try.func80, Try.ntmps80
  go_wp2_with fail
  refine H.out.mono ?_
  rintro e w1 ⟨rfl, rfl⟩
  go_wp2
  go_ret
  exact ⟨rfl, rfl⟩
set_option maxRecDepth 100000 in
set_option maxHeartbeats 1000000 in
theorem compareFunc_c (xs ys : List (List Int)) (A B : Option Addr) (cx cy : Nat) (w : World) (hx : RowsC w A xs) (hy : RowsC w B ys) (lx : xs.length ≤ 1000000000) (ly : ys.length ≤ 1000000000) (sx : Short 1000000000 xs) (sy : Short 1000000000 ys) :
    Calls Try.prog 79 #[.slice A xs.length cx, .slice B ys.length cy, .func (.func 80) #[] #[]] w fun e w' => (∃ r : Int, e = .returned (.int .i64 r) ∧ decide (r = 0) = eqII xs ys) ∧ w = w' := by
  go_enter Try.func79, Try.ntmps79
  go_wp2
  go_loop [13] (fun i => ∃ k : Nat, k ≤ xs.length ∧ k ≤ ys.length ∧ i = .int .i64 k ∧ Hid (∀ j (h1 : j < xs.length) (h2 : j < ys.length), j < k → eqI xs[j] ys[j] = true)) (fun i => xs.length - (intOf i).toNat)
  case atStart => exact ⟨0, by omega, by omega, rfl, fun j _ _ h => by omega⟩
  case round =>
    obtain ⟨k, hk, hk2, rfl, Hn⟩ := hrel
    by_cases h1 : k < xs.length
    · by_cases h2 : k < ys.length
      · obtain ⟨b, off, A1, c1, rfl, hlt, c0, r1⟩ := hx k h1
        obtain ⟨b', off', B1, d1, rfl, hlt', d0, r2⟩ := hy k h2
        have HA := Lib.hid (compareRows1_c (xs[k]'h1) (ys[k]'h2) A1 B1 c1 d1 w r1 r2 (sx k h1) (sy k h2))
        have HBad := Lib.hid (eqII_bad h1 h2)
        have HE : Hid (eqI xs[k] ys[k] = true → ∀ j (h1 : j < xs.length) (h2 : j < ys.length), j < k + 1 → eqI xs[j] ys[j] = true) := fun hE j h1 h2 hj => by
          by_cases e : j = k
          · subst e; exact hE
          · exact Hn.out j h1 h2 (by omega)
        have hz := cmpL_zero xs[k] ys[k]
        have hq : eqI xs[k] ys[k] = decide (cmpL xs[k] ys[k] = 0) := by unfold eqI; exact decide_eq_decide.2 hz.symm
        generalize cmpL xs[k] ys[k] = q at *
        have HQ := Lib.hid hq
        by_cases h0 : q = 0
        · have h0' : (q != 0) = false := by simp [h0]
          have HN := Lib.hid (HE.out (by rw [HQ.out]; simp [h0]))
          replace h0 := Lib.hid h0
          clear r1 r2 hx hy sx sy hz hq HE HBad
          go_wp2_with (go_at_call 80; refine HA.out.mono ?_; rintro e w1 ⟨rfl, rfl⟩)
          go_round
          case rel => exact ⟨k + 1, by omega, by omega, by go_num, HN⟩
          case measure => simp [intOf]; omega
        · have h0' : (q != 0) = true := by simp [h0]
          have HN := Lib.hid (HBad.out (by rw [HQ.out]; simp [h0]))
          replace h0 := Lib.hid h0
          clear r1 r2 hx hy sx sy hz hq HE HBad
          go_wp2_with (go_at_call 80; refine HA.out.mono ?_; rintro e w1 ⟨rfl, rfl⟩)
          go_ret
          exact ⟨⟨_, rfl, by rw [HN.out]; simp [h0.out]⟩, rfl⟩
      · obtain rfl : k = ys.length := by omega
        have HR := Lib.hid (eqII_len (show xs.length ≠ ys.length by omega))
        obtain ⟨b, off, A1, c1, rfl, hlt, c0, r1⟩ := hx _ h1
        clear hx hy sx sy r1
        go_wp2
        go_ret
        exact ⟨⟨_, rfl, by rw [HR.out]; rfl⟩, rfl⟩
    · obtain rfl : k = xs.length := by omega
      by_cases h2 : xs.length < ys.length
      · have HR := Lib.hid (eqII_len (show xs.length ≠ ys.length by omega))
        clear hx hy sx sy
        go_wp2
        go_ret
        exact ⟨⟨_, rfl, by rw [HR.out]; rfl⟩, rfl⟩
      · have HR := Lib.hid (eqII_all (xs := xs) (ys := ys) (by omega) (fun j h1 h2 => Hn.out j h1 h2 h1))
        clear hx hy sx sy
        go_wp2
        go_ret
        exact ⟨⟨_, rfl, by rw [HR.out]; rfl⟩, rfl⟩
set_option maxRecDepth 100000 in
set_option maxHeartbeats 1000000 in
theorem compareRows_c (xs ys : List (List Int)) (A B : Option Addr) (cx cy : Nat) (w : World) (hx : RowsC w A xs) (hy : RowsC w B ys) (lx : xs.length ≤ 1000000000) (ly : ys.length ≤ 1000000000) (sx : Short 1000000000 xs) (sy : Short 1000000000 ys) :
    Calls Try.prog 54 #[.slice A xs.length cx, .slice B ys.length cy] w fun e w' => (∃ r : Int, e = .returned (.int .i64 r) ∧ decide (r = 0) = eqII xs ys) ∧ w = w' := by
  have H := Lib.hid (compareFunc_c xs ys A B cx cy w hx hy lx ly sx sy)
  clear hx hy sx sy
  go_enter Try.func54, Try.ntmps54
  go_wp2_with fail
  refine H.out.mono ?_
  rintro e w1 ⟨⟨r, rfl, hr⟩, rfl⟩
  have Hr := Lib.hid hr
  clear hr
  go_wp2
  go_ret
  exact ⟨⟨_, rfl, Hr.out⟩, rfl⟩

end Go.Proofs.Ytpcooplalncdcaa
