/- Contracts and lemmas for the statements of this seat, written for this claim; each theorem states its own conditions. -/
import Derived.Test.YtfkmophmiiehlaaKoSe
set_option linter.unusedVariables false
set_option linter.unusedSimpArgs false
namespace Go.Proofs.Ytfkmophmiiehlaa
open Go.RowKit
attribute [local go_sem] addUpon_value addUpon_skip addUpon_enter
def eqTs (xs ys : List T4) : Bool := decide (xs = ys)
theorem eqTs_len {xs ys : List T4} (h : xs.length ≠ ys.length) : eqTs xs ys = false := by
  simp only [eqTs, decide_eq_false_iff_not]; intro e; exact h (by rw [e])
theorem eqTs_bad {xs ys : List T4} {k : Nat} (h1 : k < xs.length) (h2 : k < ys.length) (h : eqT xs[k] ys[k] = false) : eqTs xs ys = false := by
  simp only [eqTs, decide_eq_false_iff_not]; intro e; subst e; simp [eqT] at h
theorem eqTs_all {xs ys : List T4} (hl : xs.length = ys.length) (h : ∀ j (h1 : j < xs.length) (h2 : j < ys.length), eqT xs[j] ys[j] = true) : eqTs xs ys = true := by
  simp only [eqTs, decide_eq_true_eq]
  exact List.ext_getElem hl fun j h1 h2 => eqT_iff.1 (h j h1 h2)
set_option maxRecDepth 100000 in
set_option maxHeartbeats 1000000 in
theorem eqTileS_c (xs ys : List T4) (A B : Option Addr) (cx cy : Nat) (w : World) (hx : TileCells w A xs) (hy : TileCells w B ys) (lx : xs.length ≤ 1000000000) (ly : ys.length ≤ 1000000000) :
    Calls Try.prog 25 #[.slice A xs.length cx, .slice B ys.length cy] w fun e w' => e = .returned (.bool (eqTs xs ys)) ∧ Below w.heap.size w w' := by
  by_cases hl : xs.length = ys.length
  · have HL := Lib.hid hl
    have hl' : ((xs.length : Int) != (ys.length : Int)) = false := by simp; omega
    have hl2 : ys.length ≤ xs.length := by omega
    have hl3 : xs.length ≤ ys.length := by omega
    clear hl
    go_enter Try.func25, Try.ntmps25
    go_wp2
    go_loopw [5] (fun i wr => ∃ k : Nat, k ≤ xs.length ∧ i = .int .i64 k ∧ Hid (∀ j (h1 : j < xs.length) (h2 : j < ys.length), j < k → eqT xs[j] ys[j] = true) ∧ Below w.heap.size w wr) (fun i _ => xs.length - (intOf i).toNat)
    case atStart => exact ⟨0, by omega, rfl, fun j _ _ h => by omega, Below.refl _ _⟩
    case round =>
      obtain ⟨k, hk, rfl, Hn, hb⟩ := hrel
      have Hb := Lib.hid hb
      by_cases h1 : k < xs.length
      · have h2 : k < ys.length := by omega
        obtain ⟨b, off, rfl, hlt, c0, c1, c2, c3⟩ := (hx.below hb) k h1
        obtain ⟨b', off', rfl, hlt', d0, d1, d2, d3⟩ := (hy.below hb) k h2
        have HA := Lib.hid (fun w => eqTile_c xs[k] ys[k] w)
        have HF : Hid (∀ r, eqT xs[k] ys[k] = r → eqT xs[k] ys[k] = r) := fun r h => h
        cases hE : eqT xs[k] ys[k]
        · have HE := Lib.hid (eqTs_bad h1 h2 hE)
          rw [hE] at HA
          clear hE HF hx hy hb
          generalize xs[k] = s at *
          generalize ys[k] = t at *
          have e0 := keepC c0
          have e1 := keepC c1
          have e2 := keepC c2
          have e3 := keepC c3
          have f0 := keepC d0
          have f1 := keepC d1
          have f2 := keepC d2
          have f3 := keepC d3
          clear c0 c1 c2 c3 d0 d1 d2 d3
          go_wp2_with fail
          refine wp_region_add (fun w' => Below (wr).heap.size (wr) w') (by kernel_rfl) (by kernel_rfl) ((Below.refl _ _).drew) ?_
          repeat (first
            | (refine add_skip rfl (fun K' hK' => ?_); go_simp; refine hK' _ ?_; clear hK' K')
            | (refine add_do (v := ?_) rfl (fun w1 hb => ?_) (fun K' hK' => ?_); rotate_left
               · go_simp
                 first
                 | (with_reducible exact rfl)
                 | (with_reducible exact ⟨rfl, hb⟩)
                 | (with_reducible exact (addCall (HA.out w1) hb).2)
                 | exact (addCall (HA.out w1) hb).2
                 | exact rfl
                 | exact ⟨rfl, hb⟩
               go_simp; refine hK' _ ?_; clear hK' K'))
          refine add_nil ?_
          intro wa hba
          go_wp2
          go_ret
          exact ⟨ret_bool HE.out.symm, by have h3 := Hb.out; (repeat (first | (with_reducible exact Below.refl _ _) | (with_reducible assumption) | (with_reducible refine below_al ?_) | (with_reducible refine below_dr ?_) | (with_reducible refine below_drN ?_) | (with_reducible refine below_set ?_ (by first | exact Nat.le_refl _ | (dsimp only; omega) | omega)) | (with_reducible refine below_tr (by with_reducible assumption) ?_)))⟩
        · have HE : Hid (∀ j (h1 : j < xs.length) (h2 : j < ys.length), j < k + 1 → eqT xs[j] ys[j] = true) := fun j h1 h2 hj => by
            by_cases e : j = k
            · subst e; exact hE
            · exact Hn.out j h1 h2 (by omega)
          rw [hE] at HA
          clear hE HF hx hy hb
          generalize xs[k] = s at *
          generalize ys[k] = t at *
          have e0 := keepC c0
          have e1 := keepC c1
          have e2 := keepC c2
          have e3 := keepC c3
          have f0 := keepC d0
          have f1 := keepC d1
          have f2 := keepC d2
          have f3 := keepC d3
          clear c0 c1 c2 c3 d0 d1 d2 d3
          go_wp2_with fail
          refine wp_region_add (fun w' => Below (wr).heap.size (wr) w') (by kernel_rfl) (by kernel_rfl) ((Below.refl _ _).drew) ?_
          repeat (first
            | (refine add_skip rfl (fun K' hK' => ?_); go_simp; refine hK' _ ?_; clear hK' K')
            | (refine add_do (v := ?_) rfl (fun w1 hb => ?_) (fun K' hK' => ?_); rotate_left
               · go_simp
                 first
                 | (with_reducible exact rfl)
                 | (with_reducible exact ⟨rfl, hb⟩)
                 | (with_reducible exact (addCall (HA.out w1) hb).2)
                 | exact (addCall (HA.out w1) hb).2
                 | exact rfl
                 | exact ⟨rfl, hb⟩
               go_simp; refine hK' _ ?_; clear hK' K'))
          refine add_nil ?_
          intro wa hba
          go_wp2
          go_roundw
          case rel => exact ⟨k + 1, by omega, by go_num, HE, by have h3 := Hb.out; (repeat (first | (with_reducible exact Below.refl _ _) | (with_reducible assumption) | (with_reducible refine below_al ?_) | (with_reducible refine below_dr ?_) | (with_reducible refine below_drN ?_) | (with_reducible refine below_set ?_ (by first | exact Nat.le_refl _ | (dsimp only; omega) | omega)) | (with_reducible refine below_tr (by with_reducible assumption) ?_)))⟩
          case measure => simp [intOf]; omega
      · have hE := Lib.hid (eqTs_all HL.out (fun j h1 h2 => Hn.out j h1 h2 (by omega)))
        clear hx hy
        go_wp2
        go_ret
        exact ⟨ret_bool hE.out.symm, hb⟩
  · have hR := Lib.hid (eqTs_len hl)
    have hl' : ((xs.length : Int) != (ys.length : Int)) = true := by simp; omega
    clear hl
    go_enter Try.func25, Try.ntmps25
    go_wp2
    go_ret
    exact ⟨ret_bool hR.out.symm, Below.refl _ _⟩
def eqS (c : Int) (xs : List T4) (d : Int) (ys : List T4) : Bool := c == d && eqTs xs ys
set_option maxRecDepth 100000 in
set_option maxHeartbeats 1000000 in
theorem eqSet_c (c d : Int) (xs ys : List T4) (A B : Option Addr) (cx cy : Nat) (w : World) (hx : TileCells w A xs) (hy : TileCells w B ys) (lx : xs.length ≤ 1000000000) (ly : ys.length ≤ 1000000000) :
    Calls Try.prog 14 #[.agg #[.int .i64 c, .slice A xs.length cx], .agg #[.int .i64 d, .slice B ys.length cy]] w fun e w' => e = .returned (.bool (eqS c xs d ys)) ∧ Below w.heap.size w w' := by
  have HX := Lib.hid hx
  have HY := Lib.hid hy
  clear hx hy
  by_cases hc : c = d
  · have hc' : (c != d) = false := by simp [hc]
    have hR := Lib.hid (show eqS c xs d ys = eqTs xs ys from by simp [eqS, hc])
    clear hc
    cases hE : eqTs xs ys
    · have HA := Lib.hid (fun w hx hy => eqTileS_c xs ys A B cx cy w hx hy lx ly)
      rw [hE] at HA hR; clear hE
      go_enter Try.func14, Try.ntmps14
      go_wp2_with fail
      refine (HA.out _ (HX.out.below (by (repeat (first | (with_reducible exact Below.refl _ _) | (with_reducible assumption) | (with_reducible refine below_al ?_) | (with_reducible refine below_dr ?_) | (with_reducible refine below_drN ?_) | (with_reducible refine below_set ?_ (by first | exact Nat.le_refl _ | (dsimp only; omega) | omega)) | (with_reducible refine below_tr (by with_reducible assumption) ?_))))) (HY.out.below (by (repeat (first | (with_reducible exact Below.refl _ _) | (with_reducible assumption) | (with_reducible refine below_al ?_) | (with_reducible refine below_dr ?_) | (with_reducible refine below_drN ?_) | (with_reducible refine below_set ?_ (by first | exact Nat.le_refl _ | (dsimp only; omega) | omega)) | (with_reducible refine below_tr (by with_reducible assumption) ?_)))))).mono ?_
      rintro e w1 ⟨rfl, hb1⟩
      go_wp2
      go_ret
      exact ⟨ret_bool hR.out.symm, by (repeat (first | (with_reducible exact Below.refl _ _) | (with_reducible assumption) | (with_reducible refine below_al ?_) | (with_reducible refine below_dr ?_) | (with_reducible refine below_drN ?_) | (with_reducible refine below_set ?_ (by first | exact Nat.le_refl _ | (dsimp only; omega) | omega)) | (with_reducible refine below_tr (by with_reducible assumption) ?_)))⟩
    · have HA := Lib.hid (fun w hx hy => eqTileS_c xs ys A B cx cy w hx hy lx ly)
      rw [hE] at HA hR; clear hE
      go_enter Try.func14, Try.ntmps14
      go_wp2_with fail
      refine (HA.out _ (HX.out.below (by (repeat (first | (with_reducible exact Below.refl _ _) | (with_reducible assumption) | (with_reducible refine below_al ?_) | (with_reducible refine below_dr ?_) | (with_reducible refine below_drN ?_) | (with_reducible refine below_set ?_ (by first | exact Nat.le_refl _ | (dsimp only; omega) | omega)) | (with_reducible refine below_tr (by with_reducible assumption) ?_))))) (HY.out.below (by (repeat (first | (with_reducible exact Below.refl _ _) | (with_reducible assumption) | (with_reducible refine below_al ?_) | (with_reducible refine below_dr ?_) | (with_reducible refine below_drN ?_) | (with_reducible refine below_set ?_ (by first | exact Nat.le_refl _ | (dsimp only; omega) | omega)) | (with_reducible refine below_tr (by with_reducible assumption) ?_)))))).mono ?_
      rintro e w1 ⟨rfl, hb1⟩
      go_wp2
      go_ret
      exact ⟨ret_bool hR.out.symm, by (repeat (first | (with_reducible exact Below.refl _ _) | (with_reducible assumption) | (with_reducible refine below_al ?_) | (with_reducible refine below_dr ?_) | (with_reducible refine below_drN ?_) | (with_reducible refine below_set ?_ (by first | exact Nat.le_refl _ | (dsimp only; omega) | omega)) | (with_reducible refine below_tr (by with_reducible assumption) ?_)))⟩
  · have hc' : (c != d) = true := by simp [hc]
    have hR := Lib.hid (show eqS c xs d ys = false from by simp [eqS, hc])
    clear hc
    go_enter Try.func14, Try.ntmps14
    go_wp2
    go_ret
    exact ⟨ret_bool hR.out.symm, by (repeat (first | (with_reducible exact Below.refl _ _) | (with_reducible assumption) | (with_reducible refine below_al ?_) | (with_reducible refine below_dr ?_) | (with_reducible refine below_drN ?_) | (with_reducible refine below_set ?_ (by first | exact Nat.le_refl _ | (dsimp only; omega) | omega)) | (with_reducible refine below_tr (by with_reducible assumption) ?_)))⟩
end Go.Proofs.Ytfkmophmiiehlaa
