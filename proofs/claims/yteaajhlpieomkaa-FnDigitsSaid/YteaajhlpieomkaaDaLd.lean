/- Contracts and lemmas for the statements of this seat, written for this claim; each theorem states its own conditions. -/
import Derived.Test.YteaajhlpieomkaaDaDr
import Derived.Test.YteaajhlpieomkaaDaIl
import Derived.Test.YteaajhlpieomkaaDaIvS
set_option linter.unusedVariables false
set_option linter.unusedSimpArgs false
namespace Go.Proofs.Yteaajhlpieomkaa
open Go.RowKit
attribute [local go_sem] addUpon_value addUpon_skip addUpon_enter
theorem dig_no {a b p n : Int} (h : digCode a b p n ≠ 0) : digXs a b p n = [] := by
  unfold digCode at h
  unfold digXs
  split at h
  · exact absurd rfl h
  · rename_i h1; rw [if_neg h1]
theorem iv_b {xs : List Int} (h : xs.all (inR 0 5) = true) (hl : xs.length ≤ 20) : ∀ k, k ≤ xs.length → IvB (ivL xs k) ∧ IvB (ivH (6, 1) xs k)
  | 0, _ => ⟨by simp [ivL, IvB], by simp [ivH, IvB]⟩
  | k + 1, hk => by
    obtain ⟨i1, i2⟩ := iv_b h hl k (by omega)
    have hs := ivS_bound h (k + 1) hk
    exact ⟨ivLow_b i1 hs.1 (by omega) (by omega) (by omega), ivHigh_b i2 hs.1 (by omega) (by omega) (by omega)⟩
theorem iv_facts {xs : List Int} (h : ivCode xs = 0) : ∃ l h : Int × Int, ivLo xs = [l.1, l.2] ∧ ivHi xs = [h.1, h.2] ∧ IvB l ∧ IvB h ∧ l.1 * h.2 < h.1 * l.2 := by
  unfold ivCode at h
  by_cases h1 : ivOk xs = true
  · rw [if_pos h1] at h
    by_cases h2 : ivFlat xs = true
    · rw [if_pos h2] at h; exact absurd h (by decide)
    · have h3 := h1
      unfold ivOk at h3
      rw [Bool.and_eq_true] at h3
      have h4 := inR_iff.1 h3.1
      have hb := iv_b h3.2 (by omega) xs.length (Nat.le_refl _)
      refine ⟨ivL xs xs.length, ivH (6, 1) xs xs.length, by simp [ivLo, h1, h2], by simp [ivHi, h1, h2], hb.1, hb.2, ?_⟩
      unfold ivFlat at h2
      simp at h2
      rw [Int.mul_comm (ivL _ _).1]
      rw [Int.mul_comm (ivL _ _).1] at h2
      omega
  · rw [if_neg h1] at h; exact absurd h (by decide)
theorem car_facts {p q a b s n : Int} (h : carCode p q a b s n = 0) : ∃ m : Nat, n = m ∧ 1 ≤ m ∧ m ≤ 20 ∧ (carXs p q a b s n).length = m + 1 ∧ (s = 1 → (carXs p q a b s n).getD 0 0 = 0) ∧
    (∀ x ∈ carXs p q a b s n, 1 - p ≤ x ∧ x ≤ q - 1) ∧ (1 ≤ p ∧ p ≤ 3) ∧ (1 ≤ q ∧ q ≤ 3) ∧ 1 ≤ s ∧ s ≤ 1000 := by
  unfold carCode at h
  by_cases h1 : (factB p q && fracB a b && placesB s n) = true
  · have h2 := h1
    simp only [Bool.and_eq_true] at h2
    obtain ⟨⟨h3, h4⟩, h5⟩ := h2
    have h3 := factB_iff.1 h3
    have h4 := fracB_iff.1 h4
    have h5 := placesB_iff.1 h5
    obtain ⟨m, rfl⟩ := Int.eq_ofNat_of_zero_le (by omega : 0 ≤ n)
    have e : carXs p q a b s (m : Int) = cars p q a b (s - 1) (m + 1) := by unfold carXs; rw [if_pos h1]; simp
    rw [e]
    refine ⟨m, rfl, by omega, by omega, cars_len .., ?_, ?_, by omega, by omega, by omega, by omega⟩
    · intro hs; subst hs; simp [cars, carAt_zero]
    · intro x hx
      simp only [cars, List.mem_map, List.mem_range] at hx
      obtain ⟨j, hj, rfl⟩ := hx
      exact carAt_range (by omega) (by omega) (by omega) (by omega) (by omega)
  · rw [if_neg h1] at h; exact absurd h (by decide)
theorem dig_facts {a b p n : Int} (h : digCode a b p n = 0) : ∃ m : Nat, n = m ∧ 1 ≤ m ∧ m ≤ 20 ∧ (digXs a b p n).length = m ∧ (∀ x ∈ digXs a b p n, a / b ≤ x ∧ x ≤ a / b + 1) ∧ (0 ≤ a ∧ a ≤ 5 * b) ∧ (1 ≤ b ∧ b ≤ 20) ∧ (1 ≤ p ∧ p ≤ 1000) ∧
    (p = 1 → ivCode (digXs a b p n) = 0 ∧ ∃ l h : Int × Int, ivLo (digXs a b p n) = [l.1, l.2] ∧ ivHi (digXs a b p n) = [h.1, h.2] ∧ IvB l ∧ IvB h ∧ l.1 * b ≤ a * l.2 ∧ a * h.2 < h.1 * b) := by
  unfold digCode at h
  by_cases h1 : (fracB a b && placesB p n) = true
  · have h2 := h1
    simp only [Bool.and_eq_true] at h2
    obtain ⟨h4, h5⟩ := h2
    have h4 := fracB_iff.1 h4
    have h5 := placesB_iff.1 h5
    obtain ⟨m, rfl⟩ := Int.eq_ofNat_of_zero_le (by omega : 0 ≤ n)
    have e : digXs a b p (m : Int) = digs a b p m := by unfold digXs; rw [if_pos h1]; simp
    rw [e]
    have hr : ∀ x ∈ digs a b p m, a / b ≤ x ∧ x ≤ a / b + 1 := by
      intro x hx
      simp only [digs, List.mem_map, List.mem_range] at hx
      obtain ⟨j, hj, rfl⟩ := hx
      exact digAt_range (by omega)
    refine ⟨m, rfl, by omega, by omega, digs_len .., hr, by omega, by omega, by omega, ?_⟩
    intro hp; subst hp
    have hlen := digs_len a b 1 m
    have hi := iv_digs h4.2.1 h4.1.1 h4.2.2 m (digs a b 1 m).length (by omega)
    have ha := iv_apart h4.2.1 h4.1.1 hi.1 hi.2
    have hf : ivFlat (digs a b 1 m) = false := by
      unfold ivFlat
      simp only [decide_eq_false_iff_not]
      rw [Int.mul_comm (ivL _ _).1]
      rw [Int.mul_comm (ivL _ _).1] at ha
      omega
    have hall : (digs a b 1 m).all (inR 0 5) = true := by
      rw [List.all_eq_true]
      intro x hx
      simp only [digs, List.mem_map, List.mem_range] at hx
      obtain ⟨j, hj, rfl⟩ := hx
      refine inR_iff.2 ?_
      have h6 := digAt_range (a := a) (i := 1 + (j : Int)) h4.1.1
      have h7 : 0 ≤ a / b := Int.ediv_nonneg h4.2.1 (by omega)
      by_cases h8 : a = 5 * b
      · subst h8
        have h9 : digAt (5 * b) b (1 + (j : Int)) = 5 := by
          unfold digAt
          rw [← Int.mul_assoc, ← Int.mul_assoc, Int.mul_ediv_cancel _ (by omega), Int.mul_ediv_cancel _ (by omega)]
          omega
        omega
      · have h9 : a / b < 5 := by
          apply Int.ediv_lt_of_lt_mul (by omega); omega
        omega
    have hok : ivOk (digs a b 1 m) = true := by
      unfold ivOk
      rw [hall, Bool.and_true]
      exact inR_iff.2 (by omega)
    have hy := ivOk_yes hok
    rw [hf] at hy
    have hb := iv_b hall (by omega) (digs a b 1 m).length (Nat.le_refl _)
    exact ⟨hy.1, _, _, hy.2.1, hy.2.2, hb.1, hb.2, hi.1.2, hi.2.2⟩
  · rw [if_neg h1] at h; exact absurd h (by decide)
theorem digXs_le (a b p n : Int) : (digXs a b p n).length ≤ 1000 := by
  unfold digXs; split
  · rename_i h
    simp only [Bool.and_eq_true, placesB_iff] at h
    simp [digs]; omega
  · simp
theorem carXs_le (p q a b s n : Int) : (carXs p q a b s n).length ≤ 1000 := by
  unfold carXs; split
  · rename_i h
    simp only [Bool.and_eq_true, placesB_iff] at h
    simp [cars]; omega
  · simp
theorem eqL_refl (xs : List Int) : eqL xs xs = true := by simp [eqL]
theorem big_c (n cx : Nat) (A : Option Addr) (w : World) (hl : n ≤ 9223372036854775807) : Calls Try.prog 4 #[.slice A n cx] w fun e w' => e = .returned (.bool (decide ((n : Int) > 4096))) ∧ w = w' := by
  go_enter Try.func4, Try.ntmps4
  go_wp2
  go_ret
  exact ⟨rfl, rfl⟩
set_option maxRecDepth 100000 in
set_option maxHeartbeats 8000000 in
theorem law_FnDigits (code : List Int) (A : Option Addr) (cx : Nat) (w : World) (hX : BytesC w A code) (hl : code.length ≤ 9223372036854775807) (hby : ∀ x ∈ code, 0 ≤ x ∧ x < 256) :
    Calls Try.prog 3 #[.slice A code.length cx] w fun e w' => e = .returned (.bool true) ∧ Below w.heap.size w w' := by
  have H0 := Lib.hid (big_c code.length cx A w hl)
  by_cases hbig : (code.length : Int) > 4096
  · rw [show decide ((code.length : Int) > 4096) = true by simp [hbig]] at H0
    go_enter Try.func3, Try.ntmps3
    go_wp2_with fail
    refine H0.out.mono ?_
    rintro e w1 ⟨rfl, rfl⟩
    go_wp2
    go_ret
    exact ⟨rfl, Below.refl _ _⟩
  · rw [show decide ((code.length : Int) > 4096) = false by simp [hbig]] at H0
    have HX := Lib.hid hX
    have HY := Lib.hid (show BytesOk code from ⟨by omega, hby⟩)
    clear hX hby hbig hl
    go_enter Try.func3, Try.ntmps3
    go_wp2_with fail
    refine H0.out.mono ?_
    rintro e w0 ⟨rfl, rfl⟩
    clear H0
    go_wp2_with fail
    refine (DrawDigitsOf_c A cx code _ HX.out HY.out).mono ?_
    rintro e w1 ⟨a, b, p, n, rfl, hb⟩
    have HB := Lib.hid hb
    have HI := Lib.hid (fun w => implDigitsOf_c a b p n w)
    have HS := Lib.hid (fun w => specDigitsOf_c a b p n w)
    have D0 := Lib.hid (dig_no (a := a) (b := b) (p := p) (n := n))
    have D1 := Lib.hid (dig_facts (a := a) (b := b) (p := p) (n := n))
    have ld := digXs_le a b p n
    generalize digXs a b p n = dx at *
    generalize digCode a b p n = dc at *
    have hdc : (dc != dc) = false := by simp
    clear hb
    go_wp2_with fail
    refine (HI.out _).mono ?_
    rintro e w2 ⟨v1, rfl, hO, hb⟩
    obtain ⟨A1, k1, rfl, _, _⟩ := hO.shape
    have HO1 := Lib.hid hO.cells
    replace HB := Lib.hid (HB.out.trans (hb.mono HB.out.size))
    clear hO hb HI
    go_wp2_with fail
    refine (HS.out _).mono ?_
    rintro e w3 ⟨v2, rfl, hO, hb⟩
    obtain ⟨A2, k2, rfl, _, _⟩ := hO.shape
    have HO2 := Lib.hid hO.cells
    replace HO1 := Lib.hid (HO1.out.below hb)
    replace HB := Lib.hid (HB.out.trans (hb.mono HB.out.size))
    clear hO hb HS
    go_wp2_with fail
    refine (likeInts_c dx dx A1 A2 k1 k2 _ HO1.out HO2.out (by omega) (by omega)).mono ?_
    rintro e w4 ⟨rfl, hb⟩
    rw [eqL_refl]
    replace HO1 := Lib.hid (HO1.out.below hb)
    replace HB := Lib.hid (HB.out.trans (hb.mono HB.out.size))
    clear hb HO2 hdc
    go_wp2_with fail
    refine (DrawIntervalOf_c A cx code _ (HX.out.below HB.out) HY.out).mono ?_
    rintro e w5 ⟨v3, xs, rfl, hO, hxs, hb⟩
    obtain ⟨A3, k3, rfl, _, _⟩ := hO.shape
    have HO3 := Lib.hid hO.cells
    replace HO1 := Lib.hid (HO1.out.below hb)
    replace HB := Lib.hid (HB.out.trans (hb.mono HB.out.size))
    have HI := Lib.hid (fun A cx w h => implIntervalOf_c xs A cx w h (by omega))
    have HS := Lib.hid (fun A cx w h => specIntervalOf_c xs A cx w h (by omega))
    have I1 := Lib.hid (iv_facts (xs := xs))
    have ll := ivLo_len xs
    have lh := ivHi_len xs
    generalize ivLo xs = lo at *
    generalize ivHi xs = hi at *
    generalize ivCode xs = ic at *
    have hic : (ic != ic) = false := by simp
    clear hb hO hxs
    go_wp2_with fail
    refine (HI.out _ _ _ HO3.out).mono ?_
    rintro e w6 ⟨v4, v5, rfl, hO4, hO5, _, hb⟩
    obtain ⟨A4, k4, rfl, _, _⟩ := hO4.shape
    obtain ⟨A5, k5, rfl, _, _⟩ := hO5.shape
    have HO4 := Lib.hid hO4.cells
    have HO5 := Lib.hid hO5.cells
    replace HO1 := Lib.hid (HO1.out.below hb)
    replace HO3 := Lib.hid (HO3.out.below hb)
    replace HB := Lib.hid (HB.out.trans (hb.mono HB.out.size))
    clear hb hO4 hO5 HI
    go_wp2_with fail
    refine (HS.out _ _ _ HO3.out).mono ?_
    rintro e w7 ⟨v6, v7, rfl, hO6, hO7, _, hb⟩
    obtain ⟨A6, k6, rfl, _, _⟩ := hO6.shape
    obtain ⟨A7, k7, rfl, _, _⟩ := hO7.shape
    have HO6 := Lib.hid hO6.cells
    have HO7 := Lib.hid hO7.cells
    replace HO1 := Lib.hid (HO1.out.below hb)
    replace HO4 := Lib.hid (HO4.out.below hb)
    replace HO5 := Lib.hid (HO5.out.below hb)
    replace HB := Lib.hid (HB.out.trans (hb.mono HB.out.size))
    clear hb hO6 hO7 HS HO3
    go_wp2_with fail
    refine (likeInts_c lo lo A4 A6 k4 k6 _ HO4.out HO6.out (by omega) (by omega)).mono ?_
    rintro e w8 ⟨rfl, hb⟩
    rw [eqL_refl]
    replace HO1 := Lib.hid (HO1.out.below hb)
    replace HO4 := Lib.hid (HO4.out.below hb)
    replace HO5 := Lib.hid (HO5.out.below hb)
    replace HO7 := Lib.hid (HO7.out.below hb)
    replace HB := Lib.hid (HB.out.trans (hb.mono HB.out.size))
    clear hb HO6
    go_wp2_with fail
    refine (likeInts_c hi hi A5 A7 k5 k7 _ HO5.out HO7.out (by omega) (by omega)).mono ?_
    rintro e w9 ⟨rfl, hb⟩
    rw [eqL_refl]
    replace HO1 := Lib.hid (HO1.out.below hb)
    replace HO4 := Lib.hid (HO4.out.below hb)
    replace HO5 := Lib.hid (HO5.out.below hb)
    replace HB := Lib.hid (HB.out.trans (hb.mono HB.out.size))
    clear hb HO7 hic
    go_wp2_with fail
    refine (DrawCarriesOf_c A cx code _ (HX.out.below HB.out) HY.out).mono ?_
    rintro e w10 ⟨pp, qq, aa, bb, ss, nn, rfl, hb⟩
    replace HO1 := Lib.hid (HO1.out.below hb)
    replace HO4 := Lib.hid (HO4.out.below hb)
    replace HO5 := Lib.hid (HO5.out.below hb)
    replace HB := Lib.hid (HB.out.trans (hb.mono HB.out.size))
    have HI := Lib.hid (fun w => implCarriesOf_c pp qq aa bb ss nn w)
    have HS := Lib.hid (fun w => specCarriesOf_c pp qq aa bb ss nn w)
    have C1 := Lib.hid (car_facts (p := pp) (q := qq) (a := aa) (b := bb) (s := ss) (n := nn))
    have lc := carXs_le pp qq aa bb ss nn
    generalize carXs pp qq aa bb ss nn = cs at *
    generalize carCode pp qq aa bb ss nn = cc at *
    have hcc : (cc != cc) = false := by simp
    clear hb
    go_wp2_with fail
    refine (HI.out _).mono ?_
    rintro e w11 ⟨v8, rfl, hO, hb⟩
    obtain ⟨A8, k8, rfl, _, _⟩ := hO.shape
    have HO8 := Lib.hid hO.cells
    replace HO1 := Lib.hid (HO1.out.below hb)
    replace HO4 := Lib.hid (HO4.out.below hb)
    replace HO5 := Lib.hid (HO5.out.below hb)
    replace HB := Lib.hid (HB.out.trans (hb.mono HB.out.size))
    clear hO hb HI
    go_wp2_with fail
    refine (HS.out _).mono ?_
    rintro e w12 ⟨v9, rfl, hO, hb⟩
    obtain ⟨A9, k9, rfl, _, _⟩ := hO.shape
    have HO9 := Lib.hid hO.cells
    replace HO1 := Lib.hid (HO1.out.below hb)
    replace HO4 := Lib.hid (HO4.out.below hb)
    replace HO5 := Lib.hid (HO5.out.below hb)
    replace HO8 := Lib.hid (HO8.out.below hb)
    replace HB := Lib.hid (HB.out.trans (hb.mono HB.out.size))
    clear hO hb HS
    go_wp2_with fail
    refine (likeInts_c cs cs A8 A9 k8 k9 _ HO8.out HO9.out (by omega) (by omega)).mono ?_
    rintro e w13 ⟨rfl, hb⟩
    rw [eqL_refl]
    replace HO1 := Lib.hid (HO1.out.below hb)
    replace HO4 := Lib.hid (HO4.out.below hb)
    replace HO5 := Lib.hid (HO5.out.below hb)
    replace HO8 := Lib.hid (HO8.out.below hb)
    replace HB := Lib.hid (HB.out.trans (hb.mono HB.out.size))
    clear hb HO9 hcc
    generalize w13 = w14 at *
    by_cases hcc : cc = 0
    · subst hcc
      obtain ⟨m, rfl, m1, m2, m3, m4, m5, ⟨p1, p2⟩, ⟨q1, q2⟩, s1, s2⟩ := C1.out rfl
      have hcl : ((cs.length : Int) != (m : Int) + 1) = false := by simp; omega
      have hcl2 : 0 < cs.length := by omega
      have hcl3 : cs.length ≤ 21 := by omega
      have M5 := Lib.hid (fun (j : Nat) (h : j < cs.length) => m5 _ (List.getElem_mem h))
      obtain ⟨b8, o8, rfl, _, c8⟩ := HO8.out.int 0 (by omega)
      have hs1 : ss ≠ 1 ∨ (ss = 1 ∧ cs[0] = 0) := by
        by_cases h : ss = 1
        · right; refine ⟨h, ?_⟩; have := m4 h; simpa [show 0 < cs.length by omega] using this
        · exact .inl h
      replace m3 := Lib.hid m3
      clear m4 m5
      rw [Nat.add_zero] at c8
      generalize hcs0 : cs[0] = y0 at *
      clear hcs0
      rcases hs1 with hs1 | ⟨rfl, rfl⟩
      · replace hs1 : (ss == 1) = false := by simp [hs1]
        go_wp2_with fail
        go_loop [28] (fun i => ∃ k : Nat, k ≤ cs.length ∧ i = .int .i64 k) (fun i => cs.length - (intOf i).toNat)
        case atStart => exact ⟨0, by omega, rfl⟩
        case round =>
          obtain ⟨k, hk, rfl⟩ := hrel
          by_cases h1 : k < cs.length
          · obtain ⟨bq, off, e8, _, c0⟩ := HO8.out.int k h1
            injection e8 with e8; injection e8 with e8 e9; subst e8 e9
            obtain ⟨z1, z2⟩ := M5.out k h1
            generalize cs[k] = y at *
            go_wp2
            go_round
            case rel => exact ⟨k + 1, by omega, by go_num⟩
            case measure => simp [intOf]; omega
          · obtain rfl : k = cs.length := by omega
            go_wp2_with fail
            by_cases hdc : dc = 0
            · subst hdc
              obtain ⟨md, rfl, d1, d2, d3, D2, ⟨d4, d5⟩, ⟨d6, d7⟩, ⟨d8, d9⟩, D3⟩ := D1.out rfl
              have hdl : ((dx.length : Int) != (md : Int)) = false := by simp; omega
              have hdl2 : dx.length ≤ 20 := by omega
              replace d3 := Lib.hid d3
              have e2 : 0 ≤ a / b := Int.ediv_nonneg d4 (by omega)
              have e3 : a / b ≤ 5 := by have : a / b < 6 := Int.ediv_lt_of_lt_mul (by omega) (by omega); omega
              have hbz : ¬ b = 0 := by omega
              replace D2 := Lib.hid (fun (j : Nat) (h : j < dx.length) => D2 _ (List.getElem_mem h))
              replace D3 := Lib.hid D3
              by_cases hic : ic = 0
              · subst hic
                obtain ⟨⟨l, l'⟩, ⟨h, h'⟩, rfl, rfl, ⟨l1, l2, l3, l4⟩, ⟨h1, h2, h3, h4⟩, hlh⟩ := I1.out rfl
                dsimp only at *
                obtain ⟨b4, o4, rfl, _, c40⟩ := HO4.out.int 0 (by simp)
                obtain ⟨b4', o4', e4, _, c41⟩ := HO4.out.int 1 (by simp)
                injection e4 with e4; injection e4 with e4 e4'; subst e4 e4'
                obtain ⟨b5, o5, rfl, _, c50⟩ := HO5.out.int 0 (by simp)
                obtain ⟨b5', o5', e5, _, c51⟩ := HO5.out.int 1 (by simp)
                injection e5 with e5; injection e5 with e5 e5'; subst e5 e5'
                simp only [List.getElem_cons_zero, List.getElem_cons_succ, Nat.add_zero] at c40 c41 c50 c51
                have y1 : IntKind.i64.wrap (l * h') = l * h' := mulw (by omega) (by omega) (by omega) (by omega)
                have y2 : IntKind.i64.wrap (h * l') = h * l' := mulw (by omega) (by omega) (by omega) (by omega)
                repeat (go_quiet (fail); try go_wp2_with fail)
                go_loopw [29] (fun i wr => ∃ k : Nat, k ≤ dx.length ∧ i = .int .i64 k ∧ Hid (Cells wr A1 (ints dx)) ∧ Hid (Below w.heap.size w wr)) (fun i _ => dx.length - (intOf i).toNat)
                case atStart => exact ⟨0, by omega, rfl, Lib.hid (HO1.out.below (by (repeat (first | (with_reducible exact Below.refl _ _) | (with_reducible assumption) | (with_reducible refine below_al ?_) | (with_reducible refine below_dr ?_) | (with_reducible refine below_drN ?_) | (with_reducible refine below_set ?_ (by first | exact Nat.le_refl _ | (dsimp only; omega) | omega)) | (with_reducible refine below_tr (by with_reducible assumption) ?_))))), Lib.hid (by have h3 := HB.out; (repeat (first | (with_reducible exact Below.refl _ _) | (with_reducible assumption) | (with_reducible refine below_al ?_) | (with_reducible refine below_dr ?_) | (with_reducible refine below_drN ?_) | (with_reducible refine below_set ?_ (by first | exact Nat.le_refl _ | (dsimp only; omega) | omega)) | (with_reducible refine below_tr (by with_reducible assumption) ?_))))⟩
                case round =>
                  obtain ⟨k, hk, rfl, HO, HBw⟩ := hrel
                  by_cases h1 : k < dx.length
                  · obtain ⟨bq, off, rfl, hlt, c0⟩ := HO.out.int k h1
                    obtain ⟨z1, z2⟩ := D2.out k h1
                    generalize dx[k] = y at *
                    have hq : IntKind.i64.wrap (a.tdiv b) = a / b := IntWalk.i64_quo _ _ (by omega)
                    have hq2 : IntKind.i64.wrap (a / b + 1) = a / b + 1 := IntWalk.i64_in _ (by omega)
                    have z3 : decide (y < a / b) = false := by simp; omega
                    have z4 : decide (y > a / b + 1) = false := by simp; omega
                    go_wp2_with fail
                    have e0 := keepC c0
                    refine wp_region_add (fun w' => Below (wr).heap.size (wr) w') (by kernel_rfl) (by kernel_rfl) ((Below.refl _ _).drew) ?_
                    repeat (first
                      | (refine add_skip rfl (fun K' hK' => ?_); go_simp; refine hK' _ ?_; clear hK' K')
                      | (refine add_do (v := ?_) rfl (fun w1 hb => ?_) (fun K' hK' => ?_); rotate_left
                         · go_simp
                           first
                           | (with_reducible exact rfl)
                           | (with_reducible exact ⟨rfl, hb⟩)
                           | exact rfl
                           | exact ⟨rfl, hb⟩
                         go_simp; refine hK' _ ?_; clear hK' K'))
                    refine add_nil ?_
                    intro wa hba
                    go_wp2_with fail
                    go_roundw
                    case rel => exact ⟨k + 1, by omega, by go_num, Lib.hid (HO.out.below (by (repeat (first | (with_reducible exact Below.refl _ _) | (with_reducible assumption) | (with_reducible refine below_al ?_) | (with_reducible refine below_dr ?_) | (with_reducible refine below_drN ?_) | (with_reducible refine below_set ?_ (by first | exact Nat.le_refl _ | (dsimp only; omega) | omega)) | (with_reducible refine below_tr (by with_reducible assumption) ?_))))), Lib.hid (by have h3 := HBw.out; (repeat (first | (with_reducible exact Below.refl _ _) | (with_reducible assumption) | (with_reducible refine below_al ?_) | (with_reducible refine below_dr ?_) | (with_reducible refine below_drN ?_) | (with_reducible refine below_set ?_ (by first | exact Nat.le_refl _ | (dsimp only; omega) | omega)) | (with_reducible refine below_tr (by with_reducible assumption) ?_))))⟩
                    case measure => simp [intOf]; omega
                  · obtain rfl : k = dx.length := by omega
                    by_cases hp : 1 < p
                    · clear D3
                      go_wp2_with fail
                      go_ret
                      exact ⟨rfl, HBw.out⟩
                    · obtain rfl : p = 1 := by omega
                      obtain ⟨hiv, ⟨l, l'⟩, ⟨h, h'⟩, hl1, hh1, ⟨l1, l2, l3, l4⟩, ⟨h1, h2, h3, h4⟩, z1, z2⟩ := D3.out rfl
                      dsimp only at *
                      have HQ := Lib.hid (implIntervalOf_c dx _ k1 _ HO.out (by omega))
                      rw [hiv, hl1, hh1] at HQ
                      clear hiv hl1 hh1
                      go_wp2_with fail
                      refine HQ.out.mono ?_
                      rintro e wz ⟨v4, v5, rfl, hO4, hO5, _, hb⟩
                      obtain ⟨g4, x4, rfl, _, _, c40, c41⟩ := hO4.two
                      obtain ⟨g5, x5, rfl, _, _, c50, c51⟩ := hO5.two
                      have y1 : IntKind.i64.wrap (l * b) = l * b := mulw (by omega) (by omega) (by omega) (by omega)
                      have y2 : IntKind.i64.wrap (a * l') = a * l' := mulw (by omega) (by omega) (by omega) (by omega)
                      have y3 : IntKind.i64.wrap (a * h') = a * h' := mulw (by omega) (by omega) (by omega) (by omega)
                      have y4 : IntKind.i64.wrap (h * b) = h * b := mulw (by omega) (by omega) (by omega) (by omega)
                      have HBz := Lib.hid (HBw.out.trans (hb.mono HBw.out.size))
                      clear hb hO4 hO5
                      go_wp2_with fail
                      repeat (go_quiet (fail); try go_wp2_with fail)
                      go_ret
                      exact ⟨rfl, by have h3 := HBz.out; (repeat (first | (with_reducible exact Below.refl _ _) | (with_reducible assumption) | (with_reducible refine below_al ?_) | (with_reducible refine below_dr ?_) | (with_reducible refine below_drN ?_) | (with_reducible refine below_set ?_ (by first | exact Nat.le_refl _ | (dsimp only; omega) | omega)) | (with_reducible refine below_tr (by with_reducible assumption) ?_)))⟩
              · replace hic : (ic == 0) = false := by simp [hic]
                repeat (go_quiet (fail); try go_wp2_with fail)
                go_loopw [29] (fun i wr => ∃ k : Nat, k ≤ dx.length ∧ i = .int .i64 k ∧ Hid (Cells wr A1 (ints dx)) ∧ Hid (Below w.heap.size w wr)) (fun i _ => dx.length - (intOf i).toNat)
                case atStart => exact ⟨0, by omega, rfl, Lib.hid (HO1.out.below (by (repeat (first | (with_reducible exact Below.refl _ _) | (with_reducible assumption) | (with_reducible refine below_al ?_) | (with_reducible refine below_dr ?_) | (with_reducible refine below_drN ?_) | (with_reducible refine below_set ?_ (by first | exact Nat.le_refl _ | (dsimp only; omega) | omega)) | (with_reducible refine below_tr (by with_reducible assumption) ?_))))), Lib.hid (by have h3 := HB.out; (repeat (first | (with_reducible exact Below.refl _ _) | (with_reducible assumption) | (with_reducible refine below_al ?_) | (with_reducible refine below_dr ?_) | (with_reducible refine below_drN ?_) | (with_reducible refine below_set ?_ (by first | exact Nat.le_refl _ | (dsimp only; omega) | omega)) | (with_reducible refine below_tr (by with_reducible assumption) ?_))))⟩
                case round =>
                  obtain ⟨k, hk, rfl, HO, HBw⟩ := hrel
                  by_cases h1 : k < dx.length
                  · obtain ⟨bq, off, rfl, hlt, c0⟩ := HO.out.int k h1
                    obtain ⟨z1, z2⟩ := D2.out k h1
                    generalize dx[k] = y at *
                    have hq : IntKind.i64.wrap (a.tdiv b) = a / b := IntWalk.i64_quo _ _ (by omega)
                    have hq2 : IntKind.i64.wrap (a / b + 1) = a / b + 1 := IntWalk.i64_in _ (by omega)
                    have z3 : decide (y < a / b) = false := by simp; omega
                    have z4 : decide (y > a / b + 1) = false := by simp; omega
                    go_wp2_with fail
                    have e0 := keepC c0
                    refine wp_region_add (fun w' => Below (wr).heap.size (wr) w') (by kernel_rfl) (by kernel_rfl) ((Below.refl _ _).drew) ?_
                    repeat (first
                      | (refine add_skip rfl (fun K' hK' => ?_); go_simp; refine hK' _ ?_; clear hK' K')
                      | (refine add_do (v := ?_) rfl (fun w1 hb => ?_) (fun K' hK' => ?_); rotate_left
                         · go_simp
                           first
                           | (with_reducible exact rfl)
                           | (with_reducible exact ⟨rfl, hb⟩)
                           | exact rfl
                           | exact ⟨rfl, hb⟩
                         go_simp; refine hK' _ ?_; clear hK' K'))
                    refine add_nil ?_
                    intro wa hba
                    go_wp2_with fail
                    go_roundw
                    case rel => exact ⟨k + 1, by omega, by go_num, Lib.hid (HO.out.below (by (repeat (first | (with_reducible exact Below.refl _ _) | (with_reducible assumption) | (with_reducible refine below_al ?_) | (with_reducible refine below_dr ?_) | (with_reducible refine below_drN ?_) | (with_reducible refine below_set ?_ (by first | exact Nat.le_refl _ | (dsimp only; omega) | omega)) | (with_reducible refine below_tr (by with_reducible assumption) ?_))))), Lib.hid (by have h3 := HBw.out; (repeat (first | (with_reducible exact Below.refl _ _) | (with_reducible assumption) | (with_reducible refine below_al ?_) | (with_reducible refine below_dr ?_) | (with_reducible refine below_drN ?_) | (with_reducible refine below_set ?_ (by first | exact Nat.le_refl _ | (dsimp only; omega) | omega)) | (with_reducible refine below_tr (by with_reducible assumption) ?_))))⟩
                    case measure => simp [intOf]; omega
                  · obtain rfl : k = dx.length := by omega
                    by_cases hp : 1 < p
                    · clear D3
                      go_wp2_with fail
                      go_ret
                      exact ⟨rfl, HBw.out⟩
                    · obtain rfl : p = 1 := by omega
                      obtain ⟨hiv, ⟨l, l'⟩, ⟨h, h'⟩, hl1, hh1, ⟨l1, l2, l3, l4⟩, ⟨h1, h2, h3, h4⟩, z1, z2⟩ := D3.out rfl
                      dsimp only at *
                      have HQ := Lib.hid (implIntervalOf_c dx _ k1 _ HO.out (by omega))
                      rw [hiv, hl1, hh1] at HQ
                      clear hiv hl1 hh1
                      go_wp2_with fail
                      refine HQ.out.mono ?_
                      rintro e wz ⟨v4, v5, rfl, hO4, hO5, _, hb⟩
                      obtain ⟨g4, x4, rfl, _, _, c40, c41⟩ := hO4.two
                      obtain ⟨g5, x5, rfl, _, _, c50, c51⟩ := hO5.two
                      have y1 : IntKind.i64.wrap (l * b) = l * b := mulw (by omega) (by omega) (by omega) (by omega)
                      have y2 : IntKind.i64.wrap (a * l') = a * l' := mulw (by omega) (by omega) (by omega) (by omega)
                      have y3 : IntKind.i64.wrap (a * h') = a * h' := mulw (by omega) (by omega) (by omega) (by omega)
                      have y4 : IntKind.i64.wrap (h * b) = h * b := mulw (by omega) (by omega) (by omega) (by omega)
                      have HBz := Lib.hid (HBw.out.trans (hb.mono HBw.out.size))
                      clear hb hO4 hO5
                      go_wp2_with fail
                      repeat (go_quiet (fail); try go_wp2_with fail)
                      go_ret
                      exact ⟨rfl, by have h3 := HBz.out; (repeat (first | (with_reducible exact Below.refl _ _) | (with_reducible assumption) | (with_reducible refine below_al ?_) | (with_reducible refine below_dr ?_) | (with_reducible refine below_drN ?_) | (with_reducible refine below_set ?_ (by first | exact Nat.le_refl _ | (dsimp only; omega) | omega)) | (with_reducible refine below_tr (by with_reducible assumption) ?_)))⟩
            · obtain rfl := D0.out hdc
              replace hdc : (dc != 0) = true := by simp [hdc]
              by_cases hic : ic = 0
              · subst hic
                obtain ⟨⟨l, l'⟩, ⟨h, h'⟩, rfl, rfl, ⟨l1, l2, l3, l4⟩, ⟨h1, h2, h3, h4⟩, hlh⟩ := I1.out rfl
                dsimp only at *
                obtain ⟨b4, o4, rfl, _, c40⟩ := HO4.out.int 0 (by simp)
                obtain ⟨b4', o4', e4, _, c41⟩ := HO4.out.int 1 (by simp)
                injection e4 with e4; injection e4 with e4 e4'; subst e4 e4'
                obtain ⟨b5, o5, rfl, _, c50⟩ := HO5.out.int 0 (by simp)
                obtain ⟨b5', o5', e5, _, c51⟩ := HO5.out.int 1 (by simp)
                injection e5 with e5; injection e5 with e5 e5'; subst e5 e5'
                simp only [List.getElem_cons_zero, List.getElem_cons_succ, Nat.add_zero] at c40 c41 c50 c51
                have y1 : IntKind.i64.wrap (l * h') = l * h' := mulw (by omega) (by omega) (by omega) (by omega)
                have y2 : IntKind.i64.wrap (h * l') = h * l' := mulw (by omega) (by omega) (by omega) (by omega)
                repeat (go_quiet (fail); try go_wp2_with fail)
                go_ret
                exact ⟨rfl, by have h3 := HB.out; (repeat (first | (with_reducible exact Below.refl _ _) | (with_reducible assumption) | (with_reducible refine below_al ?_) | (with_reducible refine below_dr ?_) | (with_reducible refine below_drN ?_) | (with_reducible refine below_set ?_ (by first | exact Nat.le_refl _ | (dsimp only; omega) | omega)) | (with_reducible refine below_tr (by with_reducible assumption) ?_)))⟩
              · replace hic : (ic == 0) = false := by simp [hic]
                repeat (go_quiet (fail); try go_wp2_with fail)
                go_ret
                exact ⟨rfl, by have h3 := HB.out; (repeat (first | (with_reducible exact Below.refl _ _) | (with_reducible assumption) | (with_reducible refine below_al ?_) | (with_reducible refine below_dr ?_) | (with_reducible refine below_drN ?_) | (with_reducible refine below_set ?_ (by first | exact Nat.le_refl _ | (dsimp only; omega) | omega)) | (with_reducible refine below_tr (by with_reducible assumption) ?_)))⟩
      · go_wp2_with fail
        go_loop [28] (fun i => ∃ k : Nat, k ≤ cs.length ∧ i = .int .i64 k) (fun i => cs.length - (intOf i).toNat)
        case atStart => exact ⟨0, by omega, rfl⟩
        case round =>
          obtain ⟨k, hk, rfl⟩ := hrel
          by_cases h1 : k < cs.length
          · obtain ⟨bq, off, e8, _, c0⟩ := HO8.out.int k h1
            injection e8 with e8; injection e8 with e8 e9; subst e8 e9
            obtain ⟨z1, z2⟩ := M5.out k h1
            generalize cs[k] = y at *
            go_wp2
            go_round
            case rel => exact ⟨k + 1, by omega, by go_num⟩
            case measure => simp [intOf]; omega
          · obtain rfl : k = cs.length := by omega
            go_wp2_with fail
            by_cases hdc : dc = 0
            · subst hdc
              obtain ⟨md, rfl, d1, d2, d3, D2, ⟨d4, d5⟩, ⟨d6, d7⟩, ⟨d8, d9⟩, D3⟩ := D1.out rfl
              have hdl : ((dx.length : Int) != (md : Int)) = false := by simp; omega
              have hdl2 : dx.length ≤ 20 := by omega
              replace d3 := Lib.hid d3
              have e2 : 0 ≤ a / b := Int.ediv_nonneg d4 (by omega)
              have e3 : a / b ≤ 5 := by have : a / b < 6 := Int.ediv_lt_of_lt_mul (by omega) (by omega); omega
              have hbz : ¬ b = 0 := by omega
              replace D2 := Lib.hid (fun (j : Nat) (h : j < dx.length) => D2 _ (List.getElem_mem h))
              replace D3 := Lib.hid D3
              by_cases hic : ic = 0
              · subst hic
                obtain ⟨⟨l, l'⟩, ⟨h, h'⟩, rfl, rfl, ⟨l1, l2, l3, l4⟩, ⟨h1, h2, h3, h4⟩, hlh⟩ := I1.out rfl
                dsimp only at *
                obtain ⟨b4, o4, rfl, _, c40⟩ := HO4.out.int 0 (by simp)
                obtain ⟨b4', o4', e4, _, c41⟩ := HO4.out.int 1 (by simp)
                injection e4 with e4; injection e4 with e4 e4'; subst e4 e4'
                obtain ⟨b5, o5, rfl, _, c50⟩ := HO5.out.int 0 (by simp)
                obtain ⟨b5', o5', e5, _, c51⟩ := HO5.out.int 1 (by simp)
                injection e5 with e5; injection e5 with e5 e5'; subst e5 e5'
                simp only [List.getElem_cons_zero, List.getElem_cons_succ, Nat.add_zero] at c40 c41 c50 c51
                have y1 : IntKind.i64.wrap (l * h') = l * h' := mulw (by omega) (by omega) (by omega) (by omega)
                have y2 : IntKind.i64.wrap (h * l') = h * l' := mulw (by omega) (by omega) (by omega) (by omega)
                repeat (go_quiet (fail); try go_wp2_with fail)
                go_loopw [29] (fun i wr => ∃ k : Nat, k ≤ dx.length ∧ i = .int .i64 k ∧ Hid (Cells wr A1 (ints dx)) ∧ Hid (Below w.heap.size w wr)) (fun i _ => dx.length - (intOf i).toNat)
                case atStart => exact ⟨0, by omega, rfl, Lib.hid (HO1.out.below (by (repeat (first | (with_reducible exact Below.refl _ _) | (with_reducible assumption) | (with_reducible refine below_al ?_) | (with_reducible refine below_dr ?_) | (with_reducible refine below_drN ?_) | (with_reducible refine below_set ?_ (by first | exact Nat.le_refl _ | (dsimp only; omega) | omega)) | (with_reducible refine below_tr (by with_reducible assumption) ?_))))), Lib.hid (by have h3 := HB.out; (repeat (first | (with_reducible exact Below.refl _ _) | (with_reducible assumption) | (with_reducible refine below_al ?_) | (with_reducible refine below_dr ?_) | (with_reducible refine below_drN ?_) | (with_reducible refine below_set ?_ (by first | exact Nat.le_refl _ | (dsimp only; omega) | omega)) | (with_reducible refine below_tr (by with_reducible assumption) ?_))))⟩
                case round =>
                  obtain ⟨k, hk, rfl, HO, HBw⟩ := hrel
                  by_cases h1 : k < dx.length
                  · obtain ⟨bq, off, rfl, hlt, c0⟩ := HO.out.int k h1
                    obtain ⟨z1, z2⟩ := D2.out k h1
                    generalize dx[k] = y at *
                    have hq : IntKind.i64.wrap (a.tdiv b) = a / b := IntWalk.i64_quo _ _ (by omega)
                    have hq2 : IntKind.i64.wrap (a / b + 1) = a / b + 1 := IntWalk.i64_in _ (by omega)
                    have z3 : decide (y < a / b) = false := by simp; omega
                    have z4 : decide (y > a / b + 1) = false := by simp; omega
                    go_wp2_with fail
                    have e0 := keepC c0
                    refine wp_region_add (fun w' => Below (wr).heap.size (wr) w') (by kernel_rfl) (by kernel_rfl) ((Below.refl _ _).drew) ?_
                    repeat (first
                      | (refine add_skip rfl (fun K' hK' => ?_); go_simp; refine hK' _ ?_; clear hK' K')
                      | (refine add_do (v := ?_) rfl (fun w1 hb => ?_) (fun K' hK' => ?_); rotate_left
                         · go_simp
                           first
                           | (with_reducible exact rfl)
                           | (with_reducible exact ⟨rfl, hb⟩)
                           | exact rfl
                           | exact ⟨rfl, hb⟩
                         go_simp; refine hK' _ ?_; clear hK' K'))
                    refine add_nil ?_
                    intro wa hba
                    go_wp2_with fail
                    go_roundw
                    case rel => exact ⟨k + 1, by omega, by go_num, Lib.hid (HO.out.below (by (repeat (first | (with_reducible exact Below.refl _ _) | (with_reducible assumption) | (with_reducible refine below_al ?_) | (with_reducible refine below_dr ?_) | (with_reducible refine below_drN ?_) | (with_reducible refine below_set ?_ (by first | exact Nat.le_refl _ | (dsimp only; omega) | omega)) | (with_reducible refine below_tr (by with_reducible assumption) ?_))))), Lib.hid (by have h3 := HBw.out; (repeat (first | (with_reducible exact Below.refl _ _) | (with_reducible assumption) | (with_reducible refine below_al ?_) | (with_reducible refine below_dr ?_) | (with_reducible refine below_drN ?_) | (with_reducible refine below_set ?_ (by first | exact Nat.le_refl _ | (dsimp only; omega) | omega)) | (with_reducible refine below_tr (by with_reducible assumption) ?_))))⟩
                    case measure => simp [intOf]; omega
                  · obtain rfl : k = dx.length := by omega
                    by_cases hp : 1 < p
                    · clear D3
                      go_wp2_with fail
                      go_ret
                      exact ⟨rfl, HBw.out⟩
                    · obtain rfl : p = 1 := by omega
                      obtain ⟨hiv, ⟨l, l'⟩, ⟨h, h'⟩, hl1, hh1, ⟨l1, l2, l3, l4⟩, ⟨h1, h2, h3, h4⟩, z1, z2⟩ := D3.out rfl
                      dsimp only at *
                      have HQ := Lib.hid (implIntervalOf_c dx _ k1 _ HO.out (by omega))
                      rw [hiv, hl1, hh1] at HQ
                      clear hiv hl1 hh1
                      go_wp2_with fail
                      refine HQ.out.mono ?_
                      rintro e wz ⟨v4, v5, rfl, hO4, hO5, _, hb⟩
                      obtain ⟨g4, x4, rfl, _, _, c40, c41⟩ := hO4.two
                      obtain ⟨g5, x5, rfl, _, _, c50, c51⟩ := hO5.two
                      have y1 : IntKind.i64.wrap (l * b) = l * b := mulw (by omega) (by omega) (by omega) (by omega)
                      have y2 : IntKind.i64.wrap (a * l') = a * l' := mulw (by omega) (by omega) (by omega) (by omega)
                      have y3 : IntKind.i64.wrap (a * h') = a * h' := mulw (by omega) (by omega) (by omega) (by omega)
                      have y4 : IntKind.i64.wrap (h * b) = h * b := mulw (by omega) (by omega) (by omega) (by omega)
                      have HBz := Lib.hid (HBw.out.trans (hb.mono HBw.out.size))
                      clear hb hO4 hO5
                      go_wp2_with fail
                      repeat (go_quiet (fail); try go_wp2_with fail)
                      go_ret
                      exact ⟨rfl, by have h3 := HBz.out; (repeat (first | (with_reducible exact Below.refl _ _) | (with_reducible assumption) | (with_reducible refine below_al ?_) | (with_reducible refine below_dr ?_) | (with_reducible refine below_drN ?_) | (with_reducible refine below_set ?_ (by first | exact Nat.le_refl _ | (dsimp only; omega) | omega)) | (with_reducible refine below_tr (by with_reducible assumption) ?_)))⟩
              · replace hic : (ic == 0) = false := by simp [hic]
                repeat (go_quiet (fail); try go_wp2_with fail)
                go_loopw [29] (fun i wr => ∃ k : Nat, k ≤ dx.length ∧ i = .int .i64 k ∧ Hid (Cells wr A1 (ints dx)) ∧ Hid (Below w.heap.size w wr)) (fun i _ => dx.length - (intOf i).toNat)
                case atStart => exact ⟨0, by omega, rfl, Lib.hid (HO1.out.below (by (repeat (first | (with_reducible exact Below.refl _ _) | (with_reducible assumption) | (with_reducible refine below_al ?_) | (with_reducible refine below_dr ?_) | (with_reducible refine below_drN ?_) | (with_reducible refine below_set ?_ (by first | exact Nat.le_refl _ | (dsimp only; omega) | omega)) | (with_reducible refine below_tr (by with_reducible assumption) ?_))))), Lib.hid (by have h3 := HB.out; (repeat (first | (with_reducible exact Below.refl _ _) | (with_reducible assumption) | (with_reducible refine below_al ?_) | (with_reducible refine below_dr ?_) | (with_reducible refine below_drN ?_) | (with_reducible refine below_set ?_ (by first | exact Nat.le_refl _ | (dsimp only; omega) | omega)) | (with_reducible refine below_tr (by with_reducible assumption) ?_))))⟩
                case round =>
                  obtain ⟨k, hk, rfl, HO, HBw⟩ := hrel
                  by_cases h1 : k < dx.length
                  · obtain ⟨bq, off, rfl, hlt, c0⟩ := HO.out.int k h1
                    obtain ⟨z1, z2⟩ := D2.out k h1
                    generalize dx[k] = y at *
                    have hq : IntKind.i64.wrap (a.tdiv b) = a / b := IntWalk.i64_quo _ _ (by omega)
                    have hq2 : IntKind.i64.wrap (a / b + 1) = a / b + 1 := IntWalk.i64_in _ (by omega)
                    have z3 : decide (y < a / b) = false := by simp; omega
                    have z4 : decide (y > a / b + 1) = false := by simp; omega
                    go_wp2_with fail
                    have e0 := keepC c0
                    refine wp_region_add (fun w' => Below (wr).heap.size (wr) w') (by kernel_rfl) (by kernel_rfl) ((Below.refl _ _).drew) ?_
                    repeat (first
                      | (refine add_skip rfl (fun K' hK' => ?_); go_simp; refine hK' _ ?_; clear hK' K')
                      | (refine add_do (v := ?_) rfl (fun w1 hb => ?_) (fun K' hK' => ?_); rotate_left
                         · go_simp
                           first
                           | (with_reducible exact rfl)
                           | (with_reducible exact ⟨rfl, hb⟩)
                           | exact rfl
                           | exact ⟨rfl, hb⟩
                         go_simp; refine hK' _ ?_; clear hK' K'))
                    refine add_nil ?_
                    intro wa hba
                    go_wp2_with fail
                    go_roundw
                    case rel => exact ⟨k + 1, by omega, by go_num, Lib.hid (HO.out.below (by (repeat (first | (with_reducible exact Below.refl _ _) | (with_reducible assumption) | (with_reducible refine below_al ?_) | (with_reducible refine below_dr ?_) | (with_reducible refine below_drN ?_) | (with_reducible refine below_set ?_ (by first | exact Nat.le_refl _ | (dsimp only; omega) | omega)) | (with_reducible refine below_tr (by with_reducible assumption) ?_))))), Lib.hid (by have h3 := HBw.out; (repeat (first | (with_reducible exact Below.refl _ _) | (with_reducible assumption) | (with_reducible refine below_al ?_) | (with_reducible refine below_dr ?_) | (with_reducible refine below_drN ?_) | (with_reducible refine below_set ?_ (by first | exact Nat.le_refl _ | (dsimp only; omega) | omega)) | (with_reducible refine below_tr (by with_reducible assumption) ?_))))⟩
                    case measure => simp [intOf]; omega
                  · obtain rfl : k = dx.length := by omega
                    by_cases hp : 1 < p
                    · clear D3
                      go_wp2_with fail
                      go_ret
                      exact ⟨rfl, HBw.out⟩
                    · obtain rfl : p = 1 := by omega
                      obtain ⟨hiv, ⟨l, l'⟩, ⟨h, h'⟩, hl1, hh1, ⟨l1, l2, l3, l4⟩, ⟨h1, h2, h3, h4⟩, z1, z2⟩ := D3.out rfl
                      dsimp only at *
                      have HQ := Lib.hid (implIntervalOf_c dx _ k1 _ HO.out (by omega))
                      rw [hiv, hl1, hh1] at HQ
                      clear hiv hl1 hh1
                      go_wp2_with fail
                      refine HQ.out.mono ?_
                      rintro e wz ⟨v4, v5, rfl, hO4, hO5, _, hb⟩
                      obtain ⟨g4, x4, rfl, _, _, c40, c41⟩ := hO4.two
                      obtain ⟨g5, x5, rfl, _, _, c50, c51⟩ := hO5.two
                      have y1 : IntKind.i64.wrap (l * b) = l * b := mulw (by omega) (by omega) (by omega) (by omega)
                      have y2 : IntKind.i64.wrap (a * l') = a * l' := mulw (by omega) (by omega) (by omega) (by omega)
                      have y3 : IntKind.i64.wrap (a * h') = a * h' := mulw (by omega) (by omega) (by omega) (by omega)
                      have y4 : IntKind.i64.wrap (h * b) = h * b := mulw (by omega) (by omega) (by omega) (by omega)
                      have HBz := Lib.hid (HBw.out.trans (hb.mono HBw.out.size))
                      clear hb hO4 hO5
                      go_wp2_with fail
                      repeat (go_quiet (fail); try go_wp2_with fail)
                      go_ret
                      exact ⟨rfl, by have h3 := HBz.out; (repeat (first | (with_reducible exact Below.refl _ _) | (with_reducible assumption) | (with_reducible refine below_al ?_) | (with_reducible refine below_dr ?_) | (with_reducible refine below_drN ?_) | (with_reducible refine below_set ?_ (by first | exact Nat.le_refl _ | (dsimp only; omega) | omega)) | (with_reducible refine below_tr (by with_reducible assumption) ?_)))⟩
            · obtain rfl := D0.out hdc
              replace hdc : (dc != 0) = true := by simp [hdc]
              by_cases hic : ic = 0
              · subst hic
                obtain ⟨⟨l, l'⟩, ⟨h, h'⟩, rfl, rfl, ⟨l1, l2, l3, l4⟩, ⟨h1, h2, h3, h4⟩, hlh⟩ := I1.out rfl
                dsimp only at *
                obtain ⟨b4, o4, rfl, _, c40⟩ := HO4.out.int 0 (by simp)
                obtain ⟨b4', o4', e4, _, c41⟩ := HO4.out.int 1 (by simp)
                injection e4 with e4; injection e4 with e4 e4'; subst e4 e4'
                obtain ⟨b5, o5, rfl, _, c50⟩ := HO5.out.int 0 (by simp)
                obtain ⟨b5', o5', e5, _, c51⟩ := HO5.out.int 1 (by simp)
                injection e5 with e5; injection e5 with e5 e5'; subst e5 e5'
                simp only [List.getElem_cons_zero, List.getElem_cons_succ, Nat.add_zero] at c40 c41 c50 c51
                have y1 : IntKind.i64.wrap (l * h') = l * h' := mulw (by omega) (by omega) (by omega) (by omega)
                have y2 : IntKind.i64.wrap (h * l') = h * l' := mulw (by omega) (by omega) (by omega) (by omega)
                repeat (go_quiet (fail); try go_wp2_with fail)
                go_ret
                exact ⟨rfl, by have h3 := HB.out; (repeat (first | (with_reducible exact Below.refl _ _) | (with_reducible assumption) | (with_reducible refine below_al ?_) | (with_reducible refine below_dr ?_) | (with_reducible refine below_drN ?_) | (with_reducible refine below_set ?_ (by first | exact Nat.le_refl _ | (dsimp only; omega) | omega)) | (with_reducible refine below_tr (by with_reducible assumption) ?_)))⟩
              · replace hic : (ic == 0) = false := by simp [hic]
                repeat (go_quiet (fail); try go_wp2_with fail)
                go_ret
                exact ⟨rfl, by have h3 := HB.out; (repeat (first | (with_reducible exact Below.refl _ _) | (with_reducible assumption) | (with_reducible refine below_al ?_) | (with_reducible refine below_dr ?_) | (with_reducible refine below_drN ?_) | (with_reducible refine below_set ?_ (by first | exact Nat.le_refl _ | (dsimp only; omega) | omega)) | (with_reducible refine below_tr (by with_reducible assumption) ?_)))⟩
    · replace hcc : (cc == 0) = false := by simp [hcc]
      go_wp2_with fail
      by_cases hdc : dc = 0
      · subst hdc
        obtain ⟨md, rfl, d1, d2, d3, D2, ⟨d4, d5⟩, ⟨d6, d7⟩, ⟨d8, d9⟩, D3⟩ := D1.out rfl
        have hdl : ((dx.length : Int) != (md : Int)) = false := by simp; omega
        have hdl2 : dx.length ≤ 20 := by omega
        replace d3 := Lib.hid d3
        have e2 : 0 ≤ a / b := Int.ediv_nonneg d4 (by omega)
        have e3 : a / b ≤ 5 := by have : a / b < 6 := Int.ediv_lt_of_lt_mul (by omega) (by omega); omega
        have hbz : ¬ b = 0 := by omega
        replace D2 := Lib.hid (fun (j : Nat) (h : j < dx.length) => D2 _ (List.getElem_mem h))
        replace D3 := Lib.hid D3
        by_cases hic : ic = 0
        · subst hic
          obtain ⟨⟨l, l'⟩, ⟨h, h'⟩, rfl, rfl, ⟨l1, l2, l3, l4⟩, ⟨h1, h2, h3, h4⟩, hlh⟩ := I1.out rfl
          dsimp only at *
          obtain ⟨b4, o4, rfl, _, c40⟩ := HO4.out.int 0 (by simp)
          obtain ⟨b4', o4', e4, _, c41⟩ := HO4.out.int 1 (by simp)
          injection e4 with e4; injection e4 with e4 e4'; subst e4 e4'
          obtain ⟨b5, o5, rfl, _, c50⟩ := HO5.out.int 0 (by simp)
          obtain ⟨b5', o5', e5, _, c51⟩ := HO5.out.int 1 (by simp)
          injection e5 with e5; injection e5 with e5 e5'; subst e5 e5'
          simp only [List.getElem_cons_zero, List.getElem_cons_succ, Nat.add_zero] at c40 c41 c50 c51
          have y1 : IntKind.i64.wrap (l * h') = l * h' := mulw (by omega) (by omega) (by omega) (by omega)
          have y2 : IntKind.i64.wrap (h * l') = h * l' := mulw (by omega) (by omega) (by omega) (by omega)
          repeat (go_quiet (fail); try go_wp2_with fail)
          go_loopw [29] (fun i wr => ∃ k : Nat, k ≤ dx.length ∧ i = .int .i64 k ∧ Hid (Cells wr A1 (ints dx)) ∧ Hid (Below w.heap.size w wr)) (fun i _ => dx.length - (intOf i).toNat)
          case atStart => exact ⟨0, by omega, rfl, Lib.hid (HO1.out.below (by (repeat (first | (with_reducible exact Below.refl _ _) | (with_reducible assumption) | (with_reducible refine below_al ?_) | (with_reducible refine below_dr ?_) | (with_reducible refine below_drN ?_) | (with_reducible refine below_set ?_ (by first | exact Nat.le_refl _ | (dsimp only; omega) | omega)) | (with_reducible refine below_tr (by with_reducible assumption) ?_))))), Lib.hid (by have h3 := HB.out; (repeat (first | (with_reducible exact Below.refl _ _) | (with_reducible assumption) | (with_reducible refine below_al ?_) | (with_reducible refine below_dr ?_) | (with_reducible refine below_drN ?_) | (with_reducible refine below_set ?_ (by first | exact Nat.le_refl _ | (dsimp only; omega) | omega)) | (with_reducible refine below_tr (by with_reducible assumption) ?_))))⟩
          case round =>
            obtain ⟨k, hk, rfl, HO, HBw⟩ := hrel
            by_cases h1 : k < dx.length
            · obtain ⟨bq, off, rfl, hlt, c0⟩ := HO.out.int k h1
              obtain ⟨z1, z2⟩ := D2.out k h1
              generalize dx[k] = y at *
              have hq : IntKind.i64.wrap (a.tdiv b) = a / b := IntWalk.i64_quo _ _ (by omega)
              have hq2 : IntKind.i64.wrap (a / b + 1) = a / b + 1 := IntWalk.i64_in _ (by omega)
              have z3 : decide (y < a / b) = false := by simp; omega
              have z4 : decide (y > a / b + 1) = false := by simp; omega
              go_wp2_with fail
              have e0 := keepC c0
              refine wp_region_add (fun w' => Below (wr).heap.size (wr) w') (by kernel_rfl) (by kernel_rfl) ((Below.refl _ _).drew) ?_
              repeat (first
                | (refine add_skip rfl (fun K' hK' => ?_); go_simp; refine hK' _ ?_; clear hK' K')
                | (refine add_do (v := ?_) rfl (fun w1 hb => ?_) (fun K' hK' => ?_); rotate_left
                   · go_simp
                     first
                     | (with_reducible exact rfl)
                     | (with_reducible exact ⟨rfl, hb⟩)
                     | exact rfl
                     | exact ⟨rfl, hb⟩
                   go_simp; refine hK' _ ?_; clear hK' K'))
              refine add_nil ?_
              intro wa hba
              go_wp2_with fail
              go_roundw
              case rel => exact ⟨k + 1, by omega, by go_num, Lib.hid (HO.out.below (by (repeat (first | (with_reducible exact Below.refl _ _) | (with_reducible assumption) | (with_reducible refine below_al ?_) | (with_reducible refine below_dr ?_) | (with_reducible refine below_drN ?_) | (with_reducible refine below_set ?_ (by first | exact Nat.le_refl _ | (dsimp only; omega) | omega)) | (with_reducible refine below_tr (by with_reducible assumption) ?_))))), Lib.hid (by have h3 := HBw.out; (repeat (first | (with_reducible exact Below.refl _ _) | (with_reducible assumption) | (with_reducible refine below_al ?_) | (with_reducible refine below_dr ?_) | (with_reducible refine below_drN ?_) | (with_reducible refine below_set ?_ (by first | exact Nat.le_refl _ | (dsimp only; omega) | omega)) | (with_reducible refine below_tr (by with_reducible assumption) ?_))))⟩
              case measure => simp [intOf]; omega
            · obtain rfl : k = dx.length := by omega
              by_cases hp : 1 < p
              · clear D3
                go_wp2_with fail
                go_ret
                exact ⟨rfl, HBw.out⟩
              · obtain rfl : p = 1 := by omega
                obtain ⟨hiv, ⟨l, l'⟩, ⟨h, h'⟩, hl1, hh1, ⟨l1, l2, l3, l4⟩, ⟨h1, h2, h3, h4⟩, z1, z2⟩ := D3.out rfl
                dsimp only at *
                have HQ := Lib.hid (implIntervalOf_c dx _ k1 _ HO.out (by omega))
                rw [hiv, hl1, hh1] at HQ
                clear hiv hl1 hh1
                go_wp2_with fail
                refine HQ.out.mono ?_
                rintro e wz ⟨v4, v5, rfl, hO4, hO5, _, hb⟩
                obtain ⟨g4, x4, rfl, _, _, c40, c41⟩ := hO4.two
                obtain ⟨g5, x5, rfl, _, _, c50, c51⟩ := hO5.two
                have y1 : IntKind.i64.wrap (l * b) = l * b := mulw (by omega) (by omega) (by omega) (by omega)
                have y2 : IntKind.i64.wrap (a * l') = a * l' := mulw (by omega) (by omega) (by omega) (by omega)
                have y3 : IntKind.i64.wrap (a * h') = a * h' := mulw (by omega) (by omega) (by omega) (by omega)
                have y4 : IntKind.i64.wrap (h * b) = h * b := mulw (by omega) (by omega) (by omega) (by omega)
                have HBz := Lib.hid (HBw.out.trans (hb.mono HBw.out.size))
                clear hb hO4 hO5
                go_wp2_with fail
                repeat (go_quiet (fail); try go_wp2_with fail)
                go_ret
                exact ⟨rfl, by have h3 := HBz.out; (repeat (first | (with_reducible exact Below.refl _ _) | (with_reducible assumption) | (with_reducible refine below_al ?_) | (with_reducible refine below_dr ?_) | (with_reducible refine below_drN ?_) | (with_reducible refine below_set ?_ (by first | exact Nat.le_refl _ | (dsimp only; omega) | omega)) | (with_reducible refine below_tr (by with_reducible assumption) ?_)))⟩
        · replace hic : (ic == 0) = false := by simp [hic]
          repeat (go_quiet (fail); try go_wp2_with fail)
          go_loopw [29] (fun i wr => ∃ k : Nat, k ≤ dx.length ∧ i = .int .i64 k ∧ Hid (Cells wr A1 (ints dx)) ∧ Hid (Below w.heap.size w wr)) (fun i _ => dx.length - (intOf i).toNat)
          case atStart => exact ⟨0, by omega, rfl, Lib.hid (HO1.out.below (by (repeat (first | (with_reducible exact Below.refl _ _) | (with_reducible assumption) | (with_reducible refine below_al ?_) | (with_reducible refine below_dr ?_) | (with_reducible refine below_drN ?_) | (with_reducible refine below_set ?_ (by first | exact Nat.le_refl _ | (dsimp only; omega) | omega)) | (with_reducible refine below_tr (by with_reducible assumption) ?_))))), Lib.hid (by have h3 := HB.out; (repeat (first | (with_reducible exact Below.refl _ _) | (with_reducible assumption) | (with_reducible refine below_al ?_) | (with_reducible refine below_dr ?_) | (with_reducible refine below_drN ?_) | (with_reducible refine below_set ?_ (by first | exact Nat.le_refl _ | (dsimp only; omega) | omega)) | (with_reducible refine below_tr (by with_reducible assumption) ?_))))⟩
          case round =>
            obtain ⟨k, hk, rfl, HO, HBw⟩ := hrel
            by_cases h1 : k < dx.length
            · obtain ⟨bq, off, rfl, hlt, c0⟩ := HO.out.int k h1
              obtain ⟨z1, z2⟩ := D2.out k h1
              generalize dx[k] = y at *
              have hq : IntKind.i64.wrap (a.tdiv b) = a / b := IntWalk.i64_quo _ _ (by omega)
              have hq2 : IntKind.i64.wrap (a / b + 1) = a / b + 1 := IntWalk.i64_in _ (by omega)
              have z3 : decide (y < a / b) = false := by simp; omega
              have z4 : decide (y > a / b + 1) = false := by simp; omega
              go_wp2_with fail
              have e0 := keepC c0
              refine wp_region_add (fun w' => Below (wr).heap.size (wr) w') (by kernel_rfl) (by kernel_rfl) ((Below.refl _ _).drew) ?_
              repeat (first
                | (refine add_skip rfl (fun K' hK' => ?_); go_simp; refine hK' _ ?_; clear hK' K')
                | (refine add_do (v := ?_) rfl (fun w1 hb => ?_) (fun K' hK' => ?_); rotate_left
                   · go_simp
                     first
                     | (with_reducible exact rfl)
                     | (with_reducible exact ⟨rfl, hb⟩)
                     | exact rfl
                     | exact ⟨rfl, hb⟩
                   go_simp; refine hK' _ ?_; clear hK' K'))
              refine add_nil ?_
              intro wa hba
              go_wp2_with fail
              go_roundw
              case rel => exact ⟨k + 1, by omega, by go_num, Lib.hid (HO.out.below (by (repeat (first | (with_reducible exact Below.refl _ _) | (with_reducible assumption) | (with_reducible refine below_al ?_) | (with_reducible refine below_dr ?_) | (with_reducible refine below_drN ?_) | (with_reducible refine below_set ?_ (by first | exact Nat.le_refl _ | (dsimp only; omega) | omega)) | (with_reducible refine below_tr (by with_reducible assumption) ?_))))), Lib.hid (by have h3 := HBw.out; (repeat (first | (with_reducible exact Below.refl _ _) | (with_reducible assumption) | (with_reducible refine below_al ?_) | (with_reducible refine below_dr ?_) | (with_reducible refine below_drN ?_) | (with_reducible refine below_set ?_ (by first | exact Nat.le_refl _ | (dsimp only; omega) | omega)) | (with_reducible refine below_tr (by with_reducible assumption) ?_))))⟩
              case measure => simp [intOf]; omega
            · obtain rfl : k = dx.length := by omega
              by_cases hp : 1 < p
              · clear D3
                go_wp2_with fail
                go_ret
                exact ⟨rfl, HBw.out⟩
              · obtain rfl : p = 1 := by omega
                obtain ⟨hiv, ⟨l, l'⟩, ⟨h, h'⟩, hl1, hh1, ⟨l1, l2, l3, l4⟩, ⟨h1, h2, h3, h4⟩, z1, z2⟩ := D3.out rfl
                dsimp only at *
                have HQ := Lib.hid (implIntervalOf_c dx _ k1 _ HO.out (by omega))
                rw [hiv, hl1, hh1] at HQ
                clear hiv hl1 hh1
                go_wp2_with fail
                refine HQ.out.mono ?_
                rintro e wz ⟨v4, v5, rfl, hO4, hO5, _, hb⟩
                obtain ⟨g4, x4, rfl, _, _, c40, c41⟩ := hO4.two
                obtain ⟨g5, x5, rfl, _, _, c50, c51⟩ := hO5.two
                have y1 : IntKind.i64.wrap (l * b) = l * b := mulw (by omega) (by omega) (by omega) (by omega)
                have y2 : IntKind.i64.wrap (a * l') = a * l' := mulw (by omega) (by omega) (by omega) (by omega)
                have y3 : IntKind.i64.wrap (a * h') = a * h' := mulw (by omega) (by omega) (by omega) (by omega)
                have y4 : IntKind.i64.wrap (h * b) = h * b := mulw (by omega) (by omega) (by omega) (by omega)
                have HBz := Lib.hid (HBw.out.trans (hb.mono HBw.out.size))
                clear hb hO4 hO5
                go_wp2_with fail
                repeat (go_quiet (fail); try go_wp2_with fail)
                go_ret
                exact ⟨rfl, by have h3 := HBz.out; (repeat (first | (with_reducible exact Below.refl _ _) | (with_reducible assumption) | (with_reducible refine below_al ?_) | (with_reducible refine below_dr ?_) | (with_reducible refine below_drN ?_) | (with_reducible refine below_set ?_ (by first | exact Nat.le_refl _ | (dsimp only; omega) | omega)) | (with_reducible refine below_tr (by with_reducible assumption) ?_)))⟩
      · obtain rfl := D0.out hdc
        replace hdc : (dc != 0) = true := by simp [hdc]
        by_cases hic : ic = 0
        · subst hic
          obtain ⟨⟨l, l'⟩, ⟨h, h'⟩, rfl, rfl, ⟨l1, l2, l3, l4⟩, ⟨h1, h2, h3, h4⟩, hlh⟩ := I1.out rfl
          dsimp only at *
          obtain ⟨b4, o4, rfl, _, c40⟩ := HO4.out.int 0 (by simp)
          obtain ⟨b4', o4', e4, _, c41⟩ := HO4.out.int 1 (by simp)
          injection e4 with e4; injection e4 with e4 e4'; subst e4 e4'
          obtain ⟨b5, o5, rfl, _, c50⟩ := HO5.out.int 0 (by simp)
          obtain ⟨b5', o5', e5, _, c51⟩ := HO5.out.int 1 (by simp)
          injection e5 with e5; injection e5 with e5 e5'; subst e5 e5'
          simp only [List.getElem_cons_zero, List.getElem_cons_succ, Nat.add_zero] at c40 c41 c50 c51
          have y1 : IntKind.i64.wrap (l * h') = l * h' := mulw (by omega) (by omega) (by omega) (by omega)
          have y2 : IntKind.i64.wrap (h * l') = h * l' := mulw (by omega) (by omega) (by omega) (by omega)
          repeat (go_quiet (fail); try go_wp2_with fail)
          go_ret
          exact ⟨rfl, by have h3 := HB.out; (repeat (first | (with_reducible exact Below.refl _ _) | (with_reducible assumption) | (with_reducible refine below_al ?_) | (with_reducible refine below_dr ?_) | (with_reducible refine below_drN ?_) | (with_reducible refine below_set ?_ (by first | exact Nat.le_refl _ | (dsimp only; omega) | omega)) | (with_reducible refine below_tr (by with_reducible assumption) ?_)))⟩
        · replace hic : (ic == 0) = false := by simp [hic]
          repeat (go_quiet (fail); try go_wp2_with fail)
          go_ret
          exact ⟨rfl, by have h3 := HB.out; (repeat (first | (with_reducible exact Below.refl _ _) | (with_reducible assumption) | (with_reducible refine below_al ?_) | (with_reducible refine below_dr ?_) | (with_reducible refine below_drN ?_) | (with_reducible refine below_set ?_ (by first | exact Nat.le_refl _ | (dsimp only; omega) | omega)) | (with_reducible refine below_tr (by with_reducible assumption) ?_)))⟩

end Go.Proofs.Yteaajhlpieomkaa
