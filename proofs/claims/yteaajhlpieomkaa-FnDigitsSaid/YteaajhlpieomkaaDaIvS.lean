/- Contracts and lemmas for the statements of this seat, written for this claim; each theorem states its own conditions. -/
import Derived.Test.YteaajhlpieomkaaDaIv
set_option linter.unusedVariables false
set_option linter.unusedSimpArgs false
namespace Go.Proofs.Yteaajhlpieomkaa
open Go.RowKit
attribute [local go_sem] addUpon_value addUpon_skip addUpon_enter
set_option maxRecDepth 100000 in
set_option maxHeartbeats 1000000 in
theorem specIntervalOf_c (xs : List Int) (A : Option Addr) (cx : Nat) (w : World) (hX : Cells w A (ints xs)) (hl : xs.length ≤ 1048576) :
    Calls Try.prog 11 #[.slice A xs.length cx] w (RetIIC w (ivLo xs) (ivHi xs) (ivCode xs)) := by
  have hok : ivOk xs = (inR 1 20 xs.length && xs.all (inR 0 5)) := rfl
  have HX := Lib.hid hX
  clear hX
  by_cases r1 : (xs.length : Int) < 1
  · have HR := Lib.hid (ivOk_no (xs := xs) (by rw [hok, show inR 1 20 xs.length = false by simp [inR]; omega]; rfl))
    clear hok
    go_enter Try.func11, Try.ntmps11
    go_wp2
    go_ret3
    exact ⟨.slice none 0 0, .slice none 0 0, ret_c3 HR.out.1.symm, by rw [HR.out.2.1]; exact OwnI.nil _ _, by rw [HR.out.2.2]; exact OwnI.nil _ _, .inl rfl, by (repeat (first | (with_reducible exact Below.refl _ _) | (with_reducible assumption) | (with_reducible refine below_al ?_) | (with_reducible refine below_dr ?_) | (with_reducible refine below_drN ?_) | (with_reducible refine below_set ?_ (by first | exact Nat.le_refl _ | (dsimp only; omega) | omega)) | (with_reducible refine below_tr (by with_reducible assumption) ?_)))⟩
  by_cases r2 : (20 : Int) < xs.length
  · have HR := Lib.hid (ivOk_no (xs := xs) (by rw [hok, show inR 1 20 xs.length = false by simp [inR]; omega]; rfl))
    clear hok
    go_enter Try.func11, Try.ntmps11
    go_wp2
    go_ret3
    exact ⟨.slice none 0 0, .slice none 0 0, ret_c3 HR.out.1.symm, by rw [HR.out.2.1]; exact OwnI.nil _ _, by rw [HR.out.2.2]; exact OwnI.nil _ _, .inl rfl, by (repeat (first | (with_reducible exact Below.refl _ _) | (with_reducible assumption) | (with_reducible refine below_al ?_) | (with_reducible refine below_dr ?_) | (with_reducible refine below_drN ?_) | (with_reducible refine below_set ?_ (by first | exact Nat.le_refl _ | (dsimp only; omega) | omega)) | (with_reducible refine below_tr (by with_reducible assumption) ?_)))⟩
  have r3 : xs.length ≤ 20 := by omega
  have r4 : 1 ≤ xs.length := by omega
  rw [show inR 1 20 xs.length = true by simp [inR]; omega, Bool.true_and] at hok
  have p3 : OwnI (World.alloc (w.alloc (.cells #[.int .i64 0, .int .i64 1] 2)) (.cells #[.int .i64 6, .int .i64 1] 2)) w.heap.size (.slice (some ⟨w.heap.size, 0, none⟩) 2 2) [0, 1] := (OwnI.newly (xs := [0, 1]) rfl rfl (by simp [ints]) (Nat.le_refl _) (by simp)).alloc _
  have p4 : OwnI (World.alloc (w.alloc (.cells #[.int .i64 0, .int .i64 1] 2)) (.cells #[.int .i64 6, .int .i64 1] 2)) w.heap.size (.slice (some ⟨w.heap.size + 1, 0, none⟩) 2 2) [6, 1] := OwnI.newly (xs := [6, 1]) (by simp) rfl (by simp [ints]) (le_al (Nat.le_refl _)) (by simp)
  have p5 := ne_blk (n := 2) (m := 2) (c := 2) (d := 2) (show w.heap.size ≠ w.heap.size + 1 by omega)
  have hw2 : Below w.heap.size w (World.alloc (w.alloc (.cells #[.int .i64 0, .int .i64 1] 2)) (.cells #[.int .i64 6, .int .i64 1] 2)) := by (repeat (first | (with_reducible exact Below.refl _ _) | (with_reducible assumption) | (with_reducible refine below_al ?_) | (with_reducible refine below_dr ?_) | (with_reducible refine below_drN ?_) | (with_reducible refine below_set ?_ (by first | exact Nat.le_refl _ | (dsimp only; omega) | omega)) | (with_reducible refine below_tr (by with_reducible assumption) ?_)))
  cases hd : xs.all (inR 0 5)
  · have HR := Lib.hid (ivOk_no (xs := xs) (by rw [hok, hd]))
    clear hok r1 r2 p3 p4 p5
    go_enter Try.func11, Try.ntmps11
    go_wp2
    generalize (World.alloc (w.alloc (.cells #[.int .i64 0, .int .i64 1] 2)) (.cells #[.int .i64 6, .int .i64 1] 2)) = W at *
    go_loop [8] (fun i => ∃ k : Nat, k ≤ xs.length ∧ i = .int .i64 k ∧ Hid (∀ j (h : j < xs.length), j < k → inR 0 5 xs[j] = true)) (fun i => xs.length - (intOf i).toNat)
    case atStart => exact ⟨0, by omega, rfl, fun j _ h => by omega⟩
    case round =>
      obtain ⟨k, hk, rfl, Hn⟩ := hrel
      by_cases hkl : k < xs.length
      · obtain ⟨b, off, rfl, hlt, c0⟩ := (HX.out.below hw2).int k hkl
        have H1 := Lib.hid (fun w => l01In_c xs[k] 0 5 w)
        cases hi : inR 0 5 xs[k]
        · rw [hi] at H1
          go_wp2_with fail
          refine (H1.out _).mono ?_
          rintro e w1 ⟨rfl, rfl⟩
          go_wp2
          go_ret3
          exact ⟨.slice none 0 0, .slice none 0 0, ret_c3 HR.out.1.symm, by rw [HR.out.2.1]; exact OwnI.nil _ _, by rw [HR.out.2.2]; exact OwnI.nil _ _, .inl rfl, by (repeat (first | (with_reducible exact Below.refl _ _) | (with_reducible assumption) | (with_reducible refine below_al ?_) | (with_reducible refine below_dr ?_) | (with_reducible refine below_drN ?_) | (with_reducible refine below_set ?_ (by first | exact Nat.le_refl _ | (dsimp only; omega) | omega)) | (with_reducible refine below_tr (by with_reducible assumption) ?_)))⟩
        · rw [hi] at H1
          go_wp2_with fail
          refine (H1.out _).mono ?_
          rintro e w1 ⟨rfl, rfl⟩
          go_wp2
          go_round
          case rel => exact ⟨k + 1, by omega, by go_num, fun j h hj => by
            by_cases e : j = k
            · subst e; exact hi
            · exact Hn.out j h (by omega)⟩
          case measure => simp [intOf]; omega
      · exfalso
        have : xs.all (inR 0 5) = true := by
          rw [List.all_eq_true]
          intro x hx
          obtain ⟨j, hj, rfl⟩ := List.getElem_of_mem hx
          exact Hn.out j hj (by omega)
        rw [hd] at this; cases this
  · have hyes := Lib.hid (ivOk_yes (xs := xs) (by rw [hok, hd]))
    have HD := Lib.hid hd
    clear hok r1 r2 hd
    go_enter Try.func11, Try.ntmps11
    go_wp2
    generalize (World.alloc (w.alloc (.cells #[.int .i64 0, .int .i64 1] 2)) (.cells #[.int .i64 6, .int .i64 1] 2)) = W at *
    go_loop [8] (fun i => ∃ k : Nat, k ≤ xs.length ∧ i = .int .i64 k) (fun i => xs.length - (intOf i).toNat)
    case atStart => exact ⟨0, by omega, rfl⟩
    case round =>
      obtain ⟨k, hk, rfl⟩ := hrel
      by_cases hkl : k < xs.length
      · obtain ⟨b, off, rfl, hlt, c0⟩ := (HX.out.below hw2).int k hkl
        have H1 := Lib.hid (fun w => l01In_c xs[k] 0 5 w)
        rw [inR_iff.2 (inR_at HD.out k hkl)] at H1
        go_wp2_with fail
        refine (H1.out _).mono ?_
        rintro e w1 ⟨rfl, rfl⟩
        go_wp2
        go_round
        case rel => exact ⟨k + 1, by omega, by go_num⟩
        case measure => simp [intOf]; omega
      · obtain rfl : k = xs.length := by omega
        have HW := Lib.hid hw2
        clear hw2
        go_wp2_with fail
        go_loopw [5, 6, 7, 9] (fun vl vh vs vi wr => ∃ (k : Nat) (l1 l2 h1 h2 s : Int), k ≤ xs.length ∧ vi = .int .i64 ((k : Int) + 1) ∧ vs = .int .i64 s ∧ OwnI wr w.heap.size vl [l1, l2] ∧ OwnI wr w.heap.size vh [h1, h2] ∧ vl.ownBlock ≠ vh.ownBlock ∧
          Hid (s = ivS xs k ∧ (l1, l2) = ivL xs k ∧ (h1, h2) = ivH (6, 1) xs k) ∧ Below w.heap.size w wr ∧ IvB (l1, l2) ∧ IvB (h1, h2)) (fun _ _ _ i _ => xs.length + 1 - (intOf i).toNat)
        case atStart => exact ⟨0, 0, 1, 6, 1, 0, by omega, rfl, rfl, p3, p4, p5, ⟨rfl, rfl, rfl⟩, HW.out, by simp [IvB], by simp [IvB]⟩
        case round =>
          obtain ⟨k, l1, l2, h1, h2, s, hk, rfl, rfl, O1, O2, hne, HI, hbw, b1, b2⟩ := hrel
          have Hbw := Lib.hid hbw
          clear p3 p4 p5
          by_cases hkl : k < xs.length
          · obtain ⟨b, off, rfl, hlt, c0⟩ := (HX.out.below hbw).int k hkl
            have q1 := inR_at HD.out k hkl
            have q2 := ivS_bound HD.out k (by omega)
            rw [← HI.out.1] at q2
            have s0 : 0 ≤ s := q2.1
            have s1 : s ≤ 100 := by omega
            have HS : Hid (ivS xs (k + 1) = s + xs[k]) := by
              show ivS xs (k + 1) = s + xs[k]
              simp only [ivS]; rw [← HI.out.1]; simp [hkl]
            have HL : Hid (ivL xs (k + 1) = ivLow (l1, l2) (s + xs[k]) (k + 1)) := by
              show ivL xs (k + 1) = _
              simp only [ivL]; rw [← HI.out.2.1, HS.out]
            have HH : Hid (ivH (6, 1) xs (k + 1) = ivHigh (h1, h2) (s + xs[k]) (k + 1)) := by
              show ivH (6, 1) xs (k + 1) = _
              simp only [ivH]; rw [← HI.out.2.2, HS.out]
            generalize xs[k] = d at *
            have HB1 := Lib.hid (ivLow_b (s := s + d) (n := k + 1) b1 (by omega) (by omega) (by omega) (by omega))
            have HB2 := Lib.hid (ivHigh_b (s := s + d) (n := k + 1) b2 (by omega) (by omega) (by omega) (by omega))
            obtain ⟨b11, b12, b13, b14⟩ := b1
            obtain ⟨b21, b22, b23, b24⟩ := b2
            simp only at b11 b12 b13 b14 b21 b22 b23 b24
            have w1 := mulw (x := s + d) (y := l2) (by omega) (by omega) (by omega) (by omega)
            have w2 := mulw (x := l1) (y := k + 1) (by omega) (by omega) (by omega) (by omega)
            have w3 := mulw (x := s + d + 1) (y := h2) (by omega) (by omega) (by omega) (by omega)
            have w4 := mulw (x := h1) (y := k + 1) (by omega) (by omega) (by omega) (by omega)
            have HO1 := Lib.hid O1
            have HO2 := Lib.hid O2
            have Hne := Lib.hid hne
            obtain ⟨g1, c1, rfl, u1, u2, u3, u4⟩ := O1.two
            obtain ⟨g2, c2, rfl, v1, v2, v3, v4⟩ := O2.two
            have e0 := keepC c0
            have e1 := keepC u3
            have e2 := keepC u4
            have e3 := keepC v3
            have e4 := keepC v4
            have HC1 := Lib.hid (fun w => l08Lowest_c (s + d) (k + 1) w (by omega) (by omega) (by omega) (by omega))
            have HC2 := Lib.hid (fun w => l08Lowest_c (s + d + 1) (k + 1) w (by omega) (by omega) (by omega) (by omega))
            have r4 : (k : Int) + 1 ≤ 20 := by omega
            clear u3 u4 v3 v4 O1 O2 hne q2 hbw
            have w0 : IntKind.i64.wrap (s + d + 1) = s + d + 1 := IntWalk.i64_in _ (by omega)
            have HAe := Lib.hid (show (IntKind.i64.wrap (l1 * ((k : Int) + 1)) < IntKind.i64.wrap ((s + d) * l2)) ↔ (l1 * (k + 1) < (s + d) * l2) by rw [w1, w2])
            have HBe := Lib.hid (show (IntKind.i64.wrap (IntKind.i64.wrap (s + d + 1) * h2) < IntKind.i64.wrap (h1 * ((k : Int) + 1))) ↔ ((s + d + 1) * h2 < h1 * (k + 1)) by rw [w0, w3, w4])
            clear w0 w1 w2 w3 w4
            have own1 : ∀ q, (Value.slice (some ⟨g1, 0, none⟩) 2 c1).ownBlock = some q → q < wr.heap.size := fun q e => by cases e; exact u2
            have own2 : ∀ q, (Value.slice (some ⟨g2, 0, none⟩) 2 c2).ownBlock = some q → q < wr.heap.size := fun q e => by cases e; exact v2
            have Own1 := Lib.hid own1
            have Own2 := Lib.hid own2
            clear own1 own2
            have z1 := Hbw.out.size
            by_cases hA : IntKind.i64.wrap (l1 * ((k : Int) + 1)) < IntKind.i64.wrap ((s + d) * l2)
            · have hLow := Lib.hid (HL.out.trans (if_pos (HAe.out.1 hA)))
              by_cases hB : IntKind.i64.wrap (IntKind.i64.wrap (s + d + 1) * h2) < IntKind.i64.wrap (h1 * ((k : Int) + 1))
              · have hHigh := Lib.hid (HH.out.trans (if_pos (HBe.out.1 hB)))
                go_wp2_with fail
                clear c0
                refine wp_region_add (fun w' => Below (wr).heap.size (wr) w') (by kernel_rfl) (by kernel_rfl) ((Below.refl _ _).drew) ?_
                repeat (first
                  | (refine add_skip rfl (fun K' hK' => ?_); go_simp; refine hK' _ ?_; clear hK' K')
                  | (refine add_do (v := ?_) rfl (fun w1 hb => ?_) (fun K' hK' => ?_); rotate_left
                     · go_simp
                       first
                       | (with_reducible exact rfl)
                       | (with_reducible exact ⟨rfl, hb⟩)
                       | exact rfl
                       | exact ⟨rfl, hb⟩
                     go_simp; refine hK' _ ?_; clear hK' K'))
                refine add_nil ?_
                intro wa hba
                go_wp2_with fail
                refine (HC1.out _).mono ?_
                rintro e wb ⟨vl, rfl, O3, hbb⟩
                have Hwb : Hid (Below wr.heap.size wr wb) := by (show Below _ _ _); (repeat (first | (with_reducible exact Below.refl _ _) | (with_reducible assumption) | (with_reducible refine below_al ?_) | (with_reducible refine below_dr ?_) | (with_reducible refine below_drN ?_) | (with_reducible refine below_set ?_ (by first | exact Nat.le_refl _ | (dsimp only; omega) | omega)) | (with_reducible refine below_tr (by with_reducible assumption) ?_)))
                have Hle := Lib.hid hba.size
                clear hba hbb
                replace e3 := keepC (e3 _ Hwb.out)
                replace e4 := keepC (e4 _ Hwb.out)
                go_wp2_with fail
                refine wp_region_add (fun w' => Below (wb).heap.size (wb) w') (by kernel_rfl) (by kernel_rfl) ((Below.refl _ _).drew) ?_
                repeat (first
                  | (refine add_skip rfl (fun K' hK' => ?_); go_simp; refine hK' _ ?_; clear hK' K')
                  | (refine add_do (v := ?_) rfl (fun w1 hb => ?_) (fun K' hK' => ?_); rotate_left
                     · go_simp
                       first
                       | (with_reducible exact rfl)
                       | (with_reducible exact ⟨rfl, hb⟩)
                       | exact rfl
                       | exact ⟨rfl, hb⟩
                     go_simp; refine hK' _ ?_; clear hK' K'))
                refine add_nil ?_
                intro wa hba
                go_wp2_with fail
                refine (HC2.out _).mono ?_
                rintro e wd ⟨vh, rfl, O4, hbd⟩
                have q3 := Lib.hid (O3.below hba)
                go_wp2
                go_roundw
                case measure => simp [intOf]; omega
                case rel =>
                  have z2 := Hwb.out.size
                  have z3 := hba.size
                  have z4 := hbd.size
                  have z5 := Hle.out
                  exact ⟨k + 1, _, _, _, _, _, by omega, by go_num, rfl, (q3.out.below hbd).weaken (by omega), O4.weaken (by omega), (own_far (fun q e => (World.ownsRow.lt q3.out q e).2) O4 (by simp)).1,
                  ⟨HS.out.symm, hLow.out.symm, hHigh.out.symm⟩, by first | exact Hbw.out.trans (hba.mono (by omega)) | exact Hbw.out.trans ((Hwb.out.trans (hba.mono (by omega))).mono (by omega)) | exact Hbw.out.trans ((Hwb.out.trans ((hba.trans (hbd.mono (by omega))).mono (by omega))).mono (by omega)) | exact Hbw.out.trans ((hba.trans (hbd.mono (by omega))).mono (by omega)), by have h := HB1.out; rw [← HL.out, hLow.out] at h; exact h, by have h := HB2.out; rw [← HH.out, hHigh.out] at h; exact h⟩
              · have hHigh := Lib.hid (HH.out.trans (if_neg (fun h => hB (HBe.out.2 h))))
                go_wp2_with fail
                clear c0
                refine wp_region_add (fun w' => Below (wr).heap.size (wr) w') (by kernel_rfl) (by kernel_rfl) ((Below.refl _ _).drew) ?_
                repeat (first
                  | (refine add_skip rfl (fun K' hK' => ?_); go_simp; refine hK' _ ?_; clear hK' K')
                  | (refine add_do (v := ?_) rfl (fun w1 hb => ?_) (fun K' hK' => ?_); rotate_left
                     · go_simp
                       first
                       | (with_reducible exact rfl)
                       | (with_reducible exact ⟨rfl, hb⟩)
                       | exact rfl
                       | exact ⟨rfl, hb⟩
                     go_simp; refine hK' _ ?_; clear hK' K'))
                refine add_nil ?_
                intro wa hba
                go_wp2_with fail
                refine (HC1.out _).mono ?_
                rintro e wb ⟨vl, rfl, O3, hbb⟩
                have Hwb : Hid (Below wr.heap.size wr wb) := by (show Below _ _ _); (repeat (first | (with_reducible exact Below.refl _ _) | (with_reducible assumption) | (with_reducible refine below_al ?_) | (with_reducible refine below_dr ?_) | (with_reducible refine below_drN ?_) | (with_reducible refine below_set ?_ (by first | exact Nat.le_refl _ | (dsimp only; omega) | omega)) | (with_reducible refine below_tr (by with_reducible assumption) ?_)))
                have Hle := Lib.hid hba.size
                clear hba hbb
                replace e3 := keepC (e3 _ Hwb.out)
                replace e4 := keepC (e4 _ Hwb.out)
                go_wp2_with fail
                refine wp_region_add (fun w' => Below (wb).heap.size (wb) w') (by kernel_rfl) (by kernel_rfl) ((Below.refl _ _).drew) ?_
                repeat (first
                  | (refine add_skip rfl (fun K' hK' => ?_); go_simp; refine hK' _ ?_; clear hK' K')
                  | (refine add_do (v := ?_) rfl (fun w1 hb => ?_) (fun K' hK' => ?_); rotate_left
                     · go_simp
                       first
                       | (with_reducible exact rfl)
                       | (with_reducible exact ⟨rfl, hb⟩)
                       | exact rfl
                       | exact ⟨rfl, hb⟩
                     go_simp; refine hK' _ ?_; clear hK' K'))
                refine add_nil ?_
                intro wa hba
                have q3 := Lib.hid (O3.below hba)
                go_wp2
                go_roundw
                case measure => simp [intOf]; omega
                case rel =>
                  have z2 := Hwb.out.size
                  have z3 := hba.size
                  have z5 := Hle.out
                  exact ⟨k + 1, _, _, _, _, _, by omega, by go_num, rfl, q3.out.weaken (by omega), (HO2.out.below Hwb.out).below hba, (own_far (fun q e => Nat.lt_of_lt_of_le (Own2.out q e) z5) O3 (by simp)).2,
                  ⟨HS.out.symm, hLow.out.symm, hHigh.out.symm⟩, by first | exact Hbw.out.trans (hba.mono (by omega)) | exact Hbw.out.trans ((Hwb.out.trans (hba.mono (by omega))).mono (by omega)) | exact Hbw.out.trans ((Hwb.out.trans ((hba.trans (hbd.mono (by omega))).mono (by omega))).mono (by omega)) | exact Hbw.out.trans ((hba.trans (hbd.mono (by omega))).mono (by omega)), by have h := HB1.out; rw [← HL.out, hLow.out] at h; exact h, by have h := HB2.out; rw [← HH.out, hHigh.out] at h; exact h⟩
            · have hLow := Lib.hid (HL.out.trans (if_neg (fun h => hA (HAe.out.2 h))))
              by_cases hB : IntKind.i64.wrap (IntKind.i64.wrap (s + d + 1) * h2) < IntKind.i64.wrap (h1 * ((k : Int) + 1))
              · have hHigh := Lib.hid (HH.out.trans (if_pos (HBe.out.1 hB)))
                go_wp2_with fail
                clear c0
                refine wp_region_add (fun w' => Below (wr).heap.size (wr) w') (by kernel_rfl) (by kernel_rfl) ((Below.refl _ _).drew) ?_
                repeat (first
                  | (refine add_skip rfl (fun K' hK' => ?_); go_simp; refine hK' _ ?_; clear hK' K')
                  | (refine add_do (v := ?_) rfl (fun w1 hb => ?_) (fun K' hK' => ?_); rotate_left
                     · go_simp
                       first
                       | (with_reducible exact rfl)
                       | (with_reducible exact ⟨rfl, hb⟩)
                       | exact rfl
                       | exact ⟨rfl, hb⟩
                     go_simp; refine hK' _ ?_; clear hK' K'))
                refine add_nil ?_
                intro wa hba
                go_wp2_with fail
                refine wp_region_add (fun w' => Below (wr).heap.size (wr) w') (by kernel_rfl) (by kernel_rfl) (hba.drew) ?_
                repeat (first
                  | (refine add_skip rfl (fun K' hK' => ?_); go_simp; refine hK' _ ?_; clear hK' K')
                  | (refine add_do (v := ?_) rfl (fun w1 hb => ?_) (fun K' hK' => ?_); rotate_left
                     · go_simp
                       first
                       | (with_reducible exact rfl)
                       | (with_reducible exact ⟨rfl, hb⟩)
                       | exact rfl
                       | exact ⟨rfl, hb⟩
                     go_simp; refine hK' _ ?_; clear hK' K'))
                refine add_nil ?_
                intro wa hba
                go_wp2_with fail
                refine (HC2.out _).mono ?_
                rintro e wd ⟨vh, rfl, O4, hbd⟩
                go_wp2
                go_roundw
                case measure => simp [intOf]; omega
                case rel =>
                  have z3 := hba.size
                  have z4 := hbd.size
                  exact ⟨k + 1, _, _, _, _, _, by omega, by go_num, rfl, (HO1.out.below hba).below hbd, O4.weaken (by omega), (own_far (fun q e => Nat.lt_of_lt_of_le (Own1.out q e) z3) O4 (by simp)).1,
                  ⟨HS.out.symm, hLow.out.symm, hHigh.out.symm⟩, by first | exact Hbw.out.trans (hba.mono (by omega)) | exact Hbw.out.trans ((Hwb.out.trans (hba.mono (by omega))).mono (by omega)) | exact Hbw.out.trans ((Hwb.out.trans ((hba.trans (hbd.mono (by omega))).mono (by omega))).mono (by omega)) | exact Hbw.out.trans ((hba.trans (hbd.mono (by omega))).mono (by omega)), by have h := HB1.out; rw [← HL.out, hLow.out] at h; exact h, by have h := HB2.out; rw [← HH.out, hHigh.out] at h; exact h⟩
              · have hHigh := Lib.hid (HH.out.trans (if_neg (fun h => hB (HBe.out.2 h))))
                go_wp2_with fail
                clear c0
                refine wp_region_add (fun w' => Below (wr).heap.size (wr) w') (by kernel_rfl) (by kernel_rfl) ((Below.refl _ _).drew) ?_
                repeat (first
                  | (refine add_skip rfl (fun K' hK' => ?_); go_simp; refine hK' _ ?_; clear hK' K')
                  | (refine add_do (v := ?_) rfl (fun w1 hb => ?_) (fun K' hK' => ?_); rotate_left
                     · go_simp
                       first
                       | (with_reducible exact rfl)
                       | (with_reducible exact ⟨rfl, hb⟩)
                       | exact rfl
                       | exact ⟨rfl, hb⟩
                     go_simp; refine hK' _ ?_; clear hK' K'))
                refine add_nil ?_
                intro wa hba
                go_wp2_with fail
                refine wp_region_add (fun w' => Below (wr).heap.size (wr) w') (by kernel_rfl) (by kernel_rfl) (hba.drew) ?_
                repeat (first
                  | (refine add_skip rfl (fun K' hK' => ?_); go_simp; refine hK' _ ?_; clear hK' K')
                  | (refine add_do (v := ?_) rfl (fun w1 hb => ?_) (fun K' hK' => ?_); rotate_left
                     · go_simp
                       first
                       | (with_reducible exact rfl)
                       | (with_reducible exact ⟨rfl, hb⟩)
                       | exact rfl
                       | exact ⟨rfl, hb⟩
                     go_simp; refine hK' _ ?_; clear hK' K'))
                refine add_nil ?_
                intro wa hba
                go_wp2
                go_roundw
                case measure => simp [intOf]; omega
                case rel =>
                  have z3 := hba.size
                  exact ⟨k + 1, _, _, _, _, _, by omega, by go_num, rfl, HO1.out.below hba, HO2.out.below hba, Hne.out,
                  ⟨HS.out.symm, hLow.out.symm, hHigh.out.symm⟩, by first | exact Hbw.out.trans (hba.mono (by omega)) | exact Hbw.out.trans ((Hwb.out.trans (hba.mono (by omega))).mono (by omega)) | exact Hbw.out.trans ((Hwb.out.trans ((hba.trans (hbd.mono (by omega))).mono (by omega))).mono (by omega)) | exact Hbw.out.trans ((hba.trans (hbd.mono (by omega))).mono (by omega)), by have h := HB1.out; rw [← HL.out, hLow.out] at h; exact h, by have h := HB2.out; rw [← HH.out, hHigh.out] at h; exact h⟩
          · obtain rfl : k = xs.length := by omega
            have HF := Lib.hid (show (l1, l2) = ivL xs xs.length ∧ (h1, h2) = ivH (6, 1) xs xs.length from HI.out.2)
            obtain ⟨b11, b12, b13, b14⟩ := b1
            obtain ⟨b21, b22, b23, b24⟩ := b2
            simp only at b11 b12 b13 b14 b21 b22 b23 b24
            have w1 := mulw (x := l1) (y := h2) (by omega) (by omega) (by omega) (by omega)
            have w2 := mulw (x := h1) (y := l2) (by omega) (by omega) (by omega) (by omega)
            have HO1 := Lib.hid O1
            have HO2 := Lib.hid O2
            have Hne := Lib.hid hne
            obtain ⟨g1, c1, rfl, u1, u2, u3, u4⟩ := O1.two
            obtain ⟨g2, c2, rfl, v1, v2, v3, v4⟩ := O2.two
            have e1 := keepC u3
            have e2 := keepC u4
            have e3 := keepC v3
            have e4 := keepC v4
            have hAe := Lib.hid (show (IntKind.i64.wrap (h1 * l2) ≤ IntKind.i64.wrap (l1 * h2)) ↔ ivFlat xs = true by unfold ivFlat; rw [← HF.out.1, ← HF.out.2, w1, w2]; simp)
            have Hwr := Lib.hid hbw
            clear u3 u4 v3 v4 O1 O2 hne hbw w1 w2
            by_cases hA : IntKind.i64.wrap (h1 * l2) ≤ IntKind.i64.wrap (l1 * h2)
            · have HR : Hid (ivCode xs = 4 ∧ ivLo xs = [] ∧ ivHi xs = []) := by
                have h := hyes.out
                rw [if_pos (hAe.out.1 hA), if_pos (hAe.out.1 hA), if_pos (hAe.out.1 hA)] at h
                exact h
              go_wp2_with fail
              refine wp_region_add (fun w' => Below (wr).heap.size (wr) w') (by kernel_rfl) (by kernel_rfl) ((Below.refl _ _).drew) ?_
              repeat (first
                | (refine add_skip rfl (fun K' hK' => ?_); go_simp; refine hK' _ ?_; clear hK' K')
                | (refine add_do (v := ?_) rfl (fun w1 hb => ?_) (fun K' hK' => ?_); rotate_left
                   · go_simp
                     first
                     | (with_reducible exact rfl)
                     | (with_reducible exact ⟨rfl, hb⟩)
                     | exact rfl
                     | exact ⟨rfl, hb⟩
                   go_simp; refine hK' _ ?_; clear hK' K'))
              refine add_nil ?_
              intro wa hba
              go_wp2
              go_ret3
              exact ⟨.slice none 0 0, .slice none 0 0, ret_c3 HR.out.1.symm, by rw [HR.out.2.1]; exact OwnI.nil _ _, by rw [HR.out.2.2]; exact OwnI.nil _ _, .inl rfl, by have h := Hwr.out; (repeat (first | (with_reducible exact Below.refl _ _) | (with_reducible assumption) | (with_reducible refine below_al ?_) | (with_reducible refine below_dr ?_) | (with_reducible refine below_drN ?_) | (with_reducible refine below_set ?_ (by first | exact Nat.le_refl _ | (dsimp only; omega) | omega)) | (with_reducible refine below_tr (by with_reducible assumption) ?_)))⟩
            · have HR : Hid (ivCode xs = 0 ∧ ivLo xs = [l1, l2] ∧ ivHi xs = [h1, h2]) := by
                have h := hyes.out
                rw [if_neg (fun h => hA (hAe.out.2 h)), if_neg (fun h => hA (hAe.out.2 h)), if_neg (fun h => hA (hAe.out.2 h)), ← HF.out.1, ← HF.out.2] at h
                exact h
              go_wp2_with fail
              refine wp_region_add (fun w' => Below (wr).heap.size (wr) w') (by kernel_rfl) (by kernel_rfl) ((Below.refl _ _).drew) ?_
              repeat (first
                | (refine add_skip rfl (fun K' hK' => ?_); go_simp; refine hK' _ ?_; clear hK' K')
                | (refine add_do (v := ?_) rfl (fun w1 hb => ?_) (fun K' hK' => ?_); rotate_left
                   · go_simp
                     first
                     | (with_reducible exact rfl)
                     | (with_reducible exact ⟨rfl, hb⟩)
                     | exact rfl
                     | exact ⟨rfl, hb⟩
                   go_simp; refine hK' _ ?_; clear hK' K'))
              refine add_nil ?_
              intro wa hba
              go_wp2
              go_ret3
              exact ⟨_, _, ret_c3 HR.out.1.symm, by rw [HR.out.2.1]; exact HO1.out.below hba, by rw [HR.out.2.2]; exact HO2.out.below hba, .inr Hne.out, by have h := Hwr.out; (repeat (first | (with_reducible exact Below.refl _ _) | (with_reducible assumption) | (with_reducible refine below_al ?_) | (with_reducible refine below_dr ?_) | (with_reducible refine below_drN ?_) | (with_reducible refine below_set ?_ (by first | exact Nat.le_refl _ | (dsimp only; omega) | omega)) | (with_reducible refine below_tr (by with_reducible assumption) ?_)))⟩

end Go.Proofs.Yteaajhlpieomkaa
