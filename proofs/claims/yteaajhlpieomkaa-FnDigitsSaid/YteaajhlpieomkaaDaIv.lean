/- Contracts and lemmas for the statements of this seat, written for this claim; each theorem states its own conditions. -/
import Derived.Test.YteaajhlpieomkaaDaGc
import Derived.Test.YteaajhlpieomkaaDaN8
import Derived.Test.YteaajhlpieomkaaDaLi
set_option linter.unusedVariables false
set_option linter.unusedSimpArgs false
namespace Go.Proofs.Yteaajhlpieomkaa
open Go.RowKit
attribute [local go_sem] addUpon_value addUpon_skip addUpon_enter
def ivS (xs : List Int) : Nat → Int
  | 0 => 0
  | k + 1 => ivS xs k + xs.getD k 0
def ivLow (l : Int × Int) (s n : Int) : Int × Int := if l.1 * n < s * l.2 then (lowA s n, lowB s n) else l
def ivHigh (h : Int × Int) (s n : Int) : Int × Int := if (s + 1) * h.2 < h.1 * n then (lowA (s + 1) n, lowB (s + 1) n) else h
def ivL (xs : List Int) : Nat → Int × Int
  | 0 => (0, 1)
  | k + 1 => ivLow (ivL xs k) (ivS xs (k + 1)) (k + 1)
def ivH (h0 : Int × Int) (xs : List Int) : Nat → Int × Int
  | 0 => h0
  | k + 1 => ivHigh (ivH h0 xs k) (ivS xs (k + 1)) (k + 1)
def ivOk (xs : List Int) : Bool := inR 1 20 xs.length && xs.all (inR 0 5)
def ivFlat (xs : List Int) : Bool := decide ((ivH (6, 1) xs xs.length).1 * (ivL xs xs.length).2 ≤ (ivL xs xs.length).1 * (ivH (6, 1) xs xs.length).2)
def ivCode (xs : List Int) : Int := if ivOk xs = true then (if ivFlat xs = true then 4 else 0) else 2
def ivLo (xs : List Int) : List Int := if ivOk xs = true then (if ivFlat xs = true then [] else [(ivL xs xs.length).1, (ivL xs xs.length).2]) else []
def ivHi (xs : List Int) : List Int := if ivOk xs = true then (if ivFlat xs = true then [] else [(ivH (6, 1) xs xs.length).1, (ivH (6, 1) xs xs.length).2]) else []
theorem ivLo_len (xs : List Int) : (ivLo xs).length ≤ 2 := by unfold ivLo; split <;> (try split) <;> simp
theorem ivHi_len (xs : List Int) : (ivHi xs).length ≤ 2 := by unfold ivHi; split <;> (try split) <;> simp
theorem mulw {x y : Int} (h1 : 0 ≤ x) (h2 : x ≤ 10000) (h3 : 0 ≤ y) (h4 : y ≤ 10000) : IntKind.i64.wrap (x * y) = x * y := by
  have b1 : 0 ≤ x * y := Int.mul_nonneg h1 h3
  have b2 : x * y ≤ 10000 * 10000 := Int.mul_le_mul h2 h4 h3 (by omega)
  exact IntWalk.i64_in _ (by omega)
theorem ivH_eq {xs : List Int} (h0 : 0 ≤ xs.getD 0 0) (h1 : xs.getD 0 0 ≤ 5) : ∀ k, ivH (xs.getD 0 0 + 1, 1) xs (k + 1) = ivH (6, 1) xs (k + 1)
  | 0 => by
    generalize hd : xs.getD 0 0 = d at *
    have hs : ivS xs 1 = d := by simp only [ivS, hd]; omega
    show ivHigh (d + 1, 1) (ivS xs 1) ((0 : Nat) + 1) = ivHigh (6, 1) (ivS xs 1) ((0 : Nat) + 1)
    rw [hs]
    have hg : gcdI (d + 1) 1 = 1 := by simp [gcdI]
    have ha : lowA (d + 1) 1 = d + 1 := by simp [lowA, hg]
    have hb : lowB (d + 1) 1 = 1 := by simp [lowB, hg]
    unfold ivHigh
    simp only [Int.natCast_zero, Int.zero_add, Int.mul_one, Int.lt_irrefl, if_false]
    by_cases h : d + 1 < 6
    · rw [if_pos h, ha, hb]
    · rw [if_neg h]; congr 1; omega
  | k + 1 => by
    show ivHigh (ivH (xs.getD 0 0 + 1, 1) xs (k + 1)) _ _ = ivHigh (ivH (6, 1) xs (k + 1)) _ _
    rw [ivH_eq h0 h1 k]
theorem ivOk_no {xs : List Int} (h : ivOk xs = false) : ivCode xs = 2 ∧ ivLo xs = [] ∧ ivHi xs = [] := by simp [ivCode, ivLo, ivHi, h]
theorem ivOk_yes {xs : List Int} (h : ivOk xs = true) : ivCode xs = (if ivFlat xs = true then 4 else 0) ∧ ivLo xs = (if ivFlat xs = true then [] else [(ivL xs xs.length).1, (ivL xs xs.length).2]) ∧ ivHi xs = (if ivFlat xs = true then [] else [(ivH (6, 1) xs xs.length).1, (ivH (6, 1) xs xs.length).2]) := by simp [ivCode, ivLo, ivHi, h]
theorem inR_at {xs : List Int} (h : xs.all (inR 0 5) = true) (k : Nat) (hk : k < xs.length) : 0 ≤ xs[k] ∧ xs[k] ≤ 5 := by
  rw [List.all_eq_true] at h
  exact inR_iff.1 (h _ (List.getElem_mem hk))
theorem ivS_bound {xs : List Int} (h : xs.all (inR 0 5) = true) : ∀ k, k ≤ xs.length → 0 ≤ ivS xs k ∧ ivS xs k ≤ 5 * k
  | 0, _ => by simp [ivS]
  | k + 1, hk => by
    have h1 := ivS_bound h k (by omega)
    have h2 := inR_at h k (by omega)
    have h3 : xs.getD k 0 = xs[k] := by simp [show k < xs.length by omega]
    simp only [ivS, h3]
    omega
set_option maxRecDepth 100000 in
set_option maxHeartbeats 1000000 in
theorem intervalOf1_c (x : Int) (w : World) :
    Calls Try.prog 28 #[.int .i64 x] w fun e w' => e = .returned (.bool (!inR 0 5 x)) ∧ w = w' := by
  go_enter Try.func28, Try.ntmps28
  go_wp2_with (go_at_call 26; refine (within_c _ _ _ _).mono ?_; rintro e w' ⟨rfl, rfl⟩)
  go_ret
  exact ⟨rfl, rfl⟩
def IvB (l : Int × Int) : Prop := 0 ≤ l.1 ∧ l.1 ≤ 1000 ∧ 1 ≤ l.2 ∧ l.2 ≤ 1000
theorem ivLow_b {l : Int × Int} {s n : Int} (h : IvB l) (hs : 0 ≤ s) (ls : s ≤ 1000) (hn : 1 ≤ n) (ln : n ≤ 1000) : IvB (ivLow l s n) := by
  unfold ivLow; split
  · have := low_bounds hs hn; simp only [IvB]; omega
  · exact h
theorem ivHigh_b {l : Int × Int} {s n : Int} (h : IvB l) (hs : 0 ≤ s) (ls : s ≤ 999) (hn : 1 ≤ n) (ln : n ≤ 1000) : IvB (ivHigh l s n) := by
  unfold ivHigh; split
  · have := low_bounds (show 0 ≤ s + 1 by omega) hn; simp only [IvB]; omega
  · exact h
set_option maxRecDepth 100000 in
set_option maxHeartbeats 1000000 in
theorem implIntervalOf_c (xs : List Int) (A : Option Addr) (cx : Nat) (w : World) (hX : Cells w A (ints xs)) (hl : xs.length ≤ 1048576) :
    Calls Try.prog 10 #[.slice A xs.length cx] w (RetIIC w (ivLo xs) (ivHi xs) (ivCode xs)) := by
  have H1 := Lib.hid (fun w => within_c xs.length 1 20 w)
  have H2 := Lib.hid (fun w h => containsFuncI_c xs A cx 28 #[] (fun x => !inR 0 5 x) w (fun _ _ => rfl) h (by omega) (fun x _ w1 _ => (intervalOf1_c x w1).mono (fun e w2 ⟨h1, h2⟩ => ⟨h1, by subst h2; exact Below.refl _ _⟩)))
  have hok : ivOk xs = (inR 1 20 xs.length && xs.all (inR 0 5)) := rfl
  have ha : xs.any (fun x => !inR 0 5 x) = !xs.all (inR 0 5) := by simp [List.any_eq_not_all_not]
  rw [ha] at H2
  have HX := Lib.hid hX
  cases hr : inR 1 20 xs.length
  · rw [hr] at H1 hok
    obtain ⟨q1, q2, q3⟩ := ivOk_no (xs := xs) (by rw [hok]; rfl)
    rw [q1, q2, q3]
    clear hok ha hr q1 q2 q3 hX
    go_enter Try.func10, Try.ntmps10
    go_wp2_with fail
    refine (H1.out _).mono ?_
    rintro e w1 ⟨rfl, rfl⟩
    go_wp2
    go_ret3
    exact ⟨_, _, rfl, OwnI.nil _ _, OwnI.nil _ _, .inl rfl, by (repeat (first | (with_reducible exact Below.refl _ _) | (with_reducible assumption) | (with_reducible refine below_al ?_) | (with_reducible refine below_dr ?_) | (with_reducible refine below_drN ?_) | (with_reducible refine below_set ?_ (by first | exact Nat.le_refl _ | (dsimp only; omega) | omega)) | (with_reducible refine below_tr (by with_reducible assumption) ?_)))⟩
  · rw [hr] at H1 hok
    obtain ⟨r1, r2⟩ := inR_iff.1 hr
    have r3 : 0 < xs.length := by omega
    cases hd : xs.all (inR 0 5)
    · rw [hd] at H2 hok
      obtain ⟨q1, q2, q3⟩ := ivOk_no (xs := xs) (by rw [hok]; rfl)
      rw [q1, q2, q3]
      clear hok ha hr q1 q2 q3 hX hd
      go_enter Try.func10, Try.ntmps10
      go_wp2_with fail
      refine (H1.out _).mono ?_
      rintro e w1 ⟨rfl, rfl⟩
      go_wp2_with fail
      refine (H2.out _ HX.out).mono ?_
      rintro e w1 ⟨rfl, hb1⟩
      go_wp2
      go_ret3
      exact ⟨_, _, rfl, OwnI.nil _ _, OwnI.nil _ _, .inl rfl, by (repeat (first | (with_reducible exact Below.refl _ _) | (with_reducible assumption) | (with_reducible refine below_al ?_) | (with_reducible refine below_dr ?_) | (with_reducible refine below_drN ?_) | (with_reducible refine below_set ?_ (by first | exact Nat.le_refl _ | (dsimp only; omega) | omega)) | (with_reducible refine below_tr (by with_reducible assumption) ?_)))⟩
    · rw [hd] at H2 hok
      have hyes := Lib.hid (ivOk_yes (xs := xs) (by rw [hok]; rfl))
      have HD := Lib.hid hd
      obtain ⟨p1, p2⟩ := inR_at hd 0 (by omega)
      have HE := Lib.hid (ivH_eq (xs := xs) (by simpa [show 0 < xs.length by omega] using p1) (by simpa [show 0 < xs.length by omega] using p2))
      have h00 : xs.getD 0 0 = xs[0]'(by omega) := by simp [show 0 < xs.length by omega]
      rw [h00] at HE
      clear hok ha hr hd hX
      go_enter Try.func10, Try.ntmps10
      go_wp2_with fail
      refine (H1.out _).mono ?_
      rintro e w1 ⟨rfl, rfl⟩
      go_wp2_with fail
      refine (H2.out _ HX.out).mono ?_
      rintro e w1 ⟨rfl, hb1⟩
      obtain ⟨b, off, rfl, hlt, c0⟩ := HX.out.int 0 (by omega)
      rw [Nat.add_zero] at c0
      have e0 := keepC c0
      generalize hx0 : xs[0]'(by omega) = d0 at *
      clear h00
      have hw : IntKind.i64.wrap (d0 + 1) = d0 + 1 := IntWalk.i64_in _ (by omega)
      go_wp2_with fail
      refine wp_region_plan (.det 1 (.det 2 (.det 3 (.det 4 (.two 0 (.det 6 (.one 5 (.det 7 (.det 8 (.done))))) 5 (.one 0 (.det 6 (.det 7 (.det 8 (.done)))))))))) (fun w' => Below (w).heap.size (w) w') (fun a a' w' => ∃ x0 x1 x2 x3 x4 x5 x6 x7 x8, a' = (((((((((a.put (some 19) x0).put (some 20) x1).put (some 21) x2).put (some 22) x3).put (some 23) x4).put (some 24) x5).put (some 5) x6).put (some 6) x7).put (some 7) x8) ∧ OwnI w' w.heap.size x0 [0, 1] ∧ OwnI w' w.heap.size x5 [d0 + 1, 1] ∧ x0.ownBlock ≠ x5.ownBlock ∧ x6 = x0 ∧ x7 = x5 ∧ x8 = .int .i64 0) (by kernel_rfl) (by kernel_rfl) (fun _ _ d _ _ h => by cases d <;> exact h) (hb1.drew) ?_ ?_
      rotate_left
      · rintro a' wa hba ⟨x0, x1, x2, x3, x4, x5, x6, x7, x8, rfl, hP⟩
        obtain ⟨p3, p4, p5, rfl, rfl, rfl⟩ := hP
        go_simp
        have Hba := Lib.hid hba
        clear hba e0 c0 hb1 hlt
        go_wp2_with fail
        go_loopw [5, 6, 7, 27] (fun vl vh vs vi wr => ∃ (k : Nat) (l1 l2 h1 h2 s : Int), k ≤ xs.length ∧ vi = .int .i64 k ∧ vs = .int .i64 s ∧ OwnI wr w.heap.size vl [l1, l2] ∧ OwnI wr w.heap.size vh [h1, h2] ∧ vl.ownBlock ≠ vh.ownBlock ∧
          Hid (s = ivS xs k ∧ (l1, l2) = ivL xs k ∧ (h1, h2) = ivH (d0 + 1, 1) xs k) ∧ Below w.heap.size w wr ∧ IvB (l1, l2) ∧ IvB (h1, h2)) (fun _ _ _ i _ => xs.length - (intOf i).toNat)
        case atStart => exact ⟨0, 0, 1, d0 + 1, 1, 0, by omega, rfl, rfl, p3, p4, p5, ⟨rfl, rfl, rfl⟩, Hba.out, by simp [IvB], by simp [IvB]; omega⟩
        case round =>
          obtain ⟨k, l1, l2, h1, h2, s, hk, rfl, rfl, O1, O2, hne, HI, hbw, b1, b2⟩ := hrel
          have Hbw := Lib.hid hbw
          by_cases hkl : k < xs.length
          · obtain ⟨b', off', ea, hlt, c0⟩ := (HX.out.below hbw).int k hkl
            injection ea with ea
            injection ea with ea1 ea2
            subst ea1 ea2
            have q1 := inR_at HD.out k hkl
            have q2 := ivS_bound HD.out k (by omega)
            rw [← HI.out.1] at q2
            have s0 : 0 ≤ s := q2.1
            have s1 : s ≤ 100 := by omega
            have HS : Hid (ivS xs (k + 1) = s + xs[k]) := by
              show ivS xs (k + 1) = s + xs[k]
              simp only [ivS]; rw [← HI.out.1]; simp [hkl]
            have HL : Hid (ivL xs (k + 1) = ivLow (l1, l2) (s + xs[k]) (k + 1)) := by
              show ivL xs (k + 1) = _
              simp only [ivL]; rw [← HI.out.2.1, HS.out]
            have HH : Hid (ivH (d0 + 1, 1) xs (k + 1) = ivHigh (h1, h2) (s + xs[k]) (k + 1)) := by
              show ivH (d0 + 1, 1) xs (k + 1) = _
              simp only [ivH]; rw [← HI.out.2.2, HS.out]
            generalize xs[k] = d at *
            have HB1 := Lib.hid (ivLow_b (s := s + d) (n := k + 1) b1 (by omega) (by omega) (by omega) (by omega))
            have HB2 := Lib.hid (ivHigh_b (s := s + d) (n := k + 1) b2 (by omega) (by omega) (by omega) (by omega))
            obtain ⟨b11, b12, b13, b14⟩ := b1
            obtain ⟨b21, b22, b23, b24⟩ := b2
            simp only at b11 b12 b13 b14 b21 b22 b23 b24
            have w1 := mulw (x := s + d) (y := l2) (by omega) (by omega) (by omega) (by omega)
            have w2 := mulw (x := l1) (y := k + 1) (by omega) (by omega) (by omega) (by omega)
            have w3 := mulw (x := s + d + 1) (y := h2) (by omega) (by omega) (by omega) (by omega)
            have w4 := mulw (x := h1) (y := k + 1) (by omega) (by omega) (by omega) (by omega)
            have HO1 := Lib.hid O1
            have HO2 := Lib.hid O2
            have Hne := Lib.hid hne
            obtain ⟨g1, c1, rfl, u1, u2, u3, u4⟩ := O1.two
            obtain ⟨g2, c2, rfl, v1, v2, v3, v4⟩ := O2.two
            have e0 := keepC c0
            have e1 := keepC u3
            have e2 := keepC u4
            have e3 := keepC v3
            have e4 := keepC v4
            have HC1 := Lib.hid (fun w => lowest_c (s + d) (k + 1) w (by omega) (by omega) (by omega) (by omega))
            have HC2 := Lib.hid (fun w => lowest_c (s + d + 1) (k + 1) w (by omega) (by omega) (by omega) (by omega))
            have r4 : (k : Int) + 1 ≤ 20 := by omega
            clear u3 u4 v3 v4 O1 O2 hne q2 hbw
            have w0 : IntKind.i64.wrap (s + d + 1) = s + d + 1 := IntWalk.i64_in _ (by omega)
            have HAe := Lib.hid (show (IntKind.i64.wrap (l1 * ((k : Int) + 1)) < IntKind.i64.wrap ((s + d) * l2)) ↔ (l1 * (k + 1) < (s + d) * l2) by rw [w1, w2])
            have HBe := Lib.hid (show (IntKind.i64.wrap (IntKind.i64.wrap (s + d + 1) * h2) < IntKind.i64.wrap (h1 * ((k : Int) + 1))) ↔ ((s + d + 1) * h2 < h1 * (k + 1)) by rw [w0, w3, w4])
            clear w0 w1 w2 w3 w4
            have own1 : ∀ q, (Value.slice (some ⟨g1, 0, none⟩) 2 c1).ownBlock = some q → q < wr.heap.size := fun q e => by cases e; exact u2
            have own2 : ∀ q, (Value.slice (some ⟨g2, 0, none⟩) 2 c2).ownBlock = some q → q < wr.heap.size := fun q e => by cases e; exact v2
            have Own1 := Lib.hid own1
            have Own2 := Lib.hid own2
            clear own1 own2
            have z1 := Hbw.out.size
            by_cases hA : IntKind.i64.wrap (l1 * ((k : Int) + 1)) < IntKind.i64.wrap ((s + d) * l2)
            · have hLow := Lib.hid (HL.out.trans (if_pos (HAe.out.1 hA)))
              by_cases hB : IntKind.i64.wrap (IntKind.i64.wrap (s + d + 1) * h2) < IntKind.i64.wrap (h1 * ((k : Int) + 1))
              · have hHigh := Lib.hid (HH.out.trans (if_pos (HBe.out.1 hB)))
                go_wp2_with fail
                clear c0
                refine wp_region_add (fun w' => Below (wr).heap.size (wr) w') (by kernel_rfl) (by kernel_rfl) ((Below.refl _ _).drew) ?_
                repeat (first
                  | (refine add_skip rfl (fun K' hK' => ?_); go_simp; refine hK' _ ?_; clear hK' K')
                  | (refine add_do (v := ?_) rfl (fun w1 hb => ?_) (fun K' hK' => ?_); rotate_left
                     · go_simp
                       first
                       | (with_reducible exact rfl)
                       | (with_reducible exact ⟨rfl, hb⟩)
                       | exact rfl
                       | exact ⟨rfl, hb⟩
                     go_simp; refine hK' _ ?_; clear hK' K'))
                refine add_nil ?_
                intro wa hba
                go_wp2_with fail
                refine (HC1.out _).mono ?_
                rintro e wb ⟨vl, rfl, O3, hbb⟩
                have Hwb : Hid (Below wr.heap.size wr wb) := by (show Below _ _ _); (repeat (first | (with_reducible exact Below.refl _ _) | (with_reducible assumption) | (with_reducible refine below_al ?_) | (with_reducible refine below_dr ?_) | (with_reducible refine below_drN ?_) | (with_reducible refine below_set ?_ (by first | exact Nat.le_refl _ | (dsimp only; omega) | omega)) | (with_reducible refine below_tr (by with_reducible assumption) ?_)))
                have Hle := Lib.hid hba.size
                clear hba hbb
                replace e3 := keepC (e3 _ Hwb.out)
                replace e4 := keepC (e4 _ Hwb.out)
                go_wp2_with fail
                refine wp_region_add (fun w' => Below (wb).heap.size (wb) w') (by kernel_rfl) (by kernel_rfl) ((Below.refl _ _).drew) ?_
                repeat (first
                  | (refine add_skip rfl (fun K' hK' => ?_); go_simp; refine hK' _ ?_; clear hK' K')
                  | (refine add_do (v := ?_) rfl (fun w1 hb => ?_) (fun K' hK' => ?_); rotate_left
                     · go_simp
                       first
                       | (with_reducible exact rfl)
                       | (with_reducible exact ⟨rfl, hb⟩)
                       | exact rfl
                       | exact ⟨rfl, hb⟩
                     go_simp; refine hK' _ ?_; clear hK' K'))
                refine add_nil ?_
                intro wa hba
                go_wp2_with fail
                refine (HC2.out _).mono ?_
                rintro e wd ⟨vh, rfl, O4, hbd⟩
                have q3 := Lib.hid (O3.below hba)
                go_wp2
                go_roundw
                case measure => simp [intOf]; omega
                case rel =>
                  have z2 := Hwb.out.size
                  have z3 := hba.size
                  have z4 := hbd.size
                  have z5 := Hle.out
                  exact ⟨k + 1, _, _, _, _, _, by omega, by go_num, rfl, (q3.out.below hbd).weaken (by omega), O4.weaken (by omega), (own_far (fun q e => (World.ownsRow.lt q3.out q e).2) O4 (by simp)).1,
                  ⟨HS.out.symm, hLow.out.symm, hHigh.out.symm⟩, by first | exact Hbw.out.trans (hba.mono (by omega)) | exact Hbw.out.trans ((Hwb.out.trans (hba.mono (by omega))).mono (by omega)) | exact Hbw.out.trans ((Hwb.out.trans ((hba.trans (hbd.mono (by omega))).mono (by omega))).mono (by omega)) | exact Hbw.out.trans ((hba.trans (hbd.mono (by omega))).mono (by omega)), by have h := HB1.out; rw [← HL.out, hLow.out] at h; exact h, by have h := HB2.out; rw [← HH.out, hHigh.out] at h; exact h⟩
              · have hHigh := Lib.hid (HH.out.trans (if_neg (fun h => hB (HBe.out.2 h))))
                go_wp2_with fail
                clear c0
                refine wp_region_add (fun w' => Below (wr).heap.size (wr) w') (by kernel_rfl) (by kernel_rfl) ((Below.refl _ _).drew) ?_
                repeat (first
                  | (refine add_skip rfl (fun K' hK' => ?_); go_simp; refine hK' _ ?_; clear hK' K')
                  | (refine add_do (v := ?_) rfl (fun w1 hb => ?_) (fun K' hK' => ?_); rotate_left
                     · go_simp
                       first
                       | (with_reducible exact rfl)
                       | (with_reducible exact ⟨rfl, hb⟩)
                       | exact rfl
                       | exact ⟨rfl, hb⟩
                     go_simp; refine hK' _ ?_; clear hK' K'))
                refine add_nil ?_
                intro wa hba
                go_wp2_with fail
                refine (HC1.out _).mono ?_
                rintro e wb ⟨vl, rfl, O3, hbb⟩
                have Hwb : Hid (Below wr.heap.size wr wb) := by (show Below _ _ _); (repeat (first | (with_reducible exact Below.refl _ _) | (with_reducible assumption) | (with_reducible refine below_al ?_) | (with_reducible refine below_dr ?_) | (with_reducible refine below_drN ?_) | (with_reducible refine below_set ?_ (by first | exact Nat.le_refl _ | (dsimp only; omega) | omega)) | (with_reducible refine below_tr (by with_reducible assumption) ?_)))
                have Hle := Lib.hid hba.size
                clear hba hbb
                replace e3 := keepC (e3 _ Hwb.out)
                replace e4 := keepC (e4 _ Hwb.out)
                go_wp2_with fail
                refine wp_region_add (fun w' => Below (wb).heap.size (wb) w') (by kernel_rfl) (by kernel_rfl) ((Below.refl _ _).drew) ?_
                repeat (first
                  | (refine add_skip rfl (fun K' hK' => ?_); go_simp; refine hK' _ ?_; clear hK' K')
                  | (refine add_do (v := ?_) rfl (fun w1 hb => ?_) (fun K' hK' => ?_); rotate_left
                     · go_simp
                       first
                       | (with_reducible exact rfl)
                       | (with_reducible exact ⟨rfl, hb⟩)
                       | exact rfl
                       | exact ⟨rfl, hb⟩
                     go_simp; refine hK' _ ?_; clear hK' K'))
                refine add_nil ?_
                intro wa hba
                have q3 := Lib.hid (O3.below hba)
                go_wp2
                go_roundw
                case measure => simp [intOf]; omega
                case rel =>
                  have z2 := Hwb.out.size
                  have z3 := hba.size
                  have z5 := Hle.out
                  exact ⟨k + 1, _, _, _, _, _, by omega, by go_num, rfl, q3.out.weaken (by omega), (HO2.out.below Hwb.out).below hba, (own_far (fun q e => Nat.lt_of_lt_of_le (Own2.out q e) z5) O3 (by simp)).2,
                  ⟨HS.out.symm, hLow.out.symm, hHigh.out.symm⟩, by first | exact Hbw.out.trans (hba.mono (by omega)) | exact Hbw.out.trans ((Hwb.out.trans (hba.mono (by omega))).mono (by omega)) | exact Hbw.out.trans ((Hwb.out.trans ((hba.trans (hbd.mono (by omega))).mono (by omega))).mono (by omega)) | exact Hbw.out.trans ((hba.trans (hbd.mono (by omega))).mono (by omega)), by have h := HB1.out; rw [← HL.out, hLow.out] at h; exact h, by have h := HB2.out; rw [← HH.out, hHigh.out] at h; exact h⟩
            · have hLow := Lib.hid (HL.out.trans (if_neg (fun h => hA (HAe.out.2 h))))
              by_cases hB : IntKind.i64.wrap (IntKind.i64.wrap (s + d + 1) * h2) < IntKind.i64.wrap (h1 * ((k : Int) + 1))
              · have hHigh := Lib.hid (HH.out.trans (if_pos (HBe.out.1 hB)))
                go_wp2_with fail
                clear c0
                refine wp_region_add (fun w' => Below (wr).heap.size (wr) w') (by kernel_rfl) (by kernel_rfl) ((Below.refl _ _).drew) ?_
                repeat (first
                  | (refine add_skip rfl (fun K' hK' => ?_); go_simp; refine hK' _ ?_; clear hK' K')
                  | (refine add_do (v := ?_) rfl (fun w1 hb => ?_) (fun K' hK' => ?_); rotate_left
                     · go_simp
                       first
                       | (with_reducible exact rfl)
                       | (with_reducible exact ⟨rfl, hb⟩)
                       | exact rfl
                       | exact ⟨rfl, hb⟩
                     go_simp; refine hK' _ ?_; clear hK' K'))
                refine add_nil ?_
                intro wa hba
                go_wp2_with fail
                refine wp_region_add (fun w' => Below (wr).heap.size (wr) w') (by kernel_rfl) (by kernel_rfl) (hba.drew) ?_
                repeat (first
                  | (refine add_skip rfl (fun K' hK' => ?_); go_simp; refine hK' _ ?_; clear hK' K')
                  | (refine add_do (v := ?_) rfl (fun w1 hb => ?_) (fun K' hK' => ?_); rotate_left
                     · go_simp
                       first
                       | (with_reducible exact rfl)
                       | (with_reducible exact ⟨rfl, hb⟩)
                       | exact rfl
                       | exact ⟨rfl, hb⟩
                     go_simp; refine hK' _ ?_; clear hK' K'))
                refine add_nil ?_
                intro wa hba
                go_wp2_with fail
                refine (HC2.out _).mono ?_
                rintro e wd ⟨vh, rfl, O4, hbd⟩
                go_wp2
                go_roundw
                case measure => simp [intOf]; omega
                case rel =>
                  have z3 := hba.size
                  have z4 := hbd.size
                  exact ⟨k + 1, _, _, _, _, _, by omega, by go_num, rfl, (HO1.out.below hba).below hbd, O4.weaken (by omega), (own_far (fun q e => Nat.lt_of_lt_of_le (Own1.out q e) z3) O4 (by simp)).1,
                  ⟨HS.out.symm, hLow.out.symm, hHigh.out.symm⟩, by first | exact Hbw.out.trans (hba.mono (by omega)) | exact Hbw.out.trans ((Hwb.out.trans (hba.mono (by omega))).mono (by omega)) | exact Hbw.out.trans ((Hwb.out.trans ((hba.trans (hbd.mono (by omega))).mono (by omega))).mono (by omega)) | exact Hbw.out.trans ((hba.trans (hbd.mono (by omega))).mono (by omega)), by have h := HB1.out; rw [← HL.out, hLow.out] at h; exact h, by have h := HB2.out; rw [← HH.out, hHigh.out] at h; exact h⟩
              · have hHigh := Lib.hid (HH.out.trans (if_neg (fun h => hB (HBe.out.2 h))))
                go_wp2_with fail
                clear c0
                refine wp_region_add (fun w' => Below (wr).heap.size (wr) w') (by kernel_rfl) (by kernel_rfl) ((Below.refl _ _).drew) ?_
                repeat (first
                  | (refine add_skip rfl (fun K' hK' => ?_); go_simp; refine hK' _ ?_; clear hK' K')
                  | (refine add_do (v := ?_) rfl (fun w1 hb => ?_) (fun K' hK' => ?_); rotate_left
                     · go_simp
                       first
                       | (with_reducible exact rfl)
                       | (with_reducible exact ⟨rfl, hb⟩)
                       | exact rfl
                       | exact ⟨rfl, hb⟩
                     go_simp; refine hK' _ ?_; clear hK' K'))
                refine add_nil ?_
                intro wa hba
                go_wp2_with fail
                refine wp_region_add (fun w' => Below (wr).heap.size (wr) w') (by kernel_rfl) (by kernel_rfl) (hba.drew) ?_
                repeat (first
                  | (refine add_skip rfl (fun K' hK' => ?_); go_simp; refine hK' _ ?_; clear hK' K')
                  | (refine add_do (v := ?_) rfl (fun w1 hb => ?_) (fun K' hK' => ?_); rotate_left
                     · go_simp
                       first
                       | (with_reducible exact rfl)
                       | (with_reducible exact ⟨rfl, hb⟩)
                       | exact rfl
                       | exact ⟨rfl, hb⟩
                     go_simp; refine hK' _ ?_; clear hK' K'))
                refine add_nil ?_
                intro wa hba
                go_wp2
                go_roundw
                case measure => simp [intOf]; omega
                case rel =>
                  have z3 := hba.size
                  exact ⟨k + 1, _, _, _, _, _, by omega, by go_num, rfl, HO1.out.below hba, HO2.out.below hba, Hne.out,
                  ⟨HS.out.symm, hLow.out.symm, hHigh.out.symm⟩, by first | exact Hbw.out.trans (hba.mono (by omega)) | exact Hbw.out.trans ((Hwb.out.trans (hba.mono (by omega))).mono (by omega)) | exact Hbw.out.trans ((Hwb.out.trans ((hba.trans (hbd.mono (by omega))).mono (by omega))).mono (by omega)) | exact Hbw.out.trans ((hba.trans (hbd.mono (by omega))).mono (by omega)), by have h := HB1.out; rw [← HL.out, hLow.out] at h; exact h, by have h := HB2.out; rw [← HH.out, hHigh.out] at h; exact h⟩
          · obtain rfl : k = xs.length := by omega
            obtain ⟨j, hj⟩ : ∃ j, xs.length = j + 1 := ⟨xs.length - 1, by omega⟩
            have HF := Lib.hid (show (l1, l2) = ivL xs xs.length ∧ (h1, h2) = ivH (6, 1) xs xs.length from ⟨HI.out.2.1, by rw [HI.out.2.2, hj]; exact HE.out j⟩)
            obtain ⟨b11, b12, b13, b14⟩ := b1
            obtain ⟨b21, b22, b23, b24⟩ := b2
            simp only at b11 b12 b13 b14 b21 b22 b23 b24
            have w1 := mulw (x := l1) (y := h2) (by omega) (by omega) (by omega) (by omega)
            have w2 := mulw (x := h1) (y := l2) (by omega) (by omega) (by omega) (by omega)
            have HO1 := Lib.hid O1
            have HO2 := Lib.hid O2
            have Hne := Lib.hid hne
            obtain ⟨g1, c1, rfl, u1, u2, u3, u4⟩ := O1.two
            obtain ⟨g2, c2, rfl, v1, v2, v3, v4⟩ := O2.two
            have e1 := keepC u3
            have e2 := keepC u4
            have e3 := keepC v3
            have e4 := keepC v4
            have hAe := Lib.hid (show (IntKind.i64.wrap (h1 * l2) ≤ IntKind.i64.wrap (l1 * h2)) ↔ ivFlat xs = true by unfold ivFlat; rw [← HF.out.1, ← HF.out.2, w1, w2]; simp)
            have Hwr := Lib.hid hbw
            clear u3 u4 v3 v4 O1 O2 hne hbw w1 w2
            by_cases hA : IntKind.i64.wrap (h1 * l2) ≤ IntKind.i64.wrap (l1 * h2)
            · have HR : Hid (ivCode xs = 4 ∧ ivLo xs = [] ∧ ivHi xs = []) := by
                have h := hyes.out
                rw [if_pos (hAe.out.1 hA), if_pos (hAe.out.1 hA), if_pos (hAe.out.1 hA)] at h
                exact h
              go_wp2_with fail
              refine wp_region_add (fun w' => Below (wr).heap.size (wr) w') (by kernel_rfl) (by kernel_rfl) ((Below.refl _ _).drew) ?_
              repeat (first
                | (refine add_skip rfl (fun K' hK' => ?_); go_simp; refine hK' _ ?_; clear hK' K')
                | (refine add_do (v := ?_) rfl (fun w1 hb => ?_) (fun K' hK' => ?_); rotate_left
                   · go_simp
                     first
                     | (with_reducible exact rfl)
                     | (with_reducible exact ⟨rfl, hb⟩)
                     | exact rfl
                     | exact ⟨rfl, hb⟩
                   go_simp; refine hK' _ ?_; clear hK' K'))
              refine add_nil ?_
              intro wa hba
              go_wp2
              go_ret3
              exact ⟨.slice none 0 0, .slice none 0 0, ret_c3 HR.out.1.symm, by rw [HR.out.2.1]; exact OwnI.nil _ _, by rw [HR.out.2.2]; exact OwnI.nil _ _, .inl rfl, by have h := Hwr.out; (repeat (first | (with_reducible exact Below.refl _ _) | (with_reducible assumption) | (with_reducible refine below_al ?_) | (with_reducible refine below_dr ?_) | (with_reducible refine below_drN ?_) | (with_reducible refine below_set ?_ (by first | exact Nat.le_refl _ | (dsimp only; omega) | omega)) | (with_reducible refine below_tr (by with_reducible assumption) ?_)))⟩
            · have HR : Hid (ivCode xs = 0 ∧ ivLo xs = [l1, l2] ∧ ivHi xs = [h1, h2]) := by
                have h := hyes.out
                rw [if_neg (fun h => hA (hAe.out.2 h)), if_neg (fun h => hA (hAe.out.2 h)), if_neg (fun h => hA (hAe.out.2 h)), ← HF.out.1, ← HF.out.2] at h
                exact h
              go_wp2_with fail
              refine wp_region_add (fun w' => Below (wr).heap.size (wr) w') (by kernel_rfl) (by kernel_rfl) ((Below.refl _ _).drew) ?_
              repeat (first
                | (refine add_skip rfl (fun K' hK' => ?_); go_simp; refine hK' _ ?_; clear hK' K')
                | (refine add_do (v := ?_) rfl (fun w1 hb => ?_) (fun K' hK' => ?_); rotate_left
                   · go_simp
                     first
                     | (with_reducible exact rfl)
                     | (with_reducible exact ⟨rfl, hb⟩)
                     | exact rfl
                     | exact ⟨rfl, hb⟩
                   go_simp; refine hK' _ ?_; clear hK' K'))
              refine add_nil ?_
              intro wa hba
              go_wp2
              go_ret3
              exact ⟨_, _, ret_c3 HR.out.1.symm, by rw [HR.out.2.1]; exact HO1.out.below hba, by rw [HR.out.2.2]; exact HO2.out.below hba, .inr Hne.out, by have h := Hwr.out; (repeat (first | (with_reducible exact Below.refl _ _) | (with_reducible assumption) | (with_reducible refine below_al ?_) | (with_reducible refine below_dr ?_) | (with_reducible refine below_drN ?_) | (with_reducible refine below_set ?_ (by first | exact Nat.le_refl _ | (dsimp only; omega) | omega)) | (with_reducible refine below_tr (by with_reducible assumption) ?_)))⟩
      repeat (first
        | (refine plan_skip rfl rfl (fun K' hK' => ?_); go_simp; refine hK' _ ?_; clear hK' K')
        | (refine plan_do (v := ?_) rfl rfl (fun w1 hb => ?_) (fun K' hK' => ?_); rotate_left
           · go_simp
             rfl
           go_simp; refine hK' _ ?_; clear hK' K'))
      refine plan_two ?_ ?_
      · refine step_op rfl rfl (fun K' hK' => ?_)
        go_simp
        refine hK' _ _ (below_al hb1.drew) ?_; clear hK' K'
        repeat (first
          | (refine plan_skip rfl rfl (fun K' hK' => ?_); go_simp; refine hK' _ ?_; clear hK' K')
          | (refine plan_do (v := ?_) rfl rfl (fun w1 hb => ?_) (fun K' hK' => ?_); rotate_left
             · go_simp
               rfl
             go_simp; refine hK' _ ?_; clear hK' K'))
        refine plan_one (step_op rfl rfl (fun K' hK' => ?_))
        go_simp
        refine hK' _ _ (below_al (below_al hb1.drew)) ?_; clear hK' K'
        repeat (first
          | (refine plan_skip rfl rfl (fun K' hK' => ?_); go_simp; refine hK' _ ?_; clear hK' K')
          | (refine plan_do (v := ?_) rfl rfl (fun w1 hb => ?_) (fun K' hK' => ?_); rotate_left
             · go_simp
               rfl
             go_simp; refine hK' _ ?_; clear hK' K'))
        refine plan_done ⟨?_, ?_, ?_, ?_, ?_, ?_, ?_, ?_, ?_, ?_, ?_⟩
        rotate_left 9
        · go_simp; (first | rfl | (and_intros <;> rfl))
        · exact ⟨OwnI.drew (OwnI.alloc (OwnI.newly (xs := [0, 1]) (by simp) rfl (by simp [ints]) hb1.size (by simp)) _), OwnI.drew (OwnI.newly (xs := [d0 + 1, 1]) (by simp) rfl (by simp [ints]) (le_al hb1.size) (by simp)), ne_blk (by omega), rfl, rfl, rfl⟩
      · refine step_op rfl rfl (fun K' hK' => ?_)
        go_simp
        refine hK' _ _ (below_al hb1.drew) ?_; clear hK' K'
        repeat (first
          | (refine plan_skip rfl rfl (fun K' hK' => ?_); go_simp; refine hK' _ ?_; clear hK' K')
          | (refine plan_do (v := ?_) rfl rfl (fun w1 hb => ?_) (fun K' hK' => ?_); rotate_left
             · go_simp
               rfl
             go_simp; refine hK' _ ?_; clear hK' K'))
        refine plan_one (step_op rfl rfl (fun K' hK' => ?_))
        go_simp
        refine hK' _ _ (below_al (below_al hb1.drew)) ?_; clear hK' K'
        repeat (first
          | (refine plan_skip rfl rfl (fun K' hK' => ?_); go_simp; refine hK' _ ?_; clear hK' K')
          | (refine plan_do (v := ?_) rfl rfl (fun w1 hb => ?_) (fun K' hK' => ?_); rotate_left
             · go_simp
               rfl
             go_simp; refine hK' _ ?_; clear hK' K'))
        refine plan_done ⟨?_, ?_, ?_, ?_, ?_, ?_, ?_, ?_, ?_, ?_, ?_⟩
        rotate_left 9
        · go_simp; (first | rfl | (and_intros <;> rfl))
        · exact ⟨OwnI.drew (OwnI.newly (xs := [0, 1]) (by simp) rfl (by simp [ints]) (le_al hb1.size) (by simp)), OwnI.drew (OwnI.alloc (OwnI.newly (xs := [d0 + 1, 1]) (by simp) rfl (by simp [ints]) hb1.size (by simp)) _), ne_blk (by omega), rfl, rfl, rfl⟩

end Go.Proofs.Yteaajhlpieomkaa
