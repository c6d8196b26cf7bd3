/- Contracts and lemmas for the statements of this seat, written for this claim; each theorem states its own conditions. -/
import Derived.Deep.RegionHeld3
import Derived.Test.YtfkmophmiiehlaaLbF2
import Derived.Test.YtfkmophmiiehlaaLbLw
import Derived.Test.YtfkmophmiiehlaaLbLi
import Derived.Test.YtfkmophmiiehlaaLbMk
set_option linter.unusedVariables false
set_option linter.unusedSimpArgs false
namespace Go.Proofs.Ytfkmophmiiehlaa
open Go.RowKit
theorem lfVal_short (c : Int) (ts : List T4) (h n : Int) : (lfVal c ts h n).length ≤ 6000 ∧ Short 1000000000 (lfVal c ts h n) ∧ tot (lfVal c ts h n) ≤ 30000 := by
  have key : (lfVal c ts h n).length ≤ 6000 ∧ ∀ r ∈ lfVal c ts h n, r.length ≤ 5 := by
    unfold lfVal
    split
    · rename_i hc
      unfold lfCode at hc
      split at hc
      · rename_i h0
        obtain ⟨hs, hf, _⟩ := tsCode_zero h0
        have hn5 : 1 ≤ n ∧ n ≤ 5 := by unfold inR at hf; simpa using hf
        split at hc
        · cases hc
        · rename_i hb
          have h6 : c.toNat ≤ 6 := by
            obtain ⟨_, ⟨_, c6⟩, _⟩ := isSetB_parts hs
            omega
          have hl : ∀ j, j < n.toNat → (trWords (powC c h.toNat).toNat (lev c ts h.toNat) c.toNat j).length ≤ 200 := fun j hj => by
            cases j with
            | zero => simp [trWords, exts]
            | succ j =>
              refine Nat.le_of_not_lt fun hlt => hb (lfBad_true (m := j) (by omega) (by omega))
          have h1 := lfTo_len (S := (powC c h.toNat).toNat) (cols := lev c ts h.toNat) h6 n.toNat hl
          refine ⟨by omega, fun r hr => ?_⟩
          have := lfTo_word _ r hr
          omega
      · rename_i h0; exact absurd hc h0
    · simp
  refine ⟨key.1, fun k hk => ?_, ?_⟩
  · have := key.2 _ (List.getElem_mem hk); omega
  · have := tot_short key.2; have := key.1; omega
set_option maxRecDepth 100000 in
set_option maxHeartbeats 1000000 in
theorem law_LeastForbidden (c : Int) (ts : List T4) (A : Option Addr) (cx : Nat) (h0 n : Int) (w : World) (hX : TileCells w A ts) (lx : ts.length ≤ 9223372036854775807) :
    Calls Try.prog 3 #[.agg #[.int .i64 c, .slice A ts.length cx], .int .i64 h0, .int .i64 n] w fun e w' => e = .returned (.bool true) ∧ Below w.heap.size w w' := by
  have X := Lib.hid hX
  clear hX
  have HZ := Lib.hid (fun w => szSet_c c A ts.length cx 1048576 w (by omega) (by omega) lx)
  have hz : szV ts.length 1048576 = -1 ∨ (0 ≤ szV ts.length 1048576 ∧ szV ts.length 1048576 ≤ 1048576 ∧ ts.length ≤ 1048576) := by unfold szV; split <;> omega
  rcases hz with h | ⟨h, hu, lx'⟩
  · rw [h] at HZ
    clear h
    go_enter Try.func3, Try.ntmps3
    go_wp2_with (go_at_call 9; refine (HZ.out _).mono ?_; rintro e w1 ⟨rfl, hb1⟩)
    go_ret
    exact ⟨rfl, by (repeat (first | (with_reducible exact Below.refl _ _) | (with_reducible assumption) | (with_reducible refine below_al ?_) | (with_reducible refine below_dr ?_) | (with_reducible refine below_drN ?_) | (with_reducible refine below_set ?_ (by first | exact Nat.le_refl _ | (dsimp only; omega) | omega)) | (with_reducible refine below_tr (by with_reducible assumption) ?_)))⟩
  · generalize szV ts.length 1048576 = z at *
    have HD := Lib.hid (fun w h => toSet_c c ts A cx w h lx')
    go_enter Try.func3, Try.ntmps3
    go_wp2_with fail
    refine (HZ.out _).mono ?_
    rintro e w1 ⟨rfl, hb1⟩
    have Hw1 : Hid (Below w.heap.size w w1) := by (show Below _ _ _); (repeat (first | (with_reducible exact Below.refl _ _) | (with_reducible assumption) | (with_reducible refine below_al ?_) | (with_reducible refine below_dr ?_) | (with_reducible refine below_drN ?_) | (with_reducible refine below_set ?_ (by first | exact Nat.le_refl _ | (dsimp only; omega) | omega)) | (with_reducible refine below_tr (by with_reducible assumption) ?_)))
    have q0 : ∀ o v, (w.alloc (.cells #[.int .i64 c, .slice A ts.length cx] 24)).cell? ⟨w.heap.size, o, none⟩ = some v → ∀ w2, Below w1.heap.size w1 w2 → w2.cell? ⟨w.heap.size, o, none⟩ = some v := fun o v h w2 hb => by
      have := hb1.size; simp at this
      rw [(bcell hb).1 _ _ (by omega), (bcell hb1).1 _ _ (by simp)]; exact h
    have Q0 := Lib.hid (q0 0 (.int .i64 c) (by simp))
    have Q1 := Lib.hid (q0 1 (.slice A ts.length cx) (by simp))
    have HN1 : Hid (w.heap.size < w1.heap.size) := by have := hb1.size; simp at this; show _ < _; omega
    clear q0
    have d0 := Q0.out w1 (Below.refl _ _)
    have d1 := Q1.out w1 (Below.refl _ _)
    clear hb1
    have HS := Lib.hid (fun A cx w h => specLeastForbidden_c c ts A cx h0 n w h (by omega))
    have HI := Lib.hid (fun A cx w h => implLeastForbidden_c c ts A cx h0 n w h (by omega))
    have HE := Lib.hid (fun A B cx cy w h h' => eqSet_c c c ts ts A B cx cy w h h' (by omega) (by omega))
    have heq : eqS c ts c ts = true := by simp [eqS, eqTs]
    rw [heq] at HE
    have hRl := lfVal_short c ts h0 n
    generalize hRR : lfVal c ts h0 n = R at *
    generalize hCC : lfCode c ts h0 n = d at *
    clear hRR hCC
    have HER := Lib.hid (fun A B cx cy w h h' => eqInt64SS_c R R A B cx cy w h h' (by omega) (by omega) hRl.2.1 hRl.2.1)
    rw [eqII_refl] at HER
    have hdd : (d != d) = false := by simp
    have HMS := Lib.hid (fun b T w h => markSet_c c b ts T 1 w h (by omega) (by omega))
    have HMR := Lib.hid (fun v B N w h h' => markInt64SS_c R v 1 B N w h h' (by omega) hRl.2.1 (by omega))
    have HHR := Lib.hid (fun A cx w h => heldInt64SS_c R A 1 cx w h (by omega) hRl.2.1 (by omega))
    have HRl := Lib.hid hRl
    clear heq HZ hRl
    go_wp2_with fail
    refine (HD.out _ (X.out.below Hw1.out)).mono ?_
    rintro e w2 ⟨b1, rfl, p1, B1, hb2⟩
    have HB1 := Lib.hid B1.tiles
    have Hb2 : Hid (Below w1.heap.size w1 w2) := by (show Below _ _ _); (repeat (first | (with_reducible exact Below.refl _ _) | (with_reducible assumption) | (with_reducible refine below_al ?_) | (with_reducible refine below_dr ?_) | (with_reducible refine below_drN ?_) | (with_reducible refine below_set ?_ (by first | exact Nat.le_refl _ | (dsimp only; omega) | omega)) | (with_reducible refine below_tr (by with_reducible assumption) ?_)))
    clear hb2 B1 p1
    go_wp2_with fail
    refine (HS.out _ _ _ HB1.out).mono ?_
    rintro e w3 ⟨v0, rfl, OW, hb3⟩
    have Hw3 : Hid (Below w1.heap.size w1 w3) := by (show Below _ _ _); have h2 := Hb2.out; (repeat (first | (with_reducible exact Below.refl _ _) | (with_reducible assumption) | (with_reducible refine below_al ?_) | (with_reducible refine below_dr ?_) | (with_reducible refine below_drN ?_) | (with_reducible refine below_set ?_ (by first | exact Nat.le_refl _ | (dsimp only; omega) | omega)) | (with_reducible refine below_tr (by with_reducible assumption) ?_)))
    have d0 := Q0.out w3 Hw3.out
    have d1 := Q1.out w3 Hw3.out
    have n3 : w.heap.size < w3.heap.size := by have h1 := HN1.out; have h3 := Hw3.out.size; omega
    obtain ⟨CW, kW, rfl, NW⟩ := OW.rows
    have HW0 : Hid (RowsC w3 CW R) := NW
    clear OW NW hb3
    go_wp2_with fail
    refine (HD.out _ (X.out.below (Hw1.out.trans ((by have h3 := Hw3.out; show Below w1.heap.size w1 _; (repeat (first | (with_reducible exact Below.refl _ _) | (with_reducible assumption) | (with_reducible refine below_al ?_) | (with_reducible refine below_dr ?_) | (with_reducible refine below_drN ?_) | (with_reducible refine below_set ?_ (by first | exact Nat.le_refl _ | (dsimp only; omega) | omega)) | (with_reducible refine below_tr (by with_reducible assumption) ?_))) : Below w1.heap.size w1 _).mono Hw1.out.size)))).mono ?_
    rintro e w4 ⟨b1, rfl, p1, B1, hb4⟩
    have HB1 := Lib.hid B1
    have Hp1 : Hid (w3.heap.size ≤ b1) := by show _ ≤ _; (try simp at p1); omega
    have Hw4 : Hid (Below w3.heap.size w3 w4) := by (show Below _ _ _); (repeat (first | (with_reducible exact Below.refl _ _) | (with_reducible assumption) | (with_reducible refine below_al ?_) | (with_reducible refine below_dr ?_) | (with_reducible refine below_drN ?_) | (with_reducible refine below_set ?_ (by first | exact Nat.le_refl _ | (dsimp only; omega) | omega)) | (with_reducible refine below_tr (by with_reducible assumption) ?_)))
    have d0 := Q0.out w4 (Hw3.out.trans (Hw4.out.mono Hw3.out.size))
    have d1 := Q1.out w4 (Hw3.out.trans (Hw4.out.mono Hw3.out.size))
    have n4 : w.heap.size < w4.heap.size := by have h3 := Hw4.out.size; omega
    have HbN : Hid (b1 < w4.heap.size) := B1.lt
    clear p1 B1 hb4
    go_wp2_with fail
    refine (HI.out _ _ _ (TileCells.below HB1.out.tiles (by (repeat (first | (with_reducible exact Below.refl _ _) | (with_reducible assumption) | (with_reducible refine below_al ?_) | (with_reducible refine below_dr ?_) | (with_reducible refine below_drN ?_) | (with_reducible refine below_set ?_ (by first | exact Nat.le_refl _ | (dsimp only; omega) | omega)) | (with_reducible refine below_tr (by with_reducible assumption) ?_)))))).mono ?_
    rintro e w5 ⟨g0, rfl, OG, hb5⟩
    have Hb5 : Hid (Below w4.heap.size w4 w5) := by (show Below _ _ _); (repeat (first | (with_reducible exact Below.refl _ _) | (with_reducible assumption) | (with_reducible refine below_al ?_) | (with_reducible refine below_dr ?_) | (with_reducible refine below_drN ?_) | (with_reducible refine below_set ?_ (by first | exact Nat.le_refl _ | (dsimp only; omega) | omega)) | (with_reducible refine below_tr (by with_reducible assumption) ?_)))
    have n4b : w4.heap.size < w5.heap.size := by have h5 := hb5.size; (try simp at h5); omega
    have q2 : w5.cell? ⟨w4.heap.size, 0, none⟩ = some (.int .i64 c) := by rw [(bcell hb5).1 _ _ (by simp)]; first | (go_simp; done) | simp
    have q3 : w5.cell? ⟨w4.heap.size, 1, none⟩ = some (.slice (some ⟨b1, 0, none⟩) ts.length ts.length) := by rw [(bcell hb5).1 _ _ (by simp)]; first | (go_simp; done) | simp
    have G0 := keepC q2
    have G1 := keepC q3
    have HBk5 : Hid (Blk w5 b1 (tcells ts) 57) := HB1.out.below Hb5.out HbN.out
    have Hw5 : Hid (Below w3.heap.size w3 w5) := by (show Below _ _ _); have h4 := Hw4.out; have h5 := Hb5.out; (repeat (first | (with_reducible exact Below.refl _ _) | (with_reducible assumption) | (with_reducible refine below_al ?_) | (with_reducible refine below_dr ?_) | (with_reducible refine below_drN ?_) | (with_reducible refine below_set ?_ (by first | exact Nat.le_refl _ | (dsimp only; omega) | omega)) | (with_reducible refine below_tr (by with_reducible assumption) ?_)))
    have HT5 : Hid (TileCells w5 (some ⟨b1, 0, none⟩) ts) := HBk5.out.tiles
    have n5 : w.heap.size < w5.heap.size := by have h3 := Hw5.out.size; omega
    have n5b : w4.heap.size < w5.heap.size := by have h3 := Hb5.out.size; omega
    have D0 := keepC (Q0.out w5 (Hw3.out.trans (Hw5.out.mono Hw3.out.size)))
    have D1 := keepC (Q1.out w5 (Hw3.out.trans (Hw5.out.mono Hw3.out.size)))
    have HX5 : Hid (TileCells w5 A ts) := X.out.below (Hw1.out.trans ((Hw3.out.trans (Hw5.out.mono Hw3.out.size)).mono Hw1.out.size))
    obtain ⟨CG, kG, rfl, NG⟩ := OG.rows
    have HG5 := Lib.hid OG.toN
    have HNG : Hid (RowsC w5 CG R) := NG
    clear hb5 OG NG
    go_wp2_with fail
    refine (HER.out _ _ _ _ _ HNG.out (HW0.out.below Hw5.out)).mono ?_
    rintro e w6 ⟨rfl, hb6⟩
    have H6 := Lib.hid hb6
    have D0 := D0 _ hb6
    have D1 := D1 _ hb6
    have G0 := G0 _ hb6
    have G1 := G1 _ hb6
    have n6 : w.heap.size < w6.heap.size := by have h3 := hb6.size; omega
    have n6b : w4.heap.size < w6.heap.size := by have h3 := hb6.size; omega
    have D0 := keepC D0
    have D1 := keepC D1
    have G0 := keepC G0
    have G1 := keepC G1
    clear hb6
    go_wp2_with fail
    refine wp_region_mix [(0, true), (1, true), (2, false), (3, false), (4, true)] (fun w' => Below w6.heap.size w6 w') (by kernel_rfl) (by kernel_rfl) (fun _ _ d _ _ h => by cases d <;> exact h) (Below.refl _ _).drew ?_
    repeat (first
      | (refine mix_skip rfl rfl (fun K' hK' => ?_); go_simp; refine hK' _ ?_; clear hK' K')
      | (refine mix_do (v := ?_) rfl rfl (fun w1 hb => ?_) (fun K' hK' => ?_); rotate_left
         · go_simp
           rfl
         go_simp; refine hK' _ ?_; clear hK' K'))
    refine mix_call rfl rfl (fun K' hK' => ?_)
    go_simp
    refine (HD.out _ ((HX5.out.below H6.out).below (by (repeat (first | (with_reducible exact Below.refl _ _) | (with_reducible assumption) | (with_reducible refine below_al ?_) | (with_reducible refine below_dr ?_) | (with_reducible refine below_drN ?_) | (with_reducible refine below_set ?_ (by first | exact Nat.le_refl _ | (dsimp only; omega) | omega)) | (with_reducible refine below_tr (by with_reducible assumption) ?_)))))).mono ?_
    rintro e w7 ⟨b2, rfl, p2, B2, hb7⟩
    refine hK' _ _ (by (repeat (first | (with_reducible exact Below.refl _ _) | (with_reducible assumption) | (with_reducible refine below_al ?_) | (with_reducible refine below_dr ?_) | (with_reducible refine below_drN ?_) | (with_reducible refine below_set ?_ (by first | exact Nat.le_refl _ | (dsimp only; omega) | omega)) | (with_reducible refine below_tr (by with_reducible assumption) ?_)))) ?_; clear hK' K'
    refine mix_call rfl rfl (fun K' hK' => ?_)
    go_simp
    refine (HE.out _ _ _ _ _ (TileCells.below (HT5.out.below H6.out) (by (repeat (first | (with_reducible exact Below.refl _ _) | (with_reducible assumption) | (with_reducible refine below_al ?_) | (with_reducible refine below_dr ?_) | (with_reducible refine below_drN ?_) | (with_reducible refine below_set ?_ (by first | exact Nat.le_refl _ | (dsimp only; omega) | omega)) | (with_reducible refine below_tr (by with_reducible assumption) ?_))))) B2.tiles).mono ?_
    rintro e w8 ⟨rfl, hb8⟩
    have Hw8 : Hid (Below w6.heap.size w6 w8) := by (show Below _ _ _); (repeat (first | (with_reducible exact Below.refl _ _) | (with_reducible assumption) | (with_reducible refine below_al ?_) | (with_reducible refine below_dr ?_) | (with_reducible refine below_drN ?_) | (with_reducible refine below_set ?_ (by first | exact Nat.le_refl _ | (dsimp only; omega) | omega)) | (with_reducible refine below_tr (by with_reducible assumption) ?_)))
    refine hK' _ _ (by (repeat (first | (with_reducible exact Below.refl _ _) | (with_reducible assumption) | (with_reducible refine below_al ?_) | (with_reducible refine below_dr ?_) | (with_reducible refine below_drN ?_) | (with_reducible refine below_set ?_ (by first | exact Nat.le_refl _ | (dsimp only; omega) | omega)) | (with_reducible refine below_tr (by with_reducible assumption) ?_)))) ?_; clear hK' K'
    repeat (first
      | (refine mix_skip rfl rfl (fun K' hK' => ?_); go_simp; refine hK' _ ?_; clear hK' K')
      | (refine mix_do (v := ?_) rfl rfl (fun w1 hb => ?_) (fun K' hK' => ?_); rotate_left
         · go_simp
           rfl
         go_simp; refine hK' _ ?_; clear hK' K'))
    refine mix_nil ?_
    have D0 := keepC (D0 _ Hw8.out)
    have D1 := keepC (D1 _ Hw8.out)
    have G0 := keepC (G0 _ Hw8.out)
    have G1 := keepC (G1 _ Hw8.out)
    have n8 : w.heap.size < w8.heap.size := by have h3 := Hw8.out.size; omega
    have n8b : w4.heap.size < w8.heap.size := by have h3 := Hw8.out.size; omega
    have H8 : Hid (Below w5.heap.size w5 w8) := H6.out.trans (Hw8.out.mono H6.out.size)
    clear B2 p2 hb7 hb8
    have e0 := G0 _ (Below.refl _ _)
    have e1 := G1 _ (Below.refl _ _)
    clear G0 G1
    go_wp2_with fail
    refine (HMS.out _ _ _ ((HBk5.out.below H8.out HBk5.out.lt))).mono ?_
    rintro e w10 ⟨rfl, hg⟩
    have HT10 : Hid (Touch b1 (b1 + 1) w8 w10) := Touch.one hg
    have HB10 : Hid (Below w3.heap.size w3 w10) := (Hw5.out.trans (H8.out.mono Hw5.out.size)).trans ((HT10.out.below (by have h1 := HBk5.out.lt; have h2 := H8.out.size; omega)).mono Hp1.out)
    clear hg e0 e1
    have HG10 := Lib.hid ((HG5.out.same (fun k _ hk => H8.out.block k hk)).same (fun k hk1 hk => HT10.out.block k hk (.inr (by have := HbN.out; (try simp at hk1); omega))))
    go_wp2_with fail
    refine (HER.out _ _ _ _ _ (by obtain ⟨_, _, e, hr⟩ := OwnII.rows HG10.out.toII; injection e with e1 e2 e3; rw [e1]; exact hr) (HW0.out.below HB10.out)).mono ?_
    rintro e w12 ⟨rfl, hb12⟩
    have H12 : Hid (Below w3.heap.size w3 w12) := by (show Below _ _ _); have h1 := HB10.out; (repeat (first | (with_reducible exact Below.refl _ _) | (with_reducible assumption) | (with_reducible refine below_al ?_) | (with_reducible refine below_dr ?_) | (with_reducible refine below_drN ?_) | (with_reducible refine below_set ?_ (by first | exact Nat.le_refl _ | (dsimp only; omega) | omega)) | (with_reducible refine below_tr (by with_reducible assumption) ?_)))
    have HG12 := Lib.hid (HG10.out.same (fun k _ hk => hb12.block k hk))
    have hs12 : w10.heap.size ≤ w12.heap.size := hb12.size
    clear hb12
    go_wp2_with fail
    refine (HMR.out _ _ _ _ HG12.out (by have h1 := Hb5.out.size; have h3 := H8.out.size; have h4 := HT10.out.size; (try simp); omega)).mono ?_
    rintro e w13 ⟨rfl, hO13, hT13⟩
    have HG13 := Lib.hid hO13
    have H13 : Hid (Below w3.heap.size w3 w13) := by (show Below _ _ _); exact H12.out.trans ((hT13.below (by have h1 := Hb5.out.size; have h3 := H8.out.size; have h4 := HT10.out.size; (try simp); omega)).mono (by have h2 := Hw4.out.size; (try simp); omega))
    clear hO13 hT13
    have HC13 : Hid (RowsC w13 CG (marksII 1 R)) := by obtain ⟨_, _, e, hr⟩ := OwnII.rows HG13.out.toII; injection e with e1 e2 e3; show RowsC _ _ _; rw [e1]; exact hr
    go_wp2_with fail
    refine (HHR.out _ _ _ HC13.out).mono ?_
    rintro e w14 ⟨rfl, rfl⟩
    have d0 := Q0.out w13 (Hw3.out.trans (H13.out.mono Hw3.out.size))
    have d1 := Q1.out w13 (Hw3.out.trans (H13.out.mono Hw3.out.size))
    have HXX : Hid (Below w.heap.size w w13) := Hw1.out.trans ((Hw3.out.trans (H13.out.mono Hw3.out.size)).mono Hw1.out.size)
    have n13 : w.heap.size < w13.heap.size := by have h3 := H13.out.size; omega
    go_wp2_with fail
    refine (HD.out _ (X.out.below (by have h1 := HXX.out; (repeat (first | (with_reducible exact Below.refl _ _) | (with_reducible assumption) | (with_reducible refine below_al ?_) | (with_reducible refine below_dr ?_) | (with_reducible refine below_drN ?_) | (with_reducible refine below_set ?_ (by first | exact Nat.le_refl _ | (dsimp only; omega) | omega)) | (with_reducible refine below_tr (by with_reducible assumption) ?_)))))).mono ?_
    rintro e w15 ⟨b5, rfl, p5, B5, hb15⟩
    have HB5 := Lib.hid B5
    have Hw15 : Hid (Below w13.heap.size w13 w15) := by (show Below _ _ _); (repeat (first | (with_reducible exact Below.refl _ _) | (with_reducible assumption) | (with_reducible refine below_al ?_) | (with_reducible refine below_dr ?_) | (with_reducible refine below_drN ?_) | (with_reducible refine below_set ?_ (by first | exact Nat.le_refl _ | (dsimp only; omega) | omega)) | (with_reducible refine below_tr (by with_reducible assumption) ?_)))
    clear p5 B5 hb15
    go_wp2_with fail
    refine (HI.out _ _ _ HB5.out.tiles).mono ?_
    rintro e w17 ⟨h0, rfl, OH, hb17⟩
    have Hw17 : Hid (Below w13.heap.size w13 w17) := by (show Below _ _ _); have h1 := Hw15.out; (repeat (first | (with_reducible exact Below.refl _ _) | (with_reducible assumption) | (with_reducible refine below_al ?_) | (with_reducible refine below_dr ?_) | (with_reducible refine below_drN ?_) | (with_reducible refine below_set ?_ (by first | exact Nat.le_refl _ | (dsimp only; omega) | omega)) | (with_reducible refine below_tr (by with_reducible assumption) ?_)))
    obtain ⟨CH, kH, rfl, NH⟩ := OH.rows
    have HNH : Hid (RowsC w17 CH R) := NH
    clear OH NH hb17 d0 d1
    go_wp2_with fail
    refine (HER.out _ _ _ _ _ HNH.out (HW0.out.below (H13.out.trans (Hw17.out.mono H13.out.size)))).mono ?_
    rintro e w18 ⟨rfl, hb18⟩
    have H18 : Hid (Below w13.heap.size w13 w18) := Hw17.out.trans (hb18.mono Hw17.out.size)
    clear hb18
    go_wp2_with fail
    refine (HHR.out _ _ _ (HC13.out.below H18.out)).mono ?_
    rintro e w19 ⟨rfl, rfl⟩
    go_wp2
    go_ret
    exact ⟨rfl, HXX.out.trans (H18.out.mono HXX.out.size)⟩

end Go.Proofs.Ytfkmophmiiehlaa
