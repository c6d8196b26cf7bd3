/- Contracts and lemmas for the statements of this seat, written for this claim; each theorem states its own conditions. -/
import Derived.Deep.RegionHeld3
import Derived.Test.YtfkmophmiiehlaaVpQ7
set_option linter.unusedVariables false
set_option linter.unusedSimpArgs false
namespace Go.Proofs.Ytfkmophmiiehlaa
open Go.RowKit
theorem pgV_len (c : Int) (ts : List T4) (L : List (List Int)) (i : Int) : (pgV c ts L i).length ≤ 256 ∧ Short 1000000000 (pgV c ts L i) ∧ tot (pgV c ts L i) ≤ 1000 := by
  unfold pgV
  split
  · rename_i h
    obtain ⟨h1, h2⟩ := codeB_zero h
    obtain ⟨hB, _⟩ := stepB_parts h2
    have := (isSetB_small h1).2
    have h3 := prV_len L (metV L i)
    have h4 := sq16 (n := L.length) (by rw [hB.1]; omega)
    have h5 : Short 2 (prows (prV L (metV L i))) := fun k hk => by simp [prows, prow]
    have h6 := tot_le (Short_iff.1 h5)
    rw [prows_length] at h6
    exact ⟨by rw [prows_length]; omega, fun k hk => Nat.le_trans (h5 k hk) (by omega), by omega⟩
  · exact ⟨by simp, fun k hk => by simp at hk, by simp [tot]⟩
set_option maxRecDepth 100000 in
set_option maxHeartbeats 1000000 in
theorem law_PairsGrown (c : Int) (ts : List T4) (A : Option Addr) (cx : Nat) (L : List (List Int)) (B : Option Addr) (cr : Nat) (i : Int) (w : World) (hX : TileCells w A ts) (lx : ts.length ≤ 9223372036854775807) (hR : RowsC w B L) (lr : L.length ≤ 9223372036854775807) (sr : Short 9223372036854775807 L) :
    Calls Try.prog 8 #[.agg #[.int .i64 c, .slice A ts.length cx], .slice B L.length cr, .int .i64 i] w fun e w' => e = .returned (.bool true) ∧ Below w.heap.size w w' := by
  have X := Lib.hid hX
  have Y := Lib.hid hR
  clear hX hR
  have HZ := Lib.hid (fun w => szSet_c c A ts.length cx 1048576 w (by omega) (by omega) lx)
  have hz : szV ts.length 1048576 = -1 ∨ (0 ≤ szV ts.length 1048576 ∧ szV ts.length 1048576 ≤ 1048576 ∧ ts.length ≤ 1048576) := by unfold szV; split <;> omega
  rcases hz with h | ⟨h, hu, lx'⟩
  · rw [h] at HZ
    clear h
    go_enter Try.func8, Try.ntmps8
    go_wp2_with (go_at_call 9; refine (HZ.out _).mono ?_; rintro e w1 ⟨rfl, hb1⟩)
    go_ret
    exact ⟨rfl, by (repeat (first | (with_reducible exact Below.refl _ _) | (with_reducible assumption) | (with_reducible refine below_al ?_) | (with_reducible refine below_dr ?_) | (with_reducible refine below_drN ?_) | (with_reducible refine below_set ?_ (by first | exact Nat.le_refl _ | (dsimp only; omega) | omega)) | (with_reducible refine below_tr (by with_reducible assumption) ?_)))⟩
  · generalize szV ts.length 1048576 = z at *
    have HZ2 := Lib.hid (fun w h => szInt64SS_c L B cr z w h (by omega) (by omega) lr sr)
    have HD := Lib.hid (fun w h => toSet_c c ts A cx w h lx')
    go_enter Try.func8, Try.ntmps8
    go_wp2_with fail
    refine (HZ.out _).mono ?_
    rintro e w1 ⟨rfl, hb1⟩
    have Hw1 : Hid (Below w.heap.size w w1) := by (show Below _ _ _); (repeat (first | (with_reducible exact Below.refl _ _) | (with_reducible assumption) | (with_reducible refine below_al ?_) | (with_reducible refine below_dr ?_) | (with_reducible refine below_drN ?_) | (with_reducible refine below_set ?_ (by first | exact Nat.le_refl _ | (dsimp only; omega) | omega)) | (with_reducible refine below_tr (by with_reducible assumption) ?_)))
    have q0 : ∀ o v, (w.alloc (.cells #[.int .i64 c, .slice A ts.length cx] 24)).cell? ⟨w.heap.size, o, none⟩ = some v → ∀ w2, Below w1.heap.size w1 w2 → w2.cell? ⟨w.heap.size, o, none⟩ = some v := fun o v h w2 hb => by
      have := hb1.size; simp at this
      rw [(bcell hb).1 _ _ (by omega), (bcell hb1).1 _ _ (by simp)]; exact h
    have Q0 := Lib.hid (q0 0 (.int .i64 c) (by simp))
    have Q1 := Lib.hid (q0 1 (.slice A ts.length cx) (by simp))
    have HN1 : Hid (w.heap.size < w1.heap.size) := by have := hb1.size; simp at this; show _ < _; omega
    clear q0
    have d0 := Q0.out w1 (Below.refl _ _)
    have d1 := Q1.out w1 (Below.refl _ _)
    clear hb1
    go_wp2_with fail
    refine (HZ2.out _ (Y.out.below Hw1.out)).mono ?_
    rintro e wz ⟨y, rfl, hy, rfl⟩
    rcases hy with rfl | ⟨y0, y1, lr', sr', tt'⟩
    · go_wp2
      go_ret
      exact ⟨rfl, Hw1.out⟩
    have HDI := Lib.hid (fun w h => toInt64SS_c L B cr w h lr' sr')
    have sr2 : Short 1000000000 L := fun k h => by have := sr' k h; omega
    have HS := Lib.hid (fun A cx B cr w h h' => specPairsGrown_c c ts A cx L B cr i w h (by omega) h' (by omega) sr2)
    have HI := Lib.hid (fun A cx B cr w h h' => implPairsGrown_c c ts A cx L B cr i w h (by omega) h' (by omega) sr2)
    have HE := Lib.hid (fun A B cx cy w h h' => eqSet_c c c ts ts A B cx cy w h h' (by omega) (by omega))
    have heq : eqS c ts c ts = true := by simp [eqS, eqTs]
    rw [heq] at HE
    have HEI := Lib.hid (fun A B cx cy w h h' => eqInt64SS_c L L A B cx cy w h h' (by omega) (by omega) sr2 sr2)
    rw [eqII_refl] at HEI
    have hRl := pgV_len c ts L i
    generalize hRR : pgV c ts L i = R at *
    generalize hCC : tgCode c ts L i = d at *
    clear hRR hCC
    have HER := Lib.hid (fun A B cx cy w h h' => eqInt64SS_c R R A B cx cy w h h' (by omega) (by omega) hRl.2.1 hRl.2.1)
    rw [eqII_refl] at HER
    have hdd : (d != d) = false := by simp
    have HMS := Lib.hid (fun b T w h => markSet_c c b ts T 1 w h (by omega) (by omega))
    have HMB := Lib.hid (fun v B N w h h' => markInt64SS_c L v (1 + ts.length * 4) B N w h h' (by omega) sr2 (by omega))
    have HMR := Lib.hid (fun v B N w h h' => markInt64SS_c R v 1 B N w h h' (by omega) hRl.2.1 (by omega))
    have HHR := Lib.hid (fun A cx w h => heldInt64SS_c R A 1 cx w h (by omega) hRl.2.1 (by omega))
    have HRl := Lib.hid hRl
    clear heq HZ hRl sr sr' sr2 HZ2 tt'
    go_wp2_with fail
    refine (HD.out _ (X.out.below Hw1.out)).mono ?_
    rintro e w2 ⟨b1, rfl, p1, B1, hb2⟩
    have HB1 := Lib.hid B1.tiles
    have Hb2 : Hid (Below w1.heap.size w1 w2) := by (show Below _ _ _); (repeat (first | (with_reducible exact Below.refl _ _) | (with_reducible assumption) | (with_reducible refine below_al ?_) | (with_reducible refine below_dr ?_) | (with_reducible refine below_drN ?_) | (with_reducible refine below_set ?_ (by first | exact Nat.le_refl _ | (dsimp only; omega) | omega)) | (with_reducible refine below_tr (by with_reducible assumption) ?_)))
    clear hb2 B1 p1
    go_wp2_with fail
    refine (HDI.out _ (Y.out.below (Hw1.out.trans ((by have h2 := Hb2.out; show Below w1.heap.size w1 _; (repeat (first | (with_reducible exact Below.refl _ _) | (with_reducible assumption) | (with_reducible refine below_al ?_) | (with_reducible refine below_dr ?_) | (with_reducible refine below_drN ?_) | (with_reducible refine below_set ?_ (by first | exact Nat.le_refl _ | (dsimp only; omega) | omega)) | (with_reducible refine below_tr (by with_reducible assumption) ?_))) : Below w1.heap.size w1 _).mono Hw1.out.size)))).mono ?_
    rintro e w2' ⟨v1, rfl, O1, hb2'⟩
    obtain ⟨C1, k1, rfl, N1⟩ := O1.rows
    go_wp2_with fail
    refine (HS.out _ _ _ _ _ (TileCells.below HB1.out (by (repeat (first | (with_reducible exact Below.refl _ _) | (with_reducible assumption) | (with_reducible refine below_al ?_) | (with_reducible refine below_dr ?_) | (with_reducible refine below_drN ?_) | (with_reducible refine below_set ?_ (by first | exact Nat.le_refl _ | (dsimp only; omega) | omega)) | (with_reducible refine below_tr (by with_reducible assumption) ?_))))) N1).mono ?_
    rintro e w3 ⟨v0, rfl, OW, hb3⟩
    have Hw3 : Hid (Below w1.heap.size w1 w3) := by (show Below _ _ _); have h2 := Hb2.out; (repeat (first | (with_reducible exact Below.refl _ _) | (with_reducible assumption) | (with_reducible refine below_al ?_) | (with_reducible refine below_dr ?_) | (with_reducible refine below_drN ?_) | (with_reducible refine below_set ?_ (by first | exact Nat.le_refl _ | (dsimp only; omega) | omega)) | (with_reducible refine below_tr (by with_reducible assumption) ?_)))
    have d0 := Q0.out w3 Hw3.out
    have d1 := Q1.out w3 Hw3.out
    have n3 : w.heap.size < w3.heap.size := by have h1 := HN1.out; have h3 := Hw3.out.size; omega
    obtain ⟨CW, kW, rfl, NW⟩ := OW.rows
    have HW0 : Hid (RowsC w3 CW R) := NW
    clear OW NW hb3 O1 N1 hb2'
    go_wp2_with fail
    refine (HD.out _ (X.out.below (Hw1.out.trans ((by have h3 := Hw3.out; show Below w1.heap.size w1 _; (repeat (first | (with_reducible exact Below.refl _ _) | (with_reducible assumption) | (with_reducible refine below_al ?_) | (with_reducible refine below_dr ?_) | (with_reducible refine below_drN ?_) | (with_reducible refine below_set ?_ (by first | exact Nat.le_refl _ | (dsimp only; omega) | omega)) | (with_reducible refine below_tr (by with_reducible assumption) ?_))) : Below w1.heap.size w1 _).mono Hw1.out.size)))).mono ?_
    rintro e w4 ⟨b1, rfl, p1, B1, hb4⟩
    have HB1 := Lib.hid B1
    have Hp1 : Hid (w3.heap.size ≤ b1) := by show _ ≤ _; (try simp at p1); omega
    have Hw4 : Hid (Below w3.heap.size w3 w4) := by (show Below _ _ _); (repeat (first | (with_reducible exact Below.refl _ _) | (with_reducible assumption) | (with_reducible refine below_al ?_) | (with_reducible refine below_dr ?_) | (with_reducible refine below_drN ?_) | (with_reducible refine below_set ?_ (by first | exact Nat.le_refl _ | (dsimp only; omega) | omega)) | (with_reducible refine below_tr (by with_reducible assumption) ?_)))
    have d0 := Q0.out w4 (Hw3.out.trans (Hw4.out.mono Hw3.out.size))
    have d1 := Q1.out w4 (Hw3.out.trans (Hw4.out.mono Hw3.out.size))
    have n4 : w.heap.size < w4.heap.size := by have h3 := Hw4.out.size; omega
    have HbN : Hid (b1 < w4.heap.size) := B1.lt
    clear p1 B1 hb4
    go_wp2_with fail
    refine (HDI.out _ (Y.out.below (Hw1.out.trans ((Hw3.out.trans ((by have h4 := Hw4.out; show Below w3.heap.size w3 _; (repeat (first | (with_reducible exact Below.refl _ _) | (with_reducible assumption) | (with_reducible refine below_al ?_) | (with_reducible refine below_dr ?_) | (with_reducible refine below_drN ?_) | (with_reducible refine below_set ?_ (by first | exact Nat.le_refl _ | (dsimp only; omega) | omega)) | (with_reducible refine below_tr (by with_reducible assumption) ?_))) : Below w3.heap.size w3 _).mono Hw3.out.size)).mono Hw1.out.size)))).mono ?_
    rintro e w4' ⟨v1, rfl, O1, hb4'⟩
    have HO1 := Lib.hid O1
    obtain ⟨C1, k1, rfl, N1⟩ := O1.rows
    have HN1' := Lib.hid N1
    skip
    have Hw4' : Hid (Below w3.heap.size w3 w4') := by (show Below _ _ _); have h4 := Hw4.out; (repeat (first | (with_reducible exact Below.refl _ _) | (with_reducible assumption) | (with_reducible refine below_al ?_) | (with_reducible refine below_dr ?_) | (with_reducible refine below_drN ?_) | (with_reducible refine below_set ?_ (by first | exact Nat.le_refl _ | (dsimp only; omega) | omega)) | (with_reducible refine below_tr (by with_reducible assumption) ?_)))
    have HBk4 : Hid (Blk w4' b1 (tcells ts) 57) := HB1.out.below (by have h4 : Below w4.heap.size w4 w4' := (by (repeat (first | (with_reducible exact Below.refl _ _) | (with_reducible assumption) | (with_reducible refine below_al ?_) | (with_reducible refine below_dr ?_) | (with_reducible refine below_drN ?_) | (with_reducible refine below_set ?_ (by first | exact Nat.le_refl _ | (dsimp only; omega) | omega)) | (with_reducible refine below_tr (by with_reducible assumption) ?_)))); exact h4) HbN.out
    have q2 : w4'.cell? ⟨w4.heap.size, 0, none⟩ = some (.int .i64 c) := by rw [(bcell hb4').1 _ _ (by simp)]; first | (go_simp; done) | simp
    have q3 : w4'.cell? ⟨w4.heap.size, 1, none⟩ = some (.slice (some ⟨b1, 0, none⟩) ts.length ts.length) := by rw [(bcell hb4').1 _ _ (by simp)]; first | (go_simp; done) | simp
    have n4b : w4.heap.size < w4'.heap.size := by have := hb4'.size; simp at this; omega
    have HbN' : Hid (b1 < w4'.heap.size) := by have := HbN.out; show _ < _; omega
    have F0 := Lib.hid (keepC q2)
    have F1 := Lib.hid (keepC q3)
    have HBase : Hid (w4.heap.size < (w4.alloc (.cells #[.int .i64 c, .slice (some ⟨b1, 0, none⟩) ts.length ts.length] 31)).heap.size) := by show _ < _; simp
    clear hb4' O1 N1
    go_wp2_with fail
    refine (HI.out _ _ _ _ _ HBk4.out.tiles HN1'.out).mono ?_
    rintro e w5 ⟨g0, rfl, OG, hb5⟩
    have Hb5 := Lib.hid hb5
    have G0 := keepC (F0.out _ hb5)
    have G1 := keepC (F1.out _ hb5)
    have HBk5 : Hid (Blk w5 b1 (tcells ts) 57) := HBk4.out.below hb5 HbN'.out
    have HN5 : Hid (RowsC w5 C1 L) := HN1'.out.below hb5
    have Hb5 := Lib.hid hb5
    have HO5 : Hid (OwnN w5 _ w4'.heap.size _ L) := (HO1.out.toN).same (fun k _ hk => hb5.block k hk)
    have Hw5 : Hid (Below w3.heap.size w3 w5) := by (show Below _ _ _); have h4 := Hw4'.out; have h5 := Hb5.out; (repeat (first | (with_reducible exact Below.refl _ _) | (with_reducible assumption) | (with_reducible refine below_al ?_) | (with_reducible refine below_dr ?_) | (with_reducible refine below_drN ?_) | (with_reducible refine below_set ?_ (by first | exact Nat.le_refl _ | (dsimp only; omega) | omega)) | (with_reducible refine below_tr (by with_reducible assumption) ?_)))
    have HT5 : Hid (TileCells w5 (some ⟨b1, 0, none⟩) ts) := HBk5.out.tiles
    have n5 : w.heap.size < w5.heap.size := by have h3 := Hw5.out.size; omega
    have n5b : w4.heap.size < w5.heap.size := by have h3 := Hb5.out.size; omega
    have D0 := keepC (Q0.out w5 (Hw3.out.trans (Hw5.out.mono Hw3.out.size)))
    have D1 := keepC (Q1.out w5 (Hw3.out.trans (Hw5.out.mono Hw3.out.size)))
    have HX5 : Hid (TileCells w5 A ts) := X.out.below (Hw1.out.trans ((Hw3.out.trans (Hw5.out.mono Hw3.out.size)).mono Hw1.out.size))
    have HY5 : Hid (RowsC w5 B L) := Y.out.below (Hw1.out.trans ((Hw3.out.trans (Hw5.out.mono Hw3.out.size)).mono Hw1.out.size))
    obtain ⟨CG, kG, rfl, NG⟩ := OG.rows
    have HG5 := Lib.hid OG.toN
    have HNG : Hid (RowsC w5 CG R) := NG
    clear hb5 OG NG
    go_wp2_with fail
    refine (HER.out _ _ _ _ _ HNG.out (HW0.out.below Hw5.out)).mono ?_
    rintro e w6 ⟨rfl, hb6⟩
    have H6 := Lib.hid hb6
    have D0 := D0 _ hb6
    have D1 := D1 _ hb6
    have G0 := G0 _ hb6
    have G1 := G1 _ hb6
    have n6 : w.heap.size < w6.heap.size := by have h3 := hb6.size; omega
    have n6b : w4.heap.size < w6.heap.size := by have h3 := hb6.size; omega
    have D0 := keepC D0
    have D1 := keepC D1
    have G0 := keepC G0
    have G1 := keepC G1
    clear hb6
    go_wp2_with fail
    refine wp_region_mix [(0, true), (1, true), (2, false), (3, false), (4, true)] (fun w' => Below w6.heap.size w6 w') (by kernel_rfl) (by kernel_rfl) (fun _ _ d _ _ h => by cases d <;> exact h) (Below.refl _ _).drew ?_
    repeat (first
      | (refine mix_skip rfl rfl (fun K' hK' => ?_); go_simp; refine hK' _ ?_; clear hK' K')
      | (refine mix_do (v := ?_) rfl rfl (fun w1 hb => ?_) (fun K' hK' => ?_); rotate_left
         · go_simp
           rfl
         go_simp; refine hK' _ ?_; clear hK' K'))
    refine mix_call rfl rfl (fun K' hK' => ?_)
    go_simp
    refine (HD.out _ ((HX5.out.below H6.out).below (by (repeat (first | (with_reducible exact Below.refl _ _) | (with_reducible assumption) | (with_reducible refine below_al ?_) | (with_reducible refine below_dr ?_) | (with_reducible refine below_drN ?_) | (with_reducible refine below_set ?_ (by first | exact Nat.le_refl _ | (dsimp only; omega) | omega)) | (with_reducible refine below_tr (by with_reducible assumption) ?_)))))).mono ?_
    rintro e w7 ⟨b2, rfl, p2, B2, hb7⟩
    refine hK' _ _ (by (repeat (first | (with_reducible exact Below.refl _ _) | (with_reducible assumption) | (with_reducible refine below_al ?_) | (with_reducible refine below_dr ?_) | (with_reducible refine below_drN ?_) | (with_reducible refine below_set ?_ (by first | exact Nat.le_refl _ | (dsimp only; omega) | omega)) | (with_reducible refine below_tr (by with_reducible assumption) ?_)))) ?_; clear hK' K'
    refine mix_call rfl rfl (fun K' hK' => ?_)
    go_simp
    refine (HE.out _ _ _ _ _ (TileCells.below (HT5.out.below H6.out) (by (repeat (first | (with_reducible exact Below.refl _ _) | (with_reducible assumption) | (with_reducible refine below_al ?_) | (with_reducible refine below_dr ?_) | (with_reducible refine below_drN ?_) | (with_reducible refine below_set ?_ (by first | exact Nat.le_refl _ | (dsimp only; omega) | omega)) | (with_reducible refine below_tr (by with_reducible assumption) ?_))))) B2.tiles).mono ?_
    rintro e w8 ⟨rfl, hb8⟩
    have Hw8 : Hid (Below w6.heap.size w6 w8) := by (show Below _ _ _); (repeat (first | (with_reducible exact Below.refl _ _) | (with_reducible assumption) | (with_reducible refine below_al ?_) | (with_reducible refine below_dr ?_) | (with_reducible refine below_drN ?_) | (with_reducible refine below_set ?_ (by first | exact Nat.le_refl _ | (dsimp only; omega) | omega)) | (with_reducible refine below_tr (by with_reducible assumption) ?_)))
    refine hK' _ _ (by (repeat (first | (with_reducible exact Below.refl _ _) | (with_reducible assumption) | (with_reducible refine below_al ?_) | (with_reducible refine below_dr ?_) | (with_reducible refine below_drN ?_) | (with_reducible refine below_set ?_ (by first | exact Nat.le_refl _ | (dsimp only; omega) | omega)) | (with_reducible refine below_tr (by with_reducible assumption) ?_)))) ?_; clear hK' K'
    repeat (first
      | (refine mix_skip rfl rfl (fun K' hK' => ?_); go_simp; refine hK' _ ?_; clear hK' K')
      | (refine mix_do (v := ?_) rfl rfl (fun w1 hb => ?_) (fun K' hK' => ?_); rotate_left
         · go_simp
           rfl
         go_simp; refine hK' _ ?_; clear hK' K'))
    refine mix_nil ?_
    have D0 := keepC (D0 _ Hw8.out)
    have D1 := keepC (D1 _ Hw8.out)
    have G0 := keepC (G0 _ Hw8.out)
    have G1 := keepC (G1 _ Hw8.out)
    have n8 : w.heap.size < w8.heap.size := by have h3 := Hw8.out.size; omega
    have n8b : w4.heap.size < w8.heap.size := by have h3 := Hw8.out.size; omega
    have H8 : Hid (Below w5.heap.size w5 w8) := H6.out.trans (Hw8.out.mono H6.out.size)
    clear B2 p2 hb7 hb8
    go_wp2_with fail
    refine (HDI.out _ ((HY5.out.below H8.out).below (by (repeat (first | (with_reducible exact Below.refl _ _) | (with_reducible assumption) | (with_reducible refine below_al ?_) | (with_reducible refine below_dr ?_) | (with_reducible refine below_drN ?_) | (with_reducible refine below_set ?_ (by first | exact Nat.le_refl _ | (dsimp only; omega) | omega)) | (with_reducible refine below_tr (by with_reducible assumption) ?_)))))).mono ?_
    rintro e w9 ⟨v2, rfl, O2, hb9⟩
    obtain ⟨C2, k2, rfl, N2⟩ := O2.rows
    have Hw9 : Hid (Below w8.heap.size w8 w9) := by (show Below _ _ _); (repeat (first | (with_reducible exact Below.refl _ _) | (with_reducible assumption) | (with_reducible refine below_al ?_) | (with_reducible refine below_dr ?_) | (with_reducible refine below_drN ?_) | (with_reducible refine below_set ?_ (by first | exact Nat.le_refl _ | (dsimp only; omega) | omega)) | (with_reducible refine below_tr (by with_reducible assumption) ?_)))
    clear O2 hb9
    go_wp2_with fail
    refine (HEI.out _ _ _ _ _ (HN5.out.below (H8.out.trans (Hw9.out.mono H8.out.size))) N2).mono ?_
    rintro e w9' ⟨rfl, hb9⟩
    have Hw9' : Hid (Below w8.heap.size w8 w9') := Hw9.out.trans (hb9.mono Hw9.out.size)
    clear hb9 N2
    have D0 := keepC (D0 _ Hw9'.out)
    have D1 := keepC (D1 _ Hw9'.out)
    have G0 := keepC (G0 _ Hw9'.out)
    have G1 := keepC (G1 _ Hw9'.out)
    have n9 : w.heap.size < w9'.heap.size := by have h3 := Hw9'.out.size; omega
    have n9b : w4.heap.size < w9'.heap.size := by have h3 := Hw9'.out.size; omega
    have H9 : Hid (Below w5.heap.size w5 w9') := H8.out.trans (Hw9'.out.mono H8.out.size)
    have e0 := G0 _ (Below.refl _ _)
    have e1 := G1 _ (Below.refl _ _)
    clear G0 G1
    go_wp2_with fail
    refine (HMS.out _ _ _ ((HBk5.out.below H9.out HBk5.out.lt))).mono ?_
    rintro e w10 ⟨rfl, hg⟩
    have HT10 : Hid (Touch b1 (b1 + 1) w9' w10) := Touch.one hg
    have HB10 : Hid (Below w3.heap.size w3 w10) := (Hw5.out.trans (H9.out.mono Hw5.out.size)).trans ((HT10.out.below (by have h1 := HBk5.out.lt; have h2 := H9.out.size; omega)).mono Hp1.out)
    clear hg e0 e1
    have HO10 := Lib.hid ((HO5.out.same (fun k _ hk => H9.out.block k hk)).same (fun k hk1 hk => HT10.out.block k hk (.inr (by have := HbN.out; have := HBase.out; omega))))
    have HG10 := Lib.hid ((HG5.out.same (fun k _ hk => H9.out.block k hk)).same (fun k hk1 hk => HT10.out.block k hk (.inr (by have := HbN'.out; omega))))
    go_wp2_with fail
    refine (HMB.out _ _ _ _ HO10.out (by have h1 := n4b; have h2 := Hb5.out.size; have h3 := H9.out.size; have h4 := HT10.out.size; (try simp); omega)).mono ?_
    rintro e w11 ⟨rfl, hO11, hT11⟩
    have HT11 := Lib.hid hT11
    have HB11 : Hid (Below w3.heap.size w3 w11) := HB10.out.trans ((HT11.out.below (by have h1 := n4b; have h2 := Hb5.out.size; have h3 := H9.out.size; have h4 := HT10.out.size; (try simp); omega)).mono (by have := Hw4.out.size; (try simp); omega))
    have HG11 := Lib.hid (HG10.out.same (fun k hk1 hk => HT11.out.block k hk (.inr hk1)))
    clear hO11 hT11 HO10 HG10 HO1 HO5
    go_wp2_with fail
    refine (HER.out _ _ _ _ _ (by obtain ⟨_, _, e, hr⟩ := OwnII.rows HG11.out.toII; injection e with e1 e2 e3; rw [e1]; exact hr) (HW0.out.below HB11.out)).mono ?_
    rintro e w12 ⟨rfl, hb12⟩
    have H12 : Hid (Below w3.heap.size w3 w12) := by (show Below _ _ _); have h1 := HB11.out; (repeat (first | (with_reducible exact Below.refl _ _) | (with_reducible assumption) | (with_reducible refine below_al ?_) | (with_reducible refine below_dr ?_) | (with_reducible refine below_drN ?_) | (with_reducible refine below_set ?_ (by first | exact Nat.le_refl _ | (dsimp only; omega) | omega)) | (with_reducible refine below_tr (by with_reducible assumption) ?_)))
    have HG12 := Lib.hid (HG11.out.same (fun k _ hk => hb12.block k hk))
    have hs12 : w11.heap.size ≤ w12.heap.size := hb12.size
    clear hb12
    go_wp2_with fail
    refine (HMR.out _ _ _ _ HG12.out (by have h1 := Hb5.out.size; have h3 := H9.out.size; have h4 := HT10.out.size; have h5 := HT11.out.size; (try simp); omega)).mono ?_
    rintro e w13 ⟨rfl, hO13, hT13⟩
    have HG13 := Lib.hid hO13
    have H13 : Hid (Below w3.heap.size w3 w13) := by (show Below _ _ _); exact H12.out.trans ((hT13.below (by have h1 := Hb5.out.size; have h3 := H9.out.size; have h4 := HT10.out.size; have h5 := HT11.out.size; (try simp); omega)).mono (by have h2 := Hw4'.out.size; (try simp); omega))
    clear hO13 hT13
    have HC13 : Hid (RowsC w13 CG (marksII 1 R)) := by obtain ⟨_, _, e, hr⟩ := OwnII.rows HG13.out.toII; injection e with e1 e2 e3; show RowsC _ _ _; rw [e1]; exact hr
    go_wp2_with fail
    refine (HHR.out _ _ _ HC13.out).mono ?_
    rintro e w14 ⟨rfl, rfl⟩
    have d0 := Q0.out w13 (Hw3.out.trans (H13.out.mono Hw3.out.size))
    have d1 := Q1.out w13 (Hw3.out.trans (H13.out.mono Hw3.out.size))
    have HXX : Hid (Below w.heap.size w w13) := Hw1.out.trans ((Hw3.out.trans (H13.out.mono Hw3.out.size)).mono Hw1.out.size)
    have n13 : w.heap.size < w13.heap.size := by have h3 := H13.out.size; omega
    go_wp2_with fail
    refine (HD.out _ (X.out.below (by have h1 := HXX.out; (repeat (first | (with_reducible exact Below.refl _ _) | (with_reducible assumption) | (with_reducible refine below_al ?_) | (with_reducible refine below_dr ?_) | (with_reducible refine below_drN ?_) | (with_reducible refine below_set ?_ (by first | exact Nat.le_refl _ | (dsimp only; omega) | omega)) | (with_reducible refine below_tr (by with_reducible assumption) ?_)))))).mono ?_
    rintro e w15 ⟨b5, rfl, p5, B5, hb15⟩
    have HB5 := Lib.hid B5
    have Hw15 : Hid (Below w13.heap.size w13 w15) := by (show Below _ _ _); (repeat (first | (with_reducible exact Below.refl _ _) | (with_reducible assumption) | (with_reducible refine below_al ?_) | (with_reducible refine below_dr ?_) | (with_reducible refine below_drN ?_) | (with_reducible refine below_set ?_ (by first | exact Nat.le_refl _ | (dsimp only; omega) | omega)) | (with_reducible refine below_tr (by with_reducible assumption) ?_)))
    clear p5 B5 hb15
    go_wp2_with fail
    refine (HDI.out _ (Y.out.below (by have h1 := HXX.out; have h2 := Hw15.out; (repeat (first | (with_reducible exact Below.refl _ _) | (with_reducible assumption) | (with_reducible refine below_al ?_) | (with_reducible refine below_dr ?_) | (with_reducible refine below_drN ?_) | (with_reducible refine below_set ?_ (by first | exact Nat.le_refl _ | (dsimp only; omega) | omega)) | (with_reducible refine below_tr (by with_reducible assumption) ?_)))))).mono ?_
    rintro e w16 ⟨v5, rfl, O5, hb16⟩
    obtain ⟨C5, k5, rfl, N5⟩ := O5.rows
    have HN5b := Lib.hid N5
    skip
    have Hw16 : Hid (Below w15.heap.size w15 w16) := by (show Below _ _ _); (repeat (first | (with_reducible exact Below.refl _ _) | (with_reducible assumption) | (with_reducible refine below_al ?_) | (with_reducible refine below_dr ?_) | (with_reducible refine below_drN ?_) | (with_reducible refine below_set ?_ (by first | exact Nat.le_refl _ | (dsimp only; omega) | omega)) | (with_reducible refine below_tr (by with_reducible assumption) ?_)))
    clear O5 N5 hb16
    go_wp2_with fail
    refine (HI.out _ _ _ _ _ (HB5.out.tiles.below Hw16.out) HN5b.out).mono ?_
    rintro e w17 ⟨h0, rfl, OH, hb17⟩
    have Hw17 : Hid (Below w13.heap.size w13 w17) := by (show Below _ _ _); have h1 := Hw15.out; have h2 := Hw16.out; (repeat (first | (with_reducible exact Below.refl _ _) | (with_reducible assumption) | (with_reducible refine below_al ?_) | (with_reducible refine below_dr ?_) | (with_reducible refine below_drN ?_) | (with_reducible refine below_set ?_ (by first | exact Nat.le_refl _ | (dsimp only; omega) | omega)) | (with_reducible refine below_tr (by with_reducible assumption) ?_)))
    obtain ⟨CH, kH, rfl, NH⟩ := OH.rows
    have HNH : Hid (RowsC w17 CH R) := NH
    clear OH NH hb17 d0 d1
    go_wp2_with fail
    refine (HER.out _ _ _ _ _ HNH.out (HW0.out.below (H13.out.trans (Hw17.out.mono H13.out.size)))).mono ?_
    rintro e w18 ⟨rfl, hb18⟩
    have H18 : Hid (Below w13.heap.size w13 w18) := Hw17.out.trans (hb18.mono Hw17.out.size)
    clear hb18
    go_wp2_with fail
    refine (HHR.out _ _ _ (HC13.out.below H18.out)).mono ?_
    rintro e w19 ⟨rfl, rfl⟩
    go_wp2
    go_ret
    exact ⟨rfl, HXX.out.trans (H18.out.mono HXX.out.size)⟩

end Go.Proofs.Ytfkmophmiiehlaa
