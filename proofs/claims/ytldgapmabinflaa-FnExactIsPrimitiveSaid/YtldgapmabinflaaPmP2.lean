/- Contracts and lemmas for the statements of this seat, written for this claim; each theorem states its own conditions. -/
import Derived.Deep.RegionHeld3
import Derived.Test.YtldgapmabinflaaPmP1
import Derived.Test.YtldgapmabinflaaPmLw
import Derived.Test.YtldgapmabinflaaPmLi
set_option linter.unusedVariables false
set_option linter.unusedSimpArgs false
namespace Go.Proofs.Ytldgapmabinflaa
open Go.RowKit
set_option maxRecDepth 100000 in
set_option maxHeartbeats 1000000 in
theorem law_IsPrimitive (c : Int) (ts : List T4) (A : Option Addr) (cx : Nat) (L : List (List Int)) (B : Option Addr) (cr : Nat)  (w : World) (hX : TileCells w A ts) (lx : ts.length ≤ 9223372036854775807) (hR : RowsC w B L) (lr : L.length ≤ 9223372036854775807) (sr : Short 9223372036854775807 L) :
    Calls Try.prog 3 #[.agg #[.int .i64 c, .slice A ts.length cx], .slice B L.length cr] w fun e w' => e = .returned (.bool true) ∧ Below w.heap.size w w' := by
  have X := Lib.hid hX
  have Y := Lib.hid hR
  clear hX hR
  have HZ := Lib.hid (fun w => szSet_c c A ts.length cx 1048576 w (by omega) (by omega) lx)
  have hz : szV ts.length 1048576 = -1 ∨ (0 ≤ szV ts.length 1048576 ∧ szV ts.length 1048576 ≤ 1048576 ∧ ts.length ≤ 1048576) := by unfold szV; split <;> omega
  rcases hz with h | ⟨h, hu, lx'⟩
  · rw [h] at HZ
    clear h
    go_enter Try.func3, Try.ntmps3
    go_wp2_with (go_at_call 4; refine (HZ.out _).mono ?_; rintro e w1 ⟨rfl, hb1⟩)
    go_ret
    exact ⟨rfl, by (repeat (first | (with_reducible exact Below.refl _ _) | (with_reducible assumption) | (with_reducible refine below_al ?_) | (with_reducible refine below_dr ?_) | (with_reducible refine below_drN ?_) | (with_reducible refine below_set ?_ (by first | exact Nat.le_refl _ | (dsimp only; omega) | omega)) | (with_reducible refine below_tr (by with_reducible assumption) ?_)))⟩
  · generalize szV ts.length 1048576 = z at *
    have HZ2 := Lib.hid (fun w h => szInt64SS_c L B cr z w h (by omega) (by omega) lr sr)
    have HD := Lib.hid (fun w h => toSet_c c ts A cx w h lx')
    go_enter Try.func3, Try.ntmps3
    go_wp2_with fail
    refine (HZ.out _).mono ?_
    rintro e w1 ⟨rfl, hb1⟩
    have Hw1 : Hid (Below w.heap.size w w1) := by (show Below _ _ _); (repeat (first | (with_reducible exact Below.refl _ _) | (with_reducible assumption) | (with_reducible refine below_al ?_) | (with_reducible refine below_dr ?_) | (with_reducible refine below_drN ?_) | (with_reducible refine below_set ?_ (by first | exact Nat.le_refl _ | (dsimp only; omega) | omega)) | (with_reducible refine below_tr (by with_reducible assumption) ?_)))
    have q0 : ∀ o v, (w.alloc (.cells #[.int .i64 c, .slice A ts.length cx] 24)).cell? ⟨w.heap.size, o, none⟩ = some v → ∀ w2, Below w1.heap.size w1 w2 → w2.cell? ⟨w.heap.size, o, none⟩ = some v := fun o v h w2 hb => by
      have := hb1.size; simp at this
      rw [(bcell hb).1 _ _ (by omega), (bcell hb1).1 _ _ (by simp)]; exact h
    have Q0 := Lib.hid (q0 0 (.int .i64 c) (by simp))
    have Q1 := Lib.hid (q0 1 (.slice A ts.length cx) (by simp))
    clear q0
    have d0 := Q0.out w1 (Below.refl _ _)
    have d1 := Q1.out w1 (Below.refl _ _)
    clear hb1
    go_wp2_with fail
    refine (HZ2.out _ (Y.out.below Hw1.out)).mono ?_
    rintro e wz ⟨y, rfl, hy, rfl⟩
    rcases hy with rfl | ⟨y0, y1, lr', sr', -⟩
    · go_wp2
      go_ret
      exact ⟨rfl, Hw1.out⟩
    have HDI := Lib.hid (fun w h => toInt64SS_c L B cr w h lr' sr')
    have sr2 : Short 1000000000 L := fun k h => by have := sr' k h; omega
    have HS := Lib.hid (fun A cx B cr w h h' => (fun h1 h2 h3 => specIsPrimitive_c c ts A cx L B cr w h h1 h' h2 h3) (by omega) (by omega) sr2)
    have HI := Lib.hid (fun A cx B cr w h h' => (fun h1 h2 h3 => implIsPrimitive_c c ts A cx L B cr w h h1 h' h2 h3) (by omega) (by omega) sr2)
    have HE := Lib.hid (fun A B cx cy w h h' => eqSet_c c c ts ts A B cx cy w h h' (by omega) (by omega))
    have HEI := Lib.hid (fun A B cx cy w h h' => eqInt64SS_c L L A B cx cy w h h' (by omega) (by omega) sr2 sr2)
    have heq : eqS c ts c ts = true := by simp [eqS, eqTs]
    rw [heq] at HE
    rw [eqII_refl] at HEI
    generalize primV c ts L = r at *
    generalize codeB (isSetB c ts) (areBlocksB ts.length L) = d at *
    skip
    clear heq sr2 sr sr' HZ HZ2
    have hrr : (r != r) = false := by cases r <;> rfl
    skip
    have hdd : (d != d) = false := by simp
    go_wp2_with fail
    refine (HD.out _ (X.out.below Hw1.out)).mono ?_
    rintro e w2 ⟨b1, rfl, p1, B1, hb2⟩
    have HB1 := Lib.hid B1.tiles
    have Hb2 := Lib.hid hb2
    clear hb2 B1 p1
    go_wp2_with fail
    refine (HDI.out _ (Y.out.below (by have h1 := Hw1.out; have h2 := Hb2.out; (repeat (first | (with_reducible exact Below.refl _ _) | (with_reducible assumption) | (with_reducible refine below_al ?_) | (with_reducible refine below_dr ?_) | (with_reducible refine below_drN ?_) | (with_reducible refine below_set ?_ (by first | exact Nat.le_refl _ | (dsimp only; omega) | omega)) | (with_reducible refine below_tr (by with_reducible assumption) ?_)))))).mono ?_
    rintro e w2' ⟨v1, rfl, O1, hb2'⟩
    obtain ⟨C1, k1, rfl, N1⟩ := O1.rows
    go_wp2_with fail
    refine (HS.out _ _ _ _ _ (TileCells.below HB1.out (by (repeat (first | (with_reducible exact Below.refl _ _) | (with_reducible assumption) | (with_reducible refine below_al ?_) | (with_reducible refine below_dr ?_) | (with_reducible refine below_drN ?_) | (with_reducible refine below_set ?_ (by first | exact Nat.le_refl _ | (dsimp only; omega) | omega)) | (with_reducible refine below_tr (by with_reducible assumption) ?_))))) N1).mono ?_
    rintro e w3 ⟨rfl, hb3⟩
    have Hw3 : Hid (Below w1.heap.size w1 w3) := by (show Below _ _ _); have h2 := Hb2.out; (repeat (first | (with_reducible exact Below.refl _ _) | (with_reducible assumption) | (with_reducible refine below_al ?_) | (with_reducible refine below_dr ?_) | (with_reducible refine below_drN ?_) | (with_reducible refine below_set ?_ (by first | exact Nat.le_refl _ | (dsimp only; omega) | omega)) | (with_reducible refine below_tr (by with_reducible assumption) ?_)))
    have d0 := Q0.out w3 Hw3.out
    have d1 := Q1.out w3 Hw3.out
    clear O1 N1 hb2' hb3
    go_wp2_with fail
    refine (HD.out _ (X.out.below (by have h1 := Hw1.out; have h3 := Hw3.out; (repeat (first | (with_reducible exact Below.refl _ _) | (with_reducible assumption) | (with_reducible refine below_al ?_) | (with_reducible refine below_dr ?_) | (with_reducible refine below_drN ?_) | (with_reducible refine below_set ?_ (by first | exact Nat.le_refl _ | (dsimp only; omega) | omega)) | (with_reducible refine below_tr (by with_reducible assumption) ?_)))))).mono ?_
    rintro e w4 ⟨b1, rfl, p1, B1, hb4⟩
    have HB1 := Lib.hid B1.tiles
    have Hw4 : Hid (Below w1.heap.size w1 w4) := by (show Below _ _ _); have h3 := Hw3.out; (repeat (first | (with_reducible exact Below.refl _ _) | (with_reducible assumption) | (with_reducible refine below_al ?_) | (with_reducible refine below_dr ?_) | (with_reducible refine below_drN ?_) | (with_reducible refine below_set ?_ (by first | exact Nat.le_refl _ | (dsimp only; omega) | omega)) | (with_reducible refine below_tr (by with_reducible assumption) ?_)))
    clear p1 B1 hb4
    go_wp2_with fail
    refine (HDI.out _ (Y.out.below (by have h1 := Hw1.out; have h4 := Hw4.out; (repeat (first | (with_reducible exact Below.refl _ _) | (with_reducible assumption) | (with_reducible refine below_al ?_) | (with_reducible refine below_dr ?_) | (with_reducible refine below_drN ?_) | (with_reducible refine below_set ?_ (by first | exact Nat.le_refl _ | (dsimp only; omega) | omega)) | (with_reducible refine below_tr (by with_reducible assumption) ?_)))))).mono ?_
    rintro e w4' ⟨v1, rfl, O1, hb4'⟩
    obtain ⟨C1, k1, rfl, N1⟩ := O1.rows
    have HN1 := Lib.hid N1
    have Hw4' : Hid (Below w1.heap.size w1 w4') := by (show Below _ _ _); have h4 := Hw4.out; (repeat (first | (with_reducible exact Below.refl _ _) | (with_reducible assumption) | (with_reducible refine below_al ?_) | (with_reducible refine below_dr ?_) | (with_reducible refine below_drN ?_) | (with_reducible refine below_set ?_ (by first | exact Nat.le_refl _ | (dsimp only; omega) | omega)) | (with_reducible refine below_tr (by with_reducible assumption) ?_)))
    have HT4 : Hid (TileCells w4' (some ⟨b1, 0, none⟩) ts) := TileCells.below HB1.out (by (repeat (first | (with_reducible exact Below.refl _ _) | (with_reducible assumption) | (with_reducible refine below_al ?_) | (with_reducible refine below_dr ?_) | (with_reducible refine below_drN ?_) | (with_reducible refine below_set ?_ (by first | exact Nat.le_refl _ | (dsimp only; omega) | omega)) | (with_reducible refine below_tr (by with_reducible assumption) ?_))))
    have q2 : w4'.cell? ⟨w4.heap.size, 0, none⟩ = some (.int .i64 c) := by rw [(bcell hb4').1 _ _ (by simp)]; first | (go_simp; done) | simp
    have q3 : w4'.cell? ⟨w4.heap.size, 1, none⟩ = some (.slice (some ⟨b1, 0, none⟩) ts.length ts.length) := by rw [(bcell hb4').1 _ _ (by simp)]; first | (go_simp; done) | simp
    have F0 := Lib.hid (keepC q2)
    have F1 := Lib.hid (keepC q3)
    clear hb4' O1 N1
    go_wp2_with fail
    refine (HI.out _ _ _ _ _ HT4.out HN1.out).mono ?_
    rintro e w5 ⟨rfl, hb5⟩
    have Hw5 : Hid (Below w1.heap.size w1 w5) := by (show Below _ _ _); have h4 := Hw4'.out; (repeat (first | (with_reducible exact Below.refl _ _) | (with_reducible assumption) | (with_reducible refine below_al ?_) | (with_reducible refine below_dr ?_) | (with_reducible refine below_drN ?_) | (with_reducible refine below_set ?_ (by first | exact Nat.le_refl _ | (dsimp only; omega) | omega)) | (with_reducible refine below_tr (by with_reducible assumption) ?_)))
    have HT5 : Hid (TileCells w5 (some ⟨b1, 0, none⟩) ts) := TileCells.below HT4.out hb5
    have HN5 : Hid (RowsC w5 C1 L) := HN1.out.below hb5
    have G0 := keepC (F0.out _ hb5)
    have G1 := keepC (F1.out _ hb5)
    clear hb5 q2 q3
    have G2 := keepC (Q0.out w5 Hw5.out)
    have G3 := keepC (Q1.out w5 Hw5.out)
    have HX5 : Hid (TileCells w5 A ts) := X.out.below (by have h1 := Hw1.out; have h5 := Hw5.out; (repeat (first | (with_reducible exact Below.refl _ _) | (with_reducible assumption) | (with_reducible refine below_al ?_) | (with_reducible refine below_dr ?_) | (with_reducible refine below_drN ?_) | (with_reducible refine below_set ?_ (by first | exact Nat.le_refl _ | (dsimp only; omega) | omega)) | (with_reducible refine below_tr (by with_reducible assumption) ?_))))
    have HY5 : Hid (RowsC w5 B L) := Y.out.below (by have h1 := Hw1.out; have h5 := Hw5.out; (repeat (first | (with_reducible exact Below.refl _ _) | (with_reducible assumption) | (with_reducible refine below_al ?_) | (with_reducible refine below_dr ?_) | (with_reducible refine below_drN ?_) | (with_reducible refine below_set ?_ (by first | exact Nat.le_refl _ | (dsimp only; omega) | omega)) | (with_reducible refine below_tr (by with_reducible assumption) ?_))))
    go_wp2_with fail
    refine wp_region_mix [(0, true), (1, true), (2, false), (3, false), (4, true)] (fun w' => Below w5.heap.size w5 w') (by kernel_rfl) (by kernel_rfl) (fun _ _ d _ _ h => by cases d <;> exact h) (Below.refl _ _).drew ?_
    repeat (first
      | (refine mix_skip rfl rfl (fun K' hK' => ?_); go_simp; refine hK' _ ?_; clear hK' K')
      | (refine mix_do (v := ?_) rfl rfl (fun w1 hb => ?_) (fun K' hK' => ?_); rotate_left
         · go_simp
           rfl
         go_simp; refine hK' _ ?_; clear hK' K'))
    refine mix_call rfl rfl (fun K' hK' => ?_)
    go_simp
    refine (HD.out _ (HX5.out.below (by (repeat (first | (with_reducible exact Below.refl _ _) | (with_reducible assumption) | (with_reducible refine below_al ?_) | (with_reducible refine below_dr ?_) | (with_reducible refine below_drN ?_) | (with_reducible refine below_set ?_ (by first | exact Nat.le_refl _ | (dsimp only; omega) | omega)) | (with_reducible refine below_tr (by with_reducible assumption) ?_)))))).mono ?_
    rintro e w6 ⟨b2, rfl, p2, B2, hb6⟩
    refine hK' _ _ (by (repeat (first | (with_reducible exact Below.refl _ _) | (with_reducible assumption) | (with_reducible refine below_al ?_) | (with_reducible refine below_dr ?_) | (with_reducible refine below_drN ?_) | (with_reducible refine below_set ?_ (by first | exact Nat.le_refl _ | (dsimp only; omega) | omega)) | (with_reducible refine below_tr (by with_reducible assumption) ?_)))) ?_; clear hK' K'
    refine mix_call rfl rfl (fun K' hK' => ?_)
    go_simp
    refine (HE.out _ _ _ _ _ (TileCells.below HT5.out (by (repeat (first | (with_reducible exact Below.refl _ _) | (with_reducible assumption) | (with_reducible refine below_al ?_) | (with_reducible refine below_dr ?_) | (with_reducible refine below_drN ?_) | (with_reducible refine below_set ?_ (by first | exact Nat.le_refl _ | (dsimp only; omega) | omega)) | (with_reducible refine below_tr (by with_reducible assumption) ?_))))) B2.tiles).mono ?_
    rintro e w7 ⟨rfl, hb7⟩
    have Hw7 : Hid (Below w5.heap.size w5 w7) := by (show Below _ _ _); (repeat (first | (with_reducible exact Below.refl _ _) | (with_reducible assumption) | (with_reducible refine below_al ?_) | (with_reducible refine below_dr ?_) | (with_reducible refine below_drN ?_) | (with_reducible refine below_set ?_ (by first | exact Nat.le_refl _ | (dsimp only; omega) | omega)) | (with_reducible refine below_tr (by with_reducible assumption) ?_)))
    refine hK' _ _ (by (repeat (first | (with_reducible exact Below.refl _ _) | (with_reducible assumption) | (with_reducible refine below_al ?_) | (with_reducible refine below_dr ?_) | (with_reducible refine below_drN ?_) | (with_reducible refine below_set ?_ (by first | exact Nat.le_refl _ | (dsimp only; omega) | omega)) | (with_reducible refine below_tr (by with_reducible assumption) ?_)))) ?_; clear hK' K'
    repeat (first
      | (refine mix_skip rfl rfl (fun K' hK' => ?_); go_simp; refine hK' _ ?_; clear hK' K')
      | (refine mix_do (v := ?_) rfl rfl (fun w1 hb => ?_) (fun K' hK' => ?_); rotate_left
         · go_simp
           rfl
         go_simp; refine hK' _ ?_; clear hK' K'))
    refine mix_nil ?_
    clear B2 p2 hb6 hb7
    go_wp2_with fail
    refine (HDI.out _ (HY5.out.below Hw7.out)).mono ?_
    rintro e w8 ⟨v2, rfl, O2, hb8⟩
    obtain ⟨C2, k2, rfl, N2⟩ := O2.rows
    go_wp2_with fail
    refine (HEI.out _ _ _ _ _ (HN5.out.below (by have h7 := Hw7.out; (repeat (first | (with_reducible exact Below.refl _ _) | (with_reducible assumption) | (with_reducible refine below_al ?_) | (with_reducible refine below_dr ?_) | (with_reducible refine below_drN ?_) | (with_reducible refine below_set ?_ (by first | exact Nat.le_refl _ | (dsimp only; omega) | omega)) | (with_reducible refine below_tr (by with_reducible assumption) ?_))))) N2).mono ?_
    rintro e w9 ⟨rfl, hb9⟩
    go_wp2
    go_ret
    exact ⟨rfl, by have h1 := Hw1.out; have h5 := Hw5.out; have h7 := Hw7.out; (repeat (first | (with_reducible exact Below.refl _ _) | (with_reducible assumption) | (with_reducible refine below_al ?_) | (with_reducible refine below_dr ?_) | (with_reducible refine below_drN ?_) | (with_reducible refine below_set ?_ (by first | exact Nat.le_refl _ | (dsimp only; omega) | omega)) | (with_reducible refine below_tr (by with_reducible assumption) ?_)))⟩

end Go.Proofs.Ytldgapmabinflaa
