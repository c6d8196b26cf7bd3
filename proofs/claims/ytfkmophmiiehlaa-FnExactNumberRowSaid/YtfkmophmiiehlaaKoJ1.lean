/- Contracts and lemmas for the statements of this seat, written for this claim; each theorem states its own conditions. -/
import Derived.Test.YtfkmophmiiehlaaKoI8
set_option linter.unusedVariables false
set_option linter.unusedSimpArgs false
namespace Go.Proofs.Ytfkmophmiiehlaa
open Go.RowKit
set_option maxRecDepth 100000 in
set_option maxHeartbeats 1000000 in
theorem setOf_c (c : Int) (ts : List T4) (A : Option Addr) (cx : Nat) (w : World) (hT : TileCells w A ts) (hl : ts.length ≤ 1000000000) :
    Calls Try.prog 155 #[.int .i64 c, .slice A ts.length cx] w fun e w' => ∃ A' cx', e = .returned (.tuple #[.agg #[.int .i64 c, .slice A' (setT ts).length cx'], .bool (decide (c ≤ 6) && decide ((setT ts).length ≤ 16))]) ∧ OwnT w' w.heap.size (.slice A' (setT ts).length cx') (setT ts) ∧ Below w.heap.size w w' := by
  have HT := Lib.hid hT
  have HL := Lib.hid hl
  clear hT hl
  go_enter Try.func155, Try.ntmps155
  go_wp2_with fail
  refine (itValues_c A ts.length cx _).mono ?_
  rintro e w1 ⟨rfl, rfl⟩
  obtain ⟨wb, hwb⟩ : ∃ wb, (w.alloc (.cells #[.int .i64 0, .slice none 0 0] 31)).alloc (.cells #[.slice A ts.length cx] 29) = wb := ⟨_, rfl⟩
  have hB0 := Lib.hid (show Below w.heap.size w wb by rw [← hwb]; (repeat (first | (with_reducible exact Below.refl _ _) | (with_reducible assumption) | (with_reducible refine below_al ?_) | (with_reducible refine below_dr ?_) | (with_reducible refine below_drN ?_) | (with_reducible refine below_set ?_ (by first | exact Nat.le_refl _ | (dsimp only; omega) | omega)) | (with_reducible refine below_tr (by with_reducible assumption) ?_))))
  have hq := Lib.hid (show wb.heap.size = w.heap.size + 2 by rw [← hwb]; simp)
  have hcl := Lib.hid (show wb.cell? ⟨w.heap.size + 1, 0, none⟩ = some (.slice A ts.length cx) by rw [← hwb]; have := cell_alloc_at (w.alloc (.cells #[.int .i64 0, .slice none 0 0] 31)) #[.slice A ts.length cx] 29 0 _ rfl; rw [World.size_alloc] at this; exact this)
  have hZ := Lib.hid (show Blk wb w.heap.size [.int .i64 0, .slice none 0 0] 31 by rw [← hwb]; exact (Blk.newA w _ _).alloc _)
  rw [World.size_alloc]
  rw [hwb]
  clear hwb
  go_wp2_with fail
  refine (sortedFunc_c (w.heap.size + 1) cx A ts HL.out wb (by have := hq.out; omega) hcl.out (HT.out.below hB0.out)).mono ?_
  rintro e w2 ⟨v, rfl, hO, hb2⟩
  have HO := Lib.hid hO
  have Hb2 := Lib.hid hb2
  clear hO hb2
  go_wp2_with fail
  refine (compactO_c (sortT ts) _ v w2 HO.out (by rw [sortT_length]; exact HL.out)).mono ?_
  rintro e w3 ⟨A', cx', rfl, hO3, hg3⟩
  change OwnT w3 _ (.slice A' (setT ts).length cx') (setT ts) at hO3
  have hw3 : Below wb.heap.size wb w3 := Hb2.out.grown hg3 Hb2.out.size (fun k hk => (World.ownsRow.lt HO.out k hk).1)
  have HO3 := Lib.hid hO3
  have HW3 := Lib.hid hw3
  clear hO3 hg3 hw3
  have HN := Lib.hid (sortT_length ts)
  go_wp2_with fail
  change Code.wp _ _ _ _ (w3.alloc (.cells #[.int .i64 c, .slice A' (setT ts).length cx'] 31))
  rw [show (ddT (sortT ts)).length = (setT ts).length from rfl]
  obtain ⟨wx, hwx⟩ : ∃ wx, w3.alloc (.cells #[.int .i64 c, .slice A' (setT ts).length cx'] 31) = wx := ⟨_, rfl⟩
  have hN := Lib.hid (show Blk wx w3.heap.size [.int .i64 c, .slice A' (setT ts).length cx'] 31 by rw [← hwx]; exact Blk.newA w3 _ _)
  have hX := Lib.hid (show Below w3.heap.size w3 wx by rw [← hwx]; exact (Below.refl _ _).alloc (Nat.le_refl _) _)
  rw [hwx]
  clear hwx
  have hZx := Lib.hid (((hZ.out.under HW3.out).below hX.out (by have := HW3.out.size; have := hq.out; omega)))
  have hO4 := Lib.hid (HO3.out.below hX.out)
  have hlt3 := Lib.hid (show w.heap.size < w3.heap.size by have := HW3.out.size; have := hq.out; omega)
  have hBx := Lib.hid (hB0.out.trans ((HW3.out.trans (hX.out.mono HW3.out.size)).mono hB0.out.size))
  have HSS := Lib.hid (show ∀ n, n = (setT ts).length → (setT ts).length = n from fun n h => h.symm)
  generalize hS : (setT ts).length = S at *
  have HS := Lib.hid hS
  clear hS HSS
  have e0 : ∀ w1, Blk w1 w3.heap.size [Value.int .i64 c, .slice A' S cx'] 31 → w1.cell? ⟨w3.heap.size, 0, none⟩ = some (.int .i64 c) := fun w1 h => h.cell 0 (by simp)
  have e1 : ∀ w1, Blk w1 w3.heap.size [Value.int .i64 c, .slice A' S cx'] 31 → w1.cell? ⟨w3.heap.size, 1, none⟩ = some (.slice A' S cx') := fun w1 h => h.cell 1 (by simp)
  have z0 := hZx.out.cell 0 (by simp)
  have z1 := hZx.out.cell 1 (by simp)
  have g0 := hZx.out.frozen 0
  have g1 := hZx.out.frozen 1
  simp only [List.getElem_cons_zero, List.getElem_cons_succ] at z0 z1
  by_cases hc : c ≤ 6
  · skip
    refine wp_region_mix [(0, true), (1, true), (2, true), (3, true), (4, true), (5, true), (6, true), (7, true), (8, true), (9, true), (10, false), (11, true)] (fun w' => Blk w' w3.heap.size [Value.int .i64 c, .slice A' S cx'] 31) (by kernel_rfl) (by kernel_rfl) (fun _ _ d _ _ h => by cases d <;> exact h) (hN.out.drew) ?_
    repeat (first
      | (refine mix_skip rfl rfl (fun K' hK' => ?_); go_simp; refine hK' _ ?_; clear hK' K')
      | (refine mix_do (v := ?_) rfl rfl (fun w1 hb => ?_) (fun K' hK' => ?_); rotate_left
         · go_simp
           rfl
         go_simp; refine hK' _ ?_; clear hK' K'))
    refine mix_call rfl rfl (fun K' hK' => ?_)
    go_simp
    refine hK' _ _ ((hN.out.other (by have := hlt3.out; dsimp only; omega) _).other (by have := hlt3.out; dsimp only; omega) _) ?_; clear hK' K'
    repeat (first
      | (refine mix_skip rfl rfl (fun K' hK' => ?_); go_simp; refine hK' _ ?_; clear hK' K')
      | (refine mix_do (v := ?_) rfl rfl (fun w1 hb => ?_) (fun K' hK' => ?_); rotate_left
         · go_simp
           rfl
         go_simp; refine hK' _ ?_; clear hK' K'))
    refine mix_nil ?_
    have hZ' := Lib.hid ((hZx.out.set 0 (.int .i64 c)).set 1 (.slice A' S cx'))
    clear e0 e1 z0 z1 g0 g1
    have x0 := hZ'.out.cell 0 (by simp)
    have x1 := hZ'.out.cell 1 (by simp)
    simp only [List.set_cons_zero, List.set_cons_succ, List.getElem_cons_zero, List.getElem_cons_succ] at x0 x1
    go_wp2
    have hS := HS.out
    refine bodyPost_ret (v := .tuple #[.agg #[.int .i64 c, .slice A' S cx'], .bool (decide (c ≤ 6) && decide (S ≤ 16))]) (by simp [results, Try.results155, go_sem, x0, x1, hc]; first | omega | (intro h; omega)) rfl ⟨A', cx', by rw [hS], ?_, ?_⟩
    · rw [hS]
      exact ((hO4.out.other _ 0 (by have := hq.out; omega) _).other _ 1 (by have := hq.out; omega) _).weaken (by have := hq.out; omega)
    · have hbx := hBx.out
      (repeat (first | (with_reducible exact Below.refl _ _) | (with_reducible assumption) | (with_reducible refine below_al ?_) | (with_reducible refine below_dr ?_) | (with_reducible refine below_drN ?_) | (with_reducible refine below_set ?_ (by first | exact Nat.le_refl _ | (dsimp only; omega) | omega)) | (with_reducible refine below_tr (by with_reducible assumption) ?_)))
  · skip
    refine wp_region_mix [(0, true), (1, true), (2, true), (3, true), (4, true), (5, true), (6, true), (7, true), (8, true), (9, true), (10, false), (11, true)] (fun w' => Blk w' w3.heap.size [Value.int .i64 c, .slice A' S cx'] 31) (by kernel_rfl) (by kernel_rfl) (fun _ _ d _ _ h => by cases d <;> exact h) (hN.out.drew) ?_
    repeat (first
      | (refine mix_skip rfl rfl (fun K' hK' => ?_); go_simp; refine hK' _ ?_; clear hK' K')
      | (refine mix_do (v := ?_) rfl rfl (fun w1 hb => ?_) (fun K' hK' => ?_); rotate_left
         · go_simp
           rfl
         go_simp; refine hK' _ ?_; clear hK' K'))
    refine mix_call rfl rfl (fun K' hK' => ?_)
    go_simp
    refine hK' _ _ ((hN.out.other (by have := hlt3.out; dsimp only; omega) _).other (by have := hlt3.out; dsimp only; omega) _) ?_; clear hK' K'
    repeat (first
      | (refine mix_skip rfl rfl (fun K' hK' => ?_); go_simp; refine hK' _ ?_; clear hK' K')
      | (refine mix_do (v := ?_) rfl rfl (fun w1 hb => ?_) (fun K' hK' => ?_); rotate_left
         · go_simp
           rfl
         go_simp; refine hK' _ ?_; clear hK' K'))
    refine mix_nil ?_
    have hZ' := Lib.hid ((hZx.out.set 0 (.int .i64 c)).set 1 (.slice A' S cx'))
    clear e0 e1 z0 z1 g0 g1
    have x0 := hZ'.out.cell 0 (by simp)
    have x1 := hZ'.out.cell 1 (by simp)
    simp only [List.set_cons_zero, List.set_cons_succ, List.getElem_cons_zero, List.getElem_cons_succ] at x0 x1
    go_wp2
    have hS := HS.out
    refine bodyPost_ret (v := .tuple #[.agg #[.int .i64 c, .slice A' S cx'], .bool (decide (c ≤ 6) && decide (S ≤ 16))]) (by simp [results, Try.results155, go_sem, x0, x1, hc]; first | omega | (intro h; omega)) rfl ⟨A', cx', by rw [hS], ?_, ?_⟩
    · rw [hS]
      exact ((hO4.out.other _ 0 (by have := hq.out; omega) _).other _ 1 (by have := hq.out; omega) _).weaken (by have := hq.out; omega)
    · have hbx := hBx.out
      (repeat (first | (with_reducible exact Below.refl _ _) | (with_reducible assumption) | (with_reducible refine below_al ?_) | (with_reducible refine below_dr ?_) | (with_reducible refine below_drN ?_) | (with_reducible refine below_set ?_ (by first | exact Nat.le_refl _ | (dsimp only; omega) | omega)) | (with_reducible refine below_tr (by with_reducible assumption) ?_)))
set_option maxRecDepth 100000 in
set_option maxHeartbeats 1000000 in
theorem limited_c (c : Int) (ts : List T4) (A : Option Addr) (cx : Nat) (w : World) (hT : TileCells w A ts) (hl : ts.length ≤ 1000000000) :
    Calls Try.prog 132 #[.int .i64 c, .slice A ts.length cx] w fun e w' => Below w.heap.size w w' ∧
      ((c ≤ 6 ∧ (setT ts).length ≤ 16 ∧ ∃ A' cx', e = .returned (.tuple #[.agg #[.int .i64 c, .slice A' (setT ts).length cx'], .int .i64 0]) ∧ OwnT w' w.heap.size (.slice A' (setT ts).length cx') (setT ts)) ∨
       (¬ (c ≤ 6 ∧ (setT ts).length ≤ 16) ∧ e = .returned (.tuple #[.agg #[.int .i64 0, .slice none 0 0], .int .i64 3]))) := by
  have HT := Lib.hid hT
  have HL := Lib.hid hl
  clear hT hl
  generalize hS : setT ts = ss at *
  have HS := Lib.hid hS
  clear hS
  go_enter Try.func132, Try.ntmps132
  go_wp2_with fail
  refine (setOf_c c ts A cx _ (HT.out.below (by (repeat (first | (with_reducible exact Below.refl _ _) | (with_reducible assumption) | (with_reducible refine below_al ?_) | (with_reducible refine below_dr ?_) | (with_reducible refine below_drN ?_) | (with_reducible refine below_set ?_ (by first | exact Nat.le_refl _ | (dsimp only; omega) | omega)) | (with_reducible refine below_tr (by with_reducible assumption) ?_))))) HL.out).mono ?_
  rintro e w1 ⟨A', cx', rfl, hO, hb1⟩
  rw [HS.out] at *
  have HO := Lib.hid hO
  have q := Lib.hid ((Blk.newA w #[.int .i64 0, .slice none 0 0] 31).under hb1)
  have Hb1 := Lib.hid (show Below w.heap.size w w1 by (repeat (first | (with_reducible exact Below.refl _ _) | (with_reducible assumption) | (with_reducible refine below_al ?_) | (with_reducible refine below_dr ?_) | (with_reducible refine below_drN ?_) | (with_reducible refine below_set ?_ (by first | exact Nat.le_refl _ | (dsimp only; omega) | omega)) | (with_reducible refine below_tr (by with_reducible assumption) ?_))))
  have hs1 := Lib.hid (show w.heap.size < w1.heap.size by have := hb1.size; simp at this; omega)
  have qa := Lib.hid (q.out.alloc (.cells #[.int .i64 c, .slice A' ss.length cx'] 31))
  have y0 := qa.out.cell 0 (by simp)
  have y1 := qa.out.cell 1 (by simp)
  have g0 := qa.out.frozen 0
  have g1 := qa.out.frozen 1
  simp only [List.getElem_cons_zero, List.getElem_cons_succ] at y0 y1
  clear hO hb1
  by_cases hc : c ≤ 6 ∧ ss.length ≤ 16
  · have hd : (decide (c ≤ 6) && decide (ss.length ≤ 16)) = true := by simp [hc]
    rw [hd]
    have HC := Lib.hid hc
    clear hc hd
    go_wp2
    refine bodyPost_ret (v := .tuple #[.agg #[.int .i64 c, .slice A' ss.length cx'], .int .i64 0]) (by
      have x0 := ((qa.out.set 0 (.int .i64 c)).set 1 (.slice A' ss.length cx')).cell 0 (by simp)
      have x1 := ((qa.out.set 0 (.int .i64 c)).set 1 (.slice A' ss.length cx')).cell 1 (by simp)
      simp only [List.set_cons_zero, List.set_cons_succ, List.getElem_cons_zero, List.getElem_cons_succ] at x0 x1
      simp [results, Try.results132, go_sem, x0, x1]) rfl ⟨?_, .inl ⟨HC.out.1, HC.out.2, A', cx', rfl, ?_⟩⟩
    · have hb1 := Hb1.out
      (repeat (first | (with_reducible exact Below.refl _ _) | (with_reducible assumption) | (with_reducible refine below_al ?_) | (with_reducible refine below_dr ?_) | (with_reducible refine below_drN ?_) | (with_reducible refine below_set ?_ (by first | exact Nat.le_refl _ | (dsimp only; omega) | omega)) | (with_reducible refine below_tr (by with_reducible assumption) ?_)))
    · have hB := HO.out
      rw [World.size_alloc] at hB
      exact (((hB.alloc _).other _ 0 (by omega) _).other _ 1 (by omega) _).weaken (by omega)
  · have hd : (decide (c ≤ 6) && decide (ss.length ≤ 16)) = false := by simp; intro h; exact Nat.lt_of_not_le fun h2 => hc ⟨h, h2⟩
    rw [hd]
    have HC := Lib.hid hc
    clear hc hd
    go_wp2
    refine bodyPost_ret (v := .tuple #[.agg #[.int .i64 0, .slice none 0 0], .int .i64 3]) (by
      have x0 := ((qa.out.set 0 (.int .i64 0)).set 1 (.slice none 0 0)).cell 0 (by simp)
      have x1 := ((qa.out.set 0 (.int .i64 0)).set 1 (.slice none 0 0)).cell 1 (by simp)
      simp only [List.set_cons_zero, List.set_cons_succ, List.getElem_cons_zero, List.getElem_cons_succ] at x0 x1
      simp [results, Try.results132, go_sem, x0, x1]) rfl ⟨?_, .inr ⟨HC.out, rfl⟩⟩
    have hb1 := Hb1.out
    (repeat (first | (with_reducible exact Below.refl _ _) | (with_reducible assumption) | (with_reducible refine below_al ?_) | (with_reducible refine below_dr ?_) | (with_reducible refine below_drN ?_) | (with_reducible refine below_set ?_ (by first | exact Nat.le_refl _ | (dsimp only; omega) | omega)) | (with_reducible refine below_tr (by with_reducible assumption) ?_)))

end Go.Proofs.Ytfkmophmiiehlaa
