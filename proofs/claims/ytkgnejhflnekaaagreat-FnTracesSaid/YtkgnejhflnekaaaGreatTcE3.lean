/- Contracts and lemmas for the statements of this seat, written for this claim; each theorem states its own conditions. -/
import Derived.Deep.Cut
import Derived.Test.YtkgnejhflnekaaaGreatTcE2
set_option linter.unusedVariables false
set_option linter.unusedSimpArgs false
namespace Go.Proofs.YtkgnejhflnekaaaGreat
open Go.RowKit
def mirT9 (t : T4) : T4 := ⟨t.c, t.b, t.a, t.d⟩
set_option maxRecDepth 100000 in
set_option maxHeartbeats 1000000 in
theorem chgM_c (c : Int) (ts : List T4) (A : Option Addr) (cx : Nat) (w : World) (hT : TileCells w A ts) (hl : ts.length ≤ 1000) :
    Calls Tryz.prog 165 #[.agg #[.int .i64 c, .slice A ts.length cx], .int .i64 2, .int .i64 1, .int .i64 0, .int .i64 3] w fun e w' => ∃ A' cx', e = .returned (.agg #[.int .i64 c, .slice A' (setT (ts.map mirT9)).length cx']) ∧ OwnT w' w.heap.size (.slice A' (setT (ts.map mirT9)).length cx') (setT (ts.map mirT9)) ∧ Below w.heap.size w w' := by
  have HT := Lib.hid hT
  clear hT
  go_enter Tryz.func165, Tryz.ntmps165
  go_wp2_with fail
  obtain ⟨w2, hw2⟩ : ∃ w2, w2 = ((w.alloc (.cells #[.int .i64 c, .slice A ts.length cx] 26)).alloc (.cells #[.int .i64 0, .slice none 0 0] 26)) := ⟨_, rfl⟩
  have H2s : Hid (w2.heap.size = w.heap.size + 2) := by rw [hw2]; simp [Hid]
  have H20 : Hid (Blk w2 w.heap.size [.int .i64 c, .slice A ts.length cx] 26) := by rw [hw2]; exact (Blk.newA w _ _).alloc _
  have H21 : Hid (Blk w2 (w.heap.size + 1) [.int .i64 0, .slice none 0 0] 26) := by
    rw [hw2]
    have := Blk.newA (w.alloc (.cells #[.int .i64 c, .slice A ts.length cx] 26)) #[.int .i64 0, .slice none 0 0] 26
    rwa [World.size_alloc] at this
  have H2b : Hid (Below w.heap.size w w2) := by rw [hw2]; exact below_al (below_al (Below.refl _ _))
  have H2e : Hid (OwnT (w2.alloc (.cells #[] 127)) (w.heap.size + 2) (.slice (some ⟨w.heap.size + 2, 0, none⟩) 0 0) []) := by have := OwnT.empty w2 w2.heap.size (Nat.le_refl _); rwa [H2s.out] at this
  rw [← hw2]
  clear hw2
  go_loopw [11, 12] (fun v i wr => ∃ k : Nat, k ≤ ts.length ∧ i = .int .i64 (k : Nat) ∧ Hid (OwnT wr (w.heap.size + 2) v ((ts.take k).map mirT9)) ∧ Hid (Below w2.heap.size w2 wr)) (fun _ i _ => ts.length - (intOf i).toNat)
  case atStart => exact ⟨0, by omega, rfl, by show OwnT _ _ _ _; simpa using H2e.out, below_al (Below.refl _ _)⟩
  case round =>
    obtain ⟨k, hk, rfl, HO, HB⟩ := hrel
    obtain ⟨L, hL⟩ : ∃ L, L = (ts.take k).map mirT9 := ⟨_, rfl⟩
    rw [← hL] at HO
    have HL := Lib.hid hL
    clear hL
    obtain ⟨Av, cv, rfl, -⟩ := HO.out.tiles
    have q0 := (H20.out.under HB.out).cell 0 (by simp)
    have q1 := (H20.out.under HB.out).cell 1 (by simp)
    simp only [List.getElem_cons_zero, List.getElem_cons_succ] at q0 q1
    have HBw : Hid (Below w.heap.size w wr) := H2b.out.trans (HB.out.mono H2b.out.size)
    have HSz : Hid (w.heap.size + 2 ≤ wr.heap.size) := by rw [← H2s.out]; exact HB.out.size
    by_cases h1 : k < ts.length
    · obtain ⟨bT, oT, rfl, ltT', c0, c1, c2, c3⟩ := HT.out.below HBw.out k h1
      have HK := Lib.hid (show ts.take (k + 1) = ts.take k ++ [ts[k]] by rw [List.take_succ_eq_append_getElem h1])
      have HLk : Hid (L.length ≤ 1000) := by show _ ≤ _; rw [HL.out, List.length_map, List.length_take]; omega
      generalize ts[k] = t at *
      go_wp2_with fail
      obtain ⟨wq, hwq⟩ : ∃ wq, wq = wr.alloc (.cells #[.int .i64 t.a, .int .i64 t.b, .int .i64 t.c, .int .i64 t.d] 127) := ⟨_, rfl⟩
      have hrw := World.ownsRow.lt HO.out
      have hn1 : some wr.heap.size ≠ (Value.slice Av L.length cv).ownBlock := fun e => by have := hrw _ e.symm; omega
      have T0 : wq.cell? ⟨wr.heap.size, 0, none⟩ = some (.int .i64 t.a) := by rw [hwq]; exact cell_alloc_at _ _ _ _ _ rfl
      have T1 : wq.cell? ⟨wr.heap.size, 1, none⟩ = some (.int .i64 t.b) := by rw [hwq]; exact cell_alloc_at _ _ _ _ _ rfl
      have T2 : wq.cell? ⟨wr.heap.size, 2, none⟩ = some (.int .i64 t.c) := by rw [hwq]; exact cell_alloc_at _ _ _ _ _ rfl
      have T3 : wq.cell? ⟨wr.heap.size, 3, none⟩ = some (.int .i64 t.d) := by rw [hwq]; exact cell_alloc_at _ _ _ _ _ rfl
      have B1 : Below wr.heap.size wr wq := by rw [hwq]; exact below_al (Below.refl _ _)
      have E0 := cell_gb T0 hn1
      have E1 := cell_gb T1 hn1
      have E2 := cell_gb T2 hn1
      have E3 := cell_gb T3 hn1
      have HOq := Lib.hid (HO.out.below B1)
      have HBq := Lib.hid (HB.out.trans (B1.mono HB.out.size))
      have HSq : Hid (w.heap.size + 2 ≤ wq.heap.size) := Nat.le_trans HSz.out B1.size
      have Hrw : Hid (∀ k, (Value.slice Av L.length cv).ownBlock = some k → w2.heap.size ≤ k) := fun k hk => by have := (hrw k hk).1; have := H2s.out; omega
      rw [← hwq]
      clear hwq T0 T1 T2 T3 B1 hn1 hrw c0 c1 c2 c3 q0 q1
      refine wp_region_mix [(0, true), (1, true), (2, true), (3, true), (4, true), (5, true), (6, true), (7, true), (8, true), (9, true), (10, true), (11, true), (12, true), (13, true), (14, false), (15, false), (16, true)] (fun w' => wq.grownBy w' (Value.slice Av L.length cv).ownBlock) (by kernel_rfl) (by kernel_rfl) (fun _ _ d _ _ h => by cases d <;> exact h) (⟨rfl, rfl, rfl, Nat.le_refl _, fun _ _ _ => rfl⟩) ?_
      repeat (first
        | (refine mix_skip rfl rfl (fun K' hK' => ?_); go_simp; refine hK' _ ?_; clear hK' K')
        | (refine mix_do (v := ?_) rfl rfl (fun w1 hb => ?_) (fun K' hK' => ?_); rotate_left
           · go_simp
             rfl
           go_simp; refine hK' _ ?_; clear hK' K'))
      refine mix_call rfl rfl (fun K' hK' => ?_)
      go_simp
      refine hK' _ _ (grown_drw (World.grownBy_alloc wq _ _)) ?_; clear hK' K'
      refine mix_call rfl rfl (fun K' hK' => ?_)
      refine app_tiles (.tmp 27) (.tmp 41) rfl (w.heap.size + 2) _ L [⟨t.c, t.b, t.a, t.d⟩] rfl (HOq.out.drew.alloc _) ⟨wq.heap.size, 0, none⟩ 1 rfl (fun j u hj => (OwnT.one wq.drew ⟨t.c, t.b, t.a, t.d⟩ (Nat.le_refl _)).all j u hj) (by have := HLk.out; simp; omega) (by have := HSq.out; simp; omega) (fun v' w' a1 a2 a3 => ?_)
      have B2 := Lib.hid (Below.grown (below_al HBq.out.drew) a2 (by have := HBq.out.size; simp; omega) Hrw.out)
      have O1 := Lib.hid a1
      refine hK' _ _ ((grown_drw (World.grownBy_alloc wq _ _)).trans a2) ?_
      clear hK' K' a1 a2 a3 E0 E1 E2 E3
      have HL2 : Hid (L ++ [(⟨t.c, t.b, t.a, t.d⟩ : T4)] = (ts.take (k + 1)).map mirT9) := by show _ = _; rw [HK.out, List.map_append, ← HL.out]; rfl
      rw [HL2.out] at O1
      repeat (first
        | (refine mix_skip rfl rfl (fun K' hK' => ?_); go_simp; refine hK' _ ?_; clear hK' K')
        | (refine mix_do (v := ?_) rfl rfl (fun w1 hb => ?_) (fun K' hK' => ?_); rotate_left
           · go_simp
             rfl
           go_simp; refine hK' _ ?_; clear hK' K'))
      refine mix_nil ?_
      go_wp2_with fail
      go_roundw
      case rel => exact ⟨k + 1, by omega, by go_num, O1, B2⟩
      case measure => simp [intOf]; omega
    · obtain rfl : k = ts.length := by omega
      rw [List.take_length] at HL
      go_wp2_with fail
      refine (l01Made_c c L Av cv wr HO.out.cells (by rw [HL.out, List.length_map]; omega)).mono ?_
      rintro e w3 ⟨A', c', rfl, hO3, hb3⟩
      rw [HL.out] at hO3 ⊢
      obtain ⟨ss, hss⟩ : ∃ ss, ss = setT (ts.map mirT9) := ⟨_, rfl⟩
      rw [← hss] at hO3 ⊢
      have HSS := Lib.hid hss
      clear hss
      have HO3 := Lib.hid (hO3.lower HSz.out)
      have HW3 := Lib.hid (HBw.out.trans (hb3.mono HBw.out.size))
      have HZ := Lib.hid ((H21.out.under HB.out).under hb3)
      clear hO3 hb3 q0 q1 HO HL
      have y0 := HZ.out.cell 0 (by simp)
      have y1 := HZ.out.cell 1 (by simp)
      have g0 := HZ.out.frozen 0
      have g1 := HZ.out.frozen 1
      simp only [List.getElem_cons_zero, List.getElem_cons_succ] at y0 y1
      go_wp2
      refine bodyPost_ret (v := .agg #[.int .i64 c, .slice A' ss.length c']) (by
        have x0 := ((HZ.out.set 0 (.int .i64 c)).set 1 (.slice A' ss.length c')).cell 0 (by simp)
        have x1 := ((HZ.out.set 0 (.int .i64 c)).set 1 (.slice A' ss.length c')).cell 1 (by simp)
        simp only [List.set_cons_zero, List.set_cons_succ, List.getElem_cons_zero, List.getElem_cons_succ] at x0 x1
        simp [results, Tryz.results165, go_sem, x0, x1]) rfl ?_
      have hW3 := HW3.out
      rw [← HSS.out]
      refine ⟨A', c', rfl, ?_, by (repeat (first | (with_reducible exact Below.refl _ _) | (with_reducible assumption) | (with_reducible refine below_al ?_) | (with_reducible refine below_dr ?_) | (with_reducible refine below_drN ?_) | (with_reducible refine below_set ?_ (by first | exact Nat.le_refl _ | (dsimp only; omega) | omega)) | (with_reducible refine below_tr (by with_reducible assumption) ?_)))⟩
      exact ((HO3.out.other (w.heap.size + 1) 0 (by omega) _).other (w.heap.size + 1) 1 (by omega) _).lower (by omega)
set_option maxRecDepth 100000 in
set_option maxHeartbeats 1000000 in
theorem l01Mirrored_c (c : Int) (ts : List T4) (A : Option Addr) (cx : Nat) (w : World) (hT : TileCells w A ts) (hl : ts.length ≤ 1000) :
    Calls Tryz.prog 79 #[.agg #[.int .i64 c, .slice A ts.length cx]] w fun e w' => ∃ A' cx', e = .returned (.agg #[.int .i64 c, .slice A' (setT (ts.map mirT9)).length cx']) ∧ OwnT w' w.heap.size (.slice A' (setT (ts.map mirT9)).length cx') (setT (ts.map mirT9)) ∧ Below w.heap.size w w' := by
  have HC := Lib.hid (fun W (h : Below w.heap.size w W) => chgM_c c ts A cx W (hT.below h) hl)
  clear hT
  go_enter Tryz.func79, Tryz.ntmps79
  go_wp2_with fail
  obtain ⟨w2, hw2⟩ : ∃ w2, w2 = ((w.alloc (.cells #[.int .i64 c, .slice A ts.length cx] 26)).alloc (.cells #[.int .i64 0, .slice none 0 0] 26)) := ⟨_, rfl⟩
  have H2s : Hid (w2.heap.size = w.heap.size + 2) := by rw [hw2]; simp [Hid]
  have H21 : Hid (Blk w2 (w.heap.size + 1) [.int .i64 0, .slice none 0 0] 26) := by
    rw [hw2]
    have := Blk.newA (w.alloc (.cells #[.int .i64 c, .slice A ts.length cx] 26)) #[.int .i64 0, .slice none 0 0] 26
    rwa [World.size_alloc] at this
  have H2b : Hid (Below w.heap.size w w2) := by rw [hw2]; exact below_al (below_al (Below.refl _ _))
  rw [← hw2]
  clear hw2
  refine (HC.out _ H2b.out).mono ?_
  rintro e w3 ⟨A', c', rfl, hO, hb⟩
  obtain ⟨ss, hss⟩ : ∃ ss, ss = setT (ts.map mirT9) := ⟨_, rfl⟩
  rw [← hss] at hO ⊢
  have HSS := Lib.hid hss
  clear hss
  have HZ := Lib.hid (H21.out.under hb)
  have HB := Lib.hid (H2b.out.trans (hb.mono H2b.out.size))
  have HO := Lib.hid (hO.lower (show w.heap.size + 2 ≤ w2.heap.size by have := H2s.out; omega))
  clear hO hb HC
  have y0 := HZ.out.cell 0 (by simp)
  have y1 := HZ.out.cell 1 (by simp)
  have g0 := HZ.out.frozen 0
  have g1 := HZ.out.frozen 1
  simp only [List.getElem_cons_zero, List.getElem_cons_succ] at y0 y1
  go_wp2
  refine bodyPost_ret (v := .agg #[.int .i64 c, .slice A' ss.length c']) (by
    have x0 := ((HZ.out.set 0 (.int .i64 c)).set 1 (.slice A' ss.length c')).cell 0 (by simp)
    have x1 := ((HZ.out.set 0 (.int .i64 c)).set 1 (.slice A' ss.length c')).cell 1 (by simp)
    simp only [List.set_cons_zero, List.set_cons_succ, List.getElem_cons_zero, List.getElem_cons_succ] at x0 x1
    simp [results, Tryz.results79, go_sem, x0, x1]) rfl ?_
  have hB := HB.out
  rw [← HSS.out]
  refine ⟨A', c', rfl, ?_, by (repeat (first | (with_reducible exact Below.refl _ _) | (with_reducible assumption) | (with_reducible refine below_al ?_) | (with_reducible refine below_dr ?_) | (with_reducible refine below_drN ?_) | (with_reducible refine below_set ?_ (by first | exact Nat.le_refl _ | (dsimp only; omega) | omega)) | (with_reducible refine below_tr (by with_reducible assumption) ?_)))⟩
  exact ((HO.out.other (w.heap.size + 1) 0 (by omega) _).other (w.heap.size + 1) 1 (by omega) _).lower (by omega)

end Go.Proofs.YtkgnejhflnekaaaGreat
