/- Contracts and lemmas for the statements of this seat, written for this claim; each theorem states its own conditions. -/
import Derived.Test.YtkgnejhflnekaaaGreatMuI5
import Derived.Test.YtkgnejhflnekaaaGreatMuB
set_option linter.unusedVariables false
set_option linter.unusedSimpArgs false
namespace Go.Proofs.YtkgnejhflnekaaaGreat
open Go.RowKit
set_option maxRecDepth 100000 in
set_option maxHeartbeats 1000000 in
theorem setOf_c (c : Int) (ts : List T4) (A : Option Addr) (cx : Nat) (w : World) (hT : TileCells w A ts) (hl : ts.length ≤ 1000000000) :
    Calls Tryz.prog 216 #[.int .i64 c, .slice A ts.length cx] w fun e w' => ∃ A' cx', e = .returned (.tuple #[.agg #[.int .i64 c, .slice A' (setT ts).length cx'], .bool (decide (c ≤ 6) && decide ((setT ts).length ≤ 16))]) ∧ OwnT w' w.heap.size (.slice A' (setT ts).length cx') (setT ts) ∧ Below w.heap.size w w' := by
  have HT := Lib.hid hT
  have HL := Lib.hid hl
  clear hT hl
  go_enter Tryz.func216, Tryz.ntmps216
  go_wp2_with fail
  refine (itValues_c A ts.length cx _).mono ?_
  rintro e w1 ⟨rfl, rfl⟩
  obtain ⟨wb, hwb⟩ : ∃ wb, (w.alloc (.cells #[.int .i64 0, .slice none 0 0] 26)).alloc (.cells #[.slice A ts.length cx] 24) = wb := ⟨_, rfl⟩
  have hB0 := Lib.hid (show Below w.heap.size w wb by rw [← hwb]; (repeat (first | (with_reducible exact Below.refl _ _) | (with_reducible assumption) | (with_reducible refine below_al ?_) | (with_reducible refine below_dr ?_) | (with_reducible refine below_drN ?_) | (with_reducible refine below_set ?_ (by first | exact Nat.le_refl _ | (dsimp only; omega) | omega)) | (with_reducible refine below_tr (by with_reducible assumption) ?_))))
  have hq := Lib.hid (show wb.heap.size = w.heap.size + 2 by rw [← hwb]; simp)
  have hcl := Lib.hid (show wb.cell? ⟨w.heap.size + 1, 0, none⟩ = some (.slice A ts.length cx) by rw [← hwb]; have := cell_alloc_at (w.alloc (.cells #[.int .i64 0, .slice none 0 0] 26)) #[.slice A ts.length cx] 24 0 _ rfl; rw [World.size_alloc] at this; exact this)
  have hZ := Lib.hid (show Blk wb w.heap.size [.int .i64 0, .slice none 0 0] 26 by rw [← hwb]; exact (Blk.newA w _ _).alloc _)
  rw [World.size_alloc]
  rw [hwb]
  clear hwb
  go_wp2_with fail
  refine (sortedFunc_c (w.heap.size + 1) cx A ts HL.out wb (by have := hq.out; omega) hcl.out (HT.out.below hB0.out)).mono ?_
  rintro e w2 ⟨v, rfl, hO, hb2⟩
  have HO := Lib.hid hO
  have Hb2 := Lib.hid hb2
  clear hO hb2
  go_wp2_with fail
  refine (compactO_c (sortT ts) _ v w2 HO.out (by rw [sortT_length]; exact HL.out)).mono ?_
  rintro e w3 ⟨A', cx', rfl, hO3, hg3⟩
  change OwnT w3 _ (.slice A' (setT ts).length cx') (setT ts) at hO3
  have hw3 : Below wb.heap.size wb w3 := Hb2.out.grown hg3 Hb2.out.size (fun k hk => (World.ownsRow.lt HO.out k hk).1)
  have HO3 := Lib.hid hO3
  have HW3 := Lib.hid hw3
  clear hO3 hg3 hw3
  have HN := Lib.hid (sortT_length ts)
  go_wp2_with fail
  change Code.wp _ _ _ _ (w3.alloc (.cells #[.int .i64 c, .slice A' (setT ts).length cx'] 26))
  rw [show (ddT (sortT ts)).length = (setT ts).length from rfl]
  obtain ⟨wx, hwx⟩ : ∃ wx, w3.alloc (.cells #[.int .i64 c, .slice A' (setT ts).length cx'] 26) = wx := ⟨_, rfl⟩
  have hN := Lib.hid (show Blk wx w3.heap.size [.int .i64 c, .slice A' (setT ts).length cx'] 26 by rw [← hwx]; exact Blk.newA w3 _ _)
  have hX := Lib.hid (show Below w3.heap.size w3 wx by rw [← hwx]; exact (Below.refl _ _).alloc (Nat.le_refl _) _)
  rw [hwx]
  clear hwx
  have hZx := Lib.hid (((hZ.out.under HW3.out).below hX.out (by have := HW3.out.size; have := hq.out; omega)))
  have hO4 := Lib.hid (HO3.out.below hX.out)
  have hlt3 := Lib.hid (show w.heap.size < w3.heap.size by have := HW3.out.size; have := hq.out; omega)
  have hBx := Lib.hid (hB0.out.trans ((HW3.out.trans (hX.out.mono HW3.out.size)).mono hB0.out.size))
  have HSS := Lib.hid (show ∀ n, n = (setT ts).length → (setT ts).length = n from fun n h => h.symm)
  generalize hS : (setT ts).length = S at *
  have HS := Lib.hid hS
  clear hS HSS
  have e0 : ∀ w1, Blk w1 w3.heap.size [Value.int .i64 c, .slice A' S cx'] 26 → w1.cell? ⟨w3.heap.size, 0, none⟩ = some (.int .i64 c) := fun w1 h => h.cell 0 (by simp)
  have e1 : ∀ w1, Blk w1 w3.heap.size [Value.int .i64 c, .slice A' S cx'] 26 → w1.cell? ⟨w3.heap.size, 1, none⟩ = some (.slice A' S cx') := fun w1 h => h.cell 1 (by simp)
  have z0 := hZx.out.cell 0 (by simp)
  have z1 := hZx.out.cell 1 (by simp)
  have g0 := hZx.out.frozen 0
  have g1 := hZx.out.frozen 1
  simp only [List.getElem_cons_zero, List.getElem_cons_succ] at z0 z1
  by_cases hc : c ≤ 6
  · skip
    refine wp_region_mix [(0, true), (1, true), (2, true), (3, true), (4, true), (5, true), (6, true), (7, true), (8, true), (9, true), (10, false), (11, true)] (fun w' => Blk w' w3.heap.size [Value.int .i64 c, .slice A' S cx'] 26) (by kernel_rfl) (by kernel_rfl) (fun _ _ d _ _ h => by cases d <;> exact h) (hN.out.drew) ?_
    repeat (first
      | (refine mix_skip rfl rfl (fun K' hK' => ?_); go_simp; refine hK' _ ?_; clear hK' K')
      | (refine mix_do (v := ?_) rfl rfl (fun w1 hb => ?_) (fun K' hK' => ?_); rotate_left
         · go_simp
           rfl
         go_simp; refine hK' _ ?_; clear hK' K'))
    refine mix_call rfl rfl (fun K' hK' => ?_)
    go_simp
    refine hK' _ _ ((hN.out.other (by have := hlt3.out; dsimp only; omega) _).other (by have := hlt3.out; dsimp only; omega) _) ?_; clear hK' K'
    repeat (first
      | (refine mix_skip rfl rfl (fun K' hK' => ?_); go_simp; refine hK' _ ?_; clear hK' K')
      | (refine mix_do (v := ?_) rfl rfl (fun w1 hb => ?_) (fun K' hK' => ?_); rotate_left
         · go_simp
           rfl
         go_simp; refine hK' _ ?_; clear hK' K'))
    refine mix_nil ?_
    have hZ' := Lib.hid ((hZx.out.set 0 (.int .i64 c)).set 1 (.slice A' S cx'))
    clear e0 e1 z0 z1 g0 g1
    have x0 := hZ'.out.cell 0 (by simp)
    have x1 := hZ'.out.cell 1 (by simp)
    simp only [List.set_cons_zero, List.set_cons_succ, List.getElem_cons_zero, List.getElem_cons_succ] at x0 x1
    go_wp2
    have hS := HS.out
    refine bodyPost_ret (v := .tuple #[.agg #[.int .i64 c, .slice A' S cx'], .bool (decide (c ≤ 6) && decide (S ≤ 16))]) (by simp [results, Tryz.results216, go_sem, x0, x1, hc]; first | omega | (intro h; omega)) rfl ⟨A', cx', by rw [hS], ?_, ?_⟩
    · rw [hS]
      exact ((hO4.out.other _ 0 (by have := hq.out; omega) _).other _ 1 (by have := hq.out; omega) _).weaken (by have := hq.out; omega)
    · have hbx := hBx.out
      (repeat (first | (with_reducible exact Below.refl _ _) | (with_reducible assumption) | (with_reducible refine below_al ?_) | (with_reducible refine below_dr ?_) | (with_reducible refine below_drN ?_) | (with_reducible refine below_set ?_ (by first | exact Nat.le_refl _ | (dsimp only; omega) | omega)) | (with_reducible refine below_tr (by with_reducible assumption) ?_)))
  · skip
    refine wp_region_mix [(0, true), (1, true), (2, true), (3, true), (4, true), (5, true), (6, true), (7, true), (8, true), (9, true), (10, false), (11, true)] (fun w' => Blk w' w3.heap.size [Value.int .i64 c, .slice A' S cx'] 26) (by kernel_rfl) (by kernel_rfl) (fun _ _ d _ _ h => by cases d <;> exact h) (hN.out.drew) ?_
    repeat (first
      | (refine mix_skip rfl rfl (fun K' hK' => ?_); go_simp; refine hK' _ ?_; clear hK' K')
      | (refine mix_do (v := ?_) rfl rfl (fun w1 hb => ?_) (fun K' hK' => ?_); rotate_left
         · go_simp
           rfl
         go_simp; refine hK' _ ?_; clear hK' K'))
    refine mix_call rfl rfl (fun K' hK' => ?_)
    go_simp
    refine hK' _ _ ((hN.out.other (by have := hlt3.out; dsimp only; omega) _).other (by have := hlt3.out; dsimp only; omega) _) ?_; clear hK' K'
    repeat (first
      | (refine mix_skip rfl rfl (fun K' hK' => ?_); go_simp; refine hK' _ ?_; clear hK' K')
      | (refine mix_do (v := ?_) rfl rfl (fun w1 hb => ?_) (fun K' hK' => ?_); rotate_left
         · go_simp
           rfl
         go_simp; refine hK' _ ?_; clear hK' K'))
    refine mix_nil ?_
    have hZ' := Lib.hid ((hZx.out.set 0 (.int .i64 c)).set 1 (.slice A' S cx'))
    clear e0 e1 z0 z1 g0 g1
    have x0 := hZ'.out.cell 0 (by simp)
    have x1 := hZ'.out.cell 1 (by simp)
    simp only [List.set_cons_zero, List.set_cons_succ, List.getElem_cons_zero, List.getElem_cons_succ] at x0 x1
    go_wp2
    have hS := HS.out
    refine bodyPost_ret (v := .tuple #[.agg #[.int .i64 c, .slice A' S cx'], .bool (decide (c ≤ 6) && decide (S ≤ 16))]) (by simp [results, Tryz.results216, go_sem, x0, x1, hc]; first | omega | (intro h; omega)) rfl ⟨A', cx', by rw [hS], ?_, ?_⟩
    · rw [hS]
      exact ((hO4.out.other _ 0 (by have := hq.out; omega) _).other _ 1 (by have := hq.out; omega) _).weaken (by have := hq.out; omega)
    · have hbx := hBx.out
      (repeat (first | (with_reducible exact Below.refl _ _) | (with_reducible assumption) | (with_reducible refine below_al ?_) | (with_reducible refine below_dr ?_) | (with_reducible refine below_drN ?_) | (with_reducible refine below_set ?_ (by first | exact Nat.le_refl _ | (dsimp only; omega) | omega)) | (with_reducible refine below_tr (by with_reducible assumption) ?_)))
set_option maxRecDepth 100000 in
set_option maxHeartbeats 1000000 in
theorem limited_c (c : Int) (ts : List T4) (A : Option Addr) (cx : Nat) (w : World) (hT : TileCells w A ts) (hl : ts.length ≤ 1000000000) :
    Calls Tryz.prog 189 #[.int .i64 c, .slice A ts.length cx] w fun e w' => Below w.heap.size w w' ∧
      ((c ≤ 6 ∧ (setT ts).length ≤ 16 ∧ ∃ A' cx', e = .returned (.tuple #[.agg #[.int .i64 c, .slice A' (setT ts).length cx'], .int .i64 0]) ∧ OwnT w' w.heap.size (.slice A' (setT ts).length cx') (setT ts)) ∨
       (¬ (c ≤ 6 ∧ (setT ts).length ≤ 16) ∧ e = .returned (.tuple #[.agg #[.int .i64 0, .slice none 0 0], .int .i64 3]))) := by
  have HT := Lib.hid hT
  have HL := Lib.hid hl
  clear hT hl
  generalize hS : setT ts = ss at *
  have HS := Lib.hid hS
  clear hS
  go_enter Tryz.func189, Tryz.ntmps189
  go_wp2_with fail
  refine (setOf_c c ts A cx _ (HT.out.below (by (repeat (first | (with_reducible exact Below.refl _ _) | (with_reducible assumption) | (with_reducible refine below_al ?_) | (with_reducible refine below_dr ?_) | (with_reducible refine below_drN ?_) | (with_reducible refine below_set ?_ (by first | exact Nat.le_refl _ | (dsimp only; omega) | omega)) | (with_reducible refine below_tr (by with_reducible assumption) ?_))))) HL.out).mono ?_
  rintro e w1 ⟨A', cx', rfl, hO, hb1⟩
  rw [HS.out] at *
  have HO := Lib.hid hO
  have q := Lib.hid ((Blk.newA w #[.int .i64 0, .slice none 0 0] 26).under hb1)
  have Hb1 := Lib.hid (show Below w.heap.size w w1 by (repeat (first | (with_reducible exact Below.refl _ _) | (with_reducible assumption) | (with_reducible refine below_al ?_) | (with_reducible refine below_dr ?_) | (with_reducible refine below_drN ?_) | (with_reducible refine below_set ?_ (by first | exact Nat.le_refl _ | (dsimp only; omega) | omega)) | (with_reducible refine below_tr (by with_reducible assumption) ?_))))
  have hs1 := Lib.hid (show w.heap.size < w1.heap.size by have := hb1.size; simp at this; omega)
  have qa := Lib.hid (q.out.alloc (.cells #[.int .i64 c, .slice A' ss.length cx'] 26))
  have y0 := qa.out.cell 0 (by simp)
  have y1 := qa.out.cell 1 (by simp)
  have g0 := qa.out.frozen 0
  have g1 := qa.out.frozen 1
  simp only [List.getElem_cons_zero, List.getElem_cons_succ] at y0 y1
  clear hO hb1
  by_cases hc : c ≤ 6 ∧ ss.length ≤ 16
  · have hd : (decide (c ≤ 6) && decide (ss.length ≤ 16)) = true := by simp [hc]
    rw [hd]
    have HC := Lib.hid hc
    clear hc hd
    go_wp2
    refine bodyPost_ret (v := .tuple #[.agg #[.int .i64 c, .slice A' ss.length cx'], .int .i64 0]) (by
      have x0 := ((qa.out.set 0 (.int .i64 c)).set 1 (.slice A' ss.length cx')).cell 0 (by simp)
      have x1 := ((qa.out.set 0 (.int .i64 c)).set 1 (.slice A' ss.length cx')).cell 1 (by simp)
      simp only [List.set_cons_zero, List.set_cons_succ, List.getElem_cons_zero, List.getElem_cons_succ] at x0 x1
      simp [results, Tryz.results189, go_sem, x0, x1]) rfl ⟨?_, .inl ⟨HC.out.1, HC.out.2, A', cx', rfl, ?_⟩⟩
    · have hb1 := Hb1.out
      (repeat (first | (with_reducible exact Below.refl _ _) | (with_reducible assumption) | (with_reducible refine below_al ?_) | (with_reducible refine below_dr ?_) | (with_reducible refine below_drN ?_) | (with_reducible refine below_set ?_ (by first | exact Nat.le_refl _ | (dsimp only; omega) | omega)) | (with_reducible refine below_tr (by with_reducible assumption) ?_)))
    · have hB := HO.out
      rw [World.size_alloc] at hB
      exact (((hB.alloc _).other _ 0 (by omega) _).other _ 1 (by omega) _).weaken (by omega)
  · have hd : (decide (c ≤ 6) && decide (ss.length ≤ 16)) = false := by simp; intro h; exact Nat.lt_of_not_le fun h2 => hc ⟨h, h2⟩
    rw [hd]
    have HC := Lib.hid hc
    clear hc hd
    go_wp2
    refine bodyPost_ret (v := .tuple #[.agg #[.int .i64 0, .slice none 0 0], .int .i64 3]) (by
      have x0 := ((qa.out.set 0 (.int .i64 0)).set 1 (.slice none 0 0)).cell 0 (by simp)
      have x1 := ((qa.out.set 0 (.int .i64 0)).set 1 (.slice none 0 0)).cell 1 (by simp)
      simp only [List.set_cons_zero, List.set_cons_succ, List.getElem_cons_zero, List.getElem_cons_succ] at x0 x1
      simp [results, Tryz.results189, go_sem, x0, x1]) rfl ⟨?_, .inr ⟨HC.out, rfl⟩⟩
    have hb1 := Hb1.out
    (repeat (first | (with_reducible exact Below.refl _ _) | (with_reducible assumption) | (with_reducible refine below_al ?_) | (with_reducible refine below_dr ?_) | (with_reducible refine below_drN ?_) | (with_reducible refine below_set ?_ (by first | exact Nat.le_refl _ | (dsimp only; omega) | omega)) | (with_reducible refine below_tr (by with_reducible assumption) ?_)))

end Go.Proofs.YtkgnejhflnekaaaGreat
namespace Go.Proofs.YtkgnejhflnekaaaGreat
open Go.RowKit
theorem asc_unique : ∀ (D E : List T4), D.Pairwise (fun x y => ltT x y = true) → E.Pairwise (fun x y => ltT x y = true) → (∀ x, x ∈ D ↔ x ∈ E) → D = E
  | [], [], _, _, _ => rfl
  | [], e :: E, _, _, h => absurd ((h e).2 (by simp)) (by simp)
  | d :: D, [], _, _, h => absurd ((h d).1 (by simp)) (by simp)
  | d :: D, e :: E, hD, hE, h => by
    rw [List.pairwise_cons] at hD hE
    have hde : d = e := by
      rcases List.mem_cons.1 ((h d).1 (by simp)) with h1 | h1
      · exact h1
      · rcases List.mem_cons.1 ((h e).2 (by simp)) with h2 | h2
        · exact h2.symm
        · have a := hE.1 d h1
          have b := hD.1 e h2
          have := ltT_swo.trans _ _ _ a b
          rw [ltT_swo.irrefl] at this
          cases this
    subst hde
    rw [asc_unique D E hD.2 hE.2 (fun x => ?_)]
    constructor
    · intro hx
      rcases List.mem_cons.1 ((h x).1 (by simp [hx])) with h1 | h1
      · subst h1; have := hD.1 x hx; rw [ltT_swo.irrefl] at this; cases this
      · exact h1
    · intro hx
      rcases List.mem_cons.1 ((h x).2 (by simp [hx])) with h1 | h1
      · subst h1; have := hE.1 x hx; rw [ltT_swo.irrefl] at this; cases this
      · exact h1
theorem setT_eq {ts L : List T4} (hL : L.Pairwise (fun x y => ltT x y = true)) (h : ∀ x, x ∈ L ↔ x ∈ ts) : setT ts = L :=
  asc_unique _ _ (setT_asc ts) hL (fun x => (setT_mem ts x).trans (h x).symm)
theorem setT_skip {ts : List T4} {t : T4} (h : t ∈ setT ts) : setT (ts ++ [t]) = setT ts :=
  setT_eq (setT_asc ts) (fun x => by
    rw [setT_mem, List.mem_append, List.mem_singleton]
    constructor
    · exact .inl
    · rintro (h1 | h1)
      · exact h1
      · subst h1; exact (setT_mem ts x).1 h)
theorem setT_ins {ts : List T4} {t : T4} (at_ : Nat) (ha : at_ ≤ (setT ts).length) (h1 : ∀ j (h : j < (setT ts).length), at_ ≤ j → ltT t (setT ts)[j] = true)
    (h2 : at_ = 0 ∨ ∃ h : at_ - 1 < (setT ts).length, ltT t (setT ts)[at_ - 1] = false ∧ (setT ts)[at_ - 1] ≠ t) : setT (ts ++ [t]) = (setT ts).take at_ ++ t :: (setT ts).drop at_ := by
  have hasc := setT_asc ts
  have hmem := setT_mem ts
  generalize setT ts = L at *
  have hlow : ∀ x ∈ L.take at_, ltT x t = true := by
    intro x hx
    obtain ⟨j, hj, rfl⟩ := List.getElem_of_mem hx
    rw [List.length_take] at hj
    rw [List.getElem_take]
    rcases h2 with h2 | ⟨h2, h3, h4⟩
    · omega
    · have hb := ltT_of_ne h3 h4.symm
      by_cases e : j = at_ - 1
      · subst e; exact hb
      · exact ltT_swo.trans _ _ _ (List.pairwise_iff_getElem.1 hasc j (at_ - 1) (by omega) h2 (by omega)) hb
  have hhigh : ∀ x ∈ L.drop at_, ltT t x = true := by
    intro x hx
    obtain ⟨j, hj, rfl⟩ := List.getElem_of_mem hx
    rw [List.getElem_drop]
    exact h1 _ (by rw [List.length_drop] at hj; omega) (by omega)
  refine setT_eq ?_ (fun x => ?_)
  · rw [List.pairwise_append]
    refine ⟨hasc.sublist (List.take_sublist _ _), List.pairwise_cons.2 ⟨hhigh, hasc.sublist (List.drop_sublist _ _)⟩, fun x hx y hy => ?_⟩
    rcases List.mem_cons.1 hy with rfl | hy
    · exact hlow x hx
    · exact ltT_swo.trans _ _ _ (hlow x hx) (hhigh y hy)
  · have e : x ∈ L ↔ x ∈ L.take at_ ∨ x ∈ L.drop at_ := by rw [← List.mem_append, List.take_append_drop]
    rw [List.mem_append, List.mem_cons, List.mem_append, List.mem_singleton, ← hmem, e]
    constructor
    · rintro (h | h | h)
      · exact .inl (.inl h)
      · exact .inr h
      · exact .inl (.inr h)
    · rintro ((h | h) | h)
      · exact .inl h
      · exact .inr (.inr h)
      · exact .inr (.inl h)
theorem setT_take_len (ts : List T4) : (setT ts).length ≤ ts.length := len_le_of_mem _ _ (setT_nodup ts) (fun x h => (setT_mem ts x).1 h)
theorem setT_len_nodup {ts : List T4} (h : ts.Nodup) : (setT ts).length = ts.length := len_eq_of_mem _ _ (setT_nodup ts) h (setT_mem ts)
/-- the tiles of a multiplying set, in the order of the loops -/
def mCell (p q l d e : Int) : List T4 := if 1 - p ≤ p * d + l - q * e ∧ p * d + l - q * e ≤ q - 1 then [⟨l + p - 1, d, p * d + l - q * e + p - 1, e⟩] else []
def mRow (p q l d u : Int) (k : Nat) : List T4 := (List.range k).flatMap fun j : Nat => mCell p q l d (u + j)
def mDs (p q l m u : Int) (K k : Nat) : List T4 := (List.range k).flatMap fun j : Nat => mRow p q l (m + j) u K
def mAll (p q m u : Int) (N K k : Nat) : List T4 := (List.range k).flatMap fun j : Nat => mDs p q (1 - p + j) m u K N
theorem mRow_succ (p q l d u : Int) (k : Nat) : mRow p q l d u (k + 1) = mRow p q l d u k ++ mCell p q l d (u + k) := by simp [mRow, List.range_succ]
theorem mDs_succ (p q l m u : Int) (K k : Nat) : mDs p q l m u K (k + 1) = mDs p q l m u K k ++ mRow p q l (m + k) u K := by simp [mDs, List.range_succ]
theorem mAll_succ (p q m u : Int) (N K k : Nat) : mAll p q m u N K (k + 1) = mAll p q m u N K k ++ mDs p q (1 - p + k) m u K N := by simp [mAll, List.range_succ]
theorem mCell_len (p q l d e : Int) : (mCell p q l d e).length ≤ 1 := by unfold mCell; split <;> simp
theorem mRow_len (p q l d u : Int) : ∀ k, (mRow p q l d u k).length ≤ k
  | 0 => by simp [mRow]
  | k + 1 => by rw [mRow_succ, List.length_append]; have := mRow_len p q l d u k; have := mCell_len p q l d (u + k); omega
theorem mDs_len (p q l m u : Int) (K : Nat) (hK : K ≤ 6) : ∀ k, (mDs p q l m u K k).length ≤ k * 6
  | 0 => by simp [mDs]
  | k + 1 => by rw [mDs_succ, List.length_append]; have := mDs_len p q l m u K hK k; have := mRow_len p q l (m + k) u K; omega
theorem mAll_len (p q m u : Int) (N K : Nat) (hK : K ≤ 6) (hN : N ≤ 6) : ∀ k, (mAll p q m u N K k).length ≤ k * 36
  | 0 => by simp [mAll]
  | k + 1 => by rw [mAll_succ, List.length_append]; have := mAll_len p q m u N K hK hN k; have := mDs_len p q (1 - p + k) m u K hK N; omega
theorem mAll_nodup (p q m u : Int) (N K k : Nat) : (mAll p q m u N K k).Nodup := by
  have hcell : ∀ l d e x, x ∈ mCell p q l d e → x.a = l + p - 1 ∧ x.b = d ∧ x.d = e := by
    intro l d e x hx
    unfold mCell at hx
    split at hx
    · rw [List.mem_singleton] at hx; subst hx; exact ⟨rfl, rfl, rfl⟩
    · simp at hx
  have hrow : ∀ l d x, x ∈ mRow p q l d u K → x.a = l + p - 1 ∧ x.b = d := by
    intro l d x hx
    unfold mRow at hx
    obtain ⟨j, _, hj⟩ := List.mem_flatMap.1 hx
    exact ⟨(hcell _ _ _ _ hj).1, (hcell _ _ _ _ hj).2.1⟩
  have hds : ∀ l x, x ∈ mDs p q l m u K N → x.a = l + p - 1 := by
    intro l x hx
    unfold mDs at hx
    obtain ⟨j, _, hj⟩ := List.mem_flatMap.1 hx
    exact (hrow _ _ _ hj).1
  have n1 : ∀ l d e, (mCell p q l d e).Nodup := by intro l d e; unfold mCell; split <;> simp
  have n2 : ∀ l d k, (mRow p q l d u k).Nodup := by
    intro l d k
    unfold mRow
    rw [List.Nodup, List.pairwise_flatMap]
    refine ⟨fun j _ => n1 _ _ _, (List.pairwise_iff_getElem.2 fun i j hi hj hij x hx y hy e => ?_)⟩
    have a := (hcell _ _ _ _ hx).2.2
    have b := (hcell _ _ _ _ hy).2.2
    rw [e, List.getElem_range] at a
    rw [List.getElem_range] at b
    omega
  have n3 : ∀ l k, (mDs p q l m u K k).Nodup := by
    intro l k
    unfold mDs
    rw [List.Nodup, List.pairwise_flatMap]
    refine ⟨fun j _ => n2 _ _ _, (List.pairwise_iff_getElem.2 fun i j hi hj hij x hx y hy e => ?_)⟩
    have a := (hrow _ _ _ hx).2
    have b := (hrow _ _ _ hy).2
    rw [e, List.getElem_range] at a
    rw [List.getElem_range] at b
    omega
  unfold mAll
  rw [List.Nodup, List.pairwise_flatMap]
  refine ⟨fun j _ => n3 _ _, (List.pairwise_iff_getElem.2 fun i j hi hj hij x hx y hy e => ?_)⟩
  have a := hds _ _ hx
  have b := hds _ _ hy
  rw [e, List.getElem_range] at a
  rw [List.getElem_range] at b
  omega
/-- tiles are appended to an owned list of tiles -/
theorem app_tiles {o : Oper} {a : Act} {W : World} {K : Act → World → Prop} {Q : Exit → Act → World → Prop} (s x : Operand)
    (ho : o.op = .call { callee := .builtin .append, args := #[s, x], argTypes := #[24, 24] }) (B : Nat) (v : Value) (ts us : List T4) (hs : a.eval s = v) (hown : OwnT W B v ts)
    (ad : Addr) (c : Nat) (hx : a.eval x = .slice (some ad) us.length c) (hc : ∀ j u, (tcells us)[j]? = some u → W.cell? (ad.add j) = some u) (hl : ts.length + us.length ≤ 1000000000) (hB : B ≤ W.heap.size)
    (h : ∀ v' w', OwnT w' B v' (ts ++ us) → W.grownBy w' v.ownBlock → (v'.ownBlock = v.ownBlock ∨ v'.ownBlock = some W.heap.size) → K (a.put o.dst v') w') : o.wp Tryz.prog a W K Q := by
  refine app_gen s x 24 127 (.agg #[.int .i64 0, .int .i64 0, .int .i64 0, .int .i64 0]) 4 32 ho Tryz.underlying24 infoTile2 rfl (by decide) B v ts.length (tcells ts) hs hown ad us.length c (tcells us) hx (tcells_length us) hc ?_ ?_ ?_ hB ?_
  · intro u hu
    unfold tcells at hu
    obtain ⟨t, _, ht⟩ := List.mem_flatMap.1 hu
    simp only [ints, T4.l, List.map_cons, List.map_nil, List.mem_cons, List.not_mem_nil, or_false] at ht
    rcases ht with rfl | rfl | rfl | rfl <;> rfl
  · simp [maxLen]; omega
  · omega
  · intro v' w' h1 h2 h3
    refine h v' w' ?_ h2 h3
    unfold OwnT
    rw [tcells_append, List.length_append]
    exact h1
theorem wpl_app_tiles {ops : Array Oper} {rest : List Oper} {o : Oper} {a : Act} {W : World} {Q : Exit → Act → World → Prop} (hgd : o.guard = none) (s x : Operand)
    (ho : o.op = .call { callee := .builtin .append, args := #[s, x], argTypes := #[24, 24] }) (B : Nat) (v : Value) (ts us : List T4) (hs : a.eval s = v) (hown : OwnT W B v ts)
    (ad : Addr) (c : Nat) (hx : a.eval x = .slice (some ad) us.length c) (hc : ∀ j u, (tcells us)[j]? = some u → W.cell? (ad.add j) = some u) (hl : ts.length + us.length ≤ 1000000000) (hB : B ≤ W.heap.size)
    (h : ∀ v' w', OwnT w' B v' (ts ++ us) → W.grownBy w' v.ownBlock → (v'.ownBlock = v.ownBlock ∨ v'.ownBlock = some W.heap.size) → wpList Tryz.prog ops Q rest (a.put o.dst v') w') : wpList Tryz.prog ops Q (o :: rest) a W :=
  wpList_plain hgd fun _ hK => app_tiles s x ho B v ts us hs hown ad c hx hc hl hB fun v' w' h1 h2 h3 => hK _ _ (h v' w' h1 h2 h3)
/-- the cells of an owned list from a place on -/
theorem OwnT.cellsFrom {w : World} {B g n cap : Nat} {L : List T4} (h : OwnT w B (.slice (some ⟨g, 0, none⟩) n cap) L) (k : Nat) (j : Nat) (u : Value) (hj : (tcells (L.drop k))[j]? = some u) : w.cell? ((⟨g, k * 4, none⟩ : Addr).add j) = some u := by
  obtain ⟨A, cx, e, hT⟩ := h.tiles
  injection e with a1 a2 a3
  subst a1 a2 a3
  have hk : k < L.length := by
    rcases Nat.lt_or_ge k L.length with h | h
    · exact h
    · rw [List.drop_eq_nil_of_le h] at hj; simp [tcells] at hj
  have hL : 0 < L.length := by omega
  obtain ⟨g', cap', cur, e, hB, hb, h1, h2, h3, h4⟩ := h.parts hL
  injection e with a1 a2 a3
  injection a1 with a1
  injection a1 with a1
  subst a1 a3
  have hd : tcells (L.drop k) = (tcells L).drop (k * 4) := by
    have := congrArg tcells (List.take_append_drop k L)
    rw [tcells_append, ← tcells_take] at this
    exact List.append_cancel_left (this.trans (List.take_append_drop (k * 4) (tcells L)).symm)
  rw [hd, List.getElem?_drop, ← h4, List.getElem?_take] at hj
  split at hj
  · rw [show (⟨g, k * 4, none⟩ : Addr).add j = ⟨g, k * 4 + j, none⟩ by cases j <;> rfl]
    simp only [World.cell?, hb]
    simpa using hj
  · cases hj
theorem OwnT.upto {w : World} {B g n cap : Nat} {L : List T4} (h : OwnT w B (.slice (some ⟨g, 0, none⟩) n cap) L) (k : Nat) (j : Nat) (u : Value) (hj : (tcells (L.take k))[j]? = some u) : w.cell? ((⟨g, 0, none⟩ : Addr).add j) = some u := by
  have := h.cellsFrom 0 j u
  simp only [Nat.zero_mul, List.drop_zero] at this
  apply this
  rw [← tcells_take, List.getElem?_take] at hj
  split at hj
  · exact hj
  · cases hj
theorem OwnT.one (w : World) (x : T4) {B : Nat} (hB : B ≤ w.heap.size) : OwnT (w.alloc (.cells #[.int .i64 x.a, .int .i64 x.b, .int .i64 x.c, .int .i64 x.d] 127)) B (.slice (some ⟨w.heap.size, 0, none⟩) 1 1) [x] :=
  World.ownsRow_lit (base := B) (e := 127) (size := 4) w #[.int .i64 x.a, .int .i64 x.b, .int .i64 x.c, .int .i64 x.d] 1 hB (by decide) rfl
theorem OwnT.drew {w : World} {B : Nat} {v : Value} {ts : List T4} (h : OwnT w B v ts) : OwnT { w with drawn := w.drawn + 1 } B v ts := h
theorem OwnT.all {w : World} {B g n cap : Nat} {L : List T4} (h : OwnT w B (.slice (some ⟨g, 0, none⟩) n cap) L) (j : Nat) (u : Value) (hj : (tcells L)[j]? = some u) : w.cell? ((⟨g, 0, none⟩ : Addr).add j) = some u := by
  refine h.upto L.length j u ?_
  rw [List.take_length]; exact hj
theorem OwnT.rowlt {w : World} {B : Nat} {v : Value} {ts : List T4} (h : OwnT w B v ts) : ∀ k, v.ownBlock = some k → B ≤ k := fun k hk => (World.ownsRow.lt h k hk).1

end Go.Proofs.YtkgnejhflnekaaaGreat
