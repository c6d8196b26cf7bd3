/- Contracts and lemmas for the statements of this seat, written for this claim; each theorem states its own conditions. -/
import Derived.Test.YtkgnejhflnekaaaFrR1
import Derived.Test.YtkgnejhflnekaaaFrGw
set_option linter.unusedVariables false
set_option linter.unusedSimpArgs false
namespace Go.Proofs.Ytkgnejhflnekaaa
open Go.RowKit
attribute [local go_sem] addUpon_value addUpon_skip addUpon_enter
def CellOk (ts : List T4) (rows : List (List Int)) (y x : Nat) : Prop := (0 < x → meetE ts (rAt rows y (x - 1)) (rAt rows y x) = true) ∧ (0 < y → meetS ts (rAt rows (y - 1) x) (rAt rows y x) = true)
theorem FillOk_iff {ts : List T4} {rows : List (List Int)} : FillOk ts rows ↔ ∀ y, y < rows.length → ∀ x, x < (rows.getD y []).length → CellOk ts rows y x := Iff.rfl
/-- a cell of a list of lists in memory -/
theorem RowsC.rat {w : World} {R : Option Addr} {rows : List (List Int)} (h : RowsC w R rows) {y x : Nat} (hy : y < rows.length) (hx : x < (rows.getD y []).length) : ∃ b off b5 o5 c5, R = some ⟨b, off, none⟩ ∧ w.cell? ⟨b, off + y, none⟩ = some (.slice (some ⟨b5, o5, none⟩) (rows.getD y []).length c5) ∧ w.cell? ⟨b5, o5 + x, none⟩ = some (.int .i64 (rAt rows y x)) := by
  obtain ⟨b, off, A1, c1, e, _, f0, r1⟩ := h y hy
  rw [row_get hy] at hx ⊢
  obtain ⟨b5, o5, rfl, _, g0⟩ := r1.int x hx
  exact ⟨b, off, b5, o5, c1, e, f0, by rw [rAt_get hy hx]; exact g0⟩
set_option maxRecDepth 100000 in
set_option maxHeartbeats 1000000 in
theorem isFilling_c (c : Int) (ts : List T4) (A : Option Addr) (cx : Nat) (rows : List (List Int)) (R : Option Addr) (cR : Nat) (w : World) (hT : TileCells w A ts) (hl : ts.length ≤ 1000000) (hM : RowsC w R rows) (hI : NumsIn ts.length rows) (hTb : TableOk rows) :
    Calls Try.prog 36 #[.agg #[.int .i64 c, .slice A ts.length cx], .slice R rows.length cR] w fun e w' => e = .returned (.bool (fillB ts rows)) ∧ Below w.heap.size w w' := by
  have hW : Below w.heap.size w (w.alloc (.cells #[.int .i64 c, .slice A ts.length cx] 26)) := by (repeat (first | (with_reducible exact Below.refl _ _) | (with_reducible assumption) | (with_reducible refine below_al ?_) | (with_reducible refine below_dr ?_) | (with_reducible refine below_drN ?_) | (with_reducible refine below_set ?_ (by first | exact Nat.le_refl _ | (dsimp only; omega) | omega)) | (with_reducible refine below_tr (by with_reducible assumption) ?_)))
  have l1 := keepC (cell_alloc_at w #[.int .i64 c, .slice A ts.length cx] 26 1 _ rfl)
  have HT := Lib.hid (hT.below hW)
  have HM := Lib.hid (hM.below hW)
  have HW := Lib.hid hW
  have L1 := Lib.hid l1
  have HI := Lib.hid hI
  have HTb := Lib.hid hTb
  have hr8 := hTb.1.2
  have HBad := Lib.hid (fun (y x : Nat) (hy : y < rows.length) (hx : x < (rows.getD y []).length) (h : ¬ CellOk ts rows y x) => fillB_no (ts := ts) (fun hf => h (FillOk_iff.1 hf y hy x hx)))
  have HGood := Lib.hid (fun h => fillB_yes (FillOk_iff (ts := ts) (rows := rows) |>.2 h))
  clear hT hM hW l1 hI hTb
  go_enter Try.func36, Try.ntmps36
  go_wp2_with fail
  generalize w.alloc (.cells #[.int .i64 c, .slice A ts.length cx] 26) = W at *
  go_loopw [11] (fun i wr => ∃ k : Nat, k ≤ rows.length ∧ i = .int .i64 (k : Nat) ∧ Hid (∀ y, y < k → ∀ x, x < (rows.getD y []).length → CellOk ts rows y x) ∧ Hid (Below W.heap.size W wr)) (fun i _ => rows.length - (intOf i).toNat)
  case atStart => exact ⟨0, by omega, rfl, fun y hy => by omega, Below.refl _ _⟩
  case round =>
    obtain ⟨k, hk, rfl, HN, HB⟩ := hrel
    obtain ⟨w0, rfl⟩ : ∃ w0, w0 = wr := ⟨wr, rfl⟩
    by_cases h1 : k < rows.length
    · obtain ⟨b, off, A1, c1, rfl, hlt, f0, r1⟩ := (HM.out.below HB.out) k h1
      have hlr := (HTb.out.2 k h1).2.2
      have HRG := Lib.hid (row_get h1)
      have R1 := Lib.hid r1
      have HRow := Lib.hid (fun (W1 : World) (h : Below w0.heap.size w0 W1) (q : Nat) (hq : q < rows[k].length) => (r1.below h).int q hq)
      have F0 := Lib.hid (keepC f0)
      have HRA := Lib.hid (fun q hq => rAt_get (rows := rows) (x := q) h1 hq)
      have HNm := Lib.hid (fun q hq => HI.out k h1 q hq)
      have HLn : Hid ((rows.getD k []).length = rows[k].length) := by rw [row_get h1]; rfl
      clear r1 R1 HRG
      generalize rows[k] = row at *
      go_wp2_with fail
      clear f0
      go_loopw [18] (fun i wz => ∃ q : Nat, q ≤ row.length ∧ i = .int .i64 (q : Nat) ∧ Hid (∀ x, x < q → CellOk ts rows k x) ∧ Hid (Below w0.heap.size w0 wz)) (fun i _ => row.length - (intOf i).toNat)
      case atStart => exact ⟨0, by omega, rfl, fun x hx => by omega, Below.refl _ _⟩
      case round =>
        obtain ⟨q, hq, rfl, HQ, HB2⟩ := hrel
        have HBr : Hid (Below W.heap.size W wr) := HB.out.trans (HB2.out.mono HB.out.size)
        by_cases h2 : q < row.length
        · obtain ⟨b5, o5, rfl, _, x0⟩ := HRow.out _ HB2.out q h2
          have hv0 := HRA.out q h2
          obtain ⟨a0, a1⟩ := HNm.out q h2
          rw [← hv0] at x0 a0 a1
          obtain ⟨m, hm⟩ := Int.eq_ofNat_of_zero_le a0
          have hml : m < ts.length := by omega
          obtain ⟨b9, o9, rfl, _, t0, t1, -, -⟩ := (HT.out.below HBr.out) m hml
          have htm := tA_nat ts m hml
          obtain ⟨E1, hE1⟩ : ∃ E1 : Bool, E1 = meetE ts (rAt rows k (q - 1)) (rAt rows k q) := ⟨_, rfl⟩
          obtain ⟨E2, hE2⟩ : ∃ E2 : Bool, E2 = meetS ts (rAt rows (k - 1) q) (rAt rows k q) := ⟨_, rfl⟩
          have HCk : Hid (CellOk ts rows k q ↔ (0 < q → E1 = true) ∧ (0 < k → E2 = true)) := by rw [hE1, hE2]; exact Iff.rfl
          have HC0 : Hid (E1 = ((tA ts (rAt rows k (q - 1))).c == (tA ts (rAt rows k q)).a)) := hE1
          have HC1 : Hid (E2 = ((tA ts (rAt rows (k - 1) q)).d == (tA ts (rAt rows k q)).b)) := hE2
          clear hE1 hE2
          rw [hm] at x0 HC0 HC1
          rw [htm] at HC0 HC1
          have HNx := Lib.hid (fun (h : CellOk ts rows k q) x (hx : x < q + 1) => if e : x = q then (show CellOk ts rows k x from e ▸ h) else HQ.out x (by omega))
          have HBd := Lib.hid (HBad.out k q h1 (by rw [HLn.out]; exact h2))
          have g0 := keepC t0
          have g1 := keepC t1
          have g2 := keepC x0
          have g3 := keepC (F0.out _ HB2.out)
          have g4 := keepC (L1.out _ HBr.out)
          clear htm hm a0 a1 hv0 t0 t1
          generalize ts[m] = t at *
          by_cases k0 : 0 < k
          · have q1 : IntKind.i64.wrap ((k : Int) - 1) = ((k - 1 : Nat) : Int) := by rw [IntWalk.i64_in _ (by omega)]; omega
            have q2 : k - 1 < rows.length := by omega
            have hlu : q < (rows.getD (k - 1) []).length := by rw [table_row HTb.out q2]; rw [← table_row HTb.out h1, HLn.out]; exact h2
            obtain ⟨b6, o6, b7, o7, c7, e6, u0, u1⟩ := (HM.out.below HBr.out).rat q2 hlu
            injection e6 with e6; injection e6 with e6 e6'; subst e6 e6'
            obtain ⟨v0, v1⟩ := nums_rAt HI.out q2 hlu
            obtain ⟨m2, hm2⟩ := Int.eq_ofNat_of_zero_le v0
            have hml2 : m2 < ts.length := by omega
            have htm2 := tA_nat ts m2 hml2
            rw [hm2] at u1 HC1
            rw [htm2] at HC1
            obtain ⟨-, -, -, t4⟩ := (HT.out.below HBr.out).pair rfl m2 hml2
            have g8 := keepC u0
            have g9 := keepC u1
            have g10 := keepC t4
            clear u0 u1 v0 v1 hm2 htm2 t4
            generalize ts[m2] = t2 at *
            generalize (rows.getD (k - 1) []).length = lu at *
            by_cases q0 : 0 < q
            · have p1 : IntKind.i64.wrap ((q : Int) - 1) = ((q - 1 : Nat) : Int) := by rw [IntWalk.i64_in _ (by omega)]; omega
              have p2 : q - 1 < row.length := by omega
              obtain ⟨b6', o6', e6, _, y0⟩ := HRow.out _ HB2.out (q - 1) p2
              injection e6 with e6; injection e6 with e6 e6'; subst e6 e6'
              have hv1 := HRA.out (q - 1) p2
              obtain ⟨v0, v1⟩ := HNm.out (q - 1) p2
              rw [← hv1] at y0 v0 v1
              obtain ⟨m1, hm1⟩ := Int.eq_ofNat_of_zero_le v0
              have hml1 : m1 < ts.length := by omega
              have htm1 := tA_nat ts m1 hml1
              rw [hm1] at y0 HC0
              rw [htm1] at HC0
              obtain ⟨-, -, t3, -⟩ := (HT.out.below HBr.out).pair rfl m1 hml1
              have g5 := keepC y0
              have g6 := keepC t3
              clear y0 v0 v1 hv1 hm1 htm1 t3
              generalize ts[m1] = t1 at *
              by_cases z1 : t1.c = t.a
              · have z1' : (t1.c != t.a) = false := by simp [z1]
                by_cases z2 : t2.d = t.b
                · have z2' : (t2.d != t.b) = false := by simp [z2]
                  have HF := Lib.hid (HNx.out (HCk.out.2 ⟨fun _ => by rw [HC0.out]; simp [z1], fun _ => by rw [HC1.out]; simp [z2]⟩))
                  clear z1 z2
                  go_wp2_with fail
                  clear x0
                  refine wp_region_add (fun w' => Below (wr).heap.size (wr) w') (by kernel_rfl) (by kernel_rfl) ((Below.refl _ _).drew) ?_
                  repeat (first
                    | (refine add_skip rfl (fun K' hK' => ?_); go_simp; refine hK' _ ?_; clear hK' K')
                    | (refine add_do (v := ?_) rfl (fun w1 hb => ?_) (fun K' hK' => ?_); rotate_left
                       · go_simp
                         first
                         | (with_reducible exact rfl)
                         | (with_reducible exact ⟨rfl, hb⟩)
                         | exact rfl
                         | exact ⟨rfl, hb⟩
                       go_simp; refine hK' _ ?_; clear hK' K'))
                  refine add_nil ?_
                  intro wa hba
                  have HB3 := Lib.hid (HB2.out.trans (hba.mono HB2.out.size))
                  go_wp2
                  go_roundw
                  case rel => exact ⟨q + 1, by omega, by go_num, HF.out, HB3.out⟩
                  case measure => simp [intOf]; omega
                · have z2' : (t2.d != t.b) = true := by simp [z2]
                  have HF := Lib.hid (HBd.out (fun h => z2 (by have := (HCk.out.1 h).2 k0; rw [HC1.out] at this; simpa using this)))
                  clear z1 z2
                  go_wp2_with fail
                  clear x0
                  refine wp_region_add (fun w' => Below (wr).heap.size (wr) w') (by kernel_rfl) (by kernel_rfl) ((Below.refl _ _).drew) ?_
                  repeat (first
                    | (refine add_skip rfl (fun K' hK' => ?_); go_simp; refine hK' _ ?_; clear hK' K')
                    | (refine add_do (v := ?_) rfl (fun w1 hb => ?_) (fun K' hK' => ?_); rotate_left
                       · go_simp
                         first
                         | (with_reducible exact rfl)
                         | (with_reducible exact ⟨rfl, hb⟩)
                         | exact rfl
                         | exact ⟨rfl, hb⟩
                       go_simp; refine hK' _ ?_; clear hK' K'))
                  refine add_nil ?_
                  intro wa hba
                  have HBe := Lib.hid (HW.out.trans ((HBr.out.trans (hba.mono HBr.out.size)).mono HW.out.size))
                  go_wp2
                  go_ret
                  exact ⟨ret_bool HF.out.symm, HBe.out⟩
              · have z1' : (t1.c != t.a) = true := by simp [z1]
                have HF := Lib.hid (HBd.out (fun h => z1 (by have := (HCk.out.1 h).1 q0; rw [HC0.out] at this; simpa using this)))
                clear z1
                go_wp2_with fail
                clear x0
                refine wp_region_add (fun w' => Below (wr).heap.size (wr) w') (by kernel_rfl) (by kernel_rfl) ((Below.refl _ _).drew) ?_
                repeat (first
                  | (refine add_skip rfl (fun K' hK' => ?_); go_simp; refine hK' _ ?_; clear hK' K')
                  | (refine add_do (v := ?_) rfl (fun w1 hb => ?_) (fun K' hK' => ?_); rotate_left
                     · go_simp
                       first
                       | (with_reducible exact rfl)
                       | (with_reducible exact ⟨rfl, hb⟩)
                       | exact rfl
                       | exact ⟨rfl, hb⟩
                     go_simp; refine hK' _ ?_; clear hK' K'))
                refine add_nil ?_
                intro wa hba
                have HBe := Lib.hid (HW.out.trans ((HBr.out.trans (hba.mono HBr.out.size)).mono HW.out.size))
                go_wp2
                go_ret
                exact ⟨ret_bool HF.out.symm, HBe.out⟩
            · have q0' : decide (0 < q) = false := by simp; omega
              by_cases z2 : t2.d = t.b
              · have z2' : (t2.d != t.b) = false := by simp [z2]
                have HF := Lib.hid (HNx.out (HCk.out.2 ⟨fun h => absurd h q0, fun _ => by rw [HC1.out]; simp [z2]⟩))
                clear z2
                go_wp2_with fail
                clear x0
                refine wp_region_add (fun w' => Below (wr).heap.size (wr) w') (by kernel_rfl) (by kernel_rfl) ((Below.refl _ _).drew) ?_
                repeat (first
                  | (refine add_skip rfl (fun K' hK' => ?_); go_simp; refine hK' _ ?_; clear hK' K')
                  | (refine add_do (v := ?_) rfl (fun w1 hb => ?_) (fun K' hK' => ?_); rotate_left
                     · go_simp
                       first
                       | (with_reducible exact rfl)
                       | (with_reducible exact ⟨rfl, hb⟩)
                       | exact rfl
                       | exact ⟨rfl, hb⟩
                     go_simp; refine hK' _ ?_; clear hK' K'))
                refine add_nil ?_
                intro wa hba
                have HB3 := Lib.hid (HB2.out.trans (hba.mono HB2.out.size))
                go_wp2
                go_roundw
                case rel => exact ⟨q + 1, by omega, by go_num, HF.out, HB3.out⟩
                case measure => simp [intOf]; omega
              · have z2' : (t2.d != t.b) = true := by simp [z2]
                have HF := Lib.hid (HBd.out (fun h => z2 (by have := (HCk.out.1 h).2 k0; rw [HC1.out] at this; simpa using this)))
                clear z2
                go_wp2_with fail
                clear x0
                refine wp_region_add (fun w' => Below (wr).heap.size (wr) w') (by kernel_rfl) (by kernel_rfl) ((Below.refl _ _).drew) ?_
                repeat (first
                  | (refine add_skip rfl (fun K' hK' => ?_); go_simp; refine hK' _ ?_; clear hK' K')
                  | (refine add_do (v := ?_) rfl (fun w1 hb => ?_) (fun K' hK' => ?_); rotate_left
                     · go_simp
                       first
                       | (with_reducible exact rfl)
                       | (with_reducible exact ⟨rfl, hb⟩)
                       | exact rfl
                       | exact ⟨rfl, hb⟩
                     go_simp; refine hK' _ ?_; clear hK' K'))
                refine add_nil ?_
                intro wa hba
                have HBe := Lib.hid (HW.out.trans ((HBr.out.trans (hba.mono HBr.out.size)).mono HW.out.size))
                go_wp2
                go_ret
                exact ⟨ret_bool HF.out.symm, HBe.out⟩
          · have k0' : decide (0 < k) = false := by simp; omega
            by_cases q0 : 0 < q
            · have p1 : IntKind.i64.wrap ((q : Int) - 1) = ((q - 1 : Nat) : Int) := by rw [IntWalk.i64_in _ (by omega)]; omega
              have p2 : q - 1 < row.length := by omega
              obtain ⟨b6', o6', e6, _, y0⟩ := HRow.out _ HB2.out (q - 1) p2
              injection e6 with e6; injection e6 with e6 e6'; subst e6 e6'
              have hv1 := HRA.out (q - 1) p2
              obtain ⟨v0, v1⟩ := HNm.out (q - 1) p2
              rw [← hv1] at y0 v0 v1
              obtain ⟨m1, hm1⟩ := Int.eq_ofNat_of_zero_le v0
              have hml1 : m1 < ts.length := by omega
              have htm1 := tA_nat ts m1 hml1
              rw [hm1] at y0 HC0
              rw [htm1] at HC0
              obtain ⟨-, -, t3, -⟩ := (HT.out.below HBr.out).pair rfl m1 hml1
              have g5 := keepC y0
              have g6 := keepC t3
              clear y0 v0 v1 hv1 hm1 htm1 t3
              generalize ts[m1] = t1 at *
              by_cases z1 : t1.c = t.a
              · have z1' : (t1.c != t.a) = false := by simp [z1]
                have HF := Lib.hid (HNx.out (HCk.out.2 ⟨fun _ => by rw [HC0.out]; simp [z1], fun h => absurd h k0⟩))
                clear z1
                go_wp2_with fail
                clear x0
                refine wp_region_add (fun w' => Below (wr).heap.size (wr) w') (by kernel_rfl) (by kernel_rfl) ((Below.refl _ _).drew) ?_
                repeat (first
                  | (refine add_skip rfl (fun K' hK' => ?_); go_simp; refine hK' _ ?_; clear hK' K')
                  | (refine add_do (v := ?_) rfl (fun w1 hb => ?_) (fun K' hK' => ?_); rotate_left
                     · go_simp
                       first
                       | (with_reducible exact rfl)
                       | (with_reducible exact ⟨rfl, hb⟩)
                       | exact rfl
                       | exact ⟨rfl, hb⟩
                     go_simp; refine hK' _ ?_; clear hK' K'))
                refine add_nil ?_
                intro wa hba
                have HB3 := Lib.hid (HB2.out.trans (hba.mono HB2.out.size))
                go_wp2
                go_roundw
                case rel => exact ⟨q + 1, by omega, by go_num, HF.out, HB3.out⟩
                case measure => simp [intOf]; omega
              · have z1' : (t1.c != t.a) = true := by simp [z1]
                have HF := Lib.hid (HBd.out (fun h => z1 (by have := (HCk.out.1 h).1 q0; rw [HC0.out] at this; simpa using this)))
                clear z1
                go_wp2_with fail
                clear x0
                refine wp_region_add (fun w' => Below (wr).heap.size (wr) w') (by kernel_rfl) (by kernel_rfl) ((Below.refl _ _).drew) ?_
                repeat (first
                  | (refine add_skip rfl (fun K' hK' => ?_); go_simp; refine hK' _ ?_; clear hK' K')
                  | (refine add_do (v := ?_) rfl (fun w1 hb => ?_) (fun K' hK' => ?_); rotate_left
                     · go_simp
                       first
                       | (with_reducible exact rfl)
                       | (with_reducible exact ⟨rfl, hb⟩)
                       | exact rfl
                       | exact ⟨rfl, hb⟩
                     go_simp; refine hK' _ ?_; clear hK' K'))
                refine add_nil ?_
                intro wa hba
                have HBe := Lib.hid (HW.out.trans ((HBr.out.trans (hba.mono HBr.out.size)).mono HW.out.size))
                go_wp2
                go_ret
                exact ⟨ret_bool HF.out.symm, HBe.out⟩
            · have q0' : decide (0 < q) = false := by simp; omega
              have HF := Lib.hid (HNx.out (HCk.out.2 ⟨fun h => absurd h q0, fun h => absurd h k0⟩))
              go_wp2_with fail
              clear x0
              refine wp_region_add (fun w' => Below (wr).heap.size (wr) w') (by kernel_rfl) (by kernel_rfl) ((Below.refl _ _).drew) ?_
              repeat (first
                | (refine add_skip rfl (fun K' hK' => ?_); go_simp; refine hK' _ ?_; clear hK' K')
                | (refine add_do (v := ?_) rfl (fun w1 hb => ?_) (fun K' hK' => ?_); rotate_left
                   · go_simp
                     first
                     | (with_reducible exact rfl)
                     | (with_reducible exact ⟨rfl, hb⟩)
                     | exact rfl
                     | exact ⟨rfl, hb⟩
                   go_simp; refine hK' _ ?_; clear hK' K'))
              refine add_nil ?_
              intro wa hba
              have HB3 := Lib.hid (HB2.out.trans (hba.mono HB2.out.size))
              go_wp2
              go_roundw
              case rel => exact ⟨q + 1, by omega, by go_num, HF.out, HB3.out⟩
              case measure => simp [intOf]; omega
        · have HF : Hid (∀ y, y < k + 1 → ∀ x, x < (rows.getD y []).length → CellOk ts rows y x) := fun y hy x hx => by
            by_cases e : y = k
            · subst e; exact HQ.out x (by rw [HLn.out] at hx; omega)
            · exact HN.out y (by omega) x hx
          go_wp2_with fail
          go_roundw
          case rel => exact ⟨k + 1, by omega, by go_num, HF, HBr⟩
          case measure => simp [intOf]; omega
    · have HF := Lib.hid (HGood.out (fun y hy x hx => HN.out y (by omega) x hx))
      have HBe := Lib.hid (HW.out.trans (HB.out.mono HW.out.size))
      go_wp2
      go_ret
      exact ⟨ret_bool HF.out.symm, HBe.out⟩
set_option maxRecDepth 100000 in
set_option maxHeartbeats 1000000 in
theorem isFilling1_c (c : Int) (A : Option Addr) (n cx : Nat) (rows : List (List Int)) (R : Option Addr) (cR b1 b2 : Nat) (w : World) (hM : RowsC w R rows) (hn : n ≤ 1000000) (hl : rows.length ≤ 1000000000) (hs : Short 1000000000 rows)
    (f0 : w.cell? ⟨b1, 0, none⟩ = some (.int .i64 c)) (f1 : w.cell? ⟨b1, 1, none⟩ = some (.slice A n cx)) (f2 : w.cell? ⟨b2, 0, none⟩ = some (.slice R rows.length cR)) :
    Calls Try.prog 35 #[.pointer (some ⟨b1, 0, none⟩), .pointer (some ⟨b2, 0, none⟩)] w fun e w' => e = .returned (.bool (rowsB n rows)) ∧ Below w.heap.size w w' := by
  have H := Lib.hid (areNumbers_c c A n cx rows R cR w hM hn hl hs)
  clear hM hs
  go_enter Try.func35, Try.ntmps35
  go_wp2_with fail
  refine H.out.mono ?_
  rintro e w1 ⟨rfl, hb1⟩
  go_wp2
  go_ret
  exact ⟨rfl, by (repeat (first | (with_reducible exact Below.refl _ _) | (with_reducible assumption) | (with_reducible refine below_al ?_) | (with_reducible refine below_dr ?_) | (with_reducible refine below_drN ?_) | (with_reducible refine below_set ?_ (by first | exact Nat.le_refl _ | (dsimp only; omega) | omega)) | (with_reducible refine below_tr (by with_reducible assumption) ?_)))⟩
set_option maxRecDepth 100000 in
set_option maxHeartbeats 1000000 in
theorem implIsFilling_c (c : Int) (ts : List T4) (A : Option Addr) (cx : Nat) (rows : List (List Int)) (R : Option Addr) (cR : Nat) (w : World) (hT : TileCells w A ts) (hl : ts.length ≤ 1000000000) (hM : RowsC w R rows) (hlm : rows.length ≤ 1000000000) (hsm : Short 1000000000 rows) :
    Calls Try.prog 11 #[.agg #[.int .i64 c, .slice A ts.length cx], .slice R rows.length cR] w fun e w' => e = .returned (.tuple #[.bool (fiV c ts rows), .int .i64 (fiC c ts rows)]) ∧ Below w.heap.size w w' := by
  have HC : Hid (∀ (wq : World) (hq : Below w.heap.size w wq) (b1 b2 : Nat) (h0 : wq.cell? ⟨b1, 0, none⟩ = some (.int .i64 c)) (h1 : wq.cell? ⟨b1, 1, none⟩ = some (.slice A ts.length cx)) (h2 : wq.cell? ⟨b2, 0, none⟩ = some (.slice R rows.length cR)),
      Calls Try.prog 34 #[.agg #[.int .i64 c, .slice A ts.length cx], .func (.func 35) #[] #[.pointer (some ⟨b1, 0, none⟩), .pointer (some ⟨b2, 0, none⟩)]] wq fun e w' => e = .returned (.int .i64 (codeB (isSetB c ts) (rowsB ts.length rows))) ∧ Below wq.heap.size wq w') :=
    fun wq hq b1 b2 h0 h1 h2 => setCode_c c ts A cx 35 #[.pointer (some ⟨b1, 0, none⟩), .pointer (some ⟨b2, 0, none⟩)] (rowsB ts.length rows) wq (fun _ _ => rfl) (hT.below hq) hl
      (fun hs w1 hb => isFilling1_c c A ts.length cx rows R cR b1 b2 w1 ((hM.below hq).below hb) (by have := (isSetB_small hs).2; omega) hlm hsm (keepC h0 _ hb) (keepC h1 _ hb) (keepC h2 _ hb))
  have HG := Lib.hid (fun (hs : isSetB c ts = true) (hr : rowsB ts.length rows = true) (wq : World) (hq : Below w.heap.size w wq) => isFilling_c c ts A cx rows R cR wq (hT.below hq) (by have := (isSetB_small hs).2; omega) (hM.below hq) (rowsB_ok hr).2 (rowsB_ok hr).1)
  have HV : Hid (fiC c ts rows = codeB (isSetB c ts) (rowsB ts.length rows)) := rfl
  have HV1 : Hid (fiV c ts rows = (isSetB c ts && rowsB ts.length rows && fillB ts rows)) := rfl
  clear hT hM hsm
  cases hs : isSetB c ts
  · have HFc : Hid (fiC c ts rows = 1) := by rw [Hid, HV.out, hs]; rfl
    have HFv : Hid (fiV c ts rows = false) := by rw [Hid, HV1.out, hs]; rfl
    rw [hs] at HC
    rw [show codeB false (rowsB ts.length rows) = 1 from rfl] at HC
    clear hs HV HV1 HG
    go_enter Try.func11, Try.ntmps11
    go_wp2_with fail
    refine (HC.out _ (by (repeat (first | (with_reducible exact Below.refl _ _) | (with_reducible assumption) | (with_reducible refine below_al ?_) | (with_reducible refine below_dr ?_) | (with_reducible refine below_drN ?_) | (with_reducible refine below_set ?_ (by first | exact Nat.le_refl _ | (dsimp only; omega) | omega)) | (with_reducible refine below_tr (by with_reducible assumption) ?_)))) _ _ ?_ ?_ ?_).mono ?_
    · (repeat (first | (exact cell_al _ _ _ _ _ _ (by simp) rfl) | (refine cell_alloc_old _ _ _ _ _ ?_)))
    · (repeat (first | (exact cell_al _ _ _ _ _ _ (by simp) rfl) | (refine cell_alloc_old _ _ _ _ _ ?_)))
    · (repeat (first | (exact cell_al _ _ _ _ _ _ (by simp) rfl) | (refine cell_alloc_old _ _ _ _ _ ?_)))
    rintro e w1 ⟨rfl, hb1⟩
    have Hw1 : Hid (Below w.heap.size w w1) := by (show Below _ _ _); (repeat (first | (with_reducible exact Below.refl _ _) | (with_reducible assumption) | (with_reducible refine below_al ?_) | (with_reducible refine below_dr ?_) | (with_reducible refine below_drN ?_) | (with_reducible refine below_set ?_ (by first | exact Nat.le_refl _ | (dsimp only; omega) | omega)) | (with_reducible refine below_tr (by with_reducible assumption) ?_)))
    have x0 : w1.cell? ⟨w.heap.size, 0, none⟩ = some (.int .i64 c) := by
      rw [(bcell hb1).1 _ _ (by simp; omega)]
      (repeat (first | (exact cell_al _ _ _ _ _ _ (by simp) rfl) | (refine cell_alloc_old _ _ _ _ _ ?_)))
    have x1 : w1.cell? ⟨w.heap.size, 1, none⟩ = some (.slice A ts.length cx) := by
      rw [(bcell hb1).1 _ _ (by simp; omega)]
      (repeat (first | (exact cell_al _ _ _ _ _ _ (by simp) rfl) | (refine cell_alloc_old _ _ _ _ _ ?_)))
    have x5 : w1.cell? ⟨w.heap.size + 1, 0, none⟩ = some (.slice R rows.length cR) := by
      rw [(bcell hb1).1 _ _ (by simp)]
      (repeat (first | (exact cell_al _ _ _ _ _ _ (by simp) rfl) | (refine cell_alloc_old _ _ _ _ _ ?_)))
    clear hb1
    go_wp2
    go_ret2
    exact ⟨by rw [HFv.out, HFc.out]; rfl, Hw1.out⟩
  · cases hr : rowsB ts.length rows
    · have HFc : Hid (fiC c ts rows = 2) := by rw [Hid, HV.out, hs, hr]; rfl
      have HFv : Hid (fiV c ts rows = false) := by rw [Hid, HV1.out, hs, hr]; rfl
      rw [hs, hr] at HC
      rw [show codeB true false = 2 from rfl] at HC
      clear hs hr HV HV1 HG
      go_enter Try.func11, Try.ntmps11
      go_wp2_with fail
      refine (HC.out _ (by (repeat (first | (with_reducible exact Below.refl _ _) | (with_reducible assumption) | (with_reducible refine below_al ?_) | (with_reducible refine below_dr ?_) | (with_reducible refine below_drN ?_) | (with_reducible refine below_set ?_ (by first | exact Nat.le_refl _ | (dsimp only; omega) | omega)) | (with_reducible refine below_tr (by with_reducible assumption) ?_)))) _ _ ?_ ?_ ?_).mono ?_
      · (repeat (first | (exact cell_al _ _ _ _ _ _ (by simp) rfl) | (refine cell_alloc_old _ _ _ _ _ ?_)))
      · (repeat (first | (exact cell_al _ _ _ _ _ _ (by simp) rfl) | (refine cell_alloc_old _ _ _ _ _ ?_)))
      · (repeat (first | (exact cell_al _ _ _ _ _ _ (by simp) rfl) | (refine cell_alloc_old _ _ _ _ _ ?_)))
      rintro e w1 ⟨rfl, hb1⟩
      have Hw1 : Hid (Below w.heap.size w w1) := by (show Below _ _ _); (repeat (first | (with_reducible exact Below.refl _ _) | (with_reducible assumption) | (with_reducible refine below_al ?_) | (with_reducible refine below_dr ?_) | (with_reducible refine below_drN ?_) | (with_reducible refine below_set ?_ (by first | exact Nat.le_refl _ | (dsimp only; omega) | omega)) | (with_reducible refine below_tr (by with_reducible assumption) ?_)))
      have x0 : w1.cell? ⟨w.heap.size, 0, none⟩ = some (.int .i64 c) := by
        rw [(bcell hb1).1 _ _ (by simp; omega)]
        (repeat (first | (exact cell_al _ _ _ _ _ _ (by simp) rfl) | (refine cell_alloc_old _ _ _ _ _ ?_)))
      have x1 : w1.cell? ⟨w.heap.size, 1, none⟩ = some (.slice A ts.length cx) := by
        rw [(bcell hb1).1 _ _ (by simp; omega)]
        (repeat (first | (exact cell_al _ _ _ _ _ _ (by simp) rfl) | (refine cell_alloc_old _ _ _ _ _ ?_)))
      have x5 : w1.cell? ⟨w.heap.size + 1, 0, none⟩ = some (.slice R rows.length cR) := by
        rw [(bcell hb1).1 _ _ (by simp)]
        (repeat (first | (exact cell_al _ _ _ _ _ _ (by simp) rfl) | (refine cell_alloc_old _ _ _ _ _ ?_)))
      clear hb1
      go_wp2
      go_ret2
      exact ⟨by rw [HFv.out, HFc.out]; rfl, Hw1.out⟩
    · have HFc : Hid (fiC c ts rows = 0) := by rw [Hid, HV.out, hs, hr]; rfl
      have HFv : Hid (fiV c ts rows = fillB ts rows) := by rw [Hid, HV1.out, hs, hr]; rfl
      have HGr := Lib.hid (HG.out hs hr)
      rw [hs, hr] at HC
      rw [show codeB true true = 0 from rfl] at HC
      clear hs hr HV HV1 HG
      go_enter Try.func11, Try.ntmps11
      go_wp2_with fail
      refine (HC.out _ (by (repeat (first | (with_reducible exact Below.refl _ _) | (with_reducible assumption) | (with_reducible refine below_al ?_) | (with_reducible refine below_dr ?_) | (with_reducible refine below_drN ?_) | (with_reducible refine below_set ?_ (by first | exact Nat.le_refl _ | (dsimp only; omega) | omega)) | (with_reducible refine below_tr (by with_reducible assumption) ?_)))) _ _ ?_ ?_ ?_).mono ?_
      · (repeat (first | (exact cell_al _ _ _ _ _ _ (by simp) rfl) | (refine cell_alloc_old _ _ _ _ _ ?_)))
      · (repeat (first | (exact cell_al _ _ _ _ _ _ (by simp) rfl) | (refine cell_alloc_old _ _ _ _ _ ?_)))
      · (repeat (first | (exact cell_al _ _ _ _ _ _ (by simp) rfl) | (refine cell_alloc_old _ _ _ _ _ ?_)))
      rintro e w1 ⟨rfl, hb1⟩
      have Hw1 : Hid (Below w.heap.size w w1) := by (show Below _ _ _); (repeat (first | (with_reducible exact Below.refl _ _) | (with_reducible assumption) | (with_reducible refine below_al ?_) | (with_reducible refine below_dr ?_) | (with_reducible refine below_drN ?_) | (with_reducible refine below_set ?_ (by first | exact Nat.le_refl _ | (dsimp only; omega) | omega)) | (with_reducible refine below_tr (by with_reducible assumption) ?_)))
      have x0 : w1.cell? ⟨w.heap.size, 0, none⟩ = some (.int .i64 c) := by
        rw [(bcell hb1).1 _ _ (by simp; omega)]
        (repeat (first | (exact cell_al _ _ _ _ _ _ (by simp) rfl) | (refine cell_alloc_old _ _ _ _ _ ?_)))
      have x1 : w1.cell? ⟨w.heap.size, 1, none⟩ = some (.slice A ts.length cx) := by
        rw [(bcell hb1).1 _ _ (by simp; omega)]
        (repeat (first | (exact cell_al _ _ _ _ _ _ (by simp) rfl) | (refine cell_alloc_old _ _ _ _ _ ?_)))
      have x5 : w1.cell? ⟨w.heap.size + 1, 0, none⟩ = some (.slice R rows.length cR) := by
        rw [(bcell hb1).1 _ _ (by simp)]
        (repeat (first | (exact cell_al _ _ _ _ _ _ (by simp) rfl) | (refine cell_alloc_old _ _ _ _ _ ?_)))
      clear hb1
      go_wp2_with fail
      clear x0 x1 x5
      refine (HGr.out _ Hw1.out).mono ?_
      rintro e w2 ⟨rfl, hb2⟩
      have HB2 := Lib.hid (Hw1.out.trans (hb2.mono Hw1.out.size))
      clear hb2
      go_wp2
      go_ret2
      exact ⟨by rw [HFv.out, HFc.out]; rfl, HB2.out⟩

end Go.Proofs.Ytkgnejhflnekaaa
