/- Contracts and lemmas for the statements of this seat, written for this claim; each theorem states its own conditions. -/
import Derived.Test.YtfkmophmiiehlaaKbN4
set_option linter.unusedVariables false
set_option linter.unusedSimpArgs false
namespace Go.Proofs.Ytfkmophmiiehlaa
open Go.RowKit
/-- what impl.placed gives back -/
def RetPl (w : World) (ts : List T4) (b : Int) (L : List (List P2)) (e : Ending) (w' : World) : Prop :=
  Below w.heap.size w w' ∧ ((boardB ts b L = true ∧ ∃ v, e = .returned (.tuple #[v, .bool true]) ∧ OwnTT w' w.heap.size v (gridG ts L L.length)) ∨ (boardB ts b L = false ∧ e = .returned (.tuple #[.slice none 0 0, .bool false])))
set_option maxRecDepth 100000 in
set_option maxHeartbeats 4000000 in
theorem placed_c (ts : List T4) (A : Option Addr) (cx : Nat) (b : Int) (L : List (List P2)) (R : Option Addr) (cR : Nat) (w : World) (hT : TileCells w A ts) (hl : ts.length ≤ 6) (hR : RowsP w R L) (hL : L.length ≤ 1048576) (hS : shapeP L = true) (hW : wid L ≤ 1048576) :
    Calls Try.prog 67 #[.slice A ts.length cx, .int .i64 b, .slice R L.length cR] w (RetPl w ts b L) := by
  obtain ⟨h0, h1, hall⟩ := shape_row hS
  have HA := Lib.hid hall
  have HR := Lib.hid hR
  have HT := Lib.hid hT
  obtain ⟨bR, oR, A1, c1, rfl, hlt, hc, hr⟩ := hR.at_ 0 h0
  rw [hall 0 h0] at hc
  simp only [Nat.add_zero] at hc
  have HC0 := Lib.hid hc
  clear hr hR hall hS
  obtain ⟨M, hM⟩ : ∃ M : Nat, M = L.length * wid L := ⟨_, rfl⟩
  have hM2 : M ≤ 1048576 * 1048576 := by rw [hM]; exact Nat.mul_le_mul hL hW
  have em : IntKind.i64.wrap ((L.length : Int) * (wid L : Int)) = (M : Int) := by
    rw [show ((L.length : Int) * (wid L : Int)) = (M : Int) by rw [hM]; simp]
    exact IntWalk.i64_in _ (by omega)
  have HM := Lib.hid hM
  have HBd : Hid (boardB ts b L = decide (L.length * wid L = ts.length ∧ ∀ y, y < L.length → ∀ x, x < wid L → okA ts L y x = true ∧ okF ts b L y x = true)) := rfl
  have HBad := Lib.hid (fun y x (hy : y < L.length) (hx : x < wid L) h => boardB_bad (ts := ts) (b := b) hy hx h)
  have hmk := make_b ts.length (by omega)
  clear hM hT
  generalize hh : L.length = h at *
  generalize hwd : wid L = wd at *
  have Hh := Lib.hid hh
  have Hwd := Lib.hid hwd
  clear hh hwd
  go_enter Try.func67, Try.ntmps67
  go_wp2_with fail
  refine wp_region_plan (.det 1 (.det 2 (.two 0 (.det 4 (.one 3 (.det 5 (.done)))) 3 (.one 0 (.det 4 (.det 5 (.done))))))) (fun w' => Below (w).heap.size (w) w') (fun a a' w' => ∃ x0 x1 x2 x3 x4 x5, a' = ((((((a.put (some 18) x0).put (some 19) x1).put (some 20) x2).put (some 21) x3).put (some 8) x4).put (some 9) x5) ∧ x4 = x0 ∧ x5 = x3 ∧ ∃ bo bm, x0 = .slice (some ⟨bo, 0, none⟩) 0 0 ∧ x3 = .slice (some ⟨bm, 0, none⟩) ts.length ts.length ∧ w.heap.size ≤ bm ∧ OwnTF w' w.heap.size bm x0 [] ∧ Blk w' bm (bcells (metL ts L 0 0)) 4) (by kernel_rfl) (by kernel_rfl) (fun _ _ d _ _ h => by cases d <;> exact h) ((Below.refl _ _).drew) ?_ ?_
  rotate_left
  · rintro a' wa hba ⟨x0, x1, x2, x3, x4, x5, rfl, hP⟩
    obtain ⟨rfl, rfl, bo, bm, rfl, rfl, hbm, hOF, hBm⟩ := hP
    have HOF := Lib.hid hOF
    have HBM := Lib.hid hBm
    have HBm := Lib.hid hbm
    have HBA := Lib.hid hba
    have hc' := (hba.cell (p := ⟨bR, oR, none⟩) hlt).trans hc
    clear hOF hBm hbm hba hmk hc
    go_simp
    by_cases hMt : M = ts.length
    · have hne : ((M : Int) != (ts.length : Int)) = false := by simp [hMt]
      have HMt := Lib.hid hMt
      clear hMt
      go_wp2_with fail
      clear hc'
      go_loopw [8, 34] (fun v yv wr => ∃ y : Nat, y ≤ h ∧ yv = .int .i64 y ∧ Hid (OwnTF wr w.heap.size bm v (gridG ts L y)) ∧ Hid (Blk wr bm (bcells (metL ts L y 0)) 4) ∧ Hid (∀ y', y' < y → ∀ x, x < wd → okA ts L y' x = true ∧ okF ts b L y' x = true) ∧ Hid (Below w.heap.size w wr)) (fun _ yv _ => h - (intOf yv).toNat)
      case atStart => exact ⟨0, by omega, rfl, HOF.out, HBM.out, fun y' hy => by omega, HBA.out⟩
      case round =>
        obtain ⟨y, hy, rfl, HO, HB, HN, HW⟩ := hrel
        by_cases hyh : y < h
        · have hyL : y < L.length := by rw [Hh.out]; exact hyh
          have hrl := HA.out y hyh
          have HRL := Lib.hid hrl
          clear hrl
          obtain ⟨bR', oR', A2, c2, eR, hltR, hcR, hpR⟩ := HR.out.at_ y hyL
          injection eR with eR
          injection eR with eR1 eR2
          subst eR1 eR2
          rw [HRL.out] at hcR
          have hcR' := (HW.out.cell (p := ⟨bR, oR + y, none⟩) hltR).trans hcR
          have HPR := Lib.hid hpR
          obtain ⟨w0, rfl⟩ : ∃ w0, w0 = wr := ⟨wr, rfl⟩
          have HGW := Lib.hid (show bm < w0.heap.size from HB.out.lt)
          clear hpR
          go_wp2_with fail
          clear hcR'
          go_loopw [12, 42] (fun v xv wi => ∃ x : Nat, x ≤ wd ∧ xv = .int .i64 x ∧ Hid (OwnT wi w0.heap.size v (rowG ts L y x)) ∧ Hid (Blk wi bm (bcells (metL ts L y x)) 4) ∧ Hid (∀ x', x' < x → okA ts L y x' = true ∧ okF ts b L y x' = true) ∧ Hid (FrB w0.heap.size bm w0 wi) ∧ Hid (Below w.heap.size w wi)) (fun _ xv _ => wd - (intOf xv).toNat)
          case atStart =>
            refine ⟨0, by omega, rfl, ?_, HB.out.alloc _, fun x' hx => by omega, ?_, ?_⟩
            · show OwnT _ _ _ _
              exact OwnT.empty w0 _ (Nat.le_refl _)
            · exact (FrB.refl _ _ _).alloc (Nat.le_refl _) _
            · show Below _ _ _
              exact below_al HW.out
          case round =>
            obtain ⟨x, hx, rfl, HOr, HBr, HNr, HF, HWr⟩ := hrel
            by_cases hxw : x < wd
            · obtain ⟨bP, oP, rfl, hltP, p0', p1'⟩ := HPR.out.at_ (by rw [HRL.out]; exact hxw)
              have p0 := (HWr.out.cell (p := ⟨bP, _, none⟩) hltP).trans p0'
              have p1 := (HWr.out.cell (p := ⟨bP, _, none⟩) hltP).trans p1'
              clear p0' p1'
              have HI1 := Lib.hid (fun w => within_c (cellP L y x).t 0 ((ts.length : Int) - 1) w)
              have HI2 := Lib.hid (fun w => within_c (cellP L y x).n 0 3 w)
              have HOK : Hid (okA ts L y x = (inR 0 ((ts.length : Int) - 1) (cellP L y x).t && (inR 0 3 (cellP L y x).n && !((bef L y x).any fun q => q.t == (cellP L y x).t)))) := rfl
              have HFalse := Lib.hid (fun e : okA ts L y x = false => HBad.out y x hyh hxw (.inl e))
              have HFalse2 := Lib.hid (fun e : okF ts b L y x = false => HBad.out y x hyh hxw (.inr e))
              have HOFit : Hid (okF ts b L y x = (joinB (tileAt ts (cellP L y x)) (upC ts L y x) (lfC ts L y x) && edgeB (tileAt ts (cellP L y x)) b y x h wd)) := by show _ = _; unfold okF fitB; rw [Hh.out, Hwd.out]
              cases ha1 : inR 0 ((ts.length : Int) - 1) (cellP L y x).t
              · rw [ha1] at HI1
                have HX := Lib.hid (HFalse.out (by rw [HOK.out, ha1]; rfl))
                clear ha1
                generalize cellP L y x = pp at *
                go_wp2_with fail
                refine (HI1.out _).mono ?_
                rintro e w1 ⟨rfl, rfl⟩
                go_wp2
                go_ret2
                exact ⟨below_al HWr.out, .inr ⟨HX.out, rfl⟩⟩
              · rw [ha1] at HI1
                have Ha1 := Lib.hid (inR_iff.1 ha1)
                cases ha2 : inR 0 3 (cellP L y x).n
                · rw [ha2] at HI2
                  have HX := Lib.hid (HFalse.out (by rw [HOK.out, ha1, ha2]; rfl))
                  clear ha1 ha2
                  generalize cellP L y x = pp at *
                  go_wp2_with fail
                  refine (HI1.out _).mono ?_
                  rintro e w1 ⟨rfl, rfl⟩
                  go_wp2_with fail
                  refine (HI2.out _).mono ?_
                  rintro e w1 ⟨rfl, rfl⟩
                  go_wp2
                  go_ret2
                  exact ⟨below_al HWr.out, .inr ⟨HX.out, rfl⟩⟩
                · rw [ha2] at HI2
                  have Ha2 := Lib.hid (inR_iff.1 ha2)
                  rw [ha1, ha2] at HOK
                  clear ha1 ha2
                  obtain ⟨t, ht⟩ : ∃ t : Nat, (cellP L y x).t = (t : Int) := ⟨(cellP L y x).t.toNat, by have := Ha1.out; omega⟩
                  obtain ⟨n, hn⟩ : ∃ n : Nat, (cellP L y x).n = (n : Int) := ⟨(cellP L y x).n.toNat, by have := Ha2.out; omega⟩
                  have htl : t < ts.length := by have := Ha1.out; omega
                  have hn3 : n ≤ 3 := by have := Ha2.out; omega
                  rw [ht] at p0 HI1 HOK
                  rw [hn] at p1 HI2
                  have HTile : Hid (tileAt ts (cellP L y x) = turnN (ts[t]'htl) n) := by
                    show _ = _
                    unfold tileAt
                    rw [ht, hn]
                    simp [htl]
                  have HStep := Lib.hid (metL_step (ts := ts) (L := L) (y := y) (x := x) (by rw [HRL.out]; exact hxw) htl ht)
                  have HRow := Lib.hid (rowG_succ (ts := ts) (L := L) (y := y) (x := x) (by rw [HRL.out]; exact hxw))
                  have HRowL := Lib.hid (rowG_len (ts := ts) (L := L) (y := y) (x := x) (by rw [HRL.out]; exact hx))
                  have m0 := HBr.out.cell t (by rw [bcells_length, metL_len]; exact htl)
                  have m1 := HBr.out.frozen t
                  have em0 : (bcells (metL ts L y x))[t]'(by rw [bcells_length, metL_len]; exact htl) = .bool ((bef L y x).any fun q => q.t == (t : Int)) := by
                    simp only [bcells, List.getElem_map]
                    rw [metL_get]
                  rw [em0] at m0
                  have hmlt := HBr.out.lt
                  clear em0 ht hn
                  cases hu : ((bef L y x).any fun q => q.t == (t : Int))
                  · rw [hu] at m0 HOK
                    have HOKT := Lib.hid (show okA ts L y x = true from HOK.out)
                    clear hu
                    go_wp2_with fail
                    refine (HI1.out _).mono ?_
                    rintro e w1 ⟨rfl, rfl⟩
                    go_wp2_with fail
                    refine (HI2.out _).mono ?_
                    rintro e w1 ⟨rfl, rfl⟩
                    go_wp2_with fail
                    obtain ⟨wq, hwq⟩ : ∃ wq, (wr.setCell ⟨bm, t, none⟩ (.bool true)).alloc (.cells #[.int .i64 (t : Int), .int .i64 (n : Int)] 90) = wq := ⟨_, rfl⟩
                    have kB : Blk wq bm (bcells (metL ts L y (x + 1))) 4 := by
                      rw [← hwq, ← HStep.out, ← bcells_set]
                      exact (HBr.out.set t _).alloc _
                    have kF : FrB w0.heap.size bm w0 wq := by rw [← hwq]; exact (HF.out.set _ _).alloc (Nat.le_refl _) _
                    have kW : Below w.heap.size w wq := by rw [← hwq]; exact below_al (HWr.out.setCell HBm.out _)
                    have kP : Blk wq wr.heap.size [.int .i64 (t : Int), .int .i64 (n : Int)] 90 := by rw [← hwq]; have h := Blk.newA (wr.setCell ⟨bm, t, none⟩ (.bool true)) #[.int .i64 (t : Int), .int .i64 (n : Int)] 90; rw [show (wr.setCell ⟨bm, t, none⟩ (.bool true)).heap.size = wr.heap.size by simp] at h; exact h
                    have kO : OwnT wq w0.heap.size u12 (rowG ts L y x) := by rw [← hwq]; exact (HOr.out.other _ _ HGW.out _).alloc _
                    have ks : wr.heap.size + 1 = wq.heap.size := by rw [← hwq]; simp
                    have KB := Lib.hid kB
                    have KF := Lib.hid kF
                    have KW := Lib.hid kW
                    have KO := Lib.hid kO
                    rw [hwq]
                    obtain ⟨bT, oT, rfl, hltT, t0, t1, t2, t3⟩ := (HT.out.below kW) t htl
                    have y0 := kP.cell 0 (by simp)
                    have y1 := kP.cell 1 (by simp)
                    simp only [List.getElem_cons_zero, List.getElem_cons_succ] at y0 y1
                    have e0 := keepC y0
                    have e1 := keepC y1
                    have e2 := keepC t0
                    have e3 := keepC t1
                    have e4 := keepC t2
                    have e5 := keepC t3
                    have HTu := Lib.hid (fun w => turns_c (ts[t]'htl) w)
                    have hturn : (turnsL (ts[t]'htl) 4).length = 4 := turnsL_length _ 4
                    have hget : ∀ h : n < (turnsL (ts[t]'htl) 4).length, (turnsL (ts[t]'htl) 4)[n] = turnN (ts[t]'htl) n := fun h => by simp [turnsL]
                    have HLen4 := Lib.hid hturn
                    have HGet := Lib.hid hget
                    have hn4 : n < 4 := by omega
                    have hn4i : (n : Int) < 4 := by omega
                    generalize turnN (ts[t]'htl) n = uu at *
                    generalize turnsL (ts[t]'htl) 4 = TL at *
                    generalize ts[t]'htl = tt at *
                    clear hwq kB kF kW kP kO y0 y1 t0 t1 t2 t3 m0 m1 p0 p1 hmlt hturn hget
                    refine wp_region_plan (.det 0 (.det 1 (.det 2 (.det 3 (.det 4 (.det 6 (.det 7 (.two 5 (.det 8 (.two 9 (.one 10 (.one 11 (.done))) 10 (.one 9 (.one 11 (.done))))) 10 (.one 5 (.det 8 (.one 9 (.one 11 (.done))))))))))))) (fun w' => Below (wq).heap.size (wq) w') (fun a a' w' => ∃ x0 x1 x2 x3 x4 x5 x6 x7 x8 x9 x10, a' = (((((((((((a.put (some 71) x0).put (some 72) x1).put (some 73) x2).put (some 74) x3).put (some 75) x4).put (some 76) x5).put (some 77) x6).put (some 78) x7).put (some 79) x8).put (some 80) x9).put (some 15) x10) ∧ ∃ bt, x10 = .pointer (some ⟨bt, 0, none⟩) ∧ wq.heap.size ≤ bt ∧ Blk w' bt [.int .i64 uu.a, .int .i64 uu.b, .int .i64 uu.c, .int .i64 uu.d] 57) (by kernel_rfl) (by kernel_rfl) (fun _ _ d _ _ h => by cases d <;> exact h) ((Below.refl _ _).drew) ?_ ?_
                    rotate_left
                    · rintro a' wa hba ⟨x0, x1, x2, x3, x4, x5, x6, x7, x8, x9, x10, rfl, hP⟩
                      obtain ⟨bt, rfl, hbt, hBt⟩ := hP
                      have HBt := Lib.hid hBt
                      have HBa := Lib.hid hba
                      have y0 := hBt.cell 0 (by simp)
                      have y1 := hBt.cell 1 (by simp)
                      have y2 := hBt.cell 2 (by simp)
                      have y3 := hBt.cell 3 (by simp)
                      simp only [List.getElem_cons_zero, List.getElem_cons_succ] at y0 y1 y2 y3
                      have hOF := (HO.out.frb KF.out (Nat.le_refl _)).below hba
                      obtain ⟨AT, cT, e8, hTT⟩ := hOF.toTT.rows
                      have hgl : (gridG ts L y).length = y := gridG_len (by rw [Hh.out]; omega)
                      rw [hgl] at e8
                      subst e8
                      have hKO := KO.out.below hba
                      obtain ⟨Ar, cr, e12, hTr⟩ := hKO.tiles
                      rw [HRowL.out] at e12
                      subst e12
                      have HKO := Lib.hid hKO
                      have HLf : Hid (LfOk wa (.slice Ar x cr) x (lfC ts L y x)) := by
                        show LfOk _ _ _ _
                        unfold lfC
                        by_cases e : x = 0
                        · rw [if_pos e]; exact e
                        · rw [if_neg e]
                          obtain ⟨b4, o4, rfl, _, s0, s1, s2, s3⟩ := hTr (x - 1) (by rw [HRowL.out]; omega)
                          rw [rowG_get] at s2
                          exact ⟨by omega, b4, o4, x, cr, rfl, by omega, s2⟩
                      have HGD : Hid (0 < y → ∃ hj : y - 1 < (gridG ts L y).length, (gridG ts L y)[y - 1] = rowG ts L (y - 1) wd) := fun h0 => ⟨by rw [hgl]; omega, by rw [gridG_get, HA.out (y - 1) (by omega)]⟩
                      have HTT := Lib.hid hTT
                      have HAr := Lib.hid (fun h0 : 0 < y => HA.out (y - 1) (by omega))
                      have HJ := Lib.hid (fun (V : Value) (hV : AbOk wa V x (upC ts L y x)) => joins_c uu x V (.slice Ar x cr) (upC ts L y x) (lfC ts L y x) wa (by omega) hV HLf.out)
                      have HE := Lib.hid (fun w => edges_c uu b y x h wd w hyh hxw (by omega) (by omega))
                      have HUp : Hid (upC ts L y x = if y = 0 then none else some (tileAt ts (cellP L (y - 1) x)).d) := rfl
                      rw [HTile.out] at HOFit HRow
                      generalize upC ts L y x = uc at *
                      generalize lfC ts L y x = lc at *
                      generalize hj : joinB uu uc lc = jb at *
                      generalize he : edgeB uu b y x h wd = eb at *
                      clear hj he hba hbt hBt hOF hTT hgl hKO hTr
                      go_simp
                      by_cases hy0 : 0 < y
                      · obtain ⟨hj, hg⟩ := HGD.out hy0
                        obtain ⟨bG, oG, A3, c3, rfl, hltG, hcG, hcell⟩ := grid_row HTT.out hj hg (HAr.out hy0)
                        obtain ⟨bH, oH, rfl, hltH, s0, s1, s2, s3⟩ := hcell x hxw
                        have HAb : Hid (AbOk wa (.slice (some ⟨bH, oH, none⟩) wd c3) x uc) := by
                          show AbOk _ _ _ _
                          rw [HUp.out, if_neg (by omega)]
                          exact ⟨bH, oH, wd, c3, rfl, hxw, s3⟩
                        have q1 : IntKind.i64.wrap ((y : Int) - 1) = ((y - 1 : Nat) : Int) := by rw [IntWalk.i64_in _ (by omega)]; omega
                        have hym : y - 1 < y := by omega
                        clear hcell s0 s1 s2 s3 hj hg
                        go_wp2_with fail
                        refine (HJ.out _ HAb.out).mono ?_
                        rintro e w7 ⟨rfl, hb7⟩
                        have Hb7 := Lib.hid hb7
                        have q7 := HBt.out.under hb7
                        have z0 := q7.cell 0 (by simp)
                        have z1 := q7.cell 1 (by simp)
                        have z2 := q7.cell 2 (by simp)
                        have z3 := q7.cell 3 (by simp)
                        simp only [List.getElem_cons_zero, List.getElem_cons_succ] at z0 z1 z2 z3
                        have Q7 := Lib.hid q7
                        clear hb7 q7 y0 y1 y2 y3
                        cases jb
                        · have HX := Lib.hid (HFalse2.out (by rw [HOFit.out]; rfl))
                          go_wp2
                          go_ret2
                          exact ⟨KW.out.trans ((HBa.out.trans (Hb7.out.mono HBa.out.size)).mono KW.out.size), .inr ⟨HX.out, rfl⟩⟩
                        · go_wp2_with fail
                          refine (HE.out _).mono ?_
                          rintro e w8 ⟨rfl, hb8⟩
                          have Hb8 := Lib.hid (HBa.out.trans ((Hb7.out.trans (hb8.mono Hb7.out.size)).mono HBa.out.size))
                          have q8 := Q7.out.under hb8
                          have HK8 := Lib.hid ((HKO.out.below Hb7.out).below hb8)
                          clear z0 z1 z2 z3 hb8
                          cases eb
                          · have HX := Lib.hid (HFalse2.out (by rw [HOFit.out]; rfl))
                            clear q8
                            go_wp2
                            go_ret2
                            exact ⟨KW.out.trans (Hb8.out.mono KW.out.size), .inr ⟨HX.out, rfl⟩⟩
                          · have HX := Lib.hid (show okF ts b L y x = true by rw [HOFit.out]; rfl)
                            have z0 := q8.cell 0 (by simp)
                            have z1 := q8.cell 1 (by simp)
                            have z2 := q8.cell 2 (by simp)
                            have z3 := q8.cell 3 (by simp)
                            simp only [List.getElem_cons_zero, List.getElem_cons_succ] at z0 z1 z2 z3
                            clear q8
                            have hs8 : w0.heap.size ≤ w8.heap.size := by have h1 := Hb8.out.size; have h2 := KF.out.size; omega
                            have HS8 := Lib.hid hs8
                            clear hs8
                            go_wp2_with (at_builtin; refine Hold.of ?_)
                            refine Hold.to ?_
                            refine wpl_app_tile rfl (.tmp 107) (.tmp 109) rfl w0.heap.size (.slice Ar x cr) (rowG ts L y x) uu rfl (HK8.out.alloc _) w8.heap.size rfl (Blk.newA _ _ _) (by rw [HRowL.out]; omega) (by have := HS8.out; simp; omega) (fun v' w' b1 b2 => ?_)
                            have hB : Below w0.heap.size wq w' := ((Hb8.out.alloc Hb8.out.size _).mono KF.out.size).grown b2 (by have := HS8.out; simp; omega) (fun k hk => (HK8.out.blt k hk).1)
                            have HB1 := Lib.hid b1
                            have HB2 := Lib.hid (KB.out.below hB HGW.out)
                            have HB3 := Lib.hid (KF.out.trans ⟨hB.os, hB.tape, hB.output, hB.size, fun k h1 h2 => hB.block k h1⟩)
                            have HB4 := Lib.hid (KW.out.trans (hB.mono (by have := HW.out.size; omega)))
                            clear b1 b2 hB z0 z1 z2 z3
                            go_wp2_with fail
                            go_roundw
                            case rel => exact ⟨x + 1, by omega, by go_num, by show OwnT _ _ _ _; rw [HRow.out]; exact HB1.out, HB2.out, fun x' hx' => by
                              by_cases e : x' = x
                              · subst e; exact ⟨HOKT.out, HX.out⟩
                              · exact HNr.out x' (by omega), HB3.out, HB4.out⟩
                            case measure => simp [intOf]; omega
                      · have HAb : Hid (AbOk wa (.slice none 0 0) x uc) := by
                          show AbOk _ _ _ _
                          rw [HUp.out, if_pos (by omega)]
                          rfl
                        go_wp2_with fail
                        refine (HJ.out _ HAb.out).mono ?_
                        rintro e w7 ⟨rfl, hb7⟩
                        have Hb7 := Lib.hid hb7
                        have q7 := HBt.out.under hb7
                        have z0 := q7.cell 0 (by simp)
                        have z1 := q7.cell 1 (by simp)
                        have z2 := q7.cell 2 (by simp)
                        have z3 := q7.cell 3 (by simp)
                        simp only [List.getElem_cons_zero, List.getElem_cons_succ] at z0 z1 z2 z3
                        have Q7 := Lib.hid q7
                        clear hb7 q7 y0 y1 y2 y3
                        cases jb
                        · have HX := Lib.hid (HFalse2.out (by rw [HOFit.out]; rfl))
                          go_wp2
                          go_ret2
                          exact ⟨KW.out.trans ((HBa.out.trans (Hb7.out.mono HBa.out.size)).mono KW.out.size), .inr ⟨HX.out, rfl⟩⟩
                        · go_wp2_with fail
                          refine (HE.out _).mono ?_
                          rintro e w8 ⟨rfl, hb8⟩
                          have Hb8 := Lib.hid (HBa.out.trans ((Hb7.out.trans (hb8.mono Hb7.out.size)).mono HBa.out.size))
                          have q8 := Q7.out.under hb8
                          have HK8 := Lib.hid ((HKO.out.below Hb7.out).below hb8)
                          clear z0 z1 z2 z3 hb8
                          cases eb
                          · have HX := Lib.hid (HFalse2.out (by rw [HOFit.out]; rfl))
                            clear q8
                            go_wp2
                            go_ret2
                            exact ⟨KW.out.trans (Hb8.out.mono KW.out.size), .inr ⟨HX.out, rfl⟩⟩
                          · have HX := Lib.hid (show okF ts b L y x = true by rw [HOFit.out]; rfl)
                            have z0 := q8.cell 0 (by simp)
                            have z1 := q8.cell 1 (by simp)
                            have z2 := q8.cell 2 (by simp)
                            have z3 := q8.cell 3 (by simp)
                            simp only [List.getElem_cons_zero, List.getElem_cons_succ] at z0 z1 z2 z3
                            clear q8
                            have hs8 : w0.heap.size ≤ w8.heap.size := by have h1 := Hb8.out.size; have h2 := KF.out.size; omega
                            have HS8 := Lib.hid hs8
                            clear hs8
                            go_wp2_with (at_builtin; refine Hold.of ?_)
                            refine Hold.to ?_
                            refine wpl_app_tile rfl (.tmp 107) (.tmp 109) rfl w0.heap.size (.slice Ar x cr) (rowG ts L y x) uu rfl (HK8.out.alloc _) w8.heap.size rfl (Blk.newA _ _ _) (by rw [HRowL.out]; omega) (by have := HS8.out; simp; omega) (fun v' w' b1 b2 => ?_)
                            have hB : Below w0.heap.size wq w' := ((Hb8.out.alloc Hb8.out.size _).mono KF.out.size).grown b2 (by have := HS8.out; simp; omega) (fun k hk => (HK8.out.blt k hk).1)
                            have HB1 := Lib.hid b1
                            have HB2 := Lib.hid (KB.out.below hB HGW.out)
                            have HB3 := Lib.hid (KF.out.trans ⟨hB.os, hB.tape, hB.output, hB.size, fun k h1 h2 => hB.block k h1⟩)
                            have HB4 := Lib.hid (KW.out.trans (hB.mono (by have := HW.out.size; omega)))
                            clear b1 b2 hB z0 z1 z2 z3
                            go_wp2_with fail
                            go_roundw
                            case rel => exact ⟨x + 1, by omega, by go_num, by show OwnT _ _ _ _; rw [HRow.out]; exact HB1.out, HB2.out, fun x' hx' => by
                              by_cases e : x' = x
                              · subst e; exact ⟨HOKT.out, HX.out⟩
                              · exact HNr.out x' (by omega), HB3.out, HB4.out⟩
                            case measure => simp [intOf]; omega
                    clear HO HB HN HW HF HWr HBr HNr HOr
                    repeat (first
                      | (refine plan_skip rfl rfl (fun K' hK' => ?_); go_simp; refine hK' _ ?_; clear hK' K')
                      | (refine plan_do (v := ?_) rfl rfl (fun w1 hb => ?_) (fun K' hK' => ?_); rotate_left
                         · go_simp
                           rfl
                         go_simp; refine hK' _ ?_; clear hK' K'))
                    refine plan_two ?_ ?_
                    · refine step_op rfl rfl (fun K' hK' => ?_)
                      go_simp
                      refine (HTu.out _).mono ?_
                      rintro e w6 ⟨v4, rfl, hO6, hb6⟩
                      obtain ⟨A4, c4, rfl, hT4⟩ := hO6.tiles
                      rw [HLen4.out]
                      obtain ⟨b4, o4, rfl, _, s0, s1, s2, s3⟩ := hT4 n (by rw [HLen4.out]; exact hn4)
                      rw [HGet.out] at s0 s1 s2 s3
                      clear hO6 hT4
                      have hb6' : Below wq.heap.size wq w6 := ((Below.refl _ _).drew).trans hb6
                      refine hK' _ _ (hb6') ?_; clear hK' K'
                      repeat (first
                        | (refine plan_skip rfl rfl (fun K' hK' => ?_); go_simp; refine hK' _ ?_; clear hK' K')
                        | (refine plan_do (v := ?_) rfl rfl (fun w1 hb => ?_) (fun K' hK' => ?_); rotate_left
                           · go_simp
                             rfl
                           go_simp; refine hK' _ ?_; clear hK' K'))
                      refine plan_two ?_ ?_
                      · refine step_op rfl rfl (fun K' hK' => ?_)
                        go_simp
                        refine hK' _ _ (hb6') ?_; clear hK' K'
                        refine plan_one (step_op rfl rfl (fun K' hK' => ?_))
                        go_simp
                        refine hK' _ _ (hb6'.alloc hb6'.size _) ?_; clear hK' K'
                        refine plan_one (step_op rfl rfl (fun K' hK' => ?_))
                        go_simp
                        refine hK' _ _ (hb6'.alloc hb6'.size _) ?_; clear hK' K'
                        refine plan_done ⟨?_, ?_, ?_, ?_, ?_, ?_, ?_, ?_, ?_, ?_, ?_, ?_, ?_⟩
                        rotate_left 11
                        · go_simp; (first | rfl | (and_intros <;> rfl))
                        · exact ⟨w6.heap.size, rfl, hb6'.size, Blk.newA w6 _ _⟩
                      · refine step_op rfl rfl (fun K' hK' => ?_)
                        go_simp
                        refine hK' _ _ (hb6'.alloc hb6'.size _) ?_; clear hK' K'
                        have s0' := cell_alloc_old w6 (.cells #[.int .i64 0, .int .i64 0, .int .i64 0, .int .i64 0] 57) _ _ _ s0
                        have s1' := cell_alloc_old w6 (.cells #[.int .i64 0, .int .i64 0, .int .i64 0, .int .i64 0] 57) _ _ _ s1
                        have s2' := cell_alloc_old w6 (.cells #[.int .i64 0, .int .i64 0, .int .i64 0, .int .i64 0] 57) _ _ _ s2
                        have s3' := cell_alloc_old w6 (.cells #[.int .i64 0, .int .i64 0, .int .i64 0, .int .i64 0] 57) _ _ _ s3
                        refine plan_one (step_op rfl rfl (fun K' hK' => ?_))
                        go_simp
                        refine hK' _ _ (hb6'.alloc hb6'.size _) ?_; clear hK' K'
                        refine plan_one (step_op rfl rfl (fun K' hK' => ?_))
                        go_simp
                        refine hK' _ _ (hb6'.alloc hb6'.size _) ?_; clear hK' K'
                        refine plan_done ⟨?_, ?_, ?_, ?_, ?_, ?_, ?_, ?_, ?_, ?_, ?_, ?_, ?_⟩
                        rotate_left 11
                        · go_simp; (first | rfl | (and_intros <;> rfl))
                        · exact ⟨w6.heap.size, rfl, hb6'.size, Blk.newA w6 _ _⟩
                    · refine step_op rfl rfl (fun K' hK' => ?_)
                      go_simp
                      refine hK' _ _ (((Below.refl _ _).drew).alloc (Nat.le_refl _) _) ?_; clear hK' K'
                      refine plan_one (step_op rfl rfl (fun K' hK' => ?_))
                      go_simp
                      refine (HTu.out _).mono ?_
                      rintro e w6 ⟨v4, rfl, hO6, hb6⟩
                      obtain ⟨A4, c4, rfl, hT4⟩ := hO6.tiles
                      rw [HLen4.out]
                      obtain ⟨b4, o4, rfl, _, s0, s1, s2, s3⟩ := hT4 n (by rw [HLen4.out]; exact hn4)
                      rw [HGet.out] at s0 s1 s2 s3
                      clear hO6 hT4
                      have hb6' : Below wq.heap.size wq w6 := (((Below.refl wq.heap.size wq).alloc (Nat.le_refl _) (.cells #[.int .i64 0, .int .i64 0, .int .i64 0, .int .i64 0] 57)).drew).trans (hb6.mono (le_al (Nat.le_refl _)))
                      have qz : Blk w6 wq.heap.size [.int .i64 0, .int .i64 0, .int .i64 0, .int .i64 0] 57 := (Blk.newA wq #[.int .i64 0, .int .i64 0, .int .i64 0, .int .i64 0] 57).drew.under hb6
                      have QZ := Lib.hid qz
                      have v0 := qz.cell 0 (by simp)
                      have v1 := qz.cell 1 (by simp)
                      have v2 := qz.cell 2 (by simp)
                      have v3 := qz.cell 3 (by simp)
                      have f0 := qz.frozen 0
                      have f1 := qz.frozen 1
                      have f2 := qz.frozen 2
                      have f3 := qz.frozen 3
                      simp only [List.getElem_cons_zero, List.getElem_cons_succ] at v0 v1 v2 v3
                      clear qz
                      refine hK' _ _ (hb6') ?_; clear hK' K'
                      repeat (first
                        | (refine plan_skip rfl rfl (fun K' hK' => ?_); go_simp; refine hK' _ ?_; clear hK' K')
                        | (refine plan_do (v := ?_) rfl rfl (fun w1 hb => ?_) (fun K' hK' => ?_); rotate_left
                           · go_simp
                             rfl
                           go_simp; refine hK' _ ?_; clear hK' K'))
                      refine plan_one (step_op rfl rfl (fun K' hK' => ?_))
                      go_simp
                      refine hK' _ _ (hb6') ?_; clear hK' K'
                      refine plan_one (step_op rfl rfl (fun K' hK' => ?_))
                      go_simp
                      refine hK' _ _ ((((hb6'.setCell (Nat.le_refl _) _).setCell (Nat.le_refl _) _).setCell (Nat.le_refl _) _).setCell (Nat.le_refl _) _) ?_; clear hK' K'
                      refine plan_done ⟨?_, ?_, ?_, ?_, ?_, ?_, ?_, ?_, ?_, ?_, ?_, ?_, ?_⟩
                      rotate_left 11
                      · go_simp; (first | rfl | (and_intros <;> rfl))
                      · exact ⟨wq.heap.size, rfl, Nat.le_refl _, (((QZ.out.set 0 _).set 1 _).set 2 _).set 3 _⟩
                  · rw [hu] at m0 HOK
                    have HX := Lib.hid (HFalse.out HOK.out)
                    clear hu
                    generalize cellP L y x = pp at *
                    go_wp2_with fail
                    refine (HI1.out _).mono ?_
                    rintro e w1 ⟨rfl, rfl⟩
                    go_wp2_with fail
                    refine (HI2.out _).mono ?_
                    rintro e w1 ⟨rfl, rfl⟩
                    go_wp2
                    go_ret2
                    exact ⟨below_al HWr.out, .inr ⟨HX.out, rfl⟩⟩
            · have hxe : x = wd := by omega
              have HMR : Hid (Blk wr bm (bcells (metL ts L (y + 1) 0)) 4) := by show Blk _ _ _ _; rw [metL_row hyL, HRL.out, ← hxe]; exact HBr.out
              have HGR : Hid (gridG ts L (y + 1) = gridG ts L y ++ [rowG ts L y x]) := by show _ = _; rw [gridG_succ hyL, HRL.out, hxe]
              have HNN : Hid (∀ y', y' < y + 1 → ∀ x, x < wd → okA ts L y' x = true ∧ okF ts b L y' x = true) := fun y' hy' x' hx' => by
                by_cases e : y' = y
                · subst e; exact HNr.out x' (by omega)
                · exact HN.out y' (by omega) x' hx'
              have HGL := Lib.hid (gridG_len (ts := ts) (L := L) (y := y) (by rw [Hh.out]; omega))
              clear hxe
              obtain ⟨W0, hW0⟩ : ∃ W0, w0.setRow bm (bcells (metL ts L y x)).toArray = W0 := ⟨_, rfl⟩
              have k0 : W0.heap[bm]? = some (.cells (bcells (metL ts L y x)).toArray 4 (0, 0)) := by rw [← hW0]; exact setRow_heap w0 bm _ _ _ _ HB.out
              have k1 : FrB w0.heap.size bm w0 W0 := by rw [← hW0]; exact ⟨rfl, rfl, rfl, by simp, fun k _ hk => setRow_other _ _ _ _ hk⟩
              have k2 : W0.heap.size = w0.heap.size := by rw [← hW0]; simp
              have k3 : Below W0.heap.size W0 wr := by
                rw [k2]
                refine ⟨HF.out.os.trans k1.os.symm, HF.out.tape.trans k1.tape.symm, HF.out.output.trans k1.output.symm, by rw [k2]; exact HF.out.size, fun k hk => ?_⟩
                by_cases e : k = bm
                · subst e; rw [k0]; exact HBr.out
                · rw [HF.out.block k hk e, k1.block k hk e]
              have k4 : OwnTF W0 w.heap.size bm u8 (gridG ts L y) := HO.out.frb k1 (Nat.le_refl _)
              have K2 := Lib.hid k2
              have K3 := Lib.hid k3
              have K4 := Lib.hid k4
              clear hW0 k0 k1 k2 k3 k4
              obtain ⟨Ar, cr, e12, _⟩ := HOr.out.tiles
              rw [rowG_len (by rw [HRL.out]; exact hx)] at e12
              subst e12
              go_wp2_with (at_builtin; refine Hold.of ?_)
              refine Hold.to ?_
              refine wpl_app_trowF (W0 := W0) rfl (.tmp 112) (.tmp 114) rfl w.heap.size u8 (gridG ts L y) (.slice Ar x cr) (rowG ts L y x) rfl bm (by rw [K2.out]; exact HGW.out) K4.out (K3.out.alloc K3.out.size _) (by rw [K2.out]; exact HOr.out.alloc _) wr.heap.size 0 rfl (cell_alloc_at wr #[.slice Ar x cr] _ 0 (.slice Ar x cr) rfl) (by rw [HGL.out]; omega) (by rw [K2.out]; exact HW.out.size) (fun v' w' b1 b2 b3 => ?_)
              have hne8 : ∀ k, Value.ownBlock u8 = some k → k ≠ bm := by obtain ⟨_, _, _, _, _, h5, _⟩ := K4.out; exact h5
              have c1 : Blk w' bm (bcells (metL ts L (y + 1) 0)) 4 := (HMR.out.alloc _).grownB b2 (fun e => hne8 _ e rfl)
              have c2 : Below w.heap.size w w' := (below_al HWr.out).grown b2 (by have := HWr.out.size; simp; omega) (fun k hk => b3 k hk)
              have C1 := Lib.hid c1
              have C2 := Lib.hid c2
              have B1 := Lib.hid b1
              clear b1 b2 b3 c1 c2 hne8
              go_wp2_with fail
              go_roundw
              case rel => exact ⟨y + 1, by omega, by go_num, by show OwnTF _ _ _ _ _; rw [HGR.out]; exact B1.out, C1.out, HNN.out, C2.out⟩
              case measure => simp [intOf]; omega
        · have hyh' : y = h := by omega
          have HX := Lib.hid (show boardB ts b L = true by
            rw [HBd.out, decide_eq_true_eq]
            exact ⟨by rw [← HM.out]; exact HMt.out, fun y' hy' x hx => HN.out y' (by omega) x hx⟩)
          go_wp2
          go_ret2
          exact ⟨HW.out, .inl ⟨HX.out, _, rfl, by rw [Hh.out, ← hyh']; exact HO.out.toTT⟩⟩
    · have hne : ((M : Int) != (ts.length : Int)) = true := by simp; omega
      have HF := Lib.hid (show boardB ts b L = false by rw [HBd.out, decide_eq_false_iff_not]; rintro ⟨h, _⟩; exact hMt (by rw [HM.out]; exact h))
      clear hMt
      go_wp2
      go_ret2
      exact ⟨HBA.out, .inr ⟨HF.out, rfl⟩⟩
  clear hc
  repeat (first
    | (refine plan_skip rfl rfl (fun K' hK' => ?_); go_simp; refine hK' _ ?_; clear hK' K')
    | (refine plan_do (v := ?_) rfl rfl (fun w1 hb => ?_) (fun K' hK' => ?_); rotate_left
       · go_simp
         rfl
       go_simp; refine hK' _ ?_; clear hK' K'))
  refine plan_two ?_ ?_
  · refine step_op rfl rfl (fun K' hK' => ?_)
    go_simp
    refine hK' _ _ (below_al (Below.refl _ w).drew) ?_; clear hK' K'
    repeat (first
      | (refine plan_skip rfl rfl (fun K' hK' => ?_); go_simp; refine hK' _ ?_; clear hK' K')
      | (refine plan_do (v := ?_) rfl rfl (fun w1 hb => ?_) (fun K' hK' => ?_); rotate_left
         · go_simp
           rfl
         go_simp; refine hK' _ ?_; clear hK' K'))
    refine plan_one (step_op rfl rfl (fun K' hK' => ?_))
    go_simp
    refine hK' _ _ (below_al (below_al (Below.refl _ w).drew)) ?_; clear hK' K'
    repeat (first
      | (refine plan_skip rfl rfl (fun K' hK' => ?_); go_simp; refine hK' _ ?_; clear hK' K')
      | (refine plan_do (v := ?_) rfl rfl (fun w1 hb => ?_) (fun K' hK' => ?_); rotate_left
         · go_simp
           rfl
         go_simp; refine hK' _ ?_; clear hK' K'))
    refine plan_done ⟨?_, ?_, ?_, ?_, ?_, ?_, ?_, ?_⟩
    rotate_left 6
    · go_simp; (first | rfl | (and_intros <;> rfl))
    · exact ⟨rfl, rfl, w.heap.size, w.heap.size + 1, rfl, rfl, by omega, by have h9 := OwnTF.below (OwnTF.empty (w := w) (B := w.heap.size) (g := w.heap.size + 1) (b := w.heap.size) rfl (Nat.le_refl _) (by omega)) ((Below.refl _ (w.alloc (.cells #[] 29))).alloc (Nat.le_refl _) (.cells (madeCells #[Value.bool false] ts.length) 4)); exact h9, by rw [metL_zero, ← madeB]; have h9 := (Blk.newA (w.alloc (.cells #[] 29)) (madeCells #[Value.bool false] ts.length) 4); rw [World.size_alloc] at h9; exact h9.drew⟩
  · refine step_op rfl rfl (fun K' hK' => ?_)
    go_simp
    refine hK' _ _ (below_al (Below.refl _ w).drew) ?_; clear hK' K'
    refine plan_one (step_op rfl rfl (fun K' hK' => ?_))
    go_simp
    refine hK' _ _ (below_al (below_al (Below.refl _ w).drew)) ?_; clear hK' K'
    repeat (first
      | (refine plan_skip rfl rfl (fun K' hK' => ?_); go_simp; refine hK' _ ?_; clear hK' K')
      | (refine plan_do (v := ?_) rfl rfl (fun w1 hb => ?_) (fun K' hK' => ?_); rotate_left
         · go_simp
           rfl
         go_simp; refine hK' _ ?_; clear hK' K'))
    refine plan_done ⟨?_, ?_, ?_, ?_, ?_, ?_, ?_, ?_⟩
    rotate_left 6
    · go_simp; (first | rfl | (and_intros <;> rfl))
    · exact ⟨rfl, rfl, w.heap.size + 1, w.heap.size, rfl, rfl, Nat.le_refl _, OwnTF.empty (w := w.alloc (.cells (madeCells #[Value.bool false] ts.length) 4)) (b := w.heap.size + 1) (World.size_alloc _ _) (by rw [World.size_alloc]; omega) (by omega), by rw [metL_zero, ← madeB]; exact ((Blk.newA w (madeCells #[Value.bool false] ts.length) 4).alloc (.cells #[] 29)).drew⟩

end Go.Proofs.Ytfkmophmiiehlaa
