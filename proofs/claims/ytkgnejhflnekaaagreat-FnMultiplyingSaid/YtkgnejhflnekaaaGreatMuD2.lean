/- Contracts and lemmas for the statements of this seat, written for this claim; each theorem states its own conditions. -/
import Derived.Deep.Cut
import Derived.Deep.CutBlock
import Derived.Deep.DeepCutAuto
import Derived.Test.YtkgnejhflnekaaaGreatMuD1
import Derived.Test.YtkgnejhflnekaaaGreatMuZ2
set_option linter.unusedVariables false
set_option linter.unusedSimpArgs false
namespace Go.Proofs.YtkgnejhflnekaaaGreat
open Go.RowKit
attribute [local go_sem] addUpon_value addUpon_skip addUpon_enter
set_option maxRecDepth 100000 in
set_option maxHeartbeats 1000000 in
theorem l01Spoil_c (g : Nat) (code : List Int) (w : World) (h : Src w g code) :
    Calls Tryz.prog 149 #[.pointer (some ⟨g, 0, none⟩)] w (SetDrawn w g code w.heap.size fun _ us => us.length ≤ 101) := by
  have HL := Lib.hid h.lt
  have HQ0 := Lib.hid (LD.start h)
  clear h
  go_enter Tryz.func149, Tryz.ntmps149
  go_upto_region 1 with (fail)
  obtain ⟨wb, hwb⟩ : ∃ wb, wb = w.alloc (.cells #[.int .i64 0, .slice none 0 0] 26) := ⟨_, rfl⟩
  rw [← hwb] at HQ0
  have HQ := HQ0
  rw [← hwb]
  clear hwb HQ0
  go_wp2_with fail
  refine (l01Draw_c g code _ HQ.out.src).mono ?_
  rintro e w1 ⟨c, ts, A, cx, rfl, hO, ⟨_, _, _, hl⟩, S, G⟩
  have hz := HQ.out.sz
  have hgs := G.size
  replace HQ := Lib.hid (HQ.out.grow S G)
  have HO := Lib.hid hO
  clear S G hO
  go_wp2_with fail
  refine (l01Bad_c g code c ts A cx wb.heap.size _ HQ.out.src HO.out (by have := HL.out; omega) hgs (by omega)).mono ?_
  rintro e w2 ⟨c2, us, A2, cx2, rfl, hO2, hl2, S, G⟩
  replace HQ := Lib.hid (HQ.out.grow S G)
  have HO2 := Lib.hid hO2
  clear S G hO2 HO hgs
  have y0 := HQ.out.res.cell 0 (by simp)
  have y1 := HQ.out.res.cell 1 (by simp)
  have g0 := HQ.out.res.frozen 0
  have g1 := HQ.out.res.frozen 1
  simp only [List.getElem_cons_zero, List.getElem_cons_succ] at y0 y1
  go_wp2
  refine bodyPost_ret (v := .agg #[.int .i64 c2, .slice A2 us.length cx2]) (by
    have x0 := ((HQ.out.res.set 0 (.int .i64 c2)).set 1 (.slice A2 us.length cx2)).cell 0 (by simp)
    have x1 := ((HQ.out.res.set 0 (.int .i64 c2)).set 1 (.slice A2 us.length cx2)).cell 1 (by simp)
    simp only [List.set_cons_zero, List.set_cons_succ, List.getElem_cons_zero, List.getElem_cons_succ] at x0 x1
    simp [results, Tryz.results149, go_sem, x0, x1]) rfl ?_
  obtain ⟨f1, f2, f3⟩ := HQ.out.fin HO2.out hz (.int .i64 c2) (.slice A2 us.length cx2)
  exact ⟨c2, us, A2, cx2, rfl, f1, hl2, f2, f3⟩
def RowDrawn (w : World) (g : Nat) (code : List Int) (e : Ending) (w' : World) : Prop :=
  ∃ v row, e = .returned v ∧ OwnI w' (w.heap.size + 1) v row ∧ row.length ≤ 10 ∧ Src w' g code ∧ w.grownBy w' (some g)
set_option maxRecDepth 100000 in
set_option maxHeartbeats 8000000 in
theorem l02DrawRow_c (g : Nat) (code : List Int) (c : Int) (ts : List T4) (A : Option Addr) (cx N : Nat) (w : World) (h : Src w g code) (hO : OwnT w N (.slice A ts.length cx) ts) (hN : g < N) (hl : ts.length ≤ 101) :
    Calls Tryz.prog 132 #[.pointer (some ⟨g, 0, none⟩), .agg #[.int .i64 c, .slice A ts.length cx]] w (RowDrawn w g code) := by
  have HL := Lib.hid h.lt
  have HT : Hid (∀ W, w.grownBy W (some g) → TileCells W A ts) := fun W hG => (hO.grew hG hN).cells
  have HQ0 : Hid (∀ wb, wb = (w.alloc (.cells #[.int .i64 c, .slice A ts.length cx] 26)) → DR w wb g code c ts.length A cx) := fun wb e => by rw [e]; exact ⟨Blk.newA _ _ _, h.alloc _, World.grownBy_alloc _ _ _, h.lt, by simp⟩
  have HI := Lib.hid (fun W (hW : TileCells W A ts) => l01Is_c c ts A cx W hW (by omega))
  clear h hO
  cases hs : isSetB c ts
  · rw [hs] at HI
    clear hs
    go_enter Tryz.func132, Tryz.ntmps132
    go_upto_region 1 with (fail)
    obtain ⟨wb, hwb⟩ : ∃ wb, wb = w.alloc (.cells #[.int .i64 c, .slice A ts.length cx] 26) := ⟨_, rfl⟩
    have HQ := Lib.hid (HQ0.out wb hwb)
    rw [← hwb]
    clear hwb HQ0
    go_upto_region 2 with (fail)
    have HV : Hid (OwnI (wb.alloc (.cells #[] 2)) (w.heap.size + 1) (.slice (some ⟨wb.heap.size, 0, none⟩) 0 0) []) := OwnI.emptyAt rfl HQ.out.sz
    replace HQ := Lib.hid (HQ.out.below (below_al (o := .cells #[] 2) (Below.refl wb.heap.size wb)))
    obtain ⟨gv, hgv⟩ : ∃ gv, gv = wb.heap.size := ⟨_, rfl⟩
    obtain ⟨wc, hwc⟩ : ∃ wc, wc = wb.alloc (.cells #[] 2) := ⟨_, rfl⟩
    rw [← hwc] at HQ HV
    rw [← hgv] at HV
    rw [← hwc, ← hgv]
    clear hwc hgv
    have d0 := HQ.out.box.cell 0 (by simp)
    have d1 := HQ.out.box.cell 1 (by simp)
    simp only [List.getElem_cons_zero, List.getElem_cons_succ] at d0 d1
    go_wp2_with fail
    clear d0 d1
    refine (HI.out _ (HT.out _ HQ.out.sub)).mono ?_
    rintro e w1 ⟨rfl, hb⟩
    replace HQ := Lib.hid (HQ.out.below hb)
    replace HV := Lib.hid (HV.out.below hb)
    clear hb HI
    go_wp2_with fail
    go_ret
    refine ⟨_, _, rfl, OwnI.made w1 (w.heap.size + 1) #[.int .i64 0] [0] rfl HQ.out.sz (by simp), by simp, (HQ.out.below (below_al (Below.refl _ _))).src, (HQ.out.below (below_al (Below.refl _ _))).sub⟩
  · rw [hs] at HI
    have h16 := (isSetB_small hs).2
    clear hs
    by_cases hz : ts.length = 0
    · have hz' : ((ts.length : Int) == 0) = true := by simp [hz]
      clear hz
      go_enter Tryz.func132, Tryz.ntmps132
      go_upto_region 1 with (fail)
      obtain ⟨wb, hwb⟩ : ∃ wb, wb = w.alloc (.cells #[.int .i64 c, .slice A ts.length cx] 26) := ⟨_, rfl⟩
      have HQ := Lib.hid (HQ0.out wb hwb)
      rw [← hwb]
      clear hwb HQ0
      go_upto_region 2 with (fail)
      have HV : Hid (OwnI (wb.alloc (.cells #[] 2)) (w.heap.size + 1) (.slice (some ⟨wb.heap.size, 0, none⟩) 0 0) []) := OwnI.emptyAt rfl HQ.out.sz
      replace HQ := Lib.hid (HQ.out.below (below_al (o := .cells #[] 2) (Below.refl wb.heap.size wb)))
      obtain ⟨gv, hgv⟩ : ∃ gv, gv = wb.heap.size := ⟨_, rfl⟩
      obtain ⟨wc, hwc⟩ : ∃ wc, wc = wb.alloc (.cells #[] 2) := ⟨_, rfl⟩
      rw [← hwc] at HQ HV
      rw [← hgv] at HV
      rw [← hwc, ← hgv]
      clear hwc hgv
      have d0 := HQ.out.box.cell 0 (by simp)
      have d1 := HQ.out.box.cell 1 (by simp)
      simp only [List.getElem_cons_zero, List.getElem_cons_succ] at d0 d1
      go_wp2_with fail
      clear d0 d1
      refine (HI.out _ (HT.out _ HQ.out.sub)).mono ?_
      rintro e w1 ⟨rfl, hb⟩
      replace HQ := Lib.hid (HQ.out.below hb)
      replace HV := Lib.hid (HV.out.below hb)
      clear hb HI
      have d1 := HQ.out.box.cell 1 (by simp)
      simp only [List.getElem_cons_zero, List.getElem_cons_succ] at d1
      go_wp2_with fail
      go_ret
      refine ⟨_, _, rfl, OwnI.made w1 (w.heap.size + 1) #[.int .i64 0] [0] rfl HQ.out.sz (by simp), by simp, (HQ.out.below (below_al (Below.refl _ _))).src, (HQ.out.below (below_al (Below.refl _ _))).sub⟩
    · have h0 : 0 < ts.length := by omega
      have hz' : ((ts.length : Int) == 0) = false := beq_eq_false_iff_ne.2 (by omega)
      clear hz
      go_enter Tryz.func132, Tryz.ntmps132
      go_upto_region 1 with (fail)
      obtain ⟨wb, hwb⟩ : ∃ wb, wb = w.alloc (.cells #[.int .i64 c, .slice A ts.length cx] 26) := ⟨_, rfl⟩
      have HQ := Lib.hid (HQ0.out wb hwb)
      rw [← hwb]
      clear hwb HQ0
      go_upto_region 2 with (fail)
      have HV : Hid (OwnI (wb.alloc (.cells #[] 2)) (w.heap.size + 1) (.slice (some ⟨wb.heap.size, 0, none⟩) 0 0) []) := OwnI.emptyAt rfl HQ.out.sz
      replace HQ := Lib.hid (HQ.out.below (below_al (o := .cells #[] 2) (Below.refl wb.heap.size wb)))
      obtain ⟨gv, hgv⟩ : ∃ gv, gv = wb.heap.size := ⟨_, rfl⟩
      obtain ⟨wc, hwc⟩ : ∃ wc, wc = wb.alloc (.cells #[] 2) := ⟨_, rfl⟩
      rw [← hwc] at HQ HV
      rw [← hgv] at HV
      rw [← hwc, ← hgv]
      clear hwc hgv
      have d0 := HQ.out.box.cell 0 (by simp)
      have d1 := HQ.out.box.cell 1 (by simp)
      simp only [List.getElem_cons_zero, List.getElem_cons_succ] at d0 d1
      go_wp2_with fail
      clear d0 d1
      refine (HI.out _ (HT.out _ HQ.out.sub)).mono ?_
      rintro e w1 ⟨rfl, hb⟩
      replace HQ := Lib.hid (HQ.out.below hb)
      replace HV := Lib.hid (HV.out.below hb)
      clear hb HI
      have d1 := HQ.out.box.cell 1 (by simp)
      simp only [List.getElem_cons_zero, List.getElem_cons_succ] at d1
      go_wp2_with fail
      clear d1 hz'
      refine (l01Next_c g code _ _ HQ.out.src).mono ?_
      rintro e w2 ⟨r2, rfl, a, _, b, S, G⟩
      replace HQ := Lib.hid (HQ.out.grow S G)
      replace HV := Lib.hid (HV.out.grew G (by have := HL.out; omega))
      obtain ⟨j0, rfl⟩ := Int.eq_ofNat_of_zero_le a
      have hj0 : j0 < ts.length := by have := b (by omega); omega
      clear S G a b
      go_wp2_with (at_builtin; refine Hold.of ?_)
      refine Hold.to ?_
      refine wpl_app_int rfl (.tmp 28) (.tmp 30) rfl (w.heap.size + 1) _ [] (j0 : Int) rfl (HV.out.alloc _) w2.heap.size 0 rfl (cell_alloc_at _ _ _ _ _ rfl) (by simp) (by have := HQ.out.sz; simp; omega) (fun v' w' a1 a2 a3 => ?_)
      rw [List.nil_append] at a1
      replace HQ := Lib.hid ((HQ.out.below (below_al (Below.refl _ _))).app a2 (fun q hq => by have := (World.ownsRow.lt HV.out q hq).1; omega))
      have HV1 := Lib.hid a1
      clear a1 a2 a3 HV
      go_wp2_with fail
      refine (l01Next_c g code _ _ HQ.out.src).mono ?_
      rintro e w3 ⟨r3, rfl, a, _, b, S, G⟩
      replace HQ := Lib.hid (HQ.out.grow S G)
      replace HV1 := Lib.hid (HV1.out.grew G (by have := HL.out; omega))
      obtain ⟨m0, rfl⟩ := Int.eq_ofNat_of_zero_le a
      have hm0 : m0 < 8 := by have := b (by omega); omega
      clear S G a b
      go_upto_block 0 with (fail)
      go_cut [5] (fun v wx => ∃ row, Hid (OwnI wx (w.heap.size + 1) v row) ∧ 1 ≤ row.length ∧ row.length ≤ 9 ∧ Hid (DR w wx g code c ts.length A cx))
      case first =>
        go_wp2_with fail
        go_loopw [5, 6, 7] (fun v a i wr => ∃ (row : List Int) (j m : Nat), 1 ≤ row.length ∧ row.length + m ≤ 9 ∧ a = .int .i64 (j : Nat) ∧ j < ts.length ∧ i = .int .i64 (m : Nat) ∧ Hid (OwnI wr (w.heap.size + 1) v row) ∧ Hid (DR w wr g code c ts.length A cx)) (fun _ _ i _ => (intOf i).toNat)
        case atStart => exact ⟨[(j0 : Int)], j0, m0, by simp, by simp; omega, rfl, hj0, rfl, HV1, HQ⟩
        case round =>
          clear HQ HV1
          obtain ⟨row, j, m, hr1, hrm, rfl, hj, rfl, HV, HQ⟩ := hrel
          obtain ⟨wo, rfl⟩ : ∃ wo, wo = wr := ⟨wr, rfl⟩
          by_cases hm : 0 < m
          · have hm' : (0 : Int) < (m : Int) := by omega
            have d1 := HQ.out.box.cell 1 (by simp)
            simp only [List.getElem_cons_zero, List.getElem_cons_succ] at d1
            go_wp2_with fail
            clear d1
            refine (l01Next_c g code _ _ HQ.out.src).mono ?_
            rintro e w4 ⟨r4, rfl, a, _, b, S, G⟩
            replace HQ := Lib.hid (HQ.out.grow S G)
            replace HV := Lib.hid (HV.out.grew G (by have := HL.out; omega))
            obtain ⟨f, rfl⟩ := Int.eq_ofNat_of_zero_le a
            have hf : f < ts.length := by have := b (by omega); omega
            clear S G a b
            go_wp2_with fail
            go_loopw [6, 9, 10] (fun a fd i wr => ∃ (q p : Nat) (fb : Bool), q ≤ ts.length ∧ i = .int .i64 (q : Nat) ∧ a = .int .i64 (p : Nat) ∧ p < ts.length ∧ fd = .bool fb ∧ Hid (Below w4.heap.size w4 wr)) (fun _ _ i _ => ts.length - (intOf i).toNat)
            case atStart => exact ⟨0, j, false, by omega, rfl, rfl, hj, rfl, Below.refl _ _⟩
            case round =>
              obtain ⟨q, p, fb, hq, rfl, rfl, hp, rfl, HB⟩ := hrel
              have HQr := Lib.hid (HQ.out.below HB.out)
              have d1 := HQr.out.box.cell 1 (by simp)
              simp only [List.getElem_cons_zero, List.getElem_cons_succ] at d1
              by_cases hqn : q < ts.length
              · have hq' : (q : Int) < (ts.length : Int) := by omega
                cases fb
                · obtain ⟨s, hse, hs1, hs2⟩ : ∃ s : Nat, s = f + q ∧ IntKind.i64.wrap ((f : Int) + (q : Int)) = (s : Int) ∧ s ≤ 300 := ⟨f + q, rfl, by rw [IntWalk.i64_in _ (by omega)]; omega, by omega⟩
                  clear hse
                  obtain ⟨im, himl, hm1, hm2⟩ : ∃ im : Nat, im < ts.length ∧ (s : Int) % (ts.length : Int) = (im : Int) ∧ (s : Int).tmod (ts.length : Int) = (im : Int) := by
                    refine ⟨s % ts.length, Nat.mod_lt _ h0, ?_, ?_⟩
                    · simp
                    · rw [Int.tmod_eq_emod_of_nonneg (by omega)]; simp
                  have hTw := HT.out wr HQr.out.sub
                  obtain ⟨b9, o9, rfl, _, t0, -, -, -⟩ := hTw im himl
                  obtain ⟨-, -, t2, -⟩ := hTw.pair rfl p hp
                  have g0 := keepC t0
                  have g1 := keepC t2
                  have g2 := keepC d1
                  clear t0 t2 hTw
                  generalize hE : (ts[im].a == ts[p].c) = E
                  generalize ts[im] = t at *
                  generalize ts[p] = u at *
                  cases E
                  · go_wp2_with fail
                    clear d1
                    refine wp_region_add (fun w' => Below (wr).heap.size (wr) w') (by kernel_rfl) (by kernel_rfl) ((Below.refl _ _).drew) ?_
                    repeat (first
                      | (refine add_skip rfl (fun K' hK' => ?_); go_simp; refine hK' _ ?_; clear hK' K')
                      | (refine add_do (v := ?_) rfl (fun w1 hb => ?_) (fun K' hK' => ?_); rotate_left
                         · go_simp
                           first
                           | (with_reducible exact rfl)
                           | (with_reducible exact ⟨rfl, hb⟩)
                           | exact rfl
                           | exact ⟨rfl, hb⟩
                         go_simp; refine hK' _ ?_; clear hK' K'))
                    refine add_nil ?_
                    intro wa hba
                    have HB3 := Lib.hid (HB.out.trans (hba.mono HB.out.size))
                    clear hba
                    go_wp2_with fail
                    go_roundw
                    case rel => exact ⟨q + 1, p, false, by omega, by go_num, rfl, hp, rfl, HB3.out⟩
                    case measure => simp [intOf]; omega
                  · go_wp2_with fail
                    clear d1
                    refine wp_region_add (fun w' => Below (wr).heap.size (wr) w') (by kernel_rfl) (by kernel_rfl) ((Below.refl _ _).drew) ?_
                    repeat (first
                      | (refine add_skip rfl (fun K' hK' => ?_); go_simp; refine hK' _ ?_; clear hK' K')
                      | (refine add_do (v := ?_) rfl (fun w1 hb => ?_) (fun K' hK' => ?_); rotate_left
                         · go_simp
                           first
                           | (with_reducible exact rfl)
                           | (with_reducible exact ⟨rfl, hb⟩)
                           | exact rfl
                           | exact ⟨rfl, hb⟩
                         go_simp; refine hK' _ ?_; clear hK' K'))
                    refine add_nil ?_
                    intro wa hba
                    have HB3 := Lib.hid (HB.out.trans (hba.mono HB.out.size))
                    clear hba
                    go_wp2_with fail
                    go_roundw
                    case rel => exact ⟨q + 1, im, true, by omega, by go_num, rfl, himl, rfl, HB3.out⟩
                    case measure => simp [intOf]; omega
                · have HVr := Lib.hid (HV.out.below HB.out)
                  go_wp2_with (at_builtin; refine Hold.of ?_)
                  refine Hold.to ?_
                  clear d1
                  refine wpl_app_int rfl (.tmp 77) (.tmp 79) rfl (w.heap.size + 1) _ row (p : Int) rfl (HVr.out.alloc _) wr.heap.size 0 rfl (cell_alloc_at _ _ _ _ _ rfl) (by omega) (by have := HQr.out.sz; simp; omega) (fun v' w' a1 a2 a3 => ?_)
                  have HQ2 := Lib.hid ((HQr.out.below (below_al (Below.refl _ _))).app a2 (fun q hq => by have := (World.ownsRow.lt HVr.out q hq).1; omega))
                  have HV2 := Lib.hid a1
                  clear a1 a2 a3
                  go_wp2_with fail
                  go_roundw
                  case rel => exact ⟨row ++ [(p : Int)], p, m - 1, by simp, by simp; omega, rfl, hp, by go_num, HV2, HQ2⟩
                  case measure => simp [intOf]; omega
              · have hq' : ¬ (q : Int) < (ts.length : Int) := by omega
                cases fb
                · go_wp2_with fail
                  go_meet
                  case rel => exact ⟨row, HV.out.below HB.out, hr1, by omega, HQr.out⟩
                · have HVr := Lib.hid (HV.out.below HB.out)
                  go_wp2_with (at_builtin; refine Hold.of ?_)
                  refine Hold.to ?_
                  clear d1
                  refine wpl_app_int rfl (.tmp 77) (.tmp 79) rfl (w.heap.size + 1) _ row (p : Int) rfl (HVr.out.alloc _) wr.heap.size 0 rfl (cell_alloc_at _ _ _ _ _ rfl) (by omega) (by have := HQr.out.sz; simp; omega) (fun v' w' a1 a2 a3 => ?_)
                  have HQ2 := Lib.hid ((HQr.out.below (below_al (Below.refl _ _))).app a2 (fun q hq => by have := (World.ownsRow.lt HVr.out q hq).1; omega))
                  have HV2 := Lib.hid a1
                  clear a1 a2 a3
                  go_wp2_with fail
                  go_roundw
                  case rel => exact ⟨row ++ [(p : Int)], p, m - 1, by simp, by simp; omega, rfl, hp, by go_num, HV2, HQ2⟩
                  case measure => simp [intOf]; omega
          · have hm' : ¬ (0 : Int) < (m : Int) := by omega
            go_wp2_with fail
            go_meet
            case rel => exact ⟨row, HV.out, hr1, by omega, HQ.out⟩
      case rest =>
        clear HQ HV1
        obtain ⟨row, HV, hr1, hr9, HQ⟩ := hcut
        obtain ⟨Av, cv, rfl, -, -⟩ := HV.out.shape
        go_wp2_with fail
        refine (l01Next_c g code _ _ HQ.out.src).mono ?_
        rintro e w5 ⟨r, rfl, _, _, _, S, G⟩
        replace HQ := Lib.hid (HQ.out.grow S G)
        replace HV := Lib.hid (HV.out.grew G (by have := HL.out; omega))
        clear S G
        by_cases r0 : r = 0
        · have r0' : (r == 0) = true := by simp [r0]
          clear r0
          have d1 := HQ.out.box.cell 1 (by simp)
          simp only [List.getElem_cons_zero, List.getElem_cons_succ] at d1
          go_wp2_with fail
          clear d1
          refine (l01Next_c g code _ _ HQ.out.src).mono ?_
          rintro e w6 ⟨r6, rfl, _, _, _, S, G⟩
          replace HQ := Lib.hid (HQ.out.grow S G)
          replace HV := Lib.hid (HV.out.grew G (by have := HL.out; omega))
          clear S G
          go_wp2_with (at_builtin; refine Hold.of ?_)
          refine Hold.to ?_
          refine wpl_app_int rfl (.tmp 85) (.tmp 91) rfl (w.heap.size + 1) _ row r6 rfl (HV.out.alloc _) w6.heap.size 0 rfl (cell_alloc_at _ _ _ _ _ rfl) (by omega) (by have := HQ.out.sz; simp; omega) (fun v' w' a1 a2 a3 => ?_)
          have HQ2 := Lib.hid ((HQ.out.below (below_al (Below.refl _ _))).app a2 (fun q hq => by have := (World.ownsRow.lt HV.out q hq).1; omega))
          have HV2 := Lib.hid a1
          have HL2 : Hid ((row ++ [r6]).length ≤ 10) := by show _ ≤ _; rw [List.length_append]; simp; omega
          clear a1 a2 a3
          go_wp2_with fail
          go_ret
          exact ⟨_, _, rfl, HV2.out, HL2.out, HQ2.out.src, HQ2.out.sub⟩
        · have r0' : (r == 0) = false := by simp [r0]
          clear r0
          by_cases r1 : r = 1
          · have r1' : (r == 1) = true := by simp [r1]
            clear r1
            obtain ⟨gr, rfl, k1, k2, -, -⟩ := HV.out.at_ 0 (by omega)
            go_wp2_with fail
            refine (pick_new g code _ HQ.out.src _ _ [-1, 16, 0] _ rfl rfl (by simp)).mono ?_
            rintro e w6 ⟨r6, rfl, -, S, G⟩
            replace HQ := Lib.hid (HQ.out.grow S G)
            replace HV := Lib.hid (HV.out.grew G (by have := HL.out; omega))
            clear S G
            obtain ⟨gr', e1, k3, k4, c1, z1⟩ := HV.out.at_ 0 (by omega)
            injection e1 with e1
            injection e1 with e1 _
            subst e1
            have HQ2 := Lib.hid (HQ.out.store gr 0 (.int .i64 r6) k3)
            have HV2 := Lib.hid (HV.out.set 0 r6).1
            have HL2 : Hid ((row.set 0 r6).length ≤ 10) := by show _ ≤ _; rw [List.length_set]; omega
            have hlr : 0 < row.length := by omega
            go_wp2_with fail
            go_ret
            exact ⟨_, _, rfl, HV2.out, HL2.out, HQ2.out.src, HQ2.out.sub⟩
          · have r1' : (r == 1) = false := by simp [r1]
            clear r1
            by_cases r2 : r = 2
            · have r2' : (r == 2) = true := by simp [r2]
              clear r2
              have HQ2 := Lib.hid (HQ.out.below (below_al (o := .cells #[] 2) (Below.refl w5.heap.size w5)))
              have HV2 : Hid (OwnI (w5.alloc (.cells #[] 2)) (w.heap.size + 1) (.slice (some ⟨w5.heap.size, 0, none⟩) 0 0) []) := OwnI.emptyAt rfl HQ.out.sz
              have HL2 : Hid (([] : List Int).length ≤ 10) := by show _ ≤ _; simp
              go_wp2_with fail
              go_ret
              exact ⟨_, _, rfl, HV2.out, HL2.out, HQ2.out.src, HQ2.out.sub⟩
            · have r2' : (r == 2) = false := by simp [r2]
              clear r2
              have HQ2 := HQ
              have HV2 := HV
              have HL2 : Hid (row.length ≤ 10) := by show _ ≤ _; omega
              go_wp2_with fail
              go_ret
              exact ⟨_, _, rfl, HV2.out, HL2.out, HQ2.out.src, HQ2.out.sub⟩

end Go.Proofs.YtkgnejhflnekaaaGreat
