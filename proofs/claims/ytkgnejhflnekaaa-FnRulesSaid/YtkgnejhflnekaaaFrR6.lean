/- Contracts and lemmas for the statements of this seat, written for this claim; each theorem states its own conditions. -/
import Derived.Deep.Cut
import Derived.Deep.DeepCutAuto
import Derived.Test.YtkgnejhflnekaaaFrR5
import Derived.Test.YtkgnejhflnekaaaFrR3
import Derived.Test.YtkgnejhflnekaaaFrR2
import Derived.Test.YtkgnejhflnekaaaFrZ1
import Derived.Test.YtkgnejhflnekaaaFrRx
import Derived.Test.YtkgnejhflnekaaaFrSs
import Derived.Test.YtkgnejhflnekaaaFrDr
import Derived.Test.YtkgnejhflnekaaaFrNu
set_option linter.unusedVariables false
set_option linter.unusedSimpArgs false
namespace Go.Proofs.Ytkgnejhflnekaaa
open Go.RowKit
set_option maxRecDepth 100000 in
set_option maxHeartbeats 40000000 in
theorem law_FnRules (code : List Int) (A : Option Addr) (cx : Nat) (w : World) (hX : BytesC w A code) (hl : code.length ≤ 9223372036854775807) (hby : ∀ x ∈ code, 0 ≤ x ∧ x < 256) :
    Calls Try.prog 3 #[.slice A code.length cx] w fun e w' => e = .returned (.bool true) ∧ Below w.heap.size w w' := by
  have H0 := Lib.hid (big_c code.length cx A w hl)
  by_cases hbig : (code.length : Int) > 4096
  · rw [show decide ((code.length : Int) > 4096) = true by simp [hbig]] at H0
    go_enter Try.func3, Try.ntmps3
    go_wp2_with fail
    refine H0.out.mono ?_
    rintro e w1 ⟨rfl, rfl⟩
    go_wp2
    go_ret
    exact ⟨rfl, Below.refl _ _⟩
  · rw [show decide ((code.length : Int) > 4096) = false by simp [hbig]] at H0
    have HX := Lib.hid hX
    have HY := Lib.hid (show BytesOk code from ⟨by omega, hby⟩)
    clear hX hby hbig hl
    go_enter Try.func3, Try.ntmps3
    go_wp2_with fail
    refine H0.out.mono ?_
    rintro e w0 ⟨rfl, rfl⟩
    clear H0
    go_wp2_with fail
    refine (DrawGrowRows_c A cx code _ HX.out HY.out).mono ?_
    rintro e w1 ⟨c, ts, S, cs, L, P, cp, M, R, cR, rfl, ⟨hT, hts, hR, hK, hL, hSh, hb⟩, hM, hMl, hMs⟩
    have HB := Lib.hid hb
    obtain ⟨g1, g2, g3⟩ := grV_len c ts L M
    obtain ⟨s1, s2, s3⟩ := shV_len c ts L (grV c ts L M)
    have hSh9 : Short 1000000000 L := fun k hk => by have := hSh k hk; omega
    have hMs9 : Short 1000000000 M := fun k hk => by have := hMs k hk; omega
    have HG6 : Hid (Short 1000000 (grV c ts L M)) := fun k hk => by have := tot_mem (List.getElem_mem hk); omega
    have HM6 : Hid (Short 1000000 M) := fun k hk => by have := hMs k hk; omega
    have HI := Lib.hid (fun W (h : Below w1.heap.size w1 W) => implGrowRows_c c ts S cs L P cp M R cR W (hT.below h) (by omega) (hR.below h) (by omega) hSh9 (hM.below h) (by omega) hMs9 (hK.below hR h))
    have HS := Lib.hid (fun W (h : Below w1.heap.size w1 W) => specGrowRows_c c ts S cs L P cp M R cR W (hT.below h) (by omega) (hR.below h) (by omega) hSh9 (hM.below h) (by omega) hMs9)
    have HRu := Lib.hid (fun W (h : Below w1.heap.size w1 W) => implIsRule_c c ts S cs L P cp W (hT.below h) (by omega) (hR.below h) (by omega) hSh9 (hK.below hR h))
    have HOn := Lib.hid (fun W (h : Below w1.heap.size w1 W) => implIsOneToOne_c c ts S cs L P cp W (hT.below h) (by omega) (hR.below h) (by omega) hSh9)
    have HF1 := Lib.hid (fun W (h : Below w1.heap.size w1 W) => implIsFilling_c c ts S cs M R cR W (hT.below h) (by omega) (hM.below h) (by omega) hMs9)
    have HF2 := Lib.hid (fun W (h : Below w1.heap.size w1 W) A' k' hG => implIsFilling_c c ts S cs (grV c ts L M) A' k' W (hT.below h) (by omega) hG (by omega) g2)
    have HSk := Lib.hid (fun W (h : Below w1.heap.size w1 W) A' k' hG => implShrinkRows_c c ts S cs L P cp (grV c ts L M) A' k' W (hT.below h) (by omega) (hR.below h) (by omega) hSh9 hG (by omega) g2)
    have HG2 := Lib.hid (fun W (h : Below w1.heap.size w1 W) A' k' hG => implGrowRows_c c ts S cs L P cp (shV c ts L (grV c ts L M)) A' k' W (hT.below h) (by omega) (hR.below h) (by omega) hSh9 hG (by omega) s2 (hK.below hR h))
    have F := Lib.hid (rules_facts (c := c) (ts := ts) (L := L) (rows := M))
    have HM := Lib.hid hM
    generalize grV c ts L (shV c ts L (grV c ts L M)) = gw at *
    generalize grC c ts L (shV c ts L (grV c ts L M)) = gwc at *
    generalize shV c ts L (grV c ts L M) = sv at *
    generalize shC c ts L (grV c ts L M) = svc at *
    generalize fiV c ts (grV c ts L M) = f2 at *
    generalize fiC c ts (grV c ts L M) = f2c at *
    generalize fiV c ts M = f1 at *
    generalize fiC c ts M = f1c at *
    generalize ruleV c ts L = rv at *
    generalize oneV c ts L = ov at *
    generalize codeB (isSetB c ts) (areBlocksB ts.length L) = bc at *
    generalize grV c ts L M = gv at *
    generalize grC c ts L M = d at *
    have hdd : (d != d) = false := by simp
    clear hT hts hR hK hL hSh hb g2 g3 s2 s3 hSh9 hMs9 hM hMs
    go_upto_region 4 with (fail)
    obtain ⟨gT, hgT⟩ : ∃ gT, gT = w1.heap.size := ⟨_, rfl⟩
    obtain ⟨wb, hwb⟩ : ∃ wb, wb = w1.alloc (.cells #[.int .i64 c, .slice S ts.length cs] 26) := ⟨_, rfl⟩
    have HW : Hid (Below w1.heap.size w1 wb) := by rw [hwb]; exact below_al (Below.refl _ _)
    have E0 := Lib.hid (keepC (W := wb) (b := gT) (o := 0) (v := .int .i64 c) (by rw [hwb, hgT]; simp))
    have E1 := Lib.hid (keepC (W := wb) (b := gT) (o := 1) (v := .slice S ts.length cs) (by rw [hwb, hgT]; simp))
    rw [← hwb, ← hgT]
    clear hwb hgT
    have HV := Lib.hid (Below.refl wb.heap.size wb)
    have d0 := E0.out _ HV.out
    have d1 := E1.out _ HV.out
    go_wp2_with fail
    clear d0 d1
    refine (HI.out _ (HW.out.trans (HV.out.mono HW.out.size))).mono ?_
    rintro e w2 ⟨v1, rfl, hO, hb⟩
    obtain ⟨A1, k1, rfl, hr⟩ := hO.rows
    have HO1 := Lib.hid hr
    replace HV := Lib.hid (HV.out.trans (hb.mono HV.out.size))
    clear hO hb hr HI
    have d0 := E0.out _ HV.out
    have d1 := E1.out _ HV.out
    go_wp2_with fail
    clear d0 d1
    refine (HS.out _ (HW.out.trans (HV.out.mono HW.out.size))).mono ?_
    rintro e w3 ⟨v2, rfl, hO, hb⟩
    obtain ⟨A2, k2, rfl, hr⟩ := hO.rows
    have HO2 := Lib.hid hr
    replace HO1 := Lib.hid (HO1.out.below hb)
    replace HV := Lib.hid (HV.out.trans (hb.mono HV.out.size))
    clear hO hb hr HS
    go_wp2_with fail
    refine (rows5_c gv A1 A2 k1 k2 _ HO1.out HO2.out (by omega) HG6.out).mono ?_
    rintro e w4 ⟨rfl, hb⟩
    replace HO1 := Lib.hid (HO1.out.below hb)
    replace HV := Lib.hid (HV.out.trans (hb.mono HV.out.size))
    clear hb HO2 hdd
    go_upto_if 87 with (fail)
    have HB1 := Lib.hid (HB.out.trans ((HW.out.trans (HV.out.mono HW.out.size)).mono HB.out.size))
    go_cut [] (fun wx => Below w.heap.size w wx)
    case first =>
     as_aux_lemma =>
      by_cases hd : d = 0
      · subst hd
        obtain ⟨rfl, rfl, rfl, rfl, F1, F2, F3, rfl, rfl⟩ := F.out rfl
        have HBt := Lib.hid (HW.out.trans (HV.out.mono HW.out.size))
        have hlen : ((gw.length : Int) != 2 * (M.length : Int)) = false := by simp; omega
        have HB9 := HB
        clear F F3 HX HY
        have d0 := E0.out _ HV.out
        have d1 := E1.out _ HV.out
        go_wp2_with fail
        clear d0 d1
        refine (HRu.out _ HBt.out).mono ?_
        rintro e w5 ⟨rfl, hb⟩
        replace HO1 := Lib.hid (HO1.out.below hb)
        replace HV := Lib.hid (HV.out.trans (hb.mono HV.out.size))
        replace HBt := Lib.hid (HBt.out.trans (hb.mono HBt.out.size))
        clear hb
        have d0 := E0.out _ HV.out
        have d1 := E1.out _ HV.out
        go_wp2_with fail
        clear d0 d1
        refine (HOn.out _ HBt.out).mono ?_
        rintro e w6 ⟨rfl, hb⟩
        replace HO1 := Lib.hid (HO1.out.below hb)
        replace HV := Lib.hid (HV.out.trans (hb.mono HV.out.size))
        replace HBt := Lib.hid (HBt.out.trans (hb.mono HBt.out.size))
        clear hb
        have d0 := E0.out _ HV.out
        have d1 := E1.out _ HV.out
        go_wp2_with fail
        clear d0 d1
        refine (HF1.out _ HBt.out).mono ?_
        rintro e w7 ⟨rfl, hb⟩
        replace HO1 := Lib.hid (HO1.out.below hb)
        replace HV := Lib.hid (HV.out.trans (hb.mono HV.out.size))
        replace HBt := Lib.hid (HBt.out.trans (hb.mono HBt.out.size))
        clear hb
        have d0 := E0.out _ HV.out
        have d1 := E1.out _ HV.out
        go_wp2_with fail
        clear d0 d1
        refine (HF2.out _ HBt.out _ _ HO1.out).mono ?_
        rintro e w8 ⟨rfl, hb⟩
        replace HO1 := Lib.hid (HO1.out.below hb)
        replace HV := Lib.hid (HV.out.trans (hb.mono HV.out.size))
        replace HBt := Lib.hid (HBt.out.trans (hb.mono HBt.out.size))
        clear hb
        have d0 := E0.out _ HV.out
        have d1 := E1.out _ HV.out
        go_wp2_with fail
        clear d0 d1
        refine (HSk.out _ HBt.out _ _ HO1.out).mono ?_
        rintro e w9 ⟨v3, rfl, hO, hb⟩
        obtain ⟨A3, k3, rfl, hr⟩ := hO.rows
        have HO3 := Lib.hid hr
        clear hO hr
        replace HO1 := Lib.hid (HO1.out.below hb)
        replace HV := Lib.hid (HV.out.trans (hb.mono HV.out.size))
        replace HBt := Lib.hid (HBt.out.trans (hb.mono HBt.out.size))
        clear hb HRu HOn HF1 HF2 HSk
        have HMt := Lib.hid (HM.out.below HBt.out)
        go_upto_region 14 with (fail)
        go_cut [163] (fun v wx => v = .bool false ∧ Hid (Below w9.heap.size w9 wx))
        case first =>
         as_aux_lemma =>
          cases rv
          · clear F1
            cases ov
            · as_aux_lemma =>
              go_wp2_with fail
              go_meet
              case rel => exact ⟨rfl, Below.refl _ _⟩
            · as_aux_lemma =>
              obtain rfl := F2 rfl
              go_wp2_with fail
              refine (rows5_c sv A3 R k3 cR _ HO3.out HMt.out (by omega) HM6.out).mono ?_
              rintro e wC ⟨rfl, hb⟩
              have HBq := Lib.hid hb
              clear hb
              go_wp2_with fail
              go_meet
              case rel => exact ⟨rfl, HBq⟩
          · cases f1
            · clear F1
              cases ov
              · as_aux_lemma =>
                go_wp2_with fail
                go_meet
                case rel => exact ⟨rfl, Below.refl _ _⟩
              · as_aux_lemma =>
                obtain rfl := F2 rfl
                go_wp2_with fail
                refine (rows5_c sv A3 R k3 cR _ HO3.out HMt.out (by omega) HM6.out).mono ?_
                rintro e wC ⟨rfl, hb⟩
                have HBq := Lib.hid hb
                clear hb
                go_wp2_with fail
                go_meet
                case rel => exact ⟨rfl, HBq⟩
            · obtain rfl := F1 rfl rfl
              cases ov
              · as_aux_lemma =>
                go_wp2_with fail
                go_meet
                case rel => exact ⟨rfl, Below.refl _ _⟩
              · as_aux_lemma =>
                obtain rfl := F2 rfl
                go_wp2_with fail
                refine (rows5_c sv A3 R k3 cR _ HO3.out HMt.out (by omega) HM6.out).mono ?_
                rintro e wC ⟨rfl, hb⟩
                have HBq := Lib.hid hb
                clear hb
                go_wp2_with fail
                go_meet
                case rel => exact ⟨rfl, HBq⟩
        case rest =>
         as_aux_lemma =>
          obtain ⟨rfl, HBz⟩ := hcut
          replace HO1 := Lib.hid (HO1.out.below HBz.out)
          replace HO3 := Lib.hid (HO3.out.below HBz.out)
          replace HV := Lib.hid (HV.out.trans (HBz.out.mono HV.out.size))
          replace HBt := Lib.hid (HBt.out.trans (HBz.out.mono HBt.out.size))
          clear F1 F2 HMt hlen
          have d0 := E0.out _ HV.out
          have d1 := E1.out _ HV.out
          go_wp2_with fail
          clear d0 d1
          refine (HG2.out _ HBt.out _ _ HO3.out).mono ?_
          rintro e wA ⟨v4, rfl, hO, hb⟩
          obtain ⟨A4, k4, rfl, hr⟩ := hO.rows
          have HO4 := Lib.hid hr
          replace HO1 := Lib.hid (HO1.out.below hb)
          replace HBt := Lib.hid (HBt.out.trans (hb.mono HBt.out.size))
          clear hO hr hb
          go_wp2_with fail
          refine (rows5_c gw A4 A1 k4 k1 _ HO4.out HO1.out (by omega) HG6.out).mono ?_
          rintro e wB ⟨rfl, hb⟩
          have HBe := Lib.hid (HB.out.trans ((HBt.out.trans (hb.mono HBt.out.size)).mono HB.out.size))
          clear hb
          go_wp2_with fail
          go_meet
          case rel => exact HBe.out
      · replace hd : (d == 0) = false := by simp [hd]
        go_wp2_with fail
        go_meet
        case rel => exact HB1.out
    case rest =>
     as_aux_lemma =>
      have HZ := Lib.hid hcut
      clear hcut HO1 HV HB1 E0 E1 HW HRu HOn HF1 HF2 HSk HG2 F HB HM HG6 HM6
      go_wp2_with fail
      refine (DrawIsRule_c A cx code _ (HX.out.below HZ.out) HY.out).mono ?_
      rintro e w1 ⟨c, ts, S, cs, L, P, cp, rfl, hT, hts, hR, hK, hL, hSh, hb⟩
      have HB := Lib.hid (HZ.out.trans (hb.mono HZ.out.size))
      have hSh9 : Short 1000000000 L := fun k hk => by have := hSh k hk; omega
      have HI := Lib.hid (fun W (h : Below w1.heap.size w1 W) => implIsRule_c c ts S cs L P cp W (hT.below h) (by omega) (hR.below h) (by omega) hSh9 (hK.below hR h))
      have HS := Lib.hid (fun W (h : Below w1.heap.size w1 W) => specIsRule_c c ts S cs L P cp W (hT.below h) (by omega) (hR.below h) (by omega) hSh9)
      generalize ruleV c ts L = rv at *
      generalize codeB (isSetB c ts) (areBlocksB ts.length L) = rc at *
      clear hT hts hR hK hL hSh hb hSh9 HZ
      go_upto_region 20 with (fail)
      obtain ⟨gT, hgT⟩ : ∃ gT, gT = w1.heap.size := ⟨_, rfl⟩
      obtain ⟨wb, hwb⟩ : ∃ wb, wb = w1.alloc (.cells #[.int .i64 c, .slice S ts.length cs] 26) := ⟨_, rfl⟩
      have HW : Hid (Below w1.heap.size w1 wb) := by rw [hwb]; exact below_al (Below.refl _ _)
      have E0 := Lib.hid (keepC (W := wb) (b := gT) (o := 0) (v := .int .i64 c) (by rw [hwb, hgT]; simp))
      have E1 := Lib.hid (keepC (W := wb) (b := gT) (o := 1) (v := .slice S ts.length cs) (by rw [hwb, hgT]; simp))
      rw [← hwb, ← hgT]
      clear hwb hgT
      have HV := Lib.hid (Below.refl wb.heap.size wb)
      have d0 := E0.out _ HV.out
      have d1 := E1.out _ HV.out
      go_wp2_with fail
      clear d0 d1
      refine (HI.out _ (HW.out.trans (HV.out.mono HW.out.size))).mono ?_
      rintro e w2 ⟨rfl, hb⟩
      replace HV := Lib.hid (HV.out.trans (hb.mono HV.out.size))
      clear hb HI
      have d0 := E0.out _ HV.out
      have d1 := E1.out _ HV.out
      go_upto_region 21 with (fail)
      go_cut [26, 27] (fun a b wx => a = .bool rv ∧ b = .int .i64 rc ∧ Hid (Below w.heap.size w wx))
      case first =>
       as_aux_lemma =>
        go_wp2_with fail
        clear d0 d1
        refine (HS.out _ (HW.out.trans (HV.out.mono HW.out.size))).mono ?_
        rintro e w3 ⟨rfl, hb⟩
        have HBe := Lib.hid (HB.out.trans ((HW.out.trans ((HV.out.trans (hb.mono HV.out.size)).mono HW.out.size)).mono HB.out.size))
        clear hb
        go_wp2_with fail
        go_meet
        case rel => exact ⟨rfl, rfl, HBe.out⟩
      case rest =>
       as_aux_lemma =>
        obtain ⟨rfl, rfl, HZ⟩ := hcut
        clear HB HW HV E0 E1 HS d0 d1
        go_wp2_with fail
        refine (DrawIsOneToOne_c A cx code _ (HX.out.below HZ.out) HY.out).mono ?_
        rintro e w1 ⟨c, ts, S, cs, L, P, cp, rfl, hT, hts, hR, hK, hL, hSh, hb⟩
        have HB := Lib.hid (HZ.out.trans (hb.mono HZ.out.size))
        have hSh9 : Short 1000000000 L := fun k hk => by have := hSh k hk; omega
        have HI := Lib.hid (fun W (h : Below w1.heap.size w1 W) => implIsOneToOne_c c ts S cs L P cp W (hT.below h) (by omega) (hR.below h) (by omega) hSh9)
        have HS := Lib.hid (fun W (h : Below w1.heap.size w1 W) => specIsOneToOne_c c ts S cs L P cp W (hT.below h) (by omega) (hR.below h) (by omega) hSh9)
        generalize oneV c ts L = ov at *
        generalize codeB (isSetB c ts) (areBlocksB ts.length L) = oc at *
        clear hT hts hR hK hL hSh hb hSh9 HZ
        go_upto_region 23 with (fail)
        obtain ⟨gT, hgT⟩ : ∃ gT, gT = w1.heap.size := ⟨_, rfl⟩
        obtain ⟨wb, hwb⟩ : ∃ wb, wb = w1.alloc (.cells #[.int .i64 c, .slice S ts.length cs] 26) := ⟨_, rfl⟩
        have HW : Hid (Below w1.heap.size w1 wb) := by rw [hwb]; exact below_al (Below.refl _ _)
        have E0 := Lib.hid (keepC (W := wb) (b := gT) (o := 0) (v := .int .i64 c) (by rw [hwb, hgT]; simp))
        have E1 := Lib.hid (keepC (W := wb) (b := gT) (o := 1) (v := .slice S ts.length cs) (by rw [hwb, hgT]; simp))
        rw [← hwb, ← hgT]
        clear hwb hgT
        have HV := Lib.hid (Below.refl wb.heap.size wb)
        have d0 := E0.out _ HV.out
        have d1 := E1.out _ HV.out
        go_wp2_with fail
        clear d0 d1
        refine (HI.out _ (HW.out.trans (HV.out.mono HW.out.size))).mono ?_
        rintro e w2 ⟨rfl, hb⟩
        replace HV := Lib.hid (HV.out.trans (hb.mono HV.out.size))
        clear hb HI
        have d0 := E0.out _ HV.out
        have d1 := E1.out _ HV.out
        go_upto_region 24 with (fail)
        go_cut [32, 33] (fun a b wx => a = .bool ov ∧ b = .int .i64 oc ∧ Hid (Below w.heap.size w wx))
        case first =>
         as_aux_lemma =>
          go_wp2_with fail
          clear d0 d1
          refine (HS.out _ (HW.out.trans (HV.out.mono HW.out.size))).mono ?_
          rintro e w3 ⟨rfl, hb⟩
          have HBe := Lib.hid (HB.out.trans ((HW.out.trans ((HV.out.trans (hb.mono HV.out.size)).mono HW.out.size)).mono HB.out.size))
          clear hb
          go_wp2_with fail
          go_meet
          case rel => exact ⟨rfl, rfl, HBe.out⟩
        case rest =>
         as_aux_lemma =>
          obtain ⟨rfl, rfl, HZ⟩ := hcut
          clear HB HW HV E0 E1 HS d0 d1
          go_wp2_with fail
          refine (DrawShrinkRows_c A cx code _ (HX.out.below HZ.out) HY.out).mono ?_
          rintro e w1 ⟨c, ts, S, cs, L, P, cp, M, R, cR, rfl, ⟨hT, hts, hR, hK, hL, hSh, hb⟩, hM, hMl, hMs⟩
          have HB := Lib.hid (HZ.out.trans (hb.mono HZ.out.size))
          obtain ⟨s1, s2, s3⟩ := shV_len c ts L M
          have hSh9 : Short 1000000000 L := fun k hk => by have := hSh k hk; omega
          have hMs9 : Short 1000000000 M := fun k hk => by have := hMs k hk; omega
          have HS6 : Hid (Short 1000000 (shV c ts L M)) := fun k hk => by have := tot_mem (List.getElem_mem hk); omega
          have HI := Lib.hid (fun W (h : Below w1.heap.size w1 W) => implShrinkRows_c c ts S cs L P cp M R cR W (hT.below h) (by omega) (hR.below h) (by omega) hSh9 (hM.below h) (by omega) hMs9)
          have HS := Lib.hid (fun W (h : Below w1.heap.size w1 W) => specShrinkRows_c c ts S cs L P cp M R cR W (hT.below h) (by omega) (hR.below h) (by omega) hSh9 (hM.below h) (by omega) hMs9)
          generalize shV c ts L M = sv at *
          generalize shC c ts L M = sc at *
          clear hT hts hR hK hL hSh hb hM hMl hMs s2 s3 hSh9 hMs9 HZ
          go_upto_region 26 with (fail)
          obtain ⟨gT, hgT⟩ : ∃ gT, gT = w1.heap.size := ⟨_, rfl⟩
          obtain ⟨wb, hwb⟩ : ∃ wb, wb = w1.alloc (.cells #[.int .i64 c, .slice S ts.length cs] 26) := ⟨_, rfl⟩
          have HW : Hid (Below w1.heap.size w1 wb) := by rw [hwb]; exact below_al (Below.refl _ _)
          have E0 := Lib.hid (keepC (W := wb) (b := gT) (o := 0) (v := .int .i64 c) (by rw [hwb, hgT]; simp))
          have E1 := Lib.hid (keepC (W := wb) (b := gT) (o := 1) (v := .slice S ts.length cs) (by rw [hwb, hgT]; simp))
          rw [← hwb, ← hgT]
          clear hwb hgT
          have HV := Lib.hid (Below.refl wb.heap.size wb)
          have d0 := E0.out _ HV.out
          have d1 := E1.out _ HV.out
          go_wp2_with fail
          clear d0 d1
          refine (HI.out _ (HW.out.trans (HV.out.mono HW.out.size))).mono ?_
          rintro e w2 ⟨v1, rfl, hO, hb⟩
          obtain ⟨A1, k1, rfl, hr⟩ := hO.rows
          have HO1 := Lib.hid hr
          replace HV := Lib.hid (HV.out.trans (hb.mono HV.out.size))
          clear hO hb hr HI
          have d0 := E0.out _ HV.out
          have d1 := E1.out _ HV.out
          go_upto_region 27 with (fail)
          go_cut [39, 40] (fun a b wx => ∃ A2 k2, a = .slice A2 sv.length k2 ∧ b = .int .i64 sc ∧ Hid (RowsC wx A1 sv) ∧ Hid (RowsC wx A2 sv) ∧ Hid (Below w.heap.size w wx))
          case first =>
           as_aux_lemma =>
            go_wp2_with fail
            clear d0 d1
            refine (HS.out _ (HW.out.trans (HV.out.mono HW.out.size))).mono ?_
            rintro e w3 ⟨v2, rfl, hO, hb⟩
            obtain ⟨A2, k2, rfl, hr⟩ := hO.rows
            have HO2 := Lib.hid hr
            replace HO1 := Lib.hid (HO1.out.below hb)
            have HBe := Lib.hid (HB.out.trans ((HW.out.trans ((HV.out.trans (hb.mono HV.out.size)).mono HW.out.size)).mono HB.out.size))
            clear hb hO hr
            go_wp2_with fail
            go_meet
            case rel => exact ⟨A2, k2, rfl, rfl, HO1.out, HO2.out, HBe.out⟩
          case rest =>
           as_aux_lemma =>
            obtain ⟨A2, k2, rfl, rfl, HO1, HO2, HZ⟩ := hcut
            clear HB HW HV E0 E1 HS d0 d1
            rename_i wz
            go_wp2_with fail
            refine (DrawGrowTile_c A cx code _ (HX.out.below HZ.out) HY.out).mono ?_
            rintro e w1 ⟨c, ts, S, cs, L, P, cp, i, n, rfl, hT, hts, hR, hK, hL, hSh, hb⟩
            have HB := Lib.hid (HZ.out.trans (hb.mono HZ.out.size))
            replace HO1 := Lib.hid (HO1.out.below hb)
            replace HO2 := Lib.hid (HO2.out.below hb)
            obtain ⟨g1, g2, g3⟩ := growV_len c ts L i n
            have l1 := numV_len c ts L i n
            have hSh9 : Short 1000000000 L := fun k hk => by have := hSh k hk; omega
            have HG6 : Hid (Short 1000000 (growV c ts L i n)) := fun k hk => by have := tot_mem (List.getElem_mem hk); omega
            have HI := Lib.hid (fun W (h : Below w1.heap.size w1 W) => implGrowTile_c c ts S cs L P cp i n W (hT.below h) (by omega) (hR.below h) (by omega) hSh9 (hK.below hR h))
            have HS := Lib.hid (fun W (h : Below w1.heap.size w1 W) => specGrowTile_c c ts S cs L P cp i n W (hT.below h) (by omega) (hR.below h) (by omega) hSh9)
            have HN := Lib.hid (fun W (h : Below w1.heap.size w1 W) => implNumbersAfter_c c ts S cs L P cp i n W (hT.below h) (by omega) (hR.below h) (by omega) hSh9)
            have F := Lib.hid (grow_facts (c := c) (ts := ts) (L := L) (i := i) (n := n))
            generalize growV c ts L i n = gv at *
            generalize growCode c ts L i n = d at *
            generalize numV c ts L i n = nv at *
            generalize numCode c ts L i n = nc at *
            clear hT hR hK hL hSh hb g2 g3 hSh9 HZ
            go_upto_region 29 with (fail)
            obtain ⟨gT, hgT⟩ : ∃ gT, gT = w1.heap.size := ⟨_, rfl⟩
            obtain ⟨wb, hwb⟩ : ∃ wb, wb = w1.alloc (.cells #[.int .i64 c, .slice S ts.length cs] 26) := ⟨_, rfl⟩
            have HW : Hid (Below w1.heap.size w1 wb) := by rw [hwb]; exact below_al (Below.refl _ _)
            have E0 := Lib.hid (keepC (W := wb) (b := gT) (o := 0) (v := .int .i64 c) (by rw [hwb, hgT]; simp))
            have E1 := Lib.hid (keepC (W := wb) (b := gT) (o := 1) (v := .slice S ts.length cs) (by rw [hwb, hgT]; simp))
            rw [← hwb, ← hgT]
            clear hwb hgT
            have HV := Lib.hid (Below.refl wb.heap.size wb)
            have d0 := E0.out _ HV.out
            have d1 := E1.out _ HV.out
            go_wp2_with fail
            clear d0 d1
            refine (HI.out _ (HW.out.trans (HV.out.mono HW.out.size))).mono ?_
            rintro e w2 ⟨v1, rfl, hO, hb⟩
            obtain ⟨A3, k3, rfl, hr⟩ := hO.rows
            have HO3 := Lib.hid hr
            replace HV := Lib.hid (HV.out.trans (hb.mono HV.out.size))
            clear hO hb hr HI
            have d0 := E0.out _ HV.out
            have d1 := E1.out _ HV.out
            go_wp2_with fail
            clear d0 d1
            refine (HS.out _ (HW.out.trans (HV.out.mono HW.out.size))).mono ?_
            rintro e w3 ⟨v2, rfl, hO, hb⟩
            obtain ⟨A4, k4, rfl, hr⟩ := hO.rows
            have HO4 := Lib.hid hr
            replace HO3 := Lib.hid (HO3.out.below hb)
            replace HV := Lib.hid (HV.out.trans (hb.mono HV.out.size))
            have HBt := Lib.hid (HW.out.trans (HV.out.mono HW.out.size))
            replace HO1 := Lib.hid (HO1.out.below HBt.out)
            replace HO2 := Lib.hid (HO2.out.below HBt.out)
            clear hO hb hr HS
            have q1 : (rc != rc) = false := by simp
            have q2 : (rv != rv) = false := by simp
            have q3 : (oc != oc) = false := by simp
            have q4 : (ov != ov) = false := by simp
            have q5 : (sc != sc) = false := by simp
            have q6 : (d != d) = false := by simp
            go_wp2_with fail
            refine (rows5_c sv A1 A2 k1 k2 _ HO1.out HO2.out (by omega) HS6.out).mono ?_
            rintro e w4 ⟨rfl, hb⟩
            replace HO3 := Lib.hid (HO3.out.below hb)
            replace HO4 := Lib.hid (HO4.out.below hb)
            replace HV := Lib.hid (HV.out.trans (hb.mono HV.out.size))
            clear hb HO1 HO2
            go_wp2_with fail
            refine (rows5_c gv A3 A4 k3 k4 _ HO3.out HO4.out (by omega) HG6.out).mono ?_
            rintro e w5 ⟨rfl, hb⟩
            replace HO3 := Lib.hid (HO3.out.below hb)
            replace HV := Lib.hid (HV.out.trans (hb.mono HV.out.size))
            replace HBt := Lib.hid (HW.out.trans (HV.out.mono HW.out.size))
            clear hb HO4 q1 q2 q3 q4 q5 q6
            by_cases hd : d = 0
            · subst hd
              obtain ⟨rfl, hIn, hcn⟩ := F.out rfl
              have HIn := Lib.hid hIn
              have HCn := Lib.hid hcn
              clear hIn hcn F
              have d0 := E0.out _ HV.out
              have d1 := E1.out _ HV.out
              go_wp2_with fail
              clear d0 d1
              refine (HN.out _ HBt.out).mono ?_
              rintro e w6 ⟨v5, rfl, hO, hb⟩
              obtain ⟨A5, k5, rfl, _, _⟩ := hO.shape
              have HO5 := Lib.hid hO.cells
              replace HO3 := Lib.hid (HO3.out.below hb)
              replace HV := Lib.hid (HV.out.trans (hb.mono HV.out.size))
              replace HBt := Lib.hid (HW.out.trans (HV.out.mono HW.out.size))
              clear hO hb HN
              have d0 := E0.out _ HV.out
              have d1 := E1.out _ HV.out
              have hmk := fun w => make_k (P := Try.prog) 40 2 _ 1 8 Try.underlying40 infoInt ts.length (by omega) (by omega) w
              go_wp2_with fail
              clear d0 d1 hmk
              obtain ⟨gC, hgC⟩ : ∃ gC, gC = w6.heap.size := ⟨_, rfl⟩
              have HC0 : Hid (Blk (w6.alloc (.cells (madeCells #[.int .i64 0] (ts.length * 1)) 2)) gC (ints (cntTo ts.length gv 0)) 2) := by
                rw [hgC, Nat.mul_one]
                have h := Blk.newA w6 (madeCells #[.int .i64 0] ts.length) 2
                rw [toList_madeCells_one] at h
                show Blk _ _ _ _
                simpa [ints, cntTo] using h
              have HB6 : Hid (Below w6.heap.size w6 (w6.alloc (.cells (madeCells #[.int .i64 0] (ts.length * 1)) 2))) := below_al (Below.refl _ _)
              have HgC := Lib.hid (show w6.heap.size ≤ gC by omega)
              rw [Nat.mul_one] at HC0 HB6
              rw [← hgC]
              clear hgC
              go_loopw [52] (fun v wr => ∃ k : Nat, k ≤ gv.length ∧ v = .int .i64 (k : Nat) ∧ Hid (Blk wr gC (ints (cntTo ts.length gv k)) 2) ∧ Hid (Below w6.heap.size w6 wr)) (fun v _ => gv.length - (intOf v).toNat)
              case atStart => exact ⟨0, by omega, rfl, HC0, HB6⟩
              case round =>
                obtain ⟨k, hk, rfl, HC, HB7⟩ := hrel
                obtain ⟨w7, rfl⟩ : ∃ w7, w7 = wr := ⟨wr, rfl⟩
                by_cases h1 : k < gv.length
                · obtain ⟨b3, o3, A6, c6, rfl, _, e3, r3⟩ := (HO3.out.below HB7.out) k h1
                  have hI3 := HIn.out k h1
                  have HI3 := Lib.hid hI3
                  have hsk := HG6.out k h1
                  have HSc := Lib.hid (cntTo_succ (N := ts.length) h1)
                  have hcl := cntTo_len ts.length gv k (by omega)
                  have HCl := Lib.hid hcl
                  have E3 := Lib.hid (fun W (h : Below w6.heap.size w6 W) => (HO3.out.below h).pair k h1)
                  clear e3 r3 hI3 hcl
                  generalize gv[k] = row at *
                  go_wp2_with fail
                  go_loopw [53] (fun v wr => ∃ q : Nat, q ≤ row.length ∧ v = .int .i64 (q : Nat) ∧ Hid (Blk wr gC (ints (addRow row 1 (cntTo ts.length gv k) q)) 2) ∧ Hid (Below w6.heap.size w6 wr)) (fun v _ => row.length - (intOf v).toNat)
                  case atStart => exact ⟨0, by omega, rfl, by rw [addRow_zero]; exact HC.out, HB7.out⟩
                  case round =>
                    obtain ⟨q, hq, rfl, HD, HB8⟩ := hrel
                    obtain ⟨A7, c7, e4, r4⟩ := E3.out _ HB8.out
                    by_cases h2 : q < row.length
                    · obtain ⟨b5, o5, rfl, _, x0⟩ := r4.int q h2
                      obtain ⟨j0, j1⟩ := HI3.out q h2
                      obtain ⟨m, hm⟩ := Int.eq_ofNat_of_zero_le j0
                      have hmN : m < ts.length := by omega
                      have hmN' : (m : Int) < (ts.length : Int) := by omega
                      have hml : m < (addRow row 1 (cntTo ts.length gv k) q).length := by rw [addRow_len, HCl.out]; exact hmN
                      have HS2 := Lib.hid (addRow_succ (y := 1) (xs := cntTo ts.length gv k) h2)
                      rw [hm, addAt_at hml] at HS2
                      rw [hm] at x0
                      have y0 := HD.out.int m hml
                      have z0 := HD.out.frozen m
                      generalize (addRow row 1 (cntTo ts.length gv k) q)[m] = x at *
                      clear hm j0 j1 r4
                      go_wp2_with fail
                      go_roundw
                      case rel => exact ⟨q + 1, by omega, by go_num, by rw [HS2.out]; exact HD.out.setInt m _, HB8.out.setCell HgC.out _⟩
                      case measure => simp [intOf]; omega
                    · obtain rfl : q = row.length := by omega
                      clear r4
                      go_wp2_with fail
                      go_roundw
                      case rel => exact ⟨k + 1, by omega, by go_num, by rw [HSc.out]; exact HD.out, HB8.out⟩
                      case measure => simp [intOf]; omega
                · obtain rfl : k = gv.length := by omega
                  rw [HCn.out] at HC
                  have HCc := Lib.hid HC.out.cells
                  have HO5' := Lib.hid (HO5.out.below HB7.out)
                  have hnl : Hid (nv.length = ts.length) := by have := cntTo_len ts.length gv gv.length (Nat.le_refl _); rw [HCn.out] at this; exact this
                  have HLk : Hid (∀ (N : Nat), N = nv.length → ∀ W, Cells W A5 (ints nv) → Cells W (some ⟨gC, 0, none⟩) (ints nv) → nv.length ≤ 1000000000 → Calls Try.prog 23 #[.slice A5 nv.length k5, .slice (some ⟨gC, 0, none⟩) N ts.length] W fun e w' => e = .returned (.bool true) ∧ Below W.heap.size W w') := fun N hN W a1 a2 a3 => by
                    subst hN
                    have := likeInts_c nv nv A5 (some ⟨gC, 0, none⟩) k5 ts.length W a1 a2 a3 a3
                    rwa [eqL_refl] at this
                  replace HLk := Lib.hid (HLk.out ts.length hnl.out.symm)
                  go_wp2_with fail
                  refine (HLk.out _ HO5'.out HCc.out (by rw [hnl.out]; omega)).mono ?_
                  rintro e w8 ⟨rfl, hb⟩
                  have HBe := Lib.hid (HB.out.trans ((HBt.out.trans ((HB7.out.trans (hb.mono HB7.out.size)).mono HBt.out.size)).mono HB.out.size))
                  clear hb
                  go_wp2_with fail
                  go_ret
                  exact ⟨rfl, HBe.out⟩
            · replace hd : (d == 0) = false := by simp [hd]
              have HBe := Lib.hid (HB.out.trans (HBt.out.mono HB.out.size))
              go_wp2_with fail
              go_ret
              exact ⟨rfl, HBe.out⟩

end Go.Proofs.Ytkgnejhflnekaaa
