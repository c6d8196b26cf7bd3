/- Contracts and lemmas for the statements of this seat, written for this claim; each theorem states its own conditions. -/
import Derived.Deep.Cut
import Derived.Deep.CutBlock
import Derived.Deep.DeepCutAuto
import Derived.Test.YtkgnejhflnekaaaGreatMuD3
import Derived.Test.YtkgnejhflnekaaaGreatMuD4
import Derived.Test.YtkgnejhflnekaaaGreatMuD6
import Derived.Test.YtkgnejhflnekaaaGreatMuK3
set_option linter.unusedVariables false
set_option linter.unusedSimpArgs false
namespace Go.Proofs.YtkgnejhflnekaaaGreat
open Go.RowKit
attribute [local go_sem] addUpon_value addUpon_skip addUpon_enter
set_option maxRecDepth 100000 in
set_option maxHeartbeats 40000000 in
theorem law_FnMultiplying (code : List Int) (A : Option Addr) (cx : Nat) (w : World) (hX : BytesC w A code) (hl : code.length ≤ 9223372036854775807) (hby : ∀ x ∈ code, 0 ≤ x ∧ x < 256) :
    Calls Tryz.prog 5 #[.slice A code.length cx] w fun e w' => e = .returned (.bool true) ∧ Below w.heap.size w w' := by
  have H0 := Lib.hid (big_c code.length cx A w hl)
  by_cases hbig : (code.length : Int) > 4096
  · rw [show decide ((code.length : Int) > 4096) = true by simp [hbig]] at H0
    go_enter Tryz.func5, Tryz.ntmps5
    go_wp2_with fail
    refine H0.out.mono ?_
    rintro e w1 ⟨rfl, rfl⟩
    go_wp2
    go_ret
    exact ⟨rfl, Below.refl _ _⟩
  · rw [show decide ((code.length : Int) > 4096) = false by simp [hbig]] at H0
    have HX := Lib.hid hX
    have HY := Lib.hid (show BytesOk code from ⟨by omega, hby⟩)
    clear hX hby hbig hl
    go_enter Tryz.func5, Tryz.ntmps5
    go_wp2_with fail
    refine H0.out.mono ?_
    rintro e w0 ⟨rfl, rfl⟩
    clear H0
    go_wp2_with fail
    refine (DrawMultiplyingSet_c A cx code _ HX.out HY.out).mono ?_
    rintro e w1 ⟨pA, qA, m, n, u, v, rfl, hb⟩
    have HB := Lib.hid hb
    have FA := Lib.hid (ms_facts (p := pA) (q := qA) (m := m) (n := n) (u := u) (v := v))
    have lA := msSet_le pA qA m n u v
    have HI := Lib.hid (fun W => implMultiplyingSet_c pA qA m n u v W)
    have HS := Lib.hid (fun W => specMultiplyingSet_c pA qA m n u v W)
    generalize msSet pA qA m n u v = tA at *
    generalize msCol pA qA m n u v = cA at *
    generalize msCode pA qA m n u v = dA at *
    clear hb
    go_wp2_with fail
    refine (HI.out _).mono ?_
    rintro e w2 ⟨A9, k9, rfl, hO, hb⟩
    replace HB := Lib.hid (HB.out.trans (hb.mono HB.out.size))
    have TA := Lib.hid (OwnT.cells hO)
    clear hO hb HI
    go_upto_region 5 with (fail)
    obtain ⟨g9, hg9⟩ : ∃ g9, g9 = w2.heap.size := ⟨_, rfl⟩
    obtain ⟨w3, hw3⟩ : ∃ w3, w3 = w2.alloc (.cells #[.int .i64 cA, .slice A9 tA.length k9] 26) := ⟨_, rfl⟩
    have hb : Below w2.heap.size w2 w3 := by rw [hw3]; exact below_al (Below.refl _ _)
    have KA : Hid (Blk w3 g9 [.int .i64 cA, .slice A9 tA.length k9] 26) := by rw [hw3, hg9]; exact Blk.newA _ _ _
    rw [← hw3, ← hg9]
    clear hw3 hg9
    replace TA := Lib.hid (TA.out.below hb)
    replace HB := Lib.hid (HB.out.trans (hb.mono HB.out.size))
    clear hb
    go_wp2_with fail
    refine (HS.out _).mono ?_
    rintro e w4 ⟨A11, k11, rfl, hO, hb⟩
    replace KA := Lib.hid (KA.out.under hb)
    replace TA := Lib.hid (TA.out.below hb)
    replace HB := Lib.hid (HB.out.trans (hb.mono HB.out.size))
    have TX := Lib.hid (OwnT.cells hO)
    clear hO hb HS
    go_upto_region 6 with (fail)
    obtain ⟨gX, hgX⟩ : ∃ gX, gX = w4.heap.size := ⟨_, rfl⟩
    obtain ⟨w5, hw5⟩ : ∃ w5, w5 = w4.alloc (.cells #[.int .i64 cA, .slice A11 tA.length k11] 26) := ⟨_, rfl⟩
    have hb : Below w4.heap.size w4 w5 := by rw [hw5]; exact below_al (Below.refl _ _)
    have KX : Hid (Blk w5 gX [.int .i64 cA, .slice A11 tA.length k11] 26) := by rw [hw5, hgX]; exact Blk.newA _ _ _
    rw [← hw5, ← hgX]
    clear hw5 hgX
    replace KA := Lib.hid (KA.out.under hb)
    replace TA := Lib.hid (TA.out.below hb)
    replace HB := Lib.hid (HB.out.trans (hb.mono HB.out.size))
    replace TX := Lib.hid (TX.out.below hb)
    clear hb
    have a0 := KA.out.cell 0 (by simp)
    have a1 := KA.out.cell 1 (by simp)
    simp only [List.getElem_cons_zero, List.getElem_cons_succ] at a0 a1
    have x0 := KX.out.cell 0 (by simp)
    have x1 := KX.out.cell 1 (by simp)
    simp only [List.getElem_cons_zero, List.getElem_cons_succ] at x0 x1
    have hdd : (dA != dA) = false := by simp
    go_wp2_with fail
    clear a0 a1 x0 x1 hdd
    refine (set9_c cA tA A9 A11 k9 k11 _ TA.out TX.out (by omega)).mono ?_
    rintro e w6 ⟨rfl, hb⟩
    replace KA := Lib.hid (KA.out.under hb)
    replace TA := Lib.hid (TA.out.below hb)
    replace HB := Lib.hid (HB.out.trans (hb.mono HB.out.size))
    clear hb KX TX
    go_upto_if 98 with (fail)
    go_cut [] (fun wx => wx = w6)
    case first =>
     as_aux_lemma =>
      go_wp2_with fail
      go_meet
      case rel => exact rfl
    case rest =>
     as_aux_lemma =>
      obtain rfl := hcut
      go_wp2_with fail
      refine (DrawNumberRow_c A cx code _ (HX.out.below HB.out) HY.out).mono ?_
      rintro e w1 ⟨pB, qB, aB, bB, sB, nB, rfl, hb⟩
      replace KA := Lib.hid (KA.out.under hb)
      replace TA := Lib.hid (TA.out.below hb)
      replace HB := Lib.hid (HB.out.trans (hb.mono HB.out.size))
      clear hb
      have FB := Lib.hid (nr_facts (p := pB) (q := qB) (a := aB) (b := bB) (s := sB) (n := nB))
      have lB := nrSet_len pB qB aB bB sB nB
      have rB := nrRow_len pB qB aB bB sB nB
      have HI := Lib.hid (fun W => implNumberRow_c pB qB aB bB sB nB W)
      have HS := Lib.hid (fun W => specNumberRow_c pB qB aB bB sB nB W)
      generalize nrSet pB qB aB bB sB nB = tB at *
      generalize nrCol pB qB aB bB sB nB = cB at *
      generalize nrRow pB qB aB bB sB nB = row at *
      generalize nrCode pB qB aB bB sB nB = dB at *
      go_wp2_with fail
      refine (HI.out _).mono ?_
      rintro e w2 ⟨A19, k19, v20, rfl, hO, hR, -, hb⟩
      replace KA := Lib.hid (KA.out.under hb)
      replace TA := Lib.hid (TA.out.below hb)
      replace HB := Lib.hid (HB.out.trans (hb.mono HB.out.size))
      obtain ⟨A20, k20, rfl, -, -⟩ := hR.shape
      have TB := Lib.hid (OwnT.cells hO)
      have CB := Lib.hid hR.cells
      clear hO hR hb HI
      go_upto_region 10 with (fail)
      obtain ⟨g19, hg19⟩ : ∃ g19, g19 = w2.heap.size := ⟨_, rfl⟩
      obtain ⟨w3, hw3⟩ : ∃ w3, w3 = w2.alloc (.cells #[.int .i64 cB, .slice A19 tB.length k19] 26) := ⟨_, rfl⟩
      have hb : Below w2.heap.size w2 w3 := by rw [hw3]; exact below_al (Below.refl _ _)
      have KB : Hid (Blk w3 g19 [.int .i64 cB, .slice A19 tB.length k19] 26) := by rw [hw3, hg19]; exact Blk.newA _ _ _
      rw [← hw3, ← hg19]
      clear hw3 hg19
      replace KA := Lib.hid (KA.out.under hb)
      replace TA := Lib.hid (TA.out.below hb)
      replace HB := Lib.hid (HB.out.trans (hb.mono HB.out.size))
      replace TB := Lib.hid (TB.out.below hb)
      replace CB := Lib.hid (CB.out.below hb)
      clear hb
      go_wp2_with fail
      refine (HS.out _).mono ?_
      rintro e w4 ⟨A22, k22, v23, rfl, hO, hR, -, hb⟩
      replace KA := Lib.hid (KA.out.under hb)
      replace TA := Lib.hid (TA.out.below hb)
      replace HB := Lib.hid (HB.out.trans (hb.mono HB.out.size))
      replace KB := Lib.hid (KB.out.under hb)
      replace TB := Lib.hid (TB.out.below hb)
      replace CB := Lib.hid (CB.out.below hb)
      obtain ⟨A23, k23, rfl, -, -⟩ := hR.shape
      have TX := Lib.hid (OwnT.cells hO)
      have CX := Lib.hid hR.cells
      clear hO hR hb HS
      go_upto_region 11 with (fail)
      obtain ⟨gX, hgX⟩ : ∃ gX, gX = w4.heap.size := ⟨_, rfl⟩
      obtain ⟨w5, hw5⟩ : ∃ w5, w5 = w4.alloc (.cells #[.int .i64 cB, .slice A22 tB.length k22] 26) := ⟨_, rfl⟩
      have hb : Below w4.heap.size w4 w5 := by rw [hw5]; exact below_al (Below.refl _ _)
      have KX : Hid (Blk w5 gX [.int .i64 cB, .slice A22 tB.length k22] 26) := by rw [hw5, hgX]; exact Blk.newA _ _ _
      rw [← hw5, ← hgX]
      clear hw5 hgX
      replace KA := Lib.hid (KA.out.under hb)
      replace TA := Lib.hid (TA.out.below hb)
      replace HB := Lib.hid (HB.out.trans (hb.mono HB.out.size))
      replace KB := Lib.hid (KB.out.under hb)
      replace TB := Lib.hid (TB.out.below hb)
      replace CB := Lib.hid (CB.out.below hb)
      replace TX := Lib.hid (TX.out.below hb)
      replace CX := Lib.hid (CX.out.below hb)
      clear hb
      have b0 := KB.out.cell 0 (by simp)
      have b1 := KB.out.cell 1 (by simp)
      simp only [List.getElem_cons_zero, List.getElem_cons_succ] at b0 b1
      have x0 := KX.out.cell 0 (by simp)
      have x1 := KX.out.cell 1 (by simp)
      simp only [List.getElem_cons_zero, List.getElem_cons_succ] at x0 x1
      have hdd : (dB != dB) = false := by simp
      go_wp2_with fail
      clear b0 b1 x0 x1 hdd
      refine (set9_c cB tB A19 A22 k19 k22 _ TB.out TX.out (by omega)).mono ?_
      rintro e w6 ⟨rfl, hb⟩
      replace KA := Lib.hid (KA.out.under hb)
      replace TA := Lib.hid (TA.out.below hb)
      replace HB := Lib.hid (HB.out.trans (hb.mono HB.out.size))
      replace KB := Lib.hid (KB.out.under hb)
      replace TB := Lib.hid (TB.out.below hb)
      replace CB := Lib.hid (CB.out.below hb)
      replace CX := Lib.hid (CX.out.below hb)
      clear hb KX TX
      go_wp2_with fail
      refine (likeInts_c row row A20 A23 k20 k23 _ CB.out CX.out (by omega) (by omega)).mono ?_
      rintro e w7 ⟨rfl, hb⟩
      rw [eqL_refl]
      replace KA := Lib.hid (KA.out.under hb)
      replace TA := Lib.hid (TA.out.below hb)
      replace HB := Lib.hid (HB.out.trans (hb.mono HB.out.size))
      replace KB := Lib.hid (KB.out.under hb)
      replace TB := Lib.hid (TB.out.below hb)
      replace CB := Lib.hid (CB.out.below hb)
      clear hb CX
      go_upto_if 144 with (fail)
      go_cut [] (fun wx => wx = w7)
      case first =>
       as_aux_lemma =>
        go_wp2_with fail
        go_meet
        case rel => exact rfl
      case rest =>
       as_aux_lemma =>
        obtain rfl := hcut
        go_wp2_with fail
        refine (DrawBalanceOfRow_c A cx code _ (HX.out.below HB.out) HY.out).mono ?_
        rintro e w1 ⟨cC, tC, AC, kC, line, RL, kL, pC, qC, rfl, ⟨hT, lC, hb⟩, hR, lL⟩
        replace KA := Lib.hid (KA.out.under hb)
        replace TA := Lib.hid (TA.out.below hb)
        replace HB := Lib.hid (HB.out.trans (hb.mono HB.out.size))
        replace KB := Lib.hid (KB.out.under hb)
        replace TB := Lib.hid (TB.out.below hb)
        replace CB := Lib.hid (CB.out.below hb)
        have TC := Lib.hid hT
        have CX := Lib.hid hR
        clear hb hT hR
        have FC := Lib.hid (balrow_facts (c := cC) (ts := tC) (row := line) (p := pC) (q := qC))
        have HI := Lib.hid (fun W (h1 : TileCells W AC tC) (h2 : Cells W RL (ints line)) => implBalanceOfRow_c cC tC AC kC line RL kL pC qC W h1 h2 (by omega) (by omega))
        have HS := Lib.hid (fun W (h1 : TileCells W AC tC) (h2 : Cells W RL (ints line)) => specBalanceOfRow_c cC tC AC kC line RL kL pC qC W h1 h2 (by omega) (by omega))
        generalize balRowV cC tC line pC qC = bv at *
        generalize codeB (isSetB cC tC) (isRowB tC line && fiveB pC qC) = dC at *
        go_upto_region 14 with (fail)
        obtain ⟨g25, hg25⟩ : ∃ g25, g25 = w1.heap.size := ⟨_, rfl⟩
        obtain ⟨w2, hw2⟩ : ∃ w2, w2 = w1.alloc (.cells #[.int .i64 cC, .slice AC tC.length kC] 26) := ⟨_, rfl⟩
        have hb : Below w1.heap.size w1 w2 := by rw [hw2]; exact below_al (Below.refl _ _)
        have KC : Hid (Blk w2 g25 [.int .i64 cC, .slice AC tC.length kC] 26) := by rw [hw2, hg25]; exact Blk.newA _ _ _
        rw [← hw2, ← hg25]
        clear hw2 hg25
        replace KA := Lib.hid (KA.out.under hb)
        replace TA := Lib.hid (TA.out.below hb)
        replace HB := Lib.hid (HB.out.trans (hb.mono HB.out.size))
        replace KB := Lib.hid (KB.out.under hb)
        replace TB := Lib.hid (TB.out.below hb)
        replace CB := Lib.hid (CB.out.below hb)
        replace TC := Lib.hid (TC.out.below hb)
        replace CX := Lib.hid (CX.out.below hb)
        clear hb
        have c0 := KC.out.cell 0 (by simp)
        have c1 := KC.out.cell 1 (by simp)
        simp only [List.getElem_cons_zero, List.getElem_cons_succ] at c0 c1
        go_wp2_with fail
        clear c0 c1
        refine (HI.out _ TC.out CX.out).mono ?_
        rintro e w3 ⟨rfl, hb⟩
        replace KA := Lib.hid (KA.out.under hb)
        replace TA := Lib.hid (TA.out.below hb)
        replace HB := Lib.hid (HB.out.trans (hb.mono HB.out.size))
        replace KB := Lib.hid (KB.out.under hb)
        replace TB := Lib.hid (TB.out.below hb)
        replace CB := Lib.hid (CB.out.below hb)
        replace KC := Lib.hid (KC.out.under hb)
        replace TC := Lib.hid (TC.out.below hb)
        replace CX := Lib.hid (CX.out.below hb)
        clear hb HI
        have c0 := KC.out.cell 0 (by simp)
        have c1 := KC.out.cell 1 (by simp)
        simp only [List.getElem_cons_zero, List.getElem_cons_succ] at c0 c1
        go_wp2_with fail
        clear c0 c1
        refine (HS.out _ TC.out CX.out).mono ?_
        rintro e w4 ⟨rfl, hb⟩
        replace KA := Lib.hid (KA.out.under hb)
        replace TA := Lib.hid (TA.out.below hb)
        replace HB := Lib.hid (HB.out.trans (hb.mono HB.out.size))
        replace KB := Lib.hid (KB.out.under hb)
        replace TB := Lib.hid (TB.out.below hb)
        replace CB := Lib.hid (CB.out.below hb)
        replace KC := Lib.hid (KC.out.under hb)
        replace TC := Lib.hid (TC.out.below hb)
        clear hb HS CX
        have h1 : (dC != dC) = false := by simp
        have h2 : (bv != bv) = false := by simp
        go_upto_if 175 with (fail)
        go_cut [] (fun wx => wx = w4)
        case first =>
         as_aux_lemma =>
          go_wp2_with fail
          go_meet
          case rel => exact rfl
        case rest =>
         as_aux_lemma =>
          obtain rfl := hcut
          clear h1 h2
          go_wp2_with fail
          refine (DrawIsBalanced_c A cx code _ (HX.out.below HB.out) HY.out).mono ?_
          rintro e w1 ⟨cX, tX, AX, kX, ⟨hT, lX, hb⟩, pX, qX, rfl⟩
          replace KA := Lib.hid (KA.out.under hb)
          replace TA := Lib.hid (TA.out.below hb)
          replace HB := Lib.hid (HB.out.trans (hb.mono HB.out.size))
          replace KB := Lib.hid (KB.out.under hb)
          replace TB := Lib.hid (TB.out.below hb)
          replace CB := Lib.hid (CB.out.below hb)
          replace KC := Lib.hid (KC.out.under hb)
          replace TC := Lib.hid (TC.out.below hb)
          have TX := Lib.hid hT
          clear hb hT
          have HI := Lib.hid (fun W (h1 : TileCells W AX tX) => implIsBalanced_c cX tX AX kX pX qX W h1 (by omega))
          have HS := Lib.hid (fun W (h1 : TileCells W AX tX) => specIsBalanced_c cX tX AX kX pX qX W h1 (by omega))
          generalize isBalV cX tX pX qX = bX at *
          generalize codeB (isSetB cX tX) (fiveB pX qX) = dX at *
          go_upto_region 19 with (fail)
          obtain ⟨gX, hgX⟩ : ∃ gX, gX = w1.heap.size := ⟨_, rfl⟩
          obtain ⟨w2, hw2⟩ : ∃ w2, w2 = w1.alloc (.cells #[.int .i64 cX, .slice AX tX.length kX] 26) := ⟨_, rfl⟩
          have hb : Below w1.heap.size w1 w2 := by rw [hw2]; exact below_al (Below.refl _ _)
          have KZ : Hid (Blk w2 gX [.int .i64 cX, .slice AX tX.length kX] 26) := by rw [hw2, hgX]; exact Blk.newA _ _ _
          rw [← hw2, ← hgX]
          clear hw2 hgX
          replace KA := Lib.hid (KA.out.under hb)
          replace TA := Lib.hid (TA.out.below hb)
          replace HB := Lib.hid (HB.out.trans (hb.mono HB.out.size))
          replace KB := Lib.hid (KB.out.under hb)
          replace TB := Lib.hid (TB.out.below hb)
          replace CB := Lib.hid (CB.out.below hb)
          replace KC := Lib.hid (KC.out.under hb)
          replace TC := Lib.hid (TC.out.below hb)
          replace TX := Lib.hid (TX.out.below hb)
          clear hb
          have z0 := KZ.out.cell 0 (by simp)
          have z1 := KZ.out.cell 1 (by simp)
          simp only [List.getElem_cons_zero, List.getElem_cons_succ] at z0 z1
          go_wp2_with fail
          clear z0 z1
          refine (HI.out _ TX.out).mono ?_
          rintro e w3 ⟨rfl, hb⟩
          replace KA := Lib.hid (KA.out.under hb)
          replace TA := Lib.hid (TA.out.below hb)
          replace HB := Lib.hid (HB.out.trans (hb.mono HB.out.size))
          replace KB := Lib.hid (KB.out.under hb)
          replace TB := Lib.hid (TB.out.below hb)
          replace CB := Lib.hid (CB.out.below hb)
          replace KC := Lib.hid (KC.out.under hb)
          replace TC := Lib.hid (TC.out.below hb)
          replace TX := Lib.hid (TX.out.below hb)
          replace KZ := Lib.hid (KZ.out.under hb)
          clear hb HI
          have z0 := KZ.out.cell 0 (by simp)
          have z1 := KZ.out.cell 1 (by simp)
          simp only [List.getElem_cons_zero, List.getElem_cons_succ] at z0 z1
          go_wp2_with fail
          clear z0 z1
          refine (HS.out _ TX.out).mono ?_
          rintro e w4 ⟨rfl, hb⟩
          replace KA := Lib.hid (KA.out.under hb)
          replace TA := Lib.hid (TA.out.below hb)
          replace HB := Lib.hid (HB.out.trans (hb.mono HB.out.size))
          replace KB := Lib.hid (KB.out.under hb)
          replace TB := Lib.hid (TB.out.below hb)
          replace CB := Lib.hid (CB.out.below hb)
          replace KC := Lib.hid (KC.out.under hb)
          replace TC := Lib.hid (TC.out.below hb)
          clear hb HS TX KZ
          have h1 : (dX != dX) = false := by simp
          have h2 : (bX != bX) = false := by simp
          go_upto_if 203 with (fail)
          go_cut [] (fun wx => wx = w4)
          case first =>
           as_aux_lemma =>
            go_wp2_with fail
            go_meet
            case rel => exact rfl
          case rest =>
           as_aux_lemma =>
            obtain rfl := hcut
            clear h1 h2
            go_wp2_with fail
            refine (DrawFactorsOf_c A cx code _ (HX.out.below HB.out) HY.out).mono ?_
            rintro e w1 ⟨cZ, tZ, AZ, kZ, ⟨hT, lZ, hb⟩, rfl⟩
            replace KA := Lib.hid (KA.out.under hb)
            replace TA := Lib.hid (TA.out.below hb)
            replace HB := Lib.hid (HB.out.trans (hb.mono HB.out.size))
            replace KB := Lib.hid (KB.out.under hb)
            replace TB := Lib.hid (TB.out.below hb)
            replace CB := Lib.hid (CB.out.below hb)
            replace KC := Lib.hid (KC.out.under hb)
            replace TC := Lib.hid (TC.out.below hb)
            have TZ := Lib.hid hT
            clear hb hT
            have FZ := Lib.hid (fac_facts (c := cZ) (ts := tZ))
            obtain ⟨f1, f2⟩ := facV_small cZ tZ
            have LZ := Lib.hid f2
            have HI := Lib.hid (fun W (h1 : TileCells W AZ tZ) => implFactorsOf_c cZ tZ AZ kZ W h1 (by omega))
            have HS := Lib.hid (fun W (h1 : TileCells W AZ tZ) => specFactorsOf_c cZ tZ AZ kZ W h1 (by omega))
            generalize facV cZ tZ = fs at *
            generalize facCode cZ tZ = dZ at *
            clear f2
            go_upto_region 24 with (fail)
            obtain ⟨g40, hg40⟩ : ∃ g40, g40 = w1.heap.size := ⟨_, rfl⟩
            obtain ⟨w2, hw2⟩ : ∃ w2, w2 = w1.alloc (.cells #[.int .i64 cZ, .slice AZ tZ.length kZ] 26) := ⟨_, rfl⟩
            have hb : Below w1.heap.size w1 w2 := by rw [hw2]; exact below_al (Below.refl _ _)
            have KZ : Hid (Blk w2 g40 [.int .i64 cZ, .slice AZ tZ.length kZ] 26) := by rw [hw2, hg40]; exact Blk.newA _ _ _
            rw [← hw2, ← hg40]
            clear hw2 hg40
            replace KA := Lib.hid (KA.out.under hb)
            replace TA := Lib.hid (TA.out.below hb)
            replace HB := Lib.hid (HB.out.trans (hb.mono HB.out.size))
            replace KB := Lib.hid (KB.out.under hb)
            replace TB := Lib.hid (TB.out.below hb)
            replace CB := Lib.hid (CB.out.below hb)
            replace KC := Lib.hid (KC.out.under hb)
            replace TC := Lib.hid (TC.out.below hb)
            replace TZ := Lib.hid (TZ.out.below hb)
            clear hb
            have z0 := KZ.out.cell 0 (by simp)
            have z1 := KZ.out.cell 1 (by simp)
            simp only [List.getElem_cons_zero, List.getElem_cons_succ] at z0 z1
            go_wp2_with fail
            clear z0 z1
            refine (HI.out _ TZ.out).mono ?_
            rintro e w3 ⟨v41, rfl, hO, hb⟩
            obtain ⟨A41, k41, rfl, hr⟩ := hO.rows
            have RZ := Lib.hid hr
            replace KA := Lib.hid (KA.out.under hb)
            replace TA := Lib.hid (TA.out.below hb)
            replace HB := Lib.hid (HB.out.trans (hb.mono HB.out.size))
            replace KB := Lib.hid (KB.out.under hb)
            replace TB := Lib.hid (TB.out.below hb)
            replace CB := Lib.hid (CB.out.below hb)
            replace KC := Lib.hid (KC.out.under hb)
            replace TC := Lib.hid (TC.out.below hb)
            replace TZ := Lib.hid (TZ.out.below hb)
            replace KZ := Lib.hid (KZ.out.under hb)
            clear hb HI hO hr
            have z0 := KZ.out.cell 0 (by simp)
            have z1 := KZ.out.cell 1 (by simp)
            simp only [List.getElem_cons_zero, List.getElem_cons_succ] at z0 z1
            go_wp2_with fail
            clear z0 z1
            refine (HS.out _ TZ.out).mono ?_
            rintro e w4 ⟨v43, rfl, hO, hb⟩
            obtain ⟨A43, k43, rfl, hr⟩ := hO.rows
            have RX := Lib.hid hr
            replace KA := Lib.hid (KA.out.under hb)
            replace TA := Lib.hid (TA.out.below hb)
            replace HB := Lib.hid (HB.out.trans (hb.mono HB.out.size))
            replace KB := Lib.hid (KB.out.under hb)
            replace TB := Lib.hid (TB.out.below hb)
            replace CB := Lib.hid (CB.out.below hb)
            replace KC := Lib.hid (KC.out.under hb)
            replace TC := Lib.hid (TC.out.below hb)
            replace TZ := Lib.hid (TZ.out.below hb)
            replace KZ := Lib.hid (KZ.out.under hb)
            replace RZ := Lib.hid (RZ.out.below hb)
            clear hb HS hO hr
            have hdd : (dZ != dZ) = false := by simp
            go_wp2_with fail
            refine (rows9_c fs A41 A43 k41 k43 _ RZ.out RX.out (by omega) LZ.out).mono ?_
            rintro e w5 ⟨rfl, hb⟩
            replace KA := Lib.hid (KA.out.under hb)
            replace TA := Lib.hid (TA.out.below hb)
            replace HB := Lib.hid (HB.out.trans (hb.mono HB.out.size))
            replace KB := Lib.hid (KB.out.under hb)
            replace TB := Lib.hid (TB.out.below hb)
            replace CB := Lib.hid (CB.out.below hb)
            replace KC := Lib.hid (KC.out.under hb)
            replace TC := Lib.hid (TC.out.below hb)
            replace TZ := Lib.hid (TZ.out.below hb)
            replace KZ := Lib.hid (KZ.out.under hb)
            replace RZ := Lib.hid (RZ.out.below hb)
            clear hb RX hdd
            go_upto_if 224 with (fail)
            go_cut [] (fun wx => wx = w5)
            case first =>
             as_aux_lemma =>
              go_wp2_with fail
              go_meet
              case rel => exact rfl
            case rest =>
             as_aux_lemma =>
              obtain rfl := hcut.symm
              go_upto_block 0 with (fail)
              go_cut [] (fun wx => Hid (Below w5.heap.size w5 wx))
              case first =>
               as_aux_lemma =>
                go_wp2_with fail
                go_loopw [45] (fun i wr => ∃ k : Nat, k ≤ fs.length ∧ i = .int .i64 (k : Nat) ∧ Hid (Below w5.heap.size w5 wr)) (fun i _ => fs.length - (intOf i).toNat)
                case atStart => exact ⟨0, by omega, rfl, Below.refl _ _⟩
                case round =>
                  obtain ⟨k, hk, rfl, HR⟩ := hrel
                  by_cases h1 : k < fs.length
                  · obtain ⟨pZ, qZ, ef, f4, f5⟩ := FZ.out k h1
                    obtain ⟨b, off, A6, c6, rfl, _, e0, r0⟩ := (RZ.out.below HR.out) k h1
                    rw [ef] at e0 r0
                    obtain ⟨b6, o6, rfl, _, g0⟩ := r0.int 0 (by simp)
                    obtain ⟨b6', o6', q6, _, g1⟩ := r0.int 1 (by simp)
                    injection q6 with q6; injection q6 with q6 q6'; subst q6 q6'
                    replace e0 : wr.cell? ⟨b, off + k, none⟩ = some (.slice (some ⟨b6, o6, none⟩) 2 c6) := e0
                    simp only [List.getElem_cons_zero, List.getElem_cons_succ, Nat.add_zero] at g0 g1
                    have HQ := Lib.hid (fun W (h : Below wr.heap.size wr W) => implIsBalanced_c cZ tZ AZ kZ pZ qZ W ((TZ.out.below HR.out).below h) (by omega))
                    rw [f4, f5] at HQ
                    have z0 := (KZ.out.under HR.out).cell 0 (by simp)
                    have z1 := (KZ.out.under HR.out).cell 1 (by simp)
                    simp only [List.getElem_cons_zero, List.getElem_cons_succ] at z0 z1
                    have p0 := keepC e0
                    have p1 := keepC g0
                    have p2 := keepC g1
                    have p3 := keepC z0
                    have p4 := keepC z1
                    clear ef f4 f5 r0 e0 g0 g1 z0 z1
                    go_wp2_with fail
                    refine wp_region_add (fun w' => Below (wr).heap.size (wr) w') (by kernel_rfl) (by kernel_rfl) ((Below.refl _ _).drew) ?_
                    repeat (first
                      | (refine add_skip rfl (fun K' hK' => ?_); go_simp; refine hK' _ ?_; clear hK' K')
                      | (refine add_do (v := ?_) rfl (fun w1 hb => ?_) (fun K' hK' => ?_); rotate_left
                         · go_simp
                           first
                           | (with_reducible exact rfl)
                           | (with_reducible exact ⟨rfl, hb⟩)
                           | (with_reducible exact (addCall (HQ.out w1 hb) hb).2)
                           | exact (addCall (HQ.out w1 hb) hb).2
                           | exact rfl
                           | exact ⟨rfl, hb⟩
                         go_simp; refine hK' _ ?_; clear hK' K'))
                    refine add_nil ?_
                    intro wa hba
                    have HR2 := Lib.hid (HR.out.trans (hba.mono HR.out.size))
                    clear hba p0 p1 p2 p3 p4
                    go_wp2_with fail
                    go_roundw
                    case rel => exact ⟨k + 1, by omega, by go_num, HR2⟩
                    case measure => simp [intOf]; omega
                  · go_wp2_with fail
                    go_meet
                    case rel => exact HR
              case rest =>
               as_aux_lemma =>
                have hb := hcut.out
                replace KA := Lib.hid (KA.out.under hb)
                replace TA := Lib.hid (TA.out.below hb)
                replace HB := Lib.hid (HB.out.trans (hb.mono HB.out.size))
                replace KB := Lib.hid (KB.out.under hb)
                replace TB := Lib.hid (TB.out.below hb)
                replace CB := Lib.hid (CB.out.below hb)
                replace KC := Lib.hid (KC.out.under hb)
                replace TC := Lib.hid (TC.out.below hb)
                clear hcut hb KZ TZ RZ FZ LZ
                obtain ⟨wG, rfl⟩ : ∃ q, q = wc := ⟨_, rfl⟩
                go_upto_if 255 with (fail)
                go_cut [] (fun wx => Hid (Below wG.heap.size wG wx))
                case first =>
                 as_aux_lemma =>
                  by_cases hd : dC = 0
                  · obtain ⟨f4, f5⟩ := FC.out hd
                    have hd' : (dC == 0) = true := by simp [hd]
                    have HQ := Lib.hid (implIsBalanced_c cC tC AC kC pC qC _ TC.out (by omega))
                    rw [f4] at HQ
                    clear hd f4
                    generalize isBalV cC tC pC qC = bb at *
                    have c0 := KC.out.cell 0 (by simp)
                    have c1 := KC.out.cell 1 (by simp)
                    simp only [List.getElem_cons_zero, List.getElem_cons_succ] at c0 c1
                    cases bb
                    · clear f5
                      go_wp2_with fail
                      clear c0 c1
                      refine HQ.out.mono ?_
                      rintro e w8 ⟨rfl, hb⟩
                      have HR := Lib.hid hb
                      clear hb
                      go_wp2_with fail
                      go_meet
                      case rel => exact HR
                    · obtain rfl := f5 rfl
                      go_wp2_with fail
                      clear c0 c1
                      refine HQ.out.mono ?_
                      rintro e w8 ⟨rfl, hb⟩
                      have HR := Lib.hid hb
                      clear hb
                      go_wp2_with fail
                      go_meet
                      case rel => exact HR
                  · replace hd : (dC == 0) = false := by simp [hd]
                    go_wp2_with fail
                    go_meet
                    case rel => exact Below.refl _ _
                case rest =>
                 as_aux_lemma =>
                  have hb := hcut.out
                  replace KA := Lib.hid (KA.out.under hb)
                  replace TA := Lib.hid (TA.out.below hb)
                  replace HB := Lib.hid (HB.out.trans (hb.mono HB.out.size))
                  replace KB := Lib.hid (KB.out.under hb)
                  replace TB := Lib.hid (TB.out.below hb)
                  replace CB := Lib.hid (CB.out.below hb)
                  clear hcut hb KC TC FC
                  obtain ⟨wH, rfl⟩ : ∃ q, q = wc := ⟨_, rfl⟩
                  go_upto_if 273 with (fail)
                  go_cut [] (fun wx => Hid (Below wH.heap.size wH wx))
                  case first =>
                   as_aux_lemma =>
                    by_cases hd : dB = 0
                    · obtain ⟨f1, f2, f3, f4, f5⟩ := FB.out hd
                      have hd' : (dB == 0) = true := by simp [hd]
                      have H1 := Lib.hid (fun W (h : Below wH.heap.size wH W) => implWordsOfRow_c cB tB A19 k19 row A20 k20 W (TB.out.below h) (by omega) (CB.out.below h) (by omega))
                      have H2 := Lib.hid (fun W => implDigitsOf_c aB bB sB nB W)
                      have H3 := Lib.hid (fun W (h : Below wH.heap.size wH W) => implBalanceOfRow_c cB tB A19 k19 row A20 k20 pB qB W (TB.out.below h) (CB.out.below h) (by omega) (by omega))
                      have l3 := digXs_l20 aB bB sB nB
                      rw [f1, f2] at H1
                      rw [f3] at H2
                      rw [f4, f5] at H3
                      clear f1 f2 f3 f4 f5 hd
                      generalize digXs aB bB sB nB = ds at *
                      generalize worS cB tB row = ss at *
                      have HR := Lib.hid (Below.refl wH.heap.size wH)
                      have KB' := KB
                      have b0 := KB.out.cell 0 (by simp)
                      have b1 := KB.out.cell 1 (by simp)
                      simp only [List.getElem_cons_zero, List.getElem_cons_succ] at b0 b1
                      go_wp2_with fail
                      clear b0 b1
                      refine (H1.out _ HR.out).mono ?_
                      rintro e w8 ⟨v50, v51, rfl, hO, -, hb⟩
                      obtain ⟨A50, k50, rfl, -, -⟩ := hO.shape
                      have C1 := Lib.hid hO.cells
                      replace HR := Lib.hid (HR.out.trans (hb.mono HR.out.size))
                      clear hO hb H1
                      go_wp2_with fail
                      refine (H2.out _).mono ?_
                      rintro e w9 ⟨v53, rfl, hO, hb⟩
                      obtain ⟨A53, k53, rfl, -, -⟩ := hO.shape
                      have C2 := Lib.hid hO.cells
                      replace C1 := Lib.hid (C1.out.below hb)
                      replace HR := Lib.hid (HR.out.trans (hb.mono HR.out.size))
                      replace KB := Lib.hid (KB'.out.under HR.out)
                      clear hO hb H2
                      have b0 := KB.out.cell 0 (by simp)
                      have b1 := KB.out.cell 1 (by simp)
                      simp only [List.getElem_cons_zero, List.getElem_cons_succ] at b0 b1
                      go_wp2_with fail
                      clear b0 b1
                      refine (H3.out _ HR.out).mono ?_
                      rintro e wA ⟨rfl, hb⟩
                      replace C1 := Lib.hid (C1.out.below hb)
                      replace C2 := Lib.hid (C2.out.below hb)
                      replace HR := Lib.hid (HR.out.trans (hb.mono HR.out.size))
                      clear hb H3 KB
                      go_wp2_with fail
                      refine (likeInts_c ds ds A50 A53 k50 k53 _ C1.out C2.out (by omega) (by omega)).mono ?_
                      rintro e wC ⟨rfl, hb⟩
                      rw [eqL_refl]
                      replace HR := Lib.hid (HR.out.trans (hb.mono HR.out.size))
                      clear hb C1 C2
                      go_wp2_with fail
                      go_meet
                      case rel => exact HR
                    · replace hd : (dB == 0) = false := by simp [hd]
                      go_wp2_with fail
                      go_meet
                      case rel => exact Below.refl _ _
                  case rest =>
                   as_aux_lemma =>
                    have hb := hcut.out
                    replace KA := Lib.hid (KA.out.under hb)
                    replace TA := Lib.hid (TA.out.below hb)
                    replace HB := Lib.hid (HB.out.trans (hb.mono HB.out.size))
                    clear hcut hb KB TB CB FB
                    have a0 := KA.out.cell 0 (by simp)
                    have a1 := KA.out.cell 1 (by simp)
                    simp only [List.getElem_cons_zero, List.getElem_cons_succ] at a0 a1
                    by_cases hd : dA = 0
                    · obtain ⟨f1, f2, f3⟩ := FA.out.1 hd
                      have hd' : (dA != 0) = false := by simp [hd]
                      have HQ := Lib.hid (fun W h => implIsBalanced_c cA tA A9 k9 pA qA W h (by omega))
                      have HU := Lib.hid (fun W h => isSet_c cA tA A9 k9 W h (by omega))
                      rw [f2, f3] at HQ
                      rw [f1] at HU
                      clear f1 f2 f3 hd FA
                      go_wp2_with fail
                      clear a0 a1
                      refine (HQ.out _ TA.out).mono ?_
                      rintro e w8 ⟨rfl, hb⟩
                      replace KA := Lib.hid (KA.out.under hb)
                      replace TA := Lib.hid (TA.out.below hb)
                      replace HB := Lib.hid (HB.out.trans (hb.mono HB.out.size))
                      clear hb
                      have a0 := KA.out.cell 0 (by simp)
                      have a1 := KA.out.cell 1 (by simp)
                      simp only [List.getElem_cons_zero, List.getElem_cons_succ] at a0 a1
                      go_wp2_with fail
                      clear a0 a1
                      refine (HU.out _ TA.out).mono ?_
                      rintro e w9 ⟨rfl, hb⟩
                      replace KA := Lib.hid (KA.out.under hb)
                      replace TA := Lib.hid (TA.out.below hb)
                      replace HB := Lib.hid (HB.out.trans (hb.mono HB.out.size))
                      clear hb
                      go_wp2_with fail
                      go_ret
                      exact ⟨rfl, HB.out⟩
                    · have hd' : (dA != 0) = true := by simp [hd]
                      obtain rfl := FA.out.2 hd
                      clear hd FA
                      go_wp2_with fail
                      go_ret
                      exact ⟨rfl, HB.out⟩

end Go.Proofs.YtkgnejhflnekaaaGreat
