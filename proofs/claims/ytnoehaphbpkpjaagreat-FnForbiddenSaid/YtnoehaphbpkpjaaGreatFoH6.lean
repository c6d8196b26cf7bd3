/- Contracts and lemmas for the statements of this seat, written for this claim; each theorem states its own conditions. -/
import Derived.Deep.Cut
import Derived.Deep.CutBlock
import Derived.Deep.DeepCutAuto
import Derived.Test.YtnoehaphbpkpjaaGreatRows
import Derived.Deep.RegionHeld3
import Derived.Laws.BitsLemmas
import Derived.BigQuiet
import Derived.Carry
import Derived.Shelf.SlSortCmp.Whole1
import Derived.Shelf.SlSortCmp.NoneTotal
import Derived.Sort.LotA
import Derived.Test.YtnoehaphbpkpjaaGreatFoH1
import Derived.Test.YtnoehaphbpkpjaaGreatFoH5
import Derived.Test.YtnoehaphbpkpjaaGreatFoE1
import Derived.Test.YtnoehaphbpkpjaaGreatFoSe
import Derived.Test.YtnoehaphbpkpjaaGreatFoD1
import Derived.Test.YtnoehaphbpkpjaaGreatFoF2
import Derived.Test.YtnoehaphbpkpjaaGreatFoJ7
import Derived.Test.YtnoehaphbpkpjaaGreatFoBk
import Derived.Test.YtnoehaphbpkpjaaGreatFoI3
import Derived.Test.YtnoehaphbpkpjaaGreatFoBy
import Derived.Test.YtnoehaphbpkpjaaGreatFoAdd
import Derived.Test.YtnoehaphbpkpjaaGreatFoY9
import Derived.Test.YtnoehaphbpkpjaaGreatFoSr
import Derived.Test.YtnoehaphbpkpjaaGreatFoJ3
import Derived.Test.YtnoehaphbpkpjaaGreatFoL1
import Derived.Test.YtnoehaphbpkpjaaGreatFoSx
import Derived.Test.YtnoehaphbpkpjaaGreatFoSt
import Derived.Test.YtnoehaphbpkpjaaGreatFoPr
import Derived.Test.YtnoehaphbpkpjaaGreatFoW6
import Derived.Test.YtnoehaphbpkpjaaGreatFoTr1
import Derived.Test.YtnoehaphbpkpjaaGreatFoTm1
import Derived.Test.YtnoehaphbpkpjaaGreatFoSz
set_option linter.unusedVariables false
set_option linter.unusedSimpArgs false
namespace Go.Proofs.YtnoehaphbpkpjaaGreat
open Go.RowKit
attribute [local go_sem] addUpon_value addUpon_skip addUpon_enter
theorem lf_small (c : Int) (ts : List T4) (h n : Int) : (lfVal c ts h n).length ≤ 6000 ∧ Short 1000000 (lfVal c ts h n) := by
  obtain ⟨h1, _, h3⟩ := lfVal_short c ts h n
  exact ⟨h1, fun k hk => by have := mem_tot9 (List.getElem_mem hk); omega⟩
/-- what the last part of the law asks of the words -/
def LfLaw (c : Int) (ts : List T4) (h n : Int) (d : Int) (ws : List (List Int)) : Prop :=
  (d = 0 → ∀ j (hj : j < ws.length), (ws[j].length : Int) ≤ n ∧ 1 ≤ ws[j].length ∧ tsCode c ts h (wordOk c ws[j]) = 0 ∧ trV c ts h ws[j] = false ∧ (1 < ws[j].length → tsCode c ts h (wordOk c (ws[j].take (ws[j].length - 1))) = 0 ∧ trV c ts h (ws[j].take (ws[j].length - 1)) = true ∧ tsCode c ts h (wordOk c (ws[j].drop 1)) = 0 ∧ trV c ts h (ws[j].drop 1) = true)) ∧ (d ≠ 0 → ws = [])
theorem lf_law (c : Int) (ts : List T4) (h n : Int) : LfLaw c ts h n (lfCode c ts h n) (lfVal c ts h n) :=
  ⟨fun e j hj => lf_word e (List.getElem_mem hj), fun e => by unfold lfVal; rw [if_neg e]⟩
theorem wf_law (c : Int) (ts : List T4) (A : Option Addr) (kx : Nat) (h : Int) (hl : ts.length ≤ 101) (hc : wfCode c ts h = 0) (q p n : Nat) (hq : wfVal c ts h = (q : Int)) (hp : q = p + 1) (hn : n = q + 1 ∧ q < 30 ∨ n = 30 ∧ q = 30) (W : World) (hT : TileCells W A ts) :
    Calls Tryz.prog 14 #[.agg #[.int .i64 c, .slice A ts.length kx], .int .i64 h, .int .i64 n] W fun e w' => ∃ v d vals, e = .returned (.tuple #[v, .int .i64 d]) ∧ OwnI w' W.heap.size v vals ∧ Below W.heap.size W w' ∧ (d = 0 → vals.length = n ∧ (∀ i : p < vals.length, vals[p] ≠ 0) ∧ ∀ i : q < vals.length, vals[q] = 0) := by
  obtain ⟨hz, _, hf⟩ := wf_facts hc
  obtain ⟨f1, f2⟩ := hf q hq
  obtain ⟨_, _, n1, _, _⟩ := tsCode_zero hz
  obtain ⟨H, rfl⟩ := Int.eq_ofNat_of_zero_le (by omega : 0 ≤ h)
  rw [Int.toNat_natCast] at f1 f2
  refine (implStripSeq_c c ts A kx H n W hT (by omega) hz (by omega) (by omega)).mono ?_
  rintro e w' ⟨v, rfl, hO, hb⟩
  refine ⟨v, _, _, rfl, hO, hb, fun hd => ?_⟩
  unfold sqCode at hd
  by_cases hk : seqOk (powC c H).toNat (lev c ts H) n = true
  · unfold sqVal
    rw [if_pos hk]
    refine ⟨seqVals_len .., fun i => ?_, fun i => ?_⟩
    · rw [seqVals_at]
      have := f1 p (by omega)
      omega
    · rw [seqVals_at]; exact f2
  · rw [if_neg hk] at hd; exact absurd hd (by decide)
set_option maxRecDepth 100000 in
set_option maxHeartbeats 40000000 in
theorem law_FnForbidden (code : List Int) (A : Option Addr) (cx : Nat) (w : World) (hX : BytesC w A code) (hl : code.length ≤ 9223372036854775807) (hby : ∀ x ∈ code, 0 ≤ x ∧ x < 256) :
    Calls Tryz.prog 4 #[.slice A code.length cx] w fun e w' => e = .returned (.bool true) ∧ Below w.heap.size w w' := by
  have H0 := Lib.hid (big_c code.length cx A w hl)
  by_cases hbig : (code.length : Int) > 4096
  · rw [show decide ((code.length : Int) > 4096) = true by simp [hbig]] at H0
    go_enter Tryz.func4, Tryz.ntmps4
    go_wp2_with fail
    refine H0.out.mono ?_
    rintro e w1 ⟨rfl, rfl⟩
    go_wp2
    go_ret
    exact ⟨rfl, Below.refl _ _⟩
  · rw [show decide ((code.length : Int) > 4096) = false by simp [hbig]] at H0
    have HX := Lib.hid hX
    have HY := Lib.hid (show BytesOk code from ⟨by omega, hby⟩)
    clear hX hby hbig hl
    go_enter Tryz.func4, Tryz.ntmps4
    go_wp2_with fail
    refine H0.out.mono ?_
    rintro e w0 ⟨rfl, rfl⟩
    clear H0
    go_wp2_with fail
    refine (DrawLeastForbidden_c A cx code _ HX.out HY.out).mono ?_
    rintro e w1 ⟨cA, tA, A9, k9, ⟨hT, lA, hb⟩, hA, nA, rfl⟩
    have HB := Lib.hid hb
    have TA := Lib.hid hT
    have FA := Lib.hid (lf_law cA tA hA nA)
    obtain ⟨s1, s2⟩ := lf_small cA tA hA nA
    have HSh := Lib.hid s2
    have H1 := Lib.hid (fun W (h : TileCells W A9 tA) => implLeastForbidden_c cA tA A9 k9 hA nA W h (by omega))
    have H2 := Lib.hid (fun W (h : TileCells W A9 tA) => specLeastForbidden_c cA tA A9 k9 hA nA W h (by omega))
    generalize lfVal cA tA hA nA = ws at *
    generalize lfCode cA tA hA nA = dA at *
    clear hT hb s2
    go_upto_region 4 with (fail)
    obtain ⟨g9, hg9⟩ : ∃ g9, g9 = w1.heap.size := ⟨_, rfl⟩
    obtain ⟨w2, hw2⟩ : ∃ w2, w2 = w1.alloc (.cells #[.int .i64 cA, .slice A9 tA.length k9] 32) := ⟨_, rfl⟩
    have hb : Below w1.heap.size w1 w2 := by rw [hw2]; exact below_al (Below.refl _ _)
    have KA : Hid (Blk w2 g9 [.int .i64 cA, .slice A9 tA.length k9] 32) := by rw [hw2, hg9]; exact Blk.newA _ _ _
    rw [← hw2, ← hg9]
    clear hw2 hg9
    replace TA := Lib.hid (TA.out.below hb)
    replace HB := Lib.hid (HB.out.trans (hb.mono HB.out.size))
    clear hb
    have a0 := KA.out.cell 0 (by simp)
    have a1 := KA.out.cell 1 (by simp)
    simp only [List.getElem_cons_zero, List.getElem_cons_succ] at a0 a1
    go_wp2_with fail
    clear a0 a1
    refine (H1.out _ TA.out).mono ?_
    rintro e w3 ⟨v, rfl, hO, hb⟩
    obtain ⟨AW, kW, rfl, hr⟩ := hO.rows
    have RA := Lib.hid hr
    have HCap := Lib.hid hO.caps
    replace KA := Lib.hid (KA.out.under hb)
    replace TA := Lib.hid (TA.out.below hb)
    replace HB := Lib.hid (HB.out.trans (hb.mono HB.out.size))
    clear hO hb hr H1
    have a0 := KA.out.cell 0 (by simp)
    have a1 := KA.out.cell 1 (by simp)
    simp only [List.getElem_cons_zero, List.getElem_cons_succ] at a0 a1
    go_wp2_with fail
    clear a0 a1
    refine (H2.out _ TA.out).mono ?_
    rintro e w4 ⟨v, rfl, hO, hb⟩
    obtain ⟨AV, kV, rfl, hr⟩ := hO.rows
    have RX := Lib.hid hr
    replace KA := Lib.hid (KA.out.under hb)
    replace TA := Lib.hid (TA.out.below hb)
    replace HB := Lib.hid (HB.out.trans (hb.mono HB.out.size))
    replace HCap := Lib.hid (HCap.out.below RA.out hb)
    replace RA := Lib.hid (RA.out.below hb)
    clear hO hb hr H2
    have hdd : (dA != dA) = false := by simp
    go_wp2_with fail
    clear hdd
    refine (rows9_c ws AW AV kW kV _ RA.out RX.out (by omega) HSh.out).mono ?_
    rintro e w5 ⟨rfl, hb⟩
    replace KA := Lib.hid (KA.out.under hb)
    replace TA := Lib.hid (TA.out.below hb)
    replace HB := Lib.hid (HB.out.trans (hb.mono HB.out.size))
    replace HCap := Lib.hid (HCap.out.below RA.out hb)
    replace RA := Lib.hid (RA.out.below hb)
    clear hb RX
    go_upto_region 8 with (fail)
    go_wp2_with fail
    refine (DrawStableHeight_c A cx code _ (HX.out.below HB.out) HY.out).mono ?_
    rintro e w6 ⟨cB, tB, AB, kB, ⟨hT, lB, hb⟩, nB, rfl⟩
    replace KA := Lib.hid (KA.out.under hb)
    replace TA := Lib.hid (TA.out.below hb)
    replace HB := Lib.hid (HB.out.trans (hb.mono HB.out.size))
    replace HCap := Lib.hid (HCap.out.below RA.out hb)
    replace RA := Lib.hid (RA.out.below hb)
    have TB := Lib.hid hT
    clear hb hT
    have H1 := Lib.hid (fun W (h : TileCells W AB tB) => implStableHeight_c cB nB tB AB kB W h (by omega))
    have H2 := Lib.hid (fun W (h : TileCells W AB tB) => specStableHeight_c cB nB tB AB kB W h (by omega))
    have H3 := Lib.hid (fun hh W (h : TileCells W AB tB) => implTraceWords_c cB tB AB kB hh nB W h (by omega))
    have FB := Lib.hid (sh_facts (c := cB) (ts := tB) (n := nB))
    generalize (shR cB tB nB).1 = sv at *
    generalize (shR cB tB nB).2 = sc at *
    go_upto_region 9 with (fail)
    obtain ⟨gB, hgB⟩ : ∃ gB, gB = w6.heap.size := ⟨_, rfl⟩
    obtain ⟨w7, hw7⟩ : ∃ w7, w7 = w6.alloc (.cells #[.int .i64 cB, .slice AB tB.length kB] 32) := ⟨_, rfl⟩
    have hb : Below w6.heap.size w6 w7 := by rw [hw7]; exact below_al (Below.refl _ _)
    have KB : Hid (Blk w7 gB [.int .i64 cB, .slice AB tB.length kB] 32) := by rw [hw7, hgB]; exact Blk.newA _ _ _
    rw [← hw7, ← hgB]
    clear hw7 hgB
    replace KA := Lib.hid (KA.out.under hb)
    replace TA := Lib.hid (TA.out.below hb)
    replace HB := Lib.hid (HB.out.trans (hb.mono HB.out.size))
    replace HCap := Lib.hid (HCap.out.below RA.out hb)
    replace RA := Lib.hid (RA.out.below hb)
    replace TB := Lib.hid (TB.out.below hb)
    clear hb
    have b0 := KB.out.cell 0 (by simp)
    have b1 := KB.out.cell 1 (by simp)
    simp only [List.getElem_cons_zero, List.getElem_cons_succ] at b0 b1
    go_wp2_with fail
    clear b0 b1
    refine (H1.out _ TB.out).mono ?_
    rintro e w8 ⟨rfl, hb⟩
    replace KA := Lib.hid (KA.out.under hb)
    replace TA := Lib.hid (TA.out.below hb)
    replace HB := Lib.hid (HB.out.trans (hb.mono HB.out.size))
    replace HCap := Lib.hid (HCap.out.below RA.out hb)
    replace RA := Lib.hid (RA.out.below hb)
    replace KB := Lib.hid (KB.out.under hb)
    replace TB := Lib.hid (TB.out.below hb)
    clear hb H1
    have b0 := KB.out.cell 0 (by simp)
    have b1 := KB.out.cell 1 (by simp)
    simp only [List.getElem_cons_zero, List.getElem_cons_succ] at b0 b1
    go_wp2_with fail
    clear b0 b1
    refine (H2.out _ TB.out).mono ?_
    rintro e w9 ⟨rfl, hb⟩
    replace KA := Lib.hid (KA.out.under hb)
    replace TA := Lib.hid (TA.out.below hb)
    replace HB := Lib.hid (HB.out.trans (hb.mono HB.out.size))
    replace HCap := Lib.hid (HCap.out.below RA.out hb)
    replace RA := Lib.hid (RA.out.below hb)
    replace KB := Lib.hid (KB.out.under hb)
    replace TB := Lib.hid (TB.out.below hb)
    clear hb H2
    have h1 : (sc != sc) = false := by simp
    have h2 : (sv != sv) = false := by simp
    go_upto_region 13 with (fail)
    clear h1 h2
    go_wp2_with fail
    refine (DrawWidestFilling_c A cx code _ (HX.out.below HB.out) HY.out).mono ?_
    rintro e w10 ⟨cC, tC, AC, kC, ⟨hT, lC, hb⟩, hC, rfl⟩
    replace KA := Lib.hid (KA.out.under hb)
    replace TA := Lib.hid (TA.out.below hb)
    replace HB := Lib.hid (HB.out.trans (hb.mono HB.out.size))
    replace HCap := Lib.hid (HCap.out.below RA.out hb)
    replace RA := Lib.hid (RA.out.below hb)
    replace KB := Lib.hid (KB.out.under hb)
    replace TB := Lib.hid (TB.out.below hb)
    have TC := Lib.hid hT
    clear hb hT
    have H1 := Lib.hid (fun W (h : TileCells W AC tC) => implWidest_c cC tC AC kC hC W h (by omega))
    have H2 := Lib.hid (fun W (h : TileCells W AC tC) => specWidest_c cC tC AC kC hC W h (by omega))
    have FC := Lib.hid (wf_law cC tC AC kC hC lC)
    have FD := Lib.hid (fun hc => (wf_facts (c := cC) (ts := tC) (h := hC) hc).2.1)
    generalize wfVal cC tC hC = wv at *
    generalize wfCode cC tC hC = wc9 at *
    go_upto_region 14 with (fail)
    obtain ⟨gC, hgC⟩ : ∃ gC, gC = w10.heap.size := ⟨_, rfl⟩
    obtain ⟨w11, hw11⟩ : ∃ w11, w11 = w10.alloc (.cells #[.int .i64 cC, .slice AC tC.length kC] 32) := ⟨_, rfl⟩
    have hb : Below w10.heap.size w10 w11 := by rw [hw11]; exact below_al (Below.refl _ _)
    have KC : Hid (Blk w11 gC [.int .i64 cC, .slice AC tC.length kC] 32) := by rw [hw11, hgC]; exact Blk.newA _ _ _
    rw [← hw11, ← hgC]
    clear hw11 hgC
    replace KA := Lib.hid (KA.out.under hb)
    replace TA := Lib.hid (TA.out.below hb)
    replace HB := Lib.hid (HB.out.trans (hb.mono HB.out.size))
    replace HCap := Lib.hid (HCap.out.below RA.out hb)
    replace RA := Lib.hid (RA.out.below hb)
    replace KB := Lib.hid (KB.out.under hb)
    replace TB := Lib.hid (TB.out.below hb)
    replace TC := Lib.hid (TC.out.below hb)
    clear hb
    have c0 := KC.out.cell 0 (by simp)
    have c1 := KC.out.cell 1 (by simp)
    simp only [List.getElem_cons_zero, List.getElem_cons_succ] at c0 c1
    go_wp2_with fail
    clear c0 c1
    refine (H1.out _ TC.out).mono ?_
    rintro e w12 ⟨rfl, hb⟩
    replace KA := Lib.hid (KA.out.under hb)
    replace TA := Lib.hid (TA.out.below hb)
    replace HB := Lib.hid (HB.out.trans (hb.mono HB.out.size))
    replace HCap := Lib.hid (HCap.out.below RA.out hb)
    replace RA := Lib.hid (RA.out.below hb)
    replace KB := Lib.hid (KB.out.under hb)
    replace TB := Lib.hid (TB.out.below hb)
    replace KC := Lib.hid (KC.out.under hb)
    replace TC := Lib.hid (TC.out.below hb)
    clear hb H1
    have c0 := KC.out.cell 0 (by simp)
    have c1 := KC.out.cell 1 (by simp)
    simp only [List.getElem_cons_zero, List.getElem_cons_succ] at c0 c1
    go_wp2_with fail
    clear c0 c1
    refine (H2.out _ TC.out).mono ?_
    rintro e w13 ⟨rfl, hb⟩
    replace KA := Lib.hid (KA.out.under hb)
    replace TA := Lib.hid (TA.out.below hb)
    replace HB := Lib.hid (HB.out.trans (hb.mono HB.out.size))
    replace HCap := Lib.hid (HCap.out.below RA.out hb)
    replace RA := Lib.hid (RA.out.below hb)
    replace KB := Lib.hid (KB.out.under hb)
    replace TB := Lib.hid (TB.out.below hb)
    replace KC := Lib.hid (KC.out.under hb)
    replace TC := Lib.hid (TC.out.below hb)
    clear hb H2
    have h1 : (wc9 != wc9) = false := by simp
    have h2 : (wv != wv) = false := by simp
    go_upto_region 18 with (fail)
    clear h1 h2
    go_cut [125] (fun s wx => s = .bool (decide (wc9 = 0 ∧ wv > 0 ∧ wv ≤ 30)) ∧ wx = w13)
    case first =>
     as_aux_lemma =>
      by_cases hd : wc9 = 0
      · have hd' : (wc9 == 0) = true := by simp [hd]
        by_cases h0 : wv > 0
        · by_cases h30 : wv ≤ 30
          · have e : decide (wc9 = 0 ∧ wv > 0 ∧ wv ≤ 30) = true := by simp [hd, h0, h30]
            have E := Lib.hid e
            clear hd e
            go_wp2_with fail
            go_meet
            case rel => exact ⟨by rw [E.out], rfl⟩
          · have e : decide (wc9 = 0 ∧ wv > 0 ∧ wv ≤ 30) = false := by simp [h30]
            have E := Lib.hid e
            clear hd e
            go_wp2_with fail
            go_meet
            case rel => exact ⟨by rw [E.out], rfl⟩
        · have e : decide (wc9 = 0 ∧ wv > 0 ∧ wv ≤ 30) = false := by simp; omega
          have E := Lib.hid e
          clear hd e
          go_wp2_with fail
          go_meet
          case rel => exact ⟨by rw [E.out], rfl⟩
      · have hd' : (wc9 == 0) = false := by simp [hd]
        have e : decide (wc9 = 0 ∧ wv > 0 ∧ wv ≤ 30) = false := by simp [hd]
        have E := Lib.hid e
        clear hd e
        go_wp2_with fail
        go_meet
        case rel => exact ⟨by rw [E.out], rfl⟩
    case rest =>
    obtain ⟨hs1, hs2⟩ := hcut
    obtain rfl := hs2.symm
    subst hs1
    obtain ⟨bq, hbq⟩ : ∃ b, b = decide (wc9 = 0 ∧ wv > 0 ∧ wv ≤ 30) := ⟨_, rfl⟩
    rw [← hbq]
    have HBq := Lib.hid hbq
    clear hbq
    go_upto_if 125 with (fail)
    go_cut [] (fun wx => Hid (Below w13.heap.size w13 wx))
    case first =>
     as_aux_lemma =>
      by_cases hd9 : wc9 = 0 ∧ wv > 0 ∧ wv ≤ 30
      · obtain rfl : bq = true := by rw [HBq.out]; simp [hd9]
        obtain ⟨hd, h0, h30⟩ := hd9
        have hnn := FD.out hd
        have HF := Lib.hid (FC.out hd)
        clear hd FC FD HBq
        obtain ⟨q, rfl⟩ := Int.eq_ofNat_of_zero_le hnn
        clear hnn
        obtain ⟨p, hp⟩ : ∃ p : Nat, q = p + 1 := ⟨q - 1, by omega⟩
        have hsub : IntKind.i64.wrap ((q : Int) - 1) = (p : Int) := by rw [IntWalk.i64_in _ (by omega)]; omega
        obtain ⟨r, hr⟩ : ∃ r : Nat, r = q + 1 := ⟨_, rfl⟩
        have hadd : IntKind.i64.wrap ((q : Int) + 1) = (r : Int) := by rw [IntWalk.i64_in _ (by omega)]; omega
        have c0 := KC.out.cell 0 (by simp)
        have c1 := KC.out.cell 1 (by simp)
        simp only [List.getElem_cons_zero, List.getElem_cons_succ] at c0 c1
        by_cases h29 : (q : Int) < 30
        · have HQ := Lib.hid (fun W h => HF.out q p r rfl hp (.inl ⟨hr, by omega⟩) W h)
          have HP := Lib.hid hp
          have HRr := Lib.hid hr
          have hr1 : (r : Int) ≤ 30 := by omega
          have hr2 : ¬ (30 : Int) < (r : Int) := by omega
          have hr3 : min (r : Int) 30 = (r : Int) := by omega
          clear hp hr HF
          go_wp2_with fail
          clear c0 c1
          refine (HQ.out _ TC.out).mono ?_
          rintro e w16 ⟨v, d, vals, rfl, hO, hb, hd2⟩
          obtain ⟨A5, k5, rfl, hcl, _⟩ := hO.shape
          have HR := Lib.hid hb
          have HD2 := Lib.hid hd2
          have HCl := Lib.hid hcl
          clear hO hb hd2 hcl HQ
          by_cases hd : d = 0
          · obtain ⟨l1, l2, l3⟩ := HD2.out hd
            have hd3 : (d == 0) = true := by simp [hd]
            have hpl : p < vals.length := by have := HP.out; have := HRr.out; omega
            have hql : q < vals.length := by have := HRr.out; omega
            obtain ⟨b5, o5, rfl, _, e5⟩ := HCl.out.int p hpl
            obtain ⟨b5', o5', q6, _, e6⟩ := HCl.out.int q hql
            injection q6 with q6; injection q6 with q6 q6'; subst q6 q6'
            rw [l3 hql] at e6
            have hne : (vals[p] == 0) = false := by simp [l2 hpl]
            clear hd HD2 l1 l2 l3 HCl
            generalize vals[p] = x at *
            go_wp2_with fail
            go_meet
            case rel => exact HR
          · have hd3 : (d == 0) = false := by simp [hd]
            clear hd HD2 HCl
            go_wp2_with fail
            go_meet
            case rel => exact HR
        · have HQ := Lib.hid (fun W h => HF.out q p 30 rfl hp (.inr ⟨rfl, by omega⟩) W h)
          have HP := Lib.hid hp
          have hr2 : (30 : Int) < (r : Int) := by omega
          have hr1 : ¬ (r : Int) ≤ 30 := by omega
          have hr3 : min (r : Int) 30 = 30 := by omega
          have H29 := Lib.hid (show q = 30 by omega)
          clear hp hr HF
          go_wp2_with fail
          clear c0 c1
          refine (HQ.out _ TC.out).mono ?_
          rintro e w16 ⟨v, d, vals, rfl, hO, hb, hd2⟩
          obtain ⟨A5, k5, rfl, hcl, _⟩ := hO.shape
          have HR := Lib.hid hb
          have HD2 := Lib.hid hd2
          have HCl := Lib.hid hcl
          clear hO hb hd2 hcl HQ
          by_cases hd : d = 0
          · obtain ⟨l1, l2, _⟩ := HD2.out hd
            have hd3 : (d == 0) = true := by simp [hd]
            have hpl : p < vals.length := by have := HP.out; have := H29.out; omega
            obtain ⟨b5, o5, rfl, _, e5⟩ := HCl.out.int p hpl
            have hne : (vals[p] == 0) = false := by simp [l2 hpl]
            clear hd HD2 l1 l2 HCl
            generalize vals[p] = x at *
            go_wp2_with fail
            go_meet
            case rel => exact HR
          · have hd3 : (d == 0) = false := by simp [hd]
            clear hd HD2 HCl
            go_wp2_with fail
            go_meet
            case rel => exact HR
      · obtain rfl : bq = false := by rw [HBq.out]; simp only [hd9, decide_false]
        clear hd9 HBq
        go_wp2_with fail
        go_meet
        case rel => exact Below.refl _ _
    case rest =>
     as_aux_lemma =>
      have hb := hcut.out
      replace KA := Lib.hid (KA.out.under hb)
      replace TA := Lib.hid (TA.out.below hb)
      replace HB := Lib.hid (HB.out.trans (hb.mono HB.out.size))
      replace HCap := Lib.hid (HCap.out.below RA.out hb)
      replace RA := Lib.hid (RA.out.below hb)
      replace KB := Lib.hid (KB.out.under hb)
      replace TB := Lib.hid (TB.out.below hb)
      clear hcut hb KC TC FC FD HBq
      obtain ⟨wG, rfl⟩ : ∃ q, q = wc := ⟨_, rfl⟩
      go_upto_if 157 with (fail)
      go_cut [] (fun wx => Hid (Below wG.heap.size wG wx))
      case first =>
       as_aux_lemma =>
        by_cases hd : sc = 0
        · obtain ⟨q1, q2, q3, q4, q5⟩ := FB.out hd
          have hd' : (sc == 0) = true := by simp [hd]
          obtain ⟨l1, s1⟩ := tw_small cB tB sv nB
          have HA1 := Lib.hid (H3.out sv)
          have HA2 := Lib.hid (H3.out (sv + 1))
          rw [q1] at HA1
          rw [q2, ← q3] at HA2
          have hw1 : IntKind.i64.wrap (sv + 1) = sv + 1 := IntWalk.i64_in _ (by omega)
          have HS1 := Lib.hid s1
          clear hd q1 q2 q3 s1 H3 FB
          generalize twVal 200 cB tB sv nB = w1s at *
          have b0 := KB.out.cell 0 (by simp)
          have b1 := KB.out.cell 1 (by simp)
          simp only [List.getElem_cons_zero, List.getElem_cons_succ] at b0 b1
          go_wp2_with fail
          clear b0 b1
          refine (HA1.out _ TB.out).mono ?_
          rintro e w16 ⟨v, rfl, hO, hb⟩
          obtain ⟨A1, k1, rfl, hr⟩ := hO.rows
          have R1 := Lib.hid hr
          have HR := Lib.hid hb
          replace TB := Lib.hid (TB.out.below hb)
          replace KB := Lib.hid (KB.out.under hb)
          clear hO hb hr HA1
          have b0 := KB.out.cell 0 (by simp)
          have b1 := KB.out.cell 1 (by simp)
          simp only [List.getElem_cons_zero, List.getElem_cons_succ] at b0 b1
          go_wp2_with fail
          clear b0 b1
          refine (HA2.out _ TB.out).mono ?_
          rintro e w17 ⟨v, rfl, hO, hb⟩
          obtain ⟨A2, k2, rfl, hr⟩ := hO.rows
          have R2 := Lib.hid hr
          replace R1 := Lib.hid (R1.out.below hb)
          replace HR := Lib.hid (HR.out.trans (hb.mono HR.out.size))
          clear hO hb hr HA2
          go_wp2_with fail
          refine (rows9_c w1s A1 A2 k1 k2 _ R1.out R2.out (by omega) HS1.out).mono ?_
          rintro e w18 ⟨rfl, hb⟩
          replace HR := Lib.hid (HR.out.trans (hb.mono HR.out.size))
          clear hb
          go_wp2_with fail
          go_meet
          case rel => exact HR
        · have hd' : (sc == 0) = false := by simp [hd]
          clear hd
          go_wp2_with fail
          go_meet
          case rel => exact Below.refl _ _
      case rest =>
       as_aux_lemma =>
        have hb := hcut.out
        replace KA := Lib.hid (KA.out.under hb)
        replace TA := Lib.hid (TA.out.below hb)
        replace HB := Lib.hid (HB.out.trans (hb.mono HB.out.size))
        replace HCap := Lib.hid (HCap.out.below RA.out hb)
        replace RA := Lib.hid (RA.out.below hb)
        clear hcut hb KB TB FB H3
        obtain ⟨wH, rfl⟩ : ∃ q, q = wc := ⟨_, rfl⟩
        by_cases hd : dA = 0
        · have hd' : (dA != 0) = false := by simp [hd]
          have HF := Lib.hid (FA.out.1 hd)
          clear hd FA
          go_wp2_with fail
          clear hd'
          go_loopw [28] (fun iv wr => ∃ k : Nat, k ≤ ws.length ∧ iv = .int .i64 (k : Int) ∧ Hid (Below wH.heap.size wH wr)) (fun i _ => ws.length - (intOf i).toNat)
          case atStart => exact ⟨0, by omega, rfl, Lib.hid (Below.refl _ _)⟩
          case round =>
            obtain ⟨k, hk, rfl, HW⟩ := hrel
            obtain ⟨wy, rfl⟩ : ∃ wy, wy = wr := ⟨wr, rfl⟩
            by_cases h1 : k < ws.length
            · by_cases h5 : (k : Int) < 8
              · obtain ⟨f1, f2, f3, f4, f5⟩ := HF.out k h1
                have hcs := (HCap.out.below RA.out HW.out) k h1
                obtain ⟨b9, off, A', cw, rfl, hlt, hc, hr⟩ := (RA.out.below HW.out) k h1
                replace hcs := hcs b9 off A' cw rfl hc
                have hws := HSh.out k h1
                generalize ws[k] = row at *
                obtain ⟨b8, o8, rfl, -, -⟩ := hr.int 0 (by omega)
                obtain ⟨m, hm⟩ : ∃ m, row.length = m + 1 := ⟨row.length - 1, by omega⟩
                have HQ := Lib.hid (fun (W : World) (h : Below wy.heap.size wy W) => implIsTrace_c cA tA A9 k9 hA row (some ⟨b8, o8, none⟩) cw W ((TA.out.below HW.out).below h) (by omega) (hr.below h) (by omega))
                rw [f3, f4, hm] at HQ
                have hn9 : ¬ ((m : Int) + 1 > nA) := by rw [hm] at f1; omega
                have a0 := (KA.out.under HW.out).cell 0 (by simp)
                have a1 := (KA.out.under HW.out).cell 1 (by simp)
                simp only [List.getElem_cons_zero, List.getElem_cons_succ] at a0 a1
                rw [hm] at hc
                have p0 := keepC a0
                have p1 := keepC a1
                have p2 := keepC hc
                have HF5 := Lib.hid f5
                have HHr := Lib.hid hr
                have HM := Lib.hid hm
                have HCs := Lib.hid hcs
                have hws' := Lib.hid hws
                clear f1 f2 f3 f4 f5 hc hr hws a0 a1 hm hcs
                go_wp2_with fail
                refine wp_region_add (fun w' => Below (wy).heap.size (wy) w') (by kernel_rfl) (by kernel_rfl) ((Below.refl _ _).drew) ?_
                repeat (first
                  | (refine add_skip rfl (fun K' hK' => ?_); go_simp; refine hK' _ ?_; clear hK' K')
                  | (refine add_do (v := ?_) rfl (fun w1 hb => ?_) (fun K' hK' => ?_); rotate_left
                     · go_simp
                       first
                       | (with_reducible exact rfl)
                       | (with_reducible exact ⟨rfl, hb⟩)
                       | (with_reducible exact (addCall (HQ.out w1 hb) hb).2)
                       | exact (addCall (HQ.out w1 hb) hb).2
                       | exact rfl
                       | exact ⟨rfl, hb⟩
                     go_simp; refine hK' _ ?_; clear hK' K'))
                refine add_nil ?_
                intro wa hba
                obtain ⟨wq, rfl⟩ : ∃ q, q = wa := ⟨_, rfl⟩
                have HW2 := Lib.hid (HW.out.trans (hba.mono HW.out.size))
                have a0 := p0 _ hba
                have a1 := p1 _ hba
                have c0 := p2 _ hba
                have Hba := Lib.hid hba
                clear hba p0 p1 p2 HQ
                by_cases h7 : m = 0
                · subst h7
                  go_wp2_with fail
                  go_roundw
                  case rel => exact ⟨k + 1, by omega, by go_num, HW2⟩
                  case measure => simp [intOf] <;> omega
                · obtain ⟨g1, g2, g3, g4⟩ := HF5.out (by have := HM.out; omega)
                  have hm1 : (1 : Int) < (m : Int) + 1 := by omega
                  have et : (row.take (row.length - 1)).length = m := by rw [List.length_take, HM.out]; omega
                  have ed : (row.drop 1).length = m := by rw [List.length_drop, HM.out]; omega
                  have hT1 : Cells wy (some ⟨b8, o8, none⟩) (ints (row.take (row.length - 1))) := fun j hj => by
                    have hj2 : j < row.length := by simp [ints] at hj; omega
                    obtain ⟨b, o, e1, e2⟩ := HHr.out j (by simpa [ints] using hj2)
                    refine ⟨b, o, e1, ?_⟩
                    rw [e2]; simp [ints]
                  have hT2 : Cells wy (some ⟨b8, o8 + 1, none⟩) (ints (row.drop 1)) := fun j hj => by
                    have hj2 : j + 1 < row.length := by simp [ints] at hj; omega
                    obtain ⟨b, o, e1, e2⟩ := HHr.out (j + 1) (by simpa [ints] using hj2)
                    injection e1 with e1; injection e1 with e1 e1'
                    subst e1 e1'
                    refine ⟨_, _, rfl, ?_⟩
                    rw [show o8 + 1 + j = o8 + (j + 1) by omega, e2]; simp [ints]
                  have HQ1 := Lib.hid (fun (W : World) (h : Below wq.heap.size wq W) => implIsTrace_c cA tA A9 k9 hA (row.take (row.length - 1)) (some ⟨b8, o8, none⟩) cw W (((TA.out.below HW.out).below Hba.out).below h) (by omega) ((hT1.below Hba.out).below h) (by rw [et]; have := hws'.out; have := HM.out; omega))
                  have HQ2 := Lib.hid (fun (W : World) (h : Below wq.heap.size wq W) => implIsTrace_c cA tA A9 k9 hA (row.drop 1) (some ⟨b8, o8 + 1, none⟩) (cw - 1) W (((TA.out.below HW.out).below Hba.out).below h) (by omega) ((hT2.below Hba.out).below h) (by rw [ed]; have := hws'.out; have := HM.out; omega))
                  rw [g1, g2, et] at HQ1
                  rw [g3, g4, ed] at HQ2
                  have hcw : m + 1 ≤ cw := by have := HCs.out; have := HM.out; omega
                  have hw1 : IntKind.i64.wrap ((m : Int) + 1 - 1) = (m : Int) := by rw [IntWalk.i64_in _ (by have := hws'.out; have := HM.out; omega)]; omega
                  have hw2 : IntKind.i64.wrap (m : Int) = (m : Int) := IntWalk.i64_in _ (by have := hws'.out; have := HM.out; omega)
                  have hc1 : ¬ cw = 1 := by omega
                  have hc2 : (m : Int) ≤ (cw : Int) := by omega
                  have hc3 : (1 : Int) ≤ (m : Int) + 1 := by omega
                  clear g1 g2 g3 g4 et ed hT1 hT2 h7 HF5 HHr HCs HM hws'
                  go_upto_region 36 with (fail)
                  have p0 := keepC a0
                  have p1 := keepC a1
                  have p2 := keepC c0
                  clear a0 a1 c0
                  refine wp_region_add (fun w' => Below (wq).heap.size (wq) w') (by kernel_rfl) (by kernel_rfl) ((Below.refl _ _).drew) ?_
                  repeat (first
                    | (refine add_skip rfl (fun K' hK' => ?_); go_simp; refine hK' _ ?_; clear hK' K')
                    | (refine add_do (v := ?_) rfl (fun w1 hb => ?_) (fun K' hK' => ?_); rotate_left
                       · go_simp
                         first
                         | (with_reducible exact rfl)
                         | (with_reducible exact ⟨rfl, hb⟩)
                         | (with_reducible exact (addCall (HQ1.out w1 hb) hb).2)
                         | exact (addCall (HQ1.out w1 hb) hb).2
                         | exact rfl
                         | exact ⟨rfl, hb⟩
                       go_simp; refine hK' _ ?_; clear hK' K'))
                  refine add_nil ?_
                  intro wa hba
                  obtain ⟨wr1, rfl⟩ : ∃ q, q = wa := ⟨_, rfl⟩
                  have HW3 := Lib.hid (HW2.out.trans (hba.mono HW2.out.size))
                  have a0 := p0 _ hba
                  have a1 := p1 _ hba
                  have c0 := p2 _ hba
                  replace HQ2 := Lib.hid (fun (W : World) (h : Below wr1.heap.size wr1 W) => HQ2.out W (hba.trans (h.mono hba.size)))
                  clear hba p0 p1 p2 HQ1
                  go_upto_region 37 with (fail)
                  have p0 := keepC a0
                  have p1 := keepC a1
                  have p2 := keepC c0
                  clear a0 a1 c0
                  refine wp_region_add (fun w' => Below (wr1).heap.size (wr1) w') (by kernel_rfl) (by kernel_rfl) ((Below.refl _ _).drew) ?_
                  repeat (first
                    | (refine add_skip rfl (fun K' hK' => ?_); go_simp; refine hK' _ ?_; clear hK' K')
                    | (refine add_do (v := ?_) rfl (fun w1 hb => ?_) (fun K' hK' => ?_); rotate_left
                       · go_simp
                         first
                         | (with_reducible exact rfl)
                         | (with_reducible exact ⟨rfl, hb⟩)
                         | (with_reducible exact (addCall (HQ2.out w1 hb) hb).2)
                         | exact (addCall (HQ2.out w1 hb) hb).2
                         | exact rfl
                         | exact ⟨rfl, hb⟩
                       go_simp; refine hK' _ ?_; clear hK' K'))
                  refine add_nil ?_
                  intro wa hba
                  have HW4 := Lib.hid (HW3.out.trans (hba.mono HW3.out.size))
                  clear hba p0 p1 p2 HQ2
                  go_wp2_with fail
                  go_roundw
                  case rel => exact ⟨k + 1, by omega, by go_num, HW4⟩
                  case measure => simp [intOf] <;> omega
              · go_wp2_with fail
                go_ret
                exact ⟨rfl, HB.out.trans (HW.out.mono HB.out.size)⟩
            · go_wp2_with fail
              go_ret
              exact ⟨rfl, HB.out.trans (HW.out.mono HB.out.size)⟩
        · have hd' : (dA != 0) = true := by simp [hd]
          obtain rfl := FA.out.2 hd
          clear hd FA
          go_wp2_with fail
          go_ret
          exact ⟨rfl, HB.out⟩

end Go.Proofs.YtnoehaphbpkpjaaGreat
namespace Go.Proofs.YtnoehaphbpkpjaaGreat
open Go.RowKit
open Go.ChangeShapes Go.WideShapes Go.ChangeAt in
set_option maxRecDepth 100000 in
theorem lifted_FnForbidden (os : Os) (started : os.Started) (H : Type) (enc : TypeId × Value → H) :
    ReturnsInHanded {} Tryz.checked os 4 .any (Rows.fnForbiddenSpec.pre6 enc Tryz.prog Tryz.f4 Rows.fnForbiddenRow.domain false) (Rows.fnForbiddenSpec.post enc Tryz.prog Tryz.f4 false true false false) := by
  refine returnsInHanded_of_change_sized (C := Tryz.checked) ownKnobF started (by kernel_rfl) Tryz.func4
    (ChangeSpec.witness6 (enc := enc) (C := Tryz.checked) false ⟨#[], #[.slice none 0 0], []⟩ 8 (by kernel_rfl) (by kernel_rfl) (by kernel_rfl) (by kernel_rfl)) ?_
  intro W base args ds gs before hval0 hW hcnd hsz0 _
  have hval : ∀ (j : Nat) t v, Tryz.f4.params[j]? = some t → args[j]? = some v → Value.okWide Tryz.prog W .any base t v := hval0
  have hW' := hW
  obtain ⟨p, q, hA0, hV, rfl, hfz, hnd⟩ := hW
  have hA : DataW.TrodAll enc Tryz.prog W 0 (fun _ => true) true Tryz.f4.params.toList args.toList ds p := hA0
  rw [Tryz.params4] at hA hval
  obtain ⟨v0, vs0, d0, ds0, p0, q0, hargs, rfl, rfl, h0, r0⟩ := trodAll_cons hA
  obtain ⟨rfl, rfl, rfl⟩ := trodAll_nil r0
  obtain rfl : args = #[v0] := by cases args; simp_all
  obtain ⟨rfl, rfl⟩ := trodVars_none hV
  have hlt : ∀ x ∈ (p0 ++ []), x.block < W.heap.size := fun x hx => hW'.lt x (by simpa using hx)
  obtain ⟨B0, n0, m0, rfl⟩ := okWide_slice Tryz.underlying22 (hval 0 22 v0 rfl rfl)
  have h0' := h0
  obtain ⟨fu0, g0⟩ := h0
  obtain ⟨A0, k0, x0, e0, l0, C0, s0⟩ := trod_bytes g0
  obtain ⟨rfl, rfl, rfl⟩ : A0 = B0 ∧ x0.length = n0 ∧ k0 = m0 := by simp [Value.cells] at e0; exact ⟨e0.1.symm, e0.2.1.symm, e0.2.2.symm⟩
  clear hA0 hval0 hsz0
  refine (law_FnForbidden x0 A0 k0 W C0 l0 s0).mono fun e W' ⟨he, bel⟩ => ?_
  subst he
  exact ⟨_, rfl, _, _, _, [], _, [], hW', trodAll_mk1 (shut_bool Tryz.underlying4 _), (trodAll_cons_mk (Below.trod laidB (by kernel_rfl) (of_decide_eq_true (by kernel_rfl)) h0' bel (fun x hx => hlt x (by simp [hx]))) trodAll_mk0), rfl, bel.frame _, fun h => by cases h⟩
theorem forbidden_holds : Rows.FnForbiddenSaid :=
  OpenClaim.holds_of_wide 4 Tryz.f4 rfl rfl rfl rfl rfl rfl rfl ⟨rfl, rfl, rfl, rfl, rfl⟩ rfl rfl rfl rfl rfl (by kernel_rfl) Tryz.func4 (by kernel_rfl)
    (of_decide_eq_true (by kernel_rfl)) (by unfold Func.isWrapper; first | (rw [if_pos (by decide +kernel)]; kernel_rfl) | (rw [if_neg (by decide +kernel)]; exact ⟨rfl, rfl⟩))
    (fun os started H enc _ => lifted_FnForbidden os started H enc)

end Go.Proofs.YtnoehaphbpkpjaaGreat
