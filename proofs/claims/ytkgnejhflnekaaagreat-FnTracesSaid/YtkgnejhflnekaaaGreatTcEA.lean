/- Contracts and lemmas for the statements of this seat, written for this claim; each theorem states its own conditions. -/
import Derived.Deep.Cut
import Derived.Deep.CutBlock
import Derived.Deep.DeepCutAuto
import Derived.BigQuiet
import Derived.Test.YtkgnejhflnekaaaGreatRows
import Derived.Deep.RegionHeld3
import Derived.Deep.LoopGhost
import Derived.Laws.BitsLemmas
import Derived.Shelf.SlSortCmp.Whole1
import Derived.Shelf.SlSortCmp.NoneTotal
import Derived.Sort.LotA
import Derived.Test.YtkgnejhflnekaaaGreatTcE7
import Derived.Test.YtkgnejhflnekaaaGreatTcJ7
import Derived.Test.YtkgnejhflnekaaaGreatTcSe
import Derived.Test.YtkgnejhflnekaaaGreatTcMk
import Derived.Test.YtkgnejhflnekaaaGreatTcD2
import Derived.Test.YtkgnejhflnekaaaGreatTcD4
import Derived.Test.YtkgnejhflnekaaaGreatTcJ3
import Derived.Test.YtkgnejhflnekaaaGreatTcL1
import Derived.Test.YtkgnejhflnekaaaGreatTcBk
import Derived.Test.YtkgnejhflnekaaaGreatTcGr
import Derived.Test.YtkgnejhflnekaaaGreatTcZ2
import Derived.Test.YtkgnejhflnekaaaGreatTcAdd
import Derived.Test.YtkgnejhflnekaaaGreatTcSr
import Derived.Test.YtkgnejhflnekaaaGreatTcQ2
import Derived.Test.YtkgnejhflnekaaaGreatTcRw
import Derived.Test.YtkgnejhflnekaaaGreatTcI2
import Derived.Test.YtkgnejhflnekaaaGreatTcSt
import Derived.Test.YtkgnejhflnekaaaGreatTcSx
import Derived.Test.YtkgnejhflnekaaaGreatTcTq1
import Derived.Test.YtkgnejhflnekaaaGreatTcTm1
import Derived.Test.YtkgnejhflnekaaaGreatTcTh1
import Derived.Test.YtkgnejhflnekaaaGreatTcSz
import Derived.Test.YtkgnejhflnekaaaGreatTcTa1
set_option linter.unusedVariables false
set_option linter.unusedSimpArgs false
namespace Go.Proofs.YtkgnejhflnekaaaGreat
open Go.RowKit
theorem tsCode_nn (c : Int) (ts : List T4) (h : Int) (b : Bool) : 0 ≤ tsCode c ts h b := by
  unfold tsCode
  split
  · split
    · split <;> decide
    · decide
  · decide
theorem ctCode_nn (l : Nat) (c : Int) (ts : List T4) (h n : Int) : 0 ≤ ctCode l c ts h n := by
  unfold ctCode
  split
  · split <;> decide
  · exact tsCode_nn ..
theorem sm_facts {c : Int} {ts : List T4} {d : Int} {us : List T4} {h n : Int} (e : smCode c ts d us h n = 0) : ctCode 200 c ts h n = 0 ∧ ctCode 200 d us h n = 0 ∧ smV c ts d us h n = eqII (twVal 200 c ts h n) (twVal 200 d us h n) := by
  have e2 := e
  unfold smCode at e2
  have h1 := ctCode_nn 200 c ts h n
  have h2 := ctCode_nn 200 d us h n
  split at e2
  · refine ⟨by omega, by omega, ?_⟩
    unfold smV
    rw [if_pos e]
  · exact absurd e2 (by decide)
theorem ct_facts {c : Int} {ts : List T4} {h n : Int} : (ctCode 200 c ts h n = 0 → ctCode 1000 c ts h n = 0 ∧ ctVal 1000 c ts h n = ((twVal 200 c ts h n).length : Int)) ∧ (ctCode 200 c ts h n ≠ 0 → twVal 200 c ts h n = []) := by
  refine ⟨fun e => ?_, fun e => by unfold twVal; rw [if_neg e]⟩
  have e2 := e
  unfold ctCode at e2
  by_cases hz : tsCode c ts h (inR 1 8 n) = 0
  · rw [if_pos hz] at e2
    by_cases hl : 200 < (trL c ts h n).length
    · rw [if_pos hl] at e2; exact absurd e2 (by decide)
    · have h1 : ctCode 1000 c ts h n = 0 := by unfold ctCode; rw [if_pos hz, if_neg (by omega)]
      refine ⟨h1, ?_⟩
      unfold ctVal twVal
      rw [if_pos h1, if_pos e]
  · rw [if_neg hz] at e2; exact absurd e2 hz
/-- the words of TraceWords by their places -/
theorem tw_at {c : Int} {ts : List T4} {h n : Int} (hc : ctCode 200 c ts h n = 0) (j : Nat) (hj : j < (twVal 200 c ts h n).length) {b : Int} (b1 : 1 ≤ b) (b2 : b ≤ h) : tsCode c ts b (wordOk c (twVal 200 c ts h n)[j]) = 0 ∧ trV c ts b (twVal 200 c ts h n)[j] = true := tw_trace hc (List.getElem_mem hj) b1 b2
theorem ov_facts (C : Nat) (ts : List T4) (word : List Int) : ovCode (ovSum C ts word) = 0 → ovV (ovSum C ts word) = ovSum C ts word := by
  unfold ovCode ovV
  intro h
  split at h
  · exact absurd h (by decide)
  · rename_i h2; rw [if_neg h2]
/-- the law of rows over a word: both answers, if there is one -/
theorem over_law {c : Int} {ts : List T4} {k : Int} {word : List Int} (hc : tsCode c ts k (wordOk c word) = 0) (ho : ovCode (ovSum c.toNat ts word) = 0) : (k = 1 → trV c ts k word = decide (ovV (ovSum c.toNat ts word) > 0)) ∧ (trV c ts k word = true → ¬ ovV (ovSum c.toNat ts word) = 0) := by
  obtain ⟨_, _, h3, h4⟩ := over_facts hc
  rw [ov_facts _ _ _ ho]
  exact ⟨fun h => h3 h, fun h e => by have := h4 h; unfold ovSum at e; omega⟩

end Go.Proofs.YtkgnejhflnekaaaGreat
namespace Go.Proofs.YtkgnejhflnekaaaGreat
open Go.RowKit
attribute [local go_sem] addUpon_value addUpon_skip addUpon_enter
theorem mem_tot9 : ∀ {L : List (List Int)} {r : List Int}, r ∈ L → r.length ≤ tot L
  | x :: L, r, h => by
    have e : tot (x :: L) = x.length + tot L := by simp [tot]
    rcases List.mem_cons.1 h with rfl | h
    · omega
    · have := mem_tot9 h; omega
theorem tw_small (c : Int) (ts : List T4) (h n : Int) : (twVal 200 c ts h n).length ≤ 200 ∧ Short 1000000 (twVal 200 c ts h n) := by
  obtain ⟨h1, _, h3⟩ := twVal_short c ts h n
  exact ⟨h1, fun k hk => by have := mem_tot9 (List.getElem_mem hk); omega⟩
/-- what the last part of the law asks of the words -/
def TwLaw (c : Int) (ts : List T4) (h : Int) (d d2 e : Int) (ws : List (List Int)) : Prop :=
  (d = 0 → d2 = 0 ∧ e = (ws.length : Int) ∧ ∀ j (hj : j < ws.length) (b : Int), 1 ≤ b → b ≤ h → tsCode c ts b (wordOk c ws[j]) = 0 ∧ trV c ts b ws[j] = true) ∧ (d ≠ 0 → ws = [])
theorem tw_law (c : Int) (ts : List T4) (h n : Int) : TwLaw c ts h (ctCode 200 c ts h n) (ctCode 1000 c ts h n) (ctVal 1000 c ts h n) (twVal 200 c ts h n) :=
  ⟨fun e => ⟨(ct_facts.1 e).1, (ct_facts.1 e).2, fun j hj b b1 b2 => tw_at e j hj b1 b2⟩, fun e => ct_facts.2 e⟩
set_option maxRecDepth 100000 in
set_option maxHeartbeats 40000000 in
theorem law_FnTraces (code : List Int) (A : Option Addr) (cx : Nat) (w : World) (hX : BytesC w A code) (hl : code.length ≤ 9223372036854775807) (hby : ∀ x ∈ code, 0 ≤ x ∧ x < 256) :
    Calls Tryz.prog 3 #[.slice A code.length cx] w fun e w' => e = .returned (.bool true) ∧ Below w.heap.size w w' := by
  have H0 := Lib.hid (big_c code.length cx A w hl)
  by_cases hbig : (code.length : Int) > 4096
  · rw [show decide ((code.length : Int) > 4096) = true by simp [hbig]] at H0
    go_enter Tryz.func3, Tryz.ntmps3
    go_wp2_with fail
    refine H0.out.mono ?_
    rintro e w1 ⟨rfl, rfl⟩
    go_wp2
    go_ret
    exact ⟨rfl, Below.refl _ _⟩
  · rw [show decide ((code.length : Int) > 4096) = false by simp [hbig]] at H0
    have HX := Lib.hid hX
    have HY := Lib.hid (show BytesOk code from ⟨by omega, hby⟩)
    clear hX hby hbig hl
    go_enter Tryz.func3, Tryz.ntmps3
    go_wp2_with fail
    refine H0.out.mono ?_
    rintro e w0 ⟨rfl, rfl⟩
    clear H0
    go_wp2_with fail
    refine (DrawTraceWords_c A cx code _ HX.out HY.out).mono ?_
    rintro e w1 ⟨cA, tA, A9, k9, ⟨hT, lA, hb⟩, hA, nA, rfl⟩
    have HB := Lib.hid hb
    have TA := Lib.hid hT
    have FA := Lib.hid (tw_law cA tA hA nA)
    obtain ⟨s1, s2⟩ := tw_small cA tA hA nA
    have HSh := Lib.hid s2
    have H1 := Lib.hid (fun W (h : TileCells W A9 tA) => implTraceWords_c cA tA A9 k9 hA nA W h (by omega))
    have H2 := Lib.hid (fun W (h : TileCells W A9 tA) => specTraceWords_c cA tA A9 k9 hA nA W h (by omega))
    have H3 := Lib.hid (fun W (h : TileCells W A9 tA) => implCountTraces_c cA tA A9 k9 hA nA W h (by omega))
    have H4 := Lib.hid (fun W (h : TileCells W A9 tA) => specCountTraces_c cA tA A9 k9 hA nA W h (by omega))
    generalize twVal 200 cA tA hA nA = ws at *
    generalize ctCode 200 cA tA hA nA = dA at *
    generalize ctCode 1000 cA tA hA nA = d2 at *
    generalize ctVal 1000 cA tA hA nA = eA at *
    clear hT hb s2
    go_upto_region 4 with (fail)
    obtain ⟨g9, hg9⟩ : ∃ g9, g9 = w1.heap.size := ⟨_, rfl⟩
    obtain ⟨w2, hw2⟩ : ∃ w2, w2 = w1.alloc (.cells #[.int .i64 cA, .slice A9 tA.length k9] 26) := ⟨_, rfl⟩
    have hb : Below w1.heap.size w1 w2 := by rw [hw2]; exact below_al (Below.refl _ _)
    have KA : Hid (Blk w2 g9 [.int .i64 cA, .slice A9 tA.length k9] 26) := by rw [hw2, hg9]; exact Blk.newA _ _ _
    rw [← hw2, ← hg9]
    clear hw2 hg9
    replace TA := Lib.hid (TA.out.below hb)
    replace HB := Lib.hid (HB.out.trans (hb.mono HB.out.size))
    clear hb
    have a0 := KA.out.cell 0 (by simp)
    have a1 := KA.out.cell 1 (by simp)
    simp only [List.getElem_cons_zero, List.getElem_cons_succ] at a0 a1
    go_wp2_with fail
    clear a0 a1
    refine (H1.out _ TA.out).mono ?_
    rintro e w3 ⟨v, rfl, hO, hb⟩
    obtain ⟨AW, kW, rfl, hr⟩ := hO.rows
    have RA := Lib.hid hr
    replace KA := Lib.hid (KA.out.under hb)
    replace TA := Lib.hid (TA.out.below hb)
    replace HB := Lib.hid (HB.out.trans (hb.mono HB.out.size))
    clear hO hb hr H1
    have a0 := KA.out.cell 0 (by simp)
    have a1 := KA.out.cell 1 (by simp)
    simp only [List.getElem_cons_zero, List.getElem_cons_succ] at a0 a1
    go_wp2_with fail
    clear a0 a1
    refine (H2.out _ TA.out).mono ?_
    rintro e w4 ⟨v, rfl, hO, hb⟩
    obtain ⟨AV, kV, rfl, hr⟩ := hO.rows
    have RX := Lib.hid hr
    replace RA := Lib.hid (RA.out.below hb)
    replace KA := Lib.hid (KA.out.under hb)
    replace TA := Lib.hid (TA.out.below hb)
    replace HB := Lib.hid (HB.out.trans (hb.mono HB.out.size))
    clear hO hb hr H2
    have hdd : (dA != dA) = false := by simp
    go_wp2_with fail
    clear hdd
    refine (rows9_c ws AW AV kW kV _ RA.out RX.out (by omega) HSh.out).mono ?_
    rintro e w5 ⟨rfl, hb⟩
    replace RA := Lib.hid (RA.out.below hb)
    replace KA := Lib.hid (KA.out.under hb)
    replace TA := Lib.hid (TA.out.below hb)
    replace HB := Lib.hid (HB.out.trans (hb.mono HB.out.size))
    clear hb RX
    have a0 := KA.out.cell 0 (by simp)
    have a1 := KA.out.cell 1 (by simp)
    simp only [List.getElem_cons_zero, List.getElem_cons_succ] at a0 a1
    go_wp2_with fail
    clear a0 a1
    refine (H3.out _ TA.out).mono ?_
    rintro e w6 ⟨rfl, hb⟩
    replace RA := Lib.hid (RA.out.below hb)
    replace KA := Lib.hid (KA.out.under hb)
    replace TA := Lib.hid (TA.out.below hb)
    replace HB := Lib.hid (HB.out.trans (hb.mono HB.out.size))
    clear hb H3
    have a0 := KA.out.cell 0 (by simp)
    have a1 := KA.out.cell 1 (by simp)
    simp only [List.getElem_cons_zero, List.getElem_cons_succ] at a0 a1
    go_wp2_with fail
    clear a0 a1
    refine (H4.out _ TA.out).mono ?_
    rintro e w7 ⟨rfl, hb⟩
    replace RA := Lib.hid (RA.out.below hb)
    replace KA := Lib.hid (KA.out.under hb)
    replace TA := Lib.hid (TA.out.below hb)
    replace HB := Lib.hid (HB.out.trans (hb.mono HB.out.size))
    clear hb H4
    have h1 : (d2 != d2) = false := by simp
    have h2 : (eA != eA) = false := by simp
    go_upto_region 12 with (fail)
    clear h1 h2
    go_wp2_with fail
    refine (DrawIsTrace_c A cx code _ (HX.out.below HB.out) HY.out).mono ?_
    rintro e w8 ⟨cB, tB, AB, kB, RB, lB, word, hB, rfl, ⟨hT, lBt, hb⟩, hR, lw⟩
    replace KA := Lib.hid (KA.out.under hb)
    replace TA := Lib.hid (TA.out.below hb)
    replace HB := Lib.hid (HB.out.trans (hb.mono HB.out.size))
    replace RA := Lib.hid (RA.out.below hb)
    have TB := Lib.hid hT
    have CB := Lib.hid hR
    clear hb hT hR
    have H1 := Lib.hid (fun W (h1 : TileCells W AB tB) (h2 : Cells W RB (ints word)) => implIsTrace_c cB tB AB kB hB word RB lB W h1 (by omega) h2 (by omega))
    have H2 := Lib.hid (fun W (h1 : TileCells W AB tB) (h2 : Cells W RB (ints word)) => specIsTrace_c cB tB AB kB hB word RB lB W h1 (by omega) h2 (by omega))
    have HO : Hid (tsCode cB tB hB (wordOk cB word) = 0 → ∀ W, TileCells W AB tB → Cells W RB (ints word) → Calls Tryz.prog 19 #[.agg #[.int .i64 cB, .slice AB tB.length kB], .slice RB word.length lB] W fun e w' => e = .returned (.tuple #[.int .i64 (ovV (ovSum cB.toNat tB word)), .int .i64 (ovCode (ovSum cB.toNat tB word))]) ∧ Below W.heap.size W w') := fun hd W h1 h2 => by
      obtain ⟨hs, hw, _⟩ := over_facts hd
      have hc := (isSetB_parts hs).2.1.1
      have e : ((cB.toNat : Nat) : Int) = cB := Int.toNat_of_nonneg (by omega)
      have := implCountRowsOver_c cB.toNat tB AB kB word RB lB W (by rw [e]; exact hs) h1 h2 (by rw [e]; exact hw)
      rwa [e] at this
    have FB := Lib.hid (fun h1 h2 => over_law (c := cB) (ts := tB) (k := hB) (word := word) h1 h2)
    generalize trV cB tB hB word = tv at *
    generalize tsCode cB tB hB (wordOk cB word) = dB at *
    generalize ovSum cB.toNat tB word = ov at *
    go_upto_region 13 with (fail)
    obtain ⟨gB, hgB⟩ : ∃ gB, gB = w8.heap.size := ⟨_, rfl⟩
    obtain ⟨w9, hw9⟩ : ∃ w9, w9 = w8.alloc (.cells #[.int .i64 cB, .slice AB tB.length kB] 26) := ⟨_, rfl⟩
    have hb : Below w8.heap.size w8 w9 := by rw [hw9]; exact below_al (Below.refl _ _)
    have KB : Hid (Blk w9 gB [.int .i64 cB, .slice AB tB.length kB] 26) := by rw [hw9, hgB]; exact Blk.newA _ _ _
    rw [← hw9, ← hgB]
    clear hw9 hgB
    replace KA := Lib.hid (KA.out.under hb)
    replace TA := Lib.hid (TA.out.below hb)
    replace HB := Lib.hid (HB.out.trans (hb.mono HB.out.size))
    replace RA := Lib.hid (RA.out.below hb)
    replace TB := Lib.hid (TB.out.below hb)
    replace CB := Lib.hid (CB.out.below hb)
    clear hb
    have b0 := KB.out.cell 0 (by simp)
    have b1 := KB.out.cell 1 (by simp)
    simp only [List.getElem_cons_zero, List.getElem_cons_succ] at b0 b1
    go_wp2_with fail
    clear b0 b1
    refine (H1.out _ TB.out CB.out).mono ?_
    rintro e w10 ⟨rfl, hb⟩
    replace KA := Lib.hid (KA.out.under hb)
    replace TA := Lib.hid (TA.out.below hb)
    replace HB := Lib.hid (HB.out.trans (hb.mono HB.out.size))
    replace RA := Lib.hid (RA.out.below hb)
    replace KB := Lib.hid (KB.out.under hb)
    replace TB := Lib.hid (TB.out.below hb)
    replace CB := Lib.hid (CB.out.below hb)
    clear hb H1
    have b0 := KB.out.cell 0 (by simp)
    have b1 := KB.out.cell 1 (by simp)
    simp only [List.getElem_cons_zero, List.getElem_cons_succ] at b0 b1
    go_wp2_with fail
    clear b0 b1
    refine (H2.out _ TB.out CB.out).mono ?_
    rintro e w11 ⟨rfl, hb⟩
    replace KA := Lib.hid (KA.out.under hb)
    replace TA := Lib.hid (TA.out.below hb)
    replace HB := Lib.hid (HB.out.trans (hb.mono HB.out.size))
    replace RA := Lib.hid (RA.out.below hb)
    replace KB := Lib.hid (KB.out.under hb)
    replace TB := Lib.hid (TB.out.below hb)
    replace CB := Lib.hid (CB.out.below hb)
    clear hb H2
    have h1 : (dB != dB) = false := by simp
    have h2 : (tv != tv) = false := by simp
    go_upto_region 17 with (fail)
    clear h1 h2
    go_wp2_with fail
    refine (DrawSameTraces_c A cx code _ (HX.out.below HB.out) HY.out).mono ?_
    rintro e w12 ⟨cC, tC, AC, kC, cD, tD, AD, kD, hC, nC, rfl, ⟨hT, lC, hU, lD, hb⟩⟩
    replace KA := Lib.hid (KA.out.under hb)
    replace TA := Lib.hid (TA.out.below hb)
    replace HB := Lib.hid (HB.out.trans (hb.mono HB.out.size))
    replace RA := Lib.hid (RA.out.below hb)
    replace KB := Lib.hid (KB.out.under hb)
    replace TB := Lib.hid (TB.out.below hb)
    replace CB := Lib.hid (CB.out.below hb)
    have TC := Lib.hid hT
    have TD := Lib.hid hU
    clear hb hT hU
    have H1 := Lib.hid (fun W (h1 : TileCells W AC tC) (h2 : TileCells W AD tD) => implSameTraces_c cC cD hC nC tC tD AC AD kC kD W h1 h2 (by omega) (by omega))
    have H2 := Lib.hid (fun W (h1 : TileCells W AC tC) (h2 : TileCells W AD tD) => specSameTraces_c cC cD hC nC tC tD AC AD kC kD W h1 h2 (by omega) (by omega))
    have H3 := Lib.hid (fun W (h : TileCells W AC tC) => implTraceWords_c cC tC AC kC hC nC W h (by omega))
    have H4 := Lib.hid (fun W (h : TileCells W AD tD) => implTraceWords_c cD tD AD kD hC nC W h (by omega))
    have FC := Lib.hid (sm_facts (c := cC) (ts := tC) (d := cD) (us := tD) (h := hC) (n := nC))
    obtain ⟨l1, s1⟩ := tw_small cC tC hC nC
    obtain ⟨l2, s2⟩ := tw_small cD tD hC nC
    have HS1 := Lib.hid s1
    have HS2 := Lib.hid s2
    clear s1 s2
    generalize smV cC tC cD tD hC nC = sv at *
    generalize smCode cC tC cD tD hC nC = sc at *
    generalize twVal 200 cC tC hC nC = w1s at *
    generalize twVal 200 cD tD hC nC = w2s at *
    generalize ctCode 200 cC tC hC nC = e1 at *
    generalize ctCode 200 cD tD hC nC = e2 at *
    go_upto_region 18 with (fail)
    obtain ⟨w13, hw13⟩ : ∃ w13, w13 = (w12.alloc (.cells #[.int .i64 cC, .slice AC tC.length kC] 26)).alloc (.cells #[.int .i64 cD, .slice AD tD.length kD] 26) := ⟨_, rfl⟩
    obtain ⟨gC, hgC⟩ : ∃ gC, gC = w12.heap.size := ⟨_, rfl⟩
    obtain ⟨gD, hgD⟩ : ∃ gD, gD = w12.heap.size + 1 := ⟨_, rfl⟩
    have hb : Below w12.heap.size w12 w13 := by rw [hw13]; exact below_al (below_al (Below.refl _ _))
    have KC : Hid (Blk w13 gC [.int .i64 cC, .slice AC tC.length kC] 26) := by rw [hw13, hgC]; exact (Blk.newA _ _ _).alloc _
    have KD : Hid (Blk w13 gD [.int .i64 cD, .slice AD tD.length kD] 26) := by
      rw [hw13, hgD]
      have := Blk.newA (w12.alloc (.cells #[.int .i64 cC, .slice AC tC.length kC] 26)) #[.int .i64 cD, .slice AD tD.length kD] 26
      rwa [World.size_alloc] at this
    rw [← hw13, ← hgD, ← hgC]
    clear hw13 hgD hgC
    replace KA := Lib.hid (KA.out.under hb)
    replace TA := Lib.hid (TA.out.below hb)
    replace HB := Lib.hid (HB.out.trans (hb.mono HB.out.size))
    replace RA := Lib.hid (RA.out.below hb)
    replace KB := Lib.hid (KB.out.under hb)
    replace TB := Lib.hid (TB.out.below hb)
    replace CB := Lib.hid (CB.out.below hb)
    replace TC := Lib.hid (TC.out.below hb)
    replace TD := Lib.hid (TD.out.below hb)
    clear hb
    have c0 := KC.out.cell 0 (by simp)
    have c1 := KC.out.cell 1 (by simp)
    simp only [List.getElem_cons_zero, List.getElem_cons_succ] at c0 c1
    have d0 := KD.out.cell 0 (by simp)
    have d1 := KD.out.cell 1 (by simp)
    simp only [List.getElem_cons_zero, List.getElem_cons_succ] at d0 d1
    go_wp2_with fail
    clear c0 c1 d0 d1
    refine (H1.out _ TC.out TD.out).mono ?_
    rintro e w14 ⟨rfl, hb⟩
    replace KA := Lib.hid (KA.out.under hb)
    replace TA := Lib.hid (TA.out.below hb)
    replace HB := Lib.hid (HB.out.trans (hb.mono HB.out.size))
    replace RA := Lib.hid (RA.out.below hb)
    replace KB := Lib.hid (KB.out.under hb)
    replace TB := Lib.hid (TB.out.below hb)
    replace CB := Lib.hid (CB.out.below hb)
    replace KC := Lib.hid (KC.out.under hb)
    replace TC := Lib.hid (TC.out.below hb)
    replace KD := Lib.hid (KD.out.under hb)
    replace TD := Lib.hid (TD.out.below hb)
    clear hb H1
    have c0 := KC.out.cell 0 (by simp)
    have c1 := KC.out.cell 1 (by simp)
    simp only [List.getElem_cons_zero, List.getElem_cons_succ] at c0 c1
    have d0 := KD.out.cell 0 (by simp)
    have d1 := KD.out.cell 1 (by simp)
    simp only [List.getElem_cons_zero, List.getElem_cons_succ] at d0 d1
    go_wp2_with fail
    clear c0 c1 d0 d1
    refine (H2.out _ TC.out TD.out).mono ?_
    rintro e w15 ⟨rfl, hb⟩
    replace KA := Lib.hid (KA.out.under hb)
    replace TA := Lib.hid (TA.out.below hb)
    replace HB := Lib.hid (HB.out.trans (hb.mono HB.out.size))
    replace RA := Lib.hid (RA.out.below hb)
    replace KB := Lib.hid (KB.out.under hb)
    replace TB := Lib.hid (TB.out.below hb)
    replace CB := Lib.hid (CB.out.below hb)
    replace KC := Lib.hid (KC.out.under hb)
    replace TC := Lib.hid (TC.out.below hb)
    replace KD := Lib.hid (KD.out.under hb)
    replace TD := Lib.hid (TD.out.below hb)
    clear hb H2
    have h1 : (sc != sc) = false := by simp
    have h2 : (sv != sv) = false := by simp
    go_upto_region 22 with (fail)
    clear h1 h2
    go_upto_if 152 with (fail)
    go_cut [] (fun wx => Hid (Below w15.heap.size w15 wx))
    case first =>
     as_aux_lemma =>
      by_cases hd : sc = 0
      · obtain ⟨q1, q2, q3⟩ := FC.out hd
        have hd' : (sc == 0) = true := by simp [hd]
        subst q1 q2 q3
        clear hd
        have c0 := KC.out.cell 0 (by simp)
        have c1 := KC.out.cell 1 (by simp)
        simp only [List.getElem_cons_zero, List.getElem_cons_succ] at c0 c1
        go_wp2_with fail
        clear c0 c1
        refine (H3.out _ TC.out).mono ?_
        rintro e w16 ⟨v, rfl, hO, hb⟩
        obtain ⟨A1, k1, rfl, hr⟩ := hO.rows
        have R1 := Lib.hid hr
        have HR := Lib.hid hb
        replace TD := Lib.hid (TD.out.below hb)
        replace KD := Lib.hid (KD.out.under hb)
        clear hO hb hr H3
        have d0 := KD.out.cell 0 (by simp)
        have d1 := KD.out.cell 1 (by simp)
        simp only [List.getElem_cons_zero, List.getElem_cons_succ] at d0 d1
        go_wp2_with fail
        clear d0 d1
        refine (H4.out _ TD.out).mono ?_
        rintro e w17 ⟨v, rfl, hO, hb⟩
        obtain ⟨A2, k2, rfl, hr⟩ := hO.rows
        have R2 := Lib.hid hr
        replace R1 := Lib.hid (R1.out.below hb)
        replace HR := Lib.hid (HR.out.trans (hb.mono HR.out.size))
        clear hO hb hr H4
        go_wp2_with fail
        refine (rows9g_c w1s w2s A1 A2 k1 k2 _ R1.out R2.out (by omega) (by omega) HS1.out HS2.out).mono ?_
        rintro e w18 ⟨rfl, hb⟩
        replace HR := Lib.hid (HR.out.trans (hb.mono HR.out.size))
        have hqq : (eqII w1s w2s != eqII w1s w2s) = false := by simp
        clear hb
        go_wp2_with fail
        go_meet
        case rel => exact HR
      · have hd' : (sc == 0) = false := by simp [hd]
        clear hd
        go_wp2_with fail
        go_meet
        case rel => exact Below.refl _ _
    case rest =>
     as_aux_lemma =>
      have hb := hcut.out
      replace KA := Lib.hid (KA.out.under hb)
      replace TA := Lib.hid (TA.out.below hb)
      replace HB := Lib.hid (HB.out.trans (hb.mono HB.out.size))
      replace RA := Lib.hid (RA.out.below hb)
      replace KB := Lib.hid (KB.out.under hb)
      replace TB := Lib.hid (TB.out.below hb)
      replace CB := Lib.hid (CB.out.below hb)
      clear hcut hb KC KD TC TD FC H3 H4 HS1 HS2
      obtain ⟨wG, rfl⟩ : ∃ q, q = wc := ⟨_, rfl⟩
      go_upto_if 181 with (fail)
      go_cut [] (fun wx => Hid (Below wG.heap.size wG wx))
      case first =>
       as_aux_lemma =>
        by_cases hd : dB = 0
        · have HQ := Lib.hid (HO.out hd)
          have HL := Lib.hid (FB.out hd)
          have hd' : (dB == 0) = true := by simp [hd]
          clear hd HO FB
          have b0 := KB.out.cell 0 (by simp)
          have b1 := KB.out.cell 1 (by simp)
          simp only [List.getElem_cons_zero, List.getElem_cons_succ] at b0 b1
          go_wp2_with fail
          clear b0 b1
          refine (HQ.out _ TB.out CB.out).mono ?_
          rintro e w16 ⟨rfl, hb⟩
          have HR := Lib.hid hb
          clear hb HQ
          generalize ovV ov = o at *
          generalize ovCode ov = oc at *
          by_cases ho : oc = 0
          · obtain ⟨p1, p2⟩ := HL.out ho
            have ho' : (oc == 0) = true := by simp [ho]
            have P1 := Lib.hid p1
            have P2 := Lib.hid p2
            clear ho p1 p2 HL
            by_cases hk : hB = 1
            · have hk' : (hB == 1) = true := by simp [hk]
              have e1 := (P1.out hk).symm
              clear hk P1
              cases tv
              · clear P2
                go_wp2_with fail
                go_meet
                case rel => exact HR
              · have e2 : (o == 0) = false := by simp [P2.out rfl]
                clear P2
                go_wp2_with fail
                go_meet
                case rel => exact HR
            · have hk' : (hB == 1) = false := by simp [hk]
              clear hk P1
              cases tv
              · clear P2
                go_wp2_with fail
                go_meet
                case rel => exact HR
              · have e2 : (o == 0) = false := by simp [P2.out rfl]
                clear P2
                go_wp2_with fail
                go_meet
                case rel => exact HR
          · have ho' : (oc == 0) = false := by simp [ho]
            clear ho HL
            go_wp2_with fail
            go_meet
            case rel => exact HR
        · have hd' : (dB == 0) = false := by simp [hd]
          clear hd
          go_wp2_with fail
          go_meet
          case rel => exact Below.refl _ _
      case rest =>
       as_aux_lemma =>
        have hb := hcut.out
        replace KA := Lib.hid (KA.out.under hb)
        replace TA := Lib.hid (TA.out.below hb)
        replace HB := Lib.hid (HB.out.trans (hb.mono HB.out.size))
        replace RA := Lib.hid (RA.out.below hb)
        clear hcut hb KB TB CB FB HO
        obtain ⟨wH, rfl⟩ : ∃ q, q = wc := ⟨_, rfl⟩
        by_cases hd : dA = 0
        · obtain ⟨f1, f2, f3⟩ := FA.out.1 hd
          have hd' : (dA != 0) = false := by simp [hd]
          have h1 : (d2 != 0) = false := by simp [f1]
          have h2 : (eA != (ws.length : Int)) = false := by simp [f2]
          have HF := Lib.hid f3
          clear hd f1 f2 f3 FA
          go_wp2_with fail
          clear hd' h1 h2
          go_loopw [35] (fun iv wr => ∃ k : Nat, k ≤ ws.length ∧ iv = .int .i64 (k : Int) ∧ Hid (Below wH.heap.size wH wr)) (fun i _ => ws.length - (intOf i).toNat)
          case atStart => exact ⟨0, by omega, rfl, Lib.hid (Below.refl _ _)⟩
          case round =>
            obtain ⟨k, hk, rfl, HW⟩ := hrel
            obtain ⟨wy, rfl⟩ : ∃ wy, wy = wr := ⟨wr, rfl⟩
            by_cases h1 : k < ws.length
            · by_cases h5 : (k : Int) < 5
              · have HF2 := Lib.hid (HF.out k h1)
                go_wp2_with fail
                go_loopw [36] (fun iv wr => ∃ b : Int, 1 ≤ b ∧ iv = .int .i64 b ∧ Hid (Below wH.heap.size wH wr)) (fun i _ => (hA + 1 - intOf i).toNat)
                case atStart => exact ⟨1, by omega, rfl, HW⟩
                case round =>
                  clear HW
                  obtain ⟨b, hb1, rfl, HW⟩ := hrel
                  by_cases h6 : b ≤ hA
                  · obtain ⟨g1, g2⟩ := HF2.out b hb1 h6
                    obtain ⟨_, _, _, hb3, _⟩ := tsCode_zero g1
                    obtain ⟨b9, off, A', cw, rfl, hlt, hc, hr⟩ := (RA.out.below HW.out) k h1
                    have hws := HSh.out k h1
                    have HQ := Lib.hid (fun (W : World) (h : Below wr.heap.size wr W) => implIsTrace_c cA tA A9 k9 b ws[k] A' cw W ((TA.out.below HW.out).below h) (by omega) (hr.below h) (by omega))
                    rw [g1, g2] at HQ
                    have a0 := (KA.out.under HW.out).cell 0 (by simp)
                    have a1 := (KA.out.under HW.out).cell 1 (by simp)
                    simp only [List.getElem_cons_zero, List.getElem_cons_succ] at a0 a1
                    have p0 := keepC a0
                    have p1 := keepC a1
                    have p2 := keepC hc
                    have hadd : IntKind.i64.wrap (b + 1) = b + 1 := IntWalk.i64_in _ (by omega)
                    clear g1 g2 hc hr hws a0 a1
                    generalize ws[k] = row at *
                    go_wp2_with fail
                    refine wp_region_add (fun w' => Below (wr).heap.size (wr) w') (by kernel_rfl) (by kernel_rfl) ((Below.refl _ _).drew) ?_
                    repeat (first
                      | (refine add_skip rfl (fun K' hK' => ?_); go_simp; refine hK' _ ?_; clear hK' K')
                      | (refine add_do (v := ?_) rfl (fun w1 hb => ?_) (fun K' hK' => ?_); rotate_left
                         · go_simp
                           first
                           | (with_reducible exact rfl)
                           | (with_reducible exact ⟨rfl, hb⟩)
                           | (with_reducible exact (addCall (HQ.out w1 hb) hb).2)
                           | exact (addCall (HQ.out w1 hb) hb).2
                           | exact rfl
                           | exact ⟨rfl, hb⟩
                         go_simp; refine hK' _ ?_; clear hK' K'))
                    refine add_nil ?_
                    intro wa hba
                    have HW2 := Lib.hid (HW.out.trans (hba.mono HW.out.size))
                    clear hba p0 p1 p2
                    go_wp2_with fail
                    go_roundw
                    case rel => exact ⟨b + 1, by omega, rfl, HW2⟩
                    case measure => simp [intOf] <;> omega
                  · go_wp2_with fail
                    go_roundw
                    case rel => exact ⟨k + 1, by omega, by go_num, HW⟩
                    case measure => simp [intOf] <;> omega
              · go_wp2_with fail
                go_ret
                exact ⟨rfl, HB.out.trans (HW.out.mono HB.out.size)⟩
            · go_wp2_with fail
              go_ret
              exact ⟨rfl, HB.out.trans (HW.out.mono HB.out.size)⟩
        · have hd' : (dA != 0) = true := by simp [hd]
          obtain rfl := FA.out.2 hd
          clear hd FA
          go_wp2_with fail
          go_ret
          exact ⟨rfl, HB.out⟩

end Go.Proofs.YtkgnejhflnekaaaGreat
namespace Go.Proofs.YtkgnejhflnekaaaGreat
open Go.RowKit
open Go.ChangeShapes Go.WideShapes Go.ChangeAt in
set_option maxRecDepth 100000 in
theorem lifted_FnTraces (os : Os) (started : os.Started) (H : Type) (enc : TypeId × Value → H) :
    ReturnsInHanded {} Tryz.checked os 3 .any (Rows.fnTracesSpec.pre6 enc Tryz.prog Tryz.f3 Rows.fnTracesRow.domain false) (Rows.fnTracesSpec.post enc Tryz.prog Tryz.f3 false true false false) := by
  refine returnsInHanded_of_change_sized (C := Tryz.checked) ownKnobF started (by kernel_rfl) Tryz.func3
    (ChangeSpec.witness6 (enc := enc) (C := Tryz.checked) false ⟨#[], #[.slice none 0 0], []⟩ 8 (by kernel_rfl) (by kernel_rfl) (by kernel_rfl) (by kernel_rfl)) ?_
  intro W base args ds gs before hval0 hW hcnd hsz0 _
  have hval : ∀ (j : Nat) t v, Tryz.f3.params[j]? = some t → args[j]? = some v → Value.okWide Tryz.prog W .any base t v := hval0
  have hW' := hW
  obtain ⟨p, q, hA0, hV, rfl, hfz, hnd⟩ := hW
  have hA : DataW.TrodAll enc Tryz.prog W 0 (fun _ => true) true Tryz.f3.params.toList args.toList ds p := hA0
  rw [Tryz.params3] at hA hval
  obtain ⟨v0, vs0, d0, ds0, p0, q0, hargs, rfl, rfl, h0, r0⟩ := trodAll_cons hA
  obtain ⟨rfl, rfl, rfl⟩ := trodAll_nil r0
  obtain rfl : args = #[v0] := by cases args; simp_all
  obtain ⟨rfl, rfl⟩ := trodVars_none hV
  have hlt : ∀ x ∈ (p0 ++ []), x.block < W.heap.size := fun x hx => hW'.lt x (by simpa using hx)
  obtain ⟨B0, n0, m0, rfl⟩ := okWide_slice Tryz.underlying22 (hval 0 22 v0 rfl rfl)
  have h0' := h0
  obtain ⟨fu0, g0⟩ := h0
  obtain ⟨A0, k0, x0, e0, l0, C0, s0⟩ := trod_bytes g0
  obtain ⟨rfl, rfl, rfl⟩ : A0 = B0 ∧ x0.length = n0 ∧ k0 = m0 := by simp [Value.cells] at e0; exact ⟨e0.1.symm, e0.2.1.symm, e0.2.2.symm⟩
  clear hA0 hval0 hsz0
  refine (law_FnTraces x0 A0 k0 W C0 l0 s0).mono fun e W' ⟨he, bel⟩ => ?_
  subst he
  exact ⟨_, rfl, _, _, _, [], _, [], hW', trodAll_mk1 (shut_bool Tryz.underlying4 _), (trodAll_cons_mk (Below.trod laidB (by kernel_rfl) (of_decide_eq_true (by kernel_rfl)) h0' bel (fun x hx => hlt x (by simp [hx]))) trodAll_mk0), rfl, bel.frame _, fun h => by cases h⟩
theorem traces_holds : Rows.FnTracesSaid :=
  OpenClaim.holds_of_wide 3 Tryz.f3 rfl rfl rfl rfl rfl rfl rfl ⟨rfl, rfl, rfl, rfl, rfl⟩ rfl rfl rfl rfl rfl (by kernel_rfl) Tryz.func3 (by kernel_rfl)
    (of_decide_eq_true (by kernel_rfl)) (by unfold Func.isWrapper; first | (rw [if_pos (by decide +kernel)]; kernel_rfl) | (rw [if_neg (by decide +kernel)]; exact ⟨rfl, rfl⟩))
    (fun os started H enc _ => lifted_FnTraces os started H enc)
end Go.Proofs.YtkgnejhflnekaaaGreat
