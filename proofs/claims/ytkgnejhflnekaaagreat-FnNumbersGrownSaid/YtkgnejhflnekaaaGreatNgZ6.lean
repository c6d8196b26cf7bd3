/- Contracts and lemmas for the statements of this seat, written for this claim; each theorem states its own conditions. -/
import Derived.Deep.Cut
import Derived.Test.YtkgnejhflnekaaaGreatNgZ4
import Derived.Test.YtkgnejhflnekaaaGreatNgQ7
import Derived.Test.YtkgnejhflnekaaaGreatNgP1
import Derived.Test.YtkgnejhflnekaaaGreatNgTg
import Derived.Test.YtkgnejhflnekaaaGreatNgGt
import Derived.Test.YtkgnejhflnekaaaGreatNgCp
import Derived.Test.YtkgnejhflnekaaaGreatNgCq
import Derived.Test.YtkgnejhflnekaaaGreatNgNu
set_option linter.unusedVariables false
set_option linter.unusedSimpArgs false
namespace Go.Proofs.YtkgnejhflnekaaaGreat
open Go.RowKit
attribute [local go_sem] addUpon_value addUpon_skip addUpon_enter
theorem shl4 {m : Nat} (h : m ≤ 20) : (4 : Int) ^ m = wrap64 (2 ^ (2 * m)) := by
  have h1 := pow4_le h
  have h2 : (2 : Int) ^ (2 * m) = 4 ^ m := by rw [Int.pow_mul]; rfl
  have h3 : (0 : Int) < 4 ^ m := Int.pow_pos (by omega)
  rw [h2]; unfold wrap64; omega
def fnd (Ps : List (List Int)) (a b : Int) (m : Nat) : Bool := (Ps.take m).any fun p => p == [a, b]
theorem fnd_zero (Ps : List (List Int)) (a b : Int) : fnd Ps a b 0 = false := by simp [fnd]
theorem fnd_succ {Ps : List (List Int)} {a b : Int} {m : Nat} (h : m < Ps.length) : fnd Ps a b (m + 1) = (fnd Ps a b m || (Ps[m].getD 0 0 == a && Ps[m].getD 1 0 == b && Ps[m].length == 2)) := by
  unfold fnd
  rw [List.take_succ_eq_append_getElem h, List.any_append]
  simp only [List.any_cons, List.any_nil, Bool.or_false]
  congr 1
  generalize Ps[m] = p
  match p with
  | [] => simp
  | [x] => simp
  | [x, y] => rw [Bool.eq_iff_iff]; simp
  | x :: y :: z :: l => simp
theorem fnd_all {Ps : List (List Int)} {a b : Int} (h : [a, b] ∈ Ps) : fnd Ps a b Ps.length = true := by
  unfold fnd; rw [List.take_length, List.any_eq_true]; exact ⟨_, h, by simp⟩
set_option maxRecDepth 100000 in
set_option maxHeartbeats 20000000 in
theorem law_FnNumbersGrown (code : List Int) (A : Option Addr) (cx : Nat) (w : World) (hX : BytesC w A code) (hl : code.length ≤ 9223372036854775807) (hby : ∀ x ∈ code, 0 ≤ x ∧ x < 256) :
    Calls Tryz.prog 4 #[.slice A code.length cx] w fun e w' => e = .returned (.bool true) ∧ Below w.heap.size w w' := by
  have H0 := Lib.hid (big_c code.length cx A w hl)
  by_cases hbig : (code.length : Int) > 4096
  · rw [show decide ((code.length : Int) > 4096) = true by simp [hbig]] at H0
    go_enter Tryz.func4, Tryz.ntmps4
    go_wp2_with fail
    refine H0.out.mono ?_
    rintro e w1 ⟨rfl, rfl⟩
    go_wp2
    go_ret
    exact ⟨rfl, Below.refl _ _⟩
  · rw [show decide ((code.length : Int) > 4096) = false by simp [hbig]] at H0
    have HX := Lib.hid hX
    have HY := Lib.hid (show BytesOk code from ⟨by omega, hby⟩)
    clear hX hby hbig hl
    go_enter Tryz.func4, Tryz.ntmps4
    go_wp2_with fail
    refine H0.out.mono ?_
    rintro e w0 ⟨rfl, rfl⟩
    clear H0
    go_wp2_with fail
    refine (DrawNumbersAfter_c A cx code _ HX.out HY.out).mono ?_
    rintro e w1 ⟨c, ts, S, cs, L, P, cp, i, n, rfl, hT, hts, hR, hK, hL, hSh, hb⟩
    have HB := Lib.hid hb
    have HI := Lib.hid (fun W (h : Below w1.heap.size w1 W) => implNumbersAfter_c c ts S cs L P cp i n W (hT.below h) (by omega) (hR.below h) (by omega) (fun k hk => by have := hSh k hk; omega))
    have HS := Lib.hid (fun W (h : Below w1.heap.size w1 W) => specNumbersAfter_c c ts S cs L P cp i n W (hT.below h) (by omega) (hR.below h) (by omega) (fun k hk => by have := hSh k hk; omega))
    have HG := Lib.hid (fun W (h : Below w1.heap.size w1 W) => implTilesGrown_c c ts S cs L P cp i W (hT.below h) (by omega) (hR.below h) (by omega) (fun k hk => by have := hSh k hk; omega))
    have F := Lib.hid (num_facts (c := c) (ts := ts) (L := L) (i := i) (n := n))
    have l1 := numV_len c ts L i n
    have l2 := tgV_len c ts L i
    generalize numV c ts L i n = xs at *
    generalize numCode c ts L i n = d at *
    generalize tgV c ts L i = gs at *
    generalize tgCode c ts L i = gd at *
    have hdd : (d != d) = false := by simp
    clear hT hts hR hK hL hSh hb
    go_upto_region 4 with (fail)
    obtain ⟨gT, hgT⟩ : ∃ gT, gT = w1.heap.size := ⟨_, rfl⟩
    obtain ⟨wb, hwb⟩ : ∃ wb, wb = w1.alloc (.cells #[.int .i64 c, .slice S ts.length cs] 26) := ⟨_, rfl⟩
    have HW : Hid (Below w1.heap.size w1 wb) := by rw [hwb]; exact below_al (Below.refl _ _)
    have E0 := Lib.hid (keepC (W := wb) (b := gT) (o := 0) (v := .int .i64 c) (by rw [hwb, hgT]; simp))
    have E1 := Lib.hid (keepC (W := wb) (b := gT) (o := 1) (v := .slice S ts.length cs) (by rw [hwb, hgT]; simp))
    rw [← hwb, ← hgT]
    clear hwb hgT
    have HV := Lib.hid (Below.refl wb.heap.size wb)
    have d0 := E0.out _ HV.out
    have d1 := E1.out _ HV.out
    go_wp2_with fail
    clear d0 d1
    refine (HI.out _ (HW.out.trans (HV.out.mono HW.out.size))).mono ?_
    rintro e w2 ⟨v1, rfl, hO, hb⟩
    obtain ⟨A1, k1, rfl, _, _⟩ := hO.shape
    have HO1 := Lib.hid hO.cells
    replace HV := Lib.hid (HV.out.trans (hb.mono HV.out.size))
    clear hO hb HI
    have d0 := E0.out _ HV.out
    have d1 := E1.out _ HV.out
    go_wp2_with fail
    clear d0 d1
    refine (HS.out _ (HW.out.trans (HV.out.mono HW.out.size))).mono ?_
    rintro e w3 ⟨v2, rfl, hO, hb⟩
    obtain ⟨A2, k2, rfl, _, _⟩ := hO.shape
    have HO2 := Lib.hid hO.cells
    replace HO1 := Lib.hid (HO1.out.below hb)
    replace HV := Lib.hid (HV.out.trans (hb.mono HV.out.size))
    clear hO hb HS
    go_wp2_with fail
    refine (likeInts_c xs xs A1 A2 k1 k2 _ HO1.out HO2.out (by omega) (by omega)).mono ?_
    rintro e w4 ⟨rfl, hb⟩
    rw [eqL_refl]
    replace HO1 := Lib.hid (HO1.out.below hb)
    replace HV := Lib.hid (HV.out.trans (hb.mono HV.out.size))
    clear hb HO2 hdd
    go_upto_if 96 with (fail)
    have HB1 := Lib.hid (HB.out.trans ((HW.out.trans (HV.out.mono HW.out.size)).mono HB.out.size))
    go_cut [] from 61 (fun wx => Below w.heap.size w wx)
    case first =>
     as_aux_lemma =>
      by_cases hd : d = 0
      · subst hd
        obtain ⟨rfl, n0, n1, F1, F2, F3, F4⟩ := F.out rfl
        obtain ⟨m, rfl⟩ := Int.eq_ofNat_of_zero_le n0
        rw [Int.toNat_natCast] at F2
        have hp4 := pow4_le (show m ≤ 20 by omega)
        have hs4 := shl4 (show m ≤ 20 by omega)
        have HS := Lib.hid (fun W h => sum_c xs A1 k1 W h F1 (by omega) (by omega))
        have HC := Lib.hid (fun y A cx W h => hasInt_c gs y A cx W h (by omega))
        have hc3 : decide ((m : Int) ∈ gs) = decide ((m : Int) ∈ gs) := rfl
        rw [F2] at HS
        have F3' : Hid _ := F3
        have F4' := Lib.hid F4
        have HP := Lib.hid F1
        clear F F1 F2 F3 F4 hc3
        have d0 := E0.out _ HV.out
        have d1 := E1.out _ HV.out
        go_wp2_with fail
        clear d0 d1
        refine (HG.out _ (HW.out.trans (HV.out.mono HW.out.size))).mono ?_
        rintro e w5 ⟨v3, rfl, hO, hb⟩
        obtain ⟨A3, k3, rfl, _, _⟩ := hO.shape
        have HO3 := Lib.hid hO.cells
        replace HO1 := Lib.hid (HO1.out.below hb)
        replace HB1 := Lib.hid (HB1.out.trans (hb.mono HB1.out.size))
        clear hO hb HG
        go_wp2_with fail
        refine (HS.out _ HO1.out).mono ?_
        rintro e w6 ⟨rfl, rfl⟩
        go_wp2_with fail
        refine (HC.out _ _ _ _ HO3.out).mono ?_
        rintro e w7 ⟨rfl, rfl⟩
        rw [decide_eq_true F3'.out]
        clear hs4 hp4 HS HP F3'
        go_wp2_with fail
        go_loop [13] (fun i => ∃ k : Nat, k ≤ xs.length ∧ i = .int .i64 (k : Nat)) (fun i => xs.length - (intOf i).toNat)
        case atStart => exact ⟨0, by omega, rfl⟩
        case round =>
          obtain ⟨k, hk, rfl⟩ := hrel
          by_cases h1 : k < xs.length
          · obtain ⟨bq, off, rfl, _, c0⟩ := HO1.out.int k h1
            have hf := F4'.out k h1
            generalize xs[k] = y at *
            by_cases hy : 0 < y
            · have hf := Lib.hid (hf hy)
              have hy2 : decide (y > 0) = true := by simp [hy]
              go_wp2_with fail
              refine (HC.out _ _ _ _ HO3.out).mono ?_
              rintro e w8 ⟨rfl, rfl⟩
              rw [decide_eq_true hf.out]
              go_wp2_with fail
              go_round
              case rel => exact ⟨k + 1, by omega, by go_num⟩
              case measure => simp [intOf]; omega
            · have hy2 : decide (y > 0) = false := by simp; omega
              clear hf
              go_wp2_with fail
              go_round
              case rel => exact ⟨k + 1, by omega, by go_num⟩
              case measure => simp [intOf]; omega
          · obtain rfl : k = xs.length := by omega
            go_wp2_with fail
            go_meet
            case rel => exact HB1.out
      · replace hd : (d == 0) = false := by simp [hd]
        go_wp2_with fail
        go_meet
        case rel => exact HB1.out
    case rest =>
     as_aux_lemma =>
      have HZ := Lib.hid hcut
      clear hcut HO1 HV HB1 E0 E1 HW HG F HB l1 l2
      go_wp2_with fail
      refine (DrawCornersOf_c A cx code _ (HX.out.below HZ.out) HY.out).mono ?_
      rintro e w1 ⟨c, ts, S, cs, L, P, cp, i, n, rfl, hT, hts, hR, hK, hL, hSh, hb⟩
      have HB := Lib.hid (HZ.out.trans (hb.mono HZ.out.size))
      have HI := Lib.hid (fun W (h : Below w1.heap.size w1 W) => implCornersOf_c c ts S cs L P cp i n W (hT.below h) (by omega) (hR.below h) (by omega) (fun k hk => by have := hSh k hk; omega))
      have HS := Lib.hid (fun W (h : Below w1.heap.size w1 W) => specCornersOf_c c ts S cs L P cp i n W (hT.below h) (by omega) (hR.below h) (by omega) (fun k hk => by have := hSh k hk; omega))
      have HG := Lib.hid (fun W (h : Below w1.heap.size w1 W) => implCornerPeriod_c c ts S cs L P cp i W (hT.below h) (by omega) (hR.below h) (by omega) (fun k hk => by have := hSh k hk; omega))
      have F := Lib.hid (fun h => cor_facts (c := c) (ts := ts) (L := L) (i := i) (n := n) h hts)
      have l1 := corV_len c ts L i n
      generalize corV c ts L i n = xs at *
      generalize corCode c ts L i n = d at *
      generalize cpFrom c ts L i = pf at *
      generalize cpLen c ts L i = pl at *
      generalize cpCode c ts L i = pc at *
      have hdd : (d != d) = false := by simp
      clear hT hts hR hK hL hSh hb HZ
      go_upto_region 18 with (fail)
      obtain ⟨gT, hgT⟩ : ∃ gT, gT = w1.heap.size := ⟨_, rfl⟩
      obtain ⟨wb, hwb⟩ : ∃ wb, wb = w1.alloc (.cells #[.int .i64 c, .slice S ts.length cs] 26) := ⟨_, rfl⟩
      have HW : Hid (Below w1.heap.size w1 wb) := by rw [hwb]; exact below_al (Below.refl _ _)
      have E0 := Lib.hid (keepC (W := wb) (b := gT) (o := 0) (v := .int .i64 c) (by rw [hwb, hgT]; simp))
      have E1 := Lib.hid (keepC (W := wb) (b := gT) (o := 1) (v := .slice S ts.length cs) (by rw [hwb, hgT]; simp))
      rw [← hwb, ← hgT]
      clear hwb hgT
      have HV := Lib.hid (Below.refl wb.heap.size wb)
      have d0 := E0.out _ HV.out
      have d1 := E1.out _ HV.out
      go_wp2_with fail
      clear d0 d1
      refine (HI.out _ (HW.out.trans (HV.out.mono HW.out.size))).mono ?_
      rintro e w2 ⟨v1, rfl, hO, hb⟩
      obtain ⟨A1, k1, rfl, _, _⟩ := hO.shape
      have HO1 := Lib.hid hO.cells
      replace HV := Lib.hid (HV.out.trans (hb.mono HV.out.size))
      clear hO hb HI
      have d0 := E0.out _ HV.out
      have d1 := E1.out _ HV.out
      go_wp2_with fail
      clear d0 d1
      refine (HS.out _ (HW.out.trans (HV.out.mono HW.out.size))).mono ?_
      rintro e w3 ⟨v2, rfl, hO, hb⟩
      obtain ⟨A2, k2, rfl, _, _⟩ := hO.shape
      have HO2 := Lib.hid hO.cells
      replace HO1 := Lib.hid (HO1.out.below hb)
      replace HV := Lib.hid (HV.out.trans (hb.mono HV.out.size))
      clear hO hb HS
      go_wp2_with fail
      refine (likeInts_c xs xs A1 A2 k1 k2 _ HO1.out HO2.out (by omega) (by omega)).mono ?_
      rintro e w4 ⟨rfl, hb⟩
      rw [eqL_refl]
      replace HO1 := Lib.hid (HO1.out.below hb)
      replace HV := Lib.hid (HV.out.trans (hb.mono HV.out.size))
      clear hb HO2 hdd
      go_upto_if 171 with (fail)
      have HB1 := Lib.hid (HB.out.trans ((HW.out.trans (HV.out.mono HW.out.size)).mono HB.out.size))
      go_cut [] from 61 (fun wx => Below w.heap.size w wx)
      case first =>
       as_aux_lemma =>
        by_cases hd : d = 0
        · subst hd
          obtain ⟨rfl, n0, n1, F1, f, p, rfl, rfl, p1, f1, p2, F2⟩ := F.out rfl
          replace F2 := Lib.hid F2
          have hne : ((xs.length : Int) != n + 1) = false := by simp [F1]
          replace F1 := Lib.hid F1
          clear F
          have d0 := E0.out _ HV.out
          have d1 := E1.out _ HV.out
          go_wp2_with fail
          clear d0 d1
          refine (HG.out _ (HW.out.trans (HV.out.mono HW.out.size))).mono ?_
          rintro e w5 ⟨rfl, hb⟩
          replace HO1 := Lib.hid (HO1.out.below hb)
          replace HB1 := Lib.hid (HB1.out.trans (hb.mono HB1.out.size))
          clear hb HG
          go_wp2_with fail
          go_loopw [25] (fun v wr => ∃ k : Nat, f ≤ k ∧ k ≤ 1000 ∧ v = .int .i64 (k : Nat) ∧ Hid (Cells wr A1 (ints xs)) ∧ Hid (Below w.heap.size w wr)) (fun v _ => (n + 1 - intOf v).toNat)
          case atStart => exact ⟨f, by omega, by omega, rfl, HO1, HB1⟩
          case round =>
            clear HO1 HB1
            obtain ⟨k, hk, hk2, rfl, HO1, HB1⟩ := hrel
            by_cases h1 : (k : Int) + p ≤ n
            · obtain ⟨bq, off, rfl, hltb, c0⟩ := HO1.out.int k (by have := F1.out; omega)
              obtain ⟨b8, o8, e8, _, c1⟩ := HO1.out.int (k + p) (by have := F1.out; omega)
              injection e8 with e8; injection e8 with e8 e9; subst e8 e9
              have hf := F2.out k hk (by have := F1.out; omega) (by have := F1.out; omega)
              have hlt : k + p < xs.length := by have := F1.out; omega
              have hlt0 : k < xs.length := by have := F1.out; omega
              rw [← hf] at c1
              clear hf
              have hq1 : (k : Int) + (p : Int) = ((k + p : Nat) : Int) := by omega
              have h1' : ((k + p : Nat) : Int) ≤ n := by omega
              have hq2 : IntKind.i64.wrap ((k + p : Nat) : Int) = ((k + p : Nat) : Int) := IntWalk.i64_in _ (by omega)
              generalize xs[k] = y at *
              generalize k + p = q at *
              have hyy : (y != y) = false := by simp
              clear h1
              have e0 := keepC c0
              have e1 := keepC c1
              go_wp2_with fail
              refine wp_region_add (fun w' => Below (wr).heap.size (wr) w') (by kernel_rfl) (by kernel_rfl) ((Below.refl _ _).drew) ?_
              repeat (first
                | (refine add_skip rfl (fun K' hK' => ?_); go_simp; refine hK' _ ?_; clear hK' K')
                | (refine add_do (v := ?_) rfl (fun w1 hb => ?_) (fun K' hK' => ?_); rotate_left
                   · go_simp
                     first
                     | (with_reducible exact rfl)
                     | (with_reducible exact ⟨rfl, hb⟩)
                     | exact rfl
                     | exact ⟨rfl, hb⟩
                   go_simp; refine hK' _ ?_; clear hK' K'))
              refine add_nil ?_
              intro wa hba
              have HO2 := Lib.hid (HO1.out.below hba)
              have HB2 := Lib.hid (HB1.out.trans (hba.mono HB1.out.size))
              clear hba e0 e1 HO1 HB1
              go_wp2_with fail
              go_roundw
              case rel => exact ⟨k + 1, by omega, by omega, by go_num, HO2, HB2⟩
              case measure => simp [intOf]; omega
            · go_wp2_with fail
              go_meet
              case rel => exact HB1.out
        · replace hd : (d == 0) = false := by simp [hd]
          go_wp2_with fail
          go_meet
          case rel => exact HB1.out
      case rest =>
       as_aux_lemma =>
        have HZ := Lib.hid hcut
        clear hcut HO1 HV HB1 E0 E1 HW HG F HB l1
        go_wp2_with fail
        refine (DrawPairsGrown_c A cx code _ (HX.out.below HZ.out) HY.out).mono ?_
        rintro e w1 ⟨c, ts, S, cs, L, P, cp, i, rfl, hT, hts, hR, hK, hL, hSh, hb⟩
        have HB := Lib.hid (HZ.out.trans (hb.mono HZ.out.size))
        have HI := Lib.hid (fun W (h : Below w1.heap.size w1 W) => implPairsGrown_c c ts S cs L P cp i W (hT.below h) (by omega) (hR.below h) (by omega) (fun k hk => by have := hSh k hk; omega))
        have HS := Lib.hid (fun W (h : Below w1.heap.size w1 W) => specPairsGrown_c c ts S cs L P cp i W (hT.below h) (by omega) (hR.below h) (by omega) (fun k hk => by have := hSh k hk; omega))
        have HG := Lib.hid (fun W (h : Below w1.heap.size w1 W) => implGrowTile_c c ts S cs L P cp i 2 W (hT.below h) (by omega) (hR.below h) (by omega) (fun k hk => by have := hSh k hk; omega) (hK.below hR h))
        have F := Lib.hid (pg_facts (c := c) (ts := ts) (L := L) (i := i))
        obtain ⟨l1, -, l3⟩ := pgV_len c ts L i
        have l2 : Short 1000000 (pgV c ts L i) := fun k hk => by have := tot_memZ (List.getElem_mem hk); omega
        clear l3
        obtain ⟨m1, m2, -⟩ := growV_len c ts L i 2
        have L2 := Lib.hid l2
        have M2 := Lib.hid m2
        generalize pgV c ts L i = Ps at *
        generalize growV c ts L i 2 = gv at *
        generalize growCode c ts L i 2 = gc at *
        generalize tgCode c ts L i = d at *
        have hdd : (d != d) = false := by simp
        clear hT hts hR hK hL hSh hb HZ l2 m2
        go_upto_region 32 with (fail)
        obtain ⟨gT, hgT⟩ : ∃ gT, gT = w1.heap.size := ⟨_, rfl⟩
        obtain ⟨wb, hwb⟩ : ∃ wb, wb = w1.alloc (.cells #[.int .i64 c, .slice S ts.length cs] 26) := ⟨_, rfl⟩
        have HW : Hid (Below w1.heap.size w1 wb) := by rw [hwb]; exact below_al (Below.refl _ _)
        have E0 := Lib.hid (keepC (W := wb) (b := gT) (o := 0) (v := .int .i64 c) (by rw [hwb, hgT]; simp))
        have E1 := Lib.hid (keepC (W := wb) (b := gT) (o := 1) (v := .slice S ts.length cs) (by rw [hwb, hgT]; simp))
        rw [← hwb, ← hgT]
        clear hwb hgT
        have HV := Lib.hid (Below.refl wb.heap.size wb)
        have d0 := E0.out _ HV.out
        have d1 := E1.out _ HV.out
        go_wp2_with fail
        clear d0 d1
        refine (HI.out _ (HW.out.trans (HV.out.mono HW.out.size))).mono ?_
        rintro e w2 ⟨v1, rfl, hO, hb⟩
        obtain ⟨A1, k1, rfl, hr⟩ := hO.rows
        have HO1 := Lib.hid hr
        replace HV := Lib.hid (HV.out.trans (hb.mono HV.out.size))
        clear hO hb hr HI
        have d0 := E0.out _ HV.out
        have d1 := E1.out _ HV.out
        go_wp2_with fail
        clear d0 d1
        refine (HS.out _ (HW.out.trans (HV.out.mono HW.out.size))).mono ?_
        rintro e w3 ⟨v2, rfl, hO, hb⟩
        obtain ⟨A2, k2, rfl, hr⟩ := hO.rows
        have HO2 := Lib.hid hr
        replace HO1 := Lib.hid (HO1.out.below hb)
        replace HV := Lib.hid (HV.out.trans (hb.mono HV.out.size))
        clear hO hb hr HS
        go_wp2_with fail
        refine (rows5_c Ps A1 A2 k1 k2 _ HO1.out HO2.out (by omega) L2.out).mono ?_
        rintro e w4 ⟨rfl, hb⟩
        replace HO1 := Lib.hid (HO1.out.below hb)
        replace HV := Lib.hid (HV.out.trans (hb.mono HV.out.size))
        clear hb HO2 hdd
        go_upto_if 242 with (fail)
        have HB1 := Lib.hid (HB.out.trans ((HW.out.trans (HV.out.mono HW.out.size)).mono HB.out.size))
        go_cut [] from 61 (fun wx => Below w.heap.size w wx)
        case first =>
         as_aux_lemma =>
          by_cases hd : d = 0
          · subst hd
            obtain ⟨rfl, F1, F2⟩ := F.out rfl
            replace F1 := Lib.hid F1
            replace F2 := Lib.hid F2
            clear F
            have d0 := E0.out _ HV.out
            have d1 := E1.out _ HV.out
            go_wp2_with fail
            clear d0 d1
            refine (HG.out _ (HW.out.trans (HV.out.mono HW.out.size))).mono ?_
            rintro e w5 ⟨v3, rfl, hO, hb⟩
            obtain ⟨A3, k3, rfl, hr⟩ := hO.rows
            have HO3 := Lib.hid hr
            replace HO1 := Lib.hid (HO1.out.below hb)
            replace HB1 := Lib.hid (HB1.out.trans (hb.mono HB1.out.size))
            clear hO hb hr HG HV HW E0 E1 HB HX HY
            go_wp2_with fail
            go_loopw [35] (fun v wr => ∃ k : Nat, k ≤ gv.length ∧ v = .int .i64 (k : Nat) ∧ Hid (Below w5.heap.size w5 wr)) (fun v _ => gv.length - (intOf v).toNat)
            case atStart => exact ⟨0, by omega, rfl, Below.refl _ _⟩
            case round =>
              obtain ⟨k, hk, rfl, HW0⟩ := hrel
              obtain ⟨w0, rfl⟩ : ∃ w0, w0 = wr := ⟨wr, rfl⟩
              by_cases h1 : k < gv.length
              · obtain ⟨b3, o3, A4, c4, rfl, _, e3, r3⟩ := (HO3.out.below HW0.out) k h1
                have HF2 := Lib.hid (F2.out k h1)
                have hsk := M2.out k h1
                have E3 := Lib.hid (keepC e3)
                have R3 := Lib.hid r3
                clear r3
                generalize gv[k] = row at *
                go_wp2_with fail
                clear e3
                go_loopw [36] (fun v wr => ∃ x : Nat, 1 ≤ x ∧ x ≤ row.length + 1 ∧ v = .int .i64 (x : Nat) ∧ Hid (Below w0.heap.size w0 wr)) (fun v _ => row.length + 1 - (intOf v).toNat)
                case atStart => exact ⟨1, by omega, by omega, rfl, Below.refl _ _⟩
                case round =>
                  obtain ⟨x, hx1, hx2, rfl, HW1⟩ := hrel
                  obtain ⟨wq, rfl⟩ : ∃ wq, wq = wr := ⟨wr, rfl⟩
                  have e3 := E3.out _ HW1.out
                  by_cases h2 : x < row.length
                  · obtain ⟨x0, hx0⟩ : ∃ x0 : Nat, x = x0 + 1 := ⟨x - 1, by omega⟩
                    have hx0l : x0 < row.length := by omega
                    have hwx : IntKind.i64.wrap ((x : Int) - 1) = (x0 : Int) := by rw [IntWalk.i64_in _ (by omega)]; omega
                    obtain ⟨b4, o4, rfl, _, u0⟩ := (R3.out.below HW1.out).int x0 hx0l
                    obtain ⟨b4', o4', q4, _, u1⟩ := (R3.out.below HW1.out).int x h2
                    injection q4 with q4; injection q4 with q4 q4'; subst q4 q4'
                    have HM : Hid ([row[x0], row[x]] ∈ Ps) := by
                      subst hx0
                      exact HF2.out x0 hx0l h2
                    have U0 := Lib.hid (keepC u0)
                    have U1 := Lib.hid (keepC u1)
                    clear hx0 u0 u1
                    generalize row[x0] = a at *
                    generalize row[x] = b at *
                    have HT : Hid (fnd Ps a b Ps.length = true) := fnd_all HM.out
                    have HS0 : Hid (fnd Ps a b 0 = false) := fnd_zero _ _ _
                    go_wp2_with fail
                    have E3q := Lib.hid (keepC e3)
                    clear e3
                    go_loopw [37, 38] (fun v j wr => ∃ m : Nat, m ≤ Ps.length ∧ j = .int .i64 (m : Nat) ∧ v = .bool (fnd Ps a b m) ∧ Hid (Below wq.heap.size wq wr)) (fun _ j _ => Ps.length - (intOf j).toNat)
                    case atStart => exact ⟨0, by omega, rfl, by rw [HS0.out], Below.refl _ _⟩
                    case round =>
                      obtain ⟨m, hm, rfl, rfl, HW2⟩ := hrel
                      by_cases h3 : m < Ps.length
                      · obtain ⟨b5, o5, A6, c6, rfl, _, f5, r5⟩ := (HO1.out.below (HW0.out.trans ((HW1.out.trans (HW2.out.mono HW1.out.size)).mono HW0.out.size))) m h3
                        obtain ⟨p0, p1, hp⟩ : ∃ p0 p1, Ps[m] = [p0, p1] := by
                          have := F1.out m h3
                          match Ps[m], this with
                          | [p0, p1], _ => exact ⟨p0, p1, rfl⟩
                        have HSx := Lib.hid (fnd_succ (a := a) (b := b) h3)
                        rw [hp] at f5 r5 HSx
                        have HSy : Hid (fnd Ps a b (m + 1) = (fnd Ps a b m || (p0 == a && p1 == b))) := by
                          have h9 := HSx.out
                          show _ = _
                          rw [h9]
                          simp
                        clear hp HSx
                        obtain ⟨b6, o6, rfl, _, g0⟩ := r5.int 0 (by simp)
                        obtain ⟨b6', o6', q6, _, g1⟩ := r5.int 1 (by simp)
                        injection q6 with q6; injection q6 with q6 q6'; subst q6 q6'
                        replace f5 : wr.cell? ⟨b5, o5 + m, none⟩ = some (.slice (some ⟨b6, o6, none⟩) 2 c6) := f5
                        simp only [List.getElem_cons_zero, List.getElem_cons_succ, Nat.add_zero] at g0 g1
                        have k0 := keepC f5
                        have k1 := keepC g0
                        have k2 := keepC g1
                        have k3 := keepC (E3q.out _ HW2.out)
                        have k4 := keepC (U0.out _ HW2.out)
                        have k5 := keepC (U1.out _ HW2.out)
                        clear f5 r5 g0 g1
                        generalize fnd Ps a b m = fm at *
                        cases fm
                        · by_cases hpa : p0 = a
                          · subst hpa
                            have hpq : (p0 == p0) = true := by simp
                            rw [hpq] at HSy
                            go_wp2_with fail
                            refine wp_region_add (fun w' => Below (wr).heap.size (wr) w') (by kernel_rfl) (by kernel_rfl) ((Below.refl _ _).drew) ?_
                            repeat (first
                              | (refine add_skip rfl (fun K' hK' => ?_); go_simp; refine hK' _ ?_; clear hK' K')
                              | (refine add_do (v := ?_) rfl (fun w1 hb => ?_) (fun K' hK' => ?_); rotate_left
                                 · go_simp
                                   first
                                   | (with_reducible exact rfl)
                                   | (with_reducible exact ⟨rfl, hb⟩)
                                   | exact rfl
                                   | exact ⟨rfl, hb⟩
                                 go_simp; refine hK' _ ?_; clear hK' K'))
                            refine add_nil ?_
                            intro wa hba
                            have HW3 := Lib.hid (HW2.out.trans (hba.mono HW2.out.size))
                            clear hba k0 k1 k2 k3 k4 k5
                            go_wp2_with fail
                            go_roundw
                            case rel => exact ⟨m + 1, by omega, by go_num, by rw [HSy.out]; first | rfl | simp, HW3⟩
                            case measure => simp [intOf]; omega
                          · have hpq : (p0 == a) = false := by simp [hpa]
                            rw [hpq] at HSy
                            clear hpa
                            go_wp2_with fail
                            refine wp_region_add (fun w' => Below (wr).heap.size (wr) w') (by kernel_rfl) (by kernel_rfl) ((Below.refl _ _).drew) ?_
                            repeat (first
                              | (refine add_skip rfl (fun K' hK' => ?_); go_simp; refine hK' _ ?_; clear hK' K')
                              | (refine add_do (v := ?_) rfl (fun w1 hb => ?_) (fun K' hK' => ?_); rotate_left
                                 · go_simp
                                   first
                                   | (with_reducible exact rfl)
                                   | (with_reducible exact ⟨rfl, hb⟩)
                                   | exact rfl
                                   | exact ⟨rfl, hb⟩
                                 go_simp; refine hK' _ ?_; clear hK' K'))
                            refine add_nil ?_
                            intro wa hba
                            have HW3 := Lib.hid (HW2.out.trans (hba.mono HW2.out.size))
                            clear hba k0 k1 k2 k3 k4 k5
                            go_wp2_with fail
                            go_roundw
                            case rel => exact ⟨m + 1, by omega, by go_num, by rw [HSy.out]; first | rfl | simp, HW3⟩
                            case measure => simp [intOf]; omega
                        · go_wp2_with fail
                          refine wp_region_add (fun w' => Below (wr).heap.size (wr) w') (by kernel_rfl) (by kernel_rfl) ((Below.refl _ _).drew) ?_
                          repeat (first
                            | (refine add_skip rfl (fun K' hK' => ?_); go_simp; refine hK' _ ?_; clear hK' K')
                            | (refine add_do (v := ?_) rfl (fun w1 hb => ?_) (fun K' hK' => ?_); rotate_left
                               · go_simp
                                 first
                                 | (with_reducible exact rfl)
                                 | (with_reducible exact ⟨rfl, hb⟩)
                                 | exact rfl
                                 | exact ⟨rfl, hb⟩
                               go_simp; refine hK' _ ?_; clear hK' K'))
                          refine add_nil ?_
                          intro wa hba
                          have HW3 := Lib.hid (HW2.out.trans (hba.mono HW2.out.size))
                          clear hba k0 k1 k2 k3 k4 k5
                          go_wp2_with fail
                          go_roundw
                          case rel => exact ⟨m + 1, by omega, by go_num, by rw [HSy.out]; first | rfl | simp, HW3⟩
                          case measure => simp [intOf]; omega
                      · obtain rfl : m = Ps.length := by omega
                        rw [HT.out]
                        go_wp2_with fail
                        go_roundw
                        case rel => exact ⟨x + 1, by omega, by omega, by go_num, HW1.out.trans (HW2.out.mono HW1.out.size)⟩
                        case measure => simp [intOf]; omega
                  · go_wp2_with fail
                    go_roundw
                    case rel => exact ⟨k + 1, by omega, by go_num, HW0.out.trans (HW1.out.mono HW0.out.size)⟩
                    case measure => simp [intOf]; omega
              · go_wp2_with fail
                go_meet
                case rel => exact HB1.out.trans (HW0.out.mono HB1.out.size)
          · replace hd : (d == 0) = false := by simp [hd]
            go_wp2_with fail
            go_meet
            case rel => exact HB1.out
        case rest =>
         as_aux_lemma =>
          have HZ := Lib.hid hcut
          clear hcut HO1 HV HB1 E0 E1 HW HG F HB L2 M2 l1 m1
          go_wp2_with fail
          refine (DrawTilesGrown_c A cx code _ (HX.out.below HZ.out) HY.out).mono ?_
          rintro e w1 ⟨c, ts, S, cs, L, P, cp, i, rfl, hT, hts, hR, hK, hL, hSh, hb⟩
          have HB := Lib.hid (HZ.out.trans (hb.mono HZ.out.size))
          have hSh9 : Short 1000000000 L := fun k hk => by have := hSh k hk; omega
          have HI := Lib.hid (fun W (h : Below w1.heap.size w1 W) => implTilesGrown_c c ts S cs L P cp i W (hT.below h) (by omega) (hR.below h) (by omega) hSh9)
          have HS := Lib.hid (fun W (h : Below w1.heap.size w1 W) => specTilesGrown_c c ts S cs L P cp i W (hT.below h) (by omega) (hR.below h) (by omega) hSh9)
          have l1 := tgV_len c ts L i
          generalize tgV c ts L i = tv at *
          generalize tgCode c ts L i = td at *
          clear hT hts hR hK hL hSh hb hSh9 HZ
          go_upto_region 54 with (fail)
          obtain ⟨gT, hgT⟩ : ∃ gT, gT = w1.heap.size := ⟨_, rfl⟩
          obtain ⟨wb, hwb⟩ : ∃ wb, wb = w1.alloc (.cells #[.int .i64 c, .slice S ts.length cs] 26) := ⟨_, rfl⟩
          have HW : Hid (Below w1.heap.size w1 wb) := by rw [hwb]; exact below_al (Below.refl _ _)
          have E0 := Lib.hid (keepC (W := wb) (b := gT) (o := 0) (v := .int .i64 c) (by rw [hwb, hgT]; simp))
          have E1 := Lib.hid (keepC (W := wb) (b := gT) (o := 1) (v := .slice S ts.length cs) (by rw [hwb, hgT]; simp))
          rw [← hwb, ← hgT]
          clear hwb hgT
          have HV := Lib.hid (Below.refl wb.heap.size wb)
          have d0 := E0.out _ HV.out
          have d1 := E1.out _ HV.out
          go_wp2_with fail
          clear d0 d1
          refine (HI.out _ (HW.out.trans (HV.out.mono HW.out.size))).mono ?_
          rintro e w2 ⟨v1, rfl, hO, hb⟩
          obtain ⟨A1, k1, rfl, _, _⟩ := hO.shape
          have HO1 := Lib.hid hO.cells
          replace HV := Lib.hid (HV.out.trans (hb.mono HV.out.size))
          clear hO hb HI
          have d0 := E0.out _ HV.out
          have d1 := E1.out _ HV.out
          go_upto_region 55 with (fail)
          go_cut [44, 45] from 61 (fun a b wx => ∃ A2 k2, a = .slice A2 tv.length k2 ∧ b = .int .i64 td ∧ Hid (Cells wx A1 (ints tv)) ∧ Hid (Cells wx A2 (ints tv)) ∧ Hid (Below w.heap.size w wx))
          case first =>
           as_aux_lemma =>
            go_wp2_with fail
            clear d0 d1
            refine (HS.out _ (HW.out.trans (HV.out.mono HW.out.size))).mono ?_
            rintro e w3 ⟨v2, rfl, hO, hb⟩
            obtain ⟨A2, k2, rfl, _, _⟩ := hO.shape
            have HO2 := Lib.hid hO.cells
            replace HO1 := Lib.hid (HO1.out.below hb)
            have HBe := Lib.hid (HB.out.trans ((HW.out.trans ((HV.out.trans (hb.mono HV.out.size)).mono HW.out.size)).mono HB.out.size))
            clear hb hO
            go_wp2_with fail
            go_meet
            case rel => exact ⟨A2, k2, rfl, rfl, HO1.out, HO2.out, HBe.out⟩
          case rest =>
           as_aux_lemma =>
            obtain ⟨A2, k2, rfl, rfl, HO1, HO2, HZ⟩ := hcut
            clear HB HW HV E0 E1 HS d0 d1
            go_wp2_with fail
            refine (DrawCornerPeriod_c A cx code _ (HX.out.below HZ.out) HY.out).mono ?_
            rintro e w1 ⟨c, ts, S, cs, L, P, cp, i, rfl, hT, hts, hR, hK, hL, hSh, hb⟩
            have HB := Lib.hid (HZ.out.trans (hb.mono HZ.out.size))
            replace HO1 := Lib.hid (HO1.out.below hb)
            replace HO2 := Lib.hid (HO2.out.below hb)
            have hSh9 : Short 1000000000 L := fun k hk => by have := hSh k hk; omega
            have HI := Lib.hid (fun W (h : Below w1.heap.size w1 W) => implCornerPeriod_c c ts S cs L P cp i W (hT.below h) (by omega) (hR.below h) (by omega) hSh9)
            have HS := Lib.hid (fun W (h : Below w1.heap.size w1 W) => specCornerPeriod_c c ts S cs L P cp i W (hT.below h) (by omega) (hR.below h) (by omega) hSh9)
            generalize cpFrom c ts L i = pf at *
            generalize cpLen c ts L i = pl at *
            generalize cpCode c ts L i = pc at *
            clear hT hts hR hK hL hSh hb hSh9 HZ
            go_upto_region 57 with (fail)
            obtain ⟨gT, hgT⟩ : ∃ gT, gT = w1.heap.size := ⟨_, rfl⟩
            obtain ⟨wb, hwb⟩ : ∃ wb, wb = w1.alloc (.cells #[.int .i64 c, .slice S ts.length cs] 26) := ⟨_, rfl⟩
            have HW : Hid (Below w1.heap.size w1 wb) := by rw [hwb]; exact below_al (Below.refl _ _)
            have E0 := Lib.hid (keepC (W := wb) (b := gT) (o := 0) (v := .int .i64 c) (by rw [hwb, hgT]; simp))
            have E1 := Lib.hid (keepC (W := wb) (b := gT) (o := 1) (v := .slice S ts.length cs) (by rw [hwb, hgT]; simp))
            rw [← hwb, ← hgT]
            clear hwb hgT
            have HV := Lib.hid (Below.refl wb.heap.size wb)
            have d0 := E0.out _ HV.out
            have d1 := E1.out _ HV.out
            go_wp2_with fail
            clear d0 d1
            refine (HI.out _ (HW.out.trans (HV.out.mono HW.out.size))).mono ?_
            rintro e w2 ⟨rfl, hb⟩
            replace HV := Lib.hid (HV.out.trans (hb.mono HV.out.size))
            clear hb HI
            have d0 := E0.out _ HV.out
            have d1 := E1.out _ HV.out
            go_upto_region 58 with (fail)
            go_cut [52, 53, 54] from 61 (fun a b z wx => a = .int .i64 pf ∧ b = .int .i64 pl ∧ z = .int .i64 pc ∧ Hid (Cells wx A1 (ints tv)) ∧ Hid (Cells wx A2 (ints tv)) ∧ Hid (Below w.heap.size w wx))
            case first =>
             as_aux_lemma =>
              go_wp2_with fail
              clear d0 d1
              refine (HS.out _ (HW.out.trans (HV.out.mono HW.out.size))).mono ?_
              rintro e w3 ⟨rfl, hb⟩
              have HBt := Lib.hid (HW.out.trans ((HV.out.trans (hb.mono HV.out.size)).mono HW.out.size))
              have HBe := Lib.hid (HB.out.trans (HBt.out.mono HB.out.size))
              clear hb
              go_wp2_with fail
              go_meet
              case rel => exact ⟨rfl, rfl, rfl, HO1.out.below HBt.out, HO2.out.below HBt.out, HBe.out⟩
            case rest =>
             as_aux_lemma =>
              obtain ⟨rfl, rfl, rfl, HO1, HO2, HZ⟩ := hcut
              clear HB HW HV E0 E1 HS d0 d1
              go_wp2_with fail
              refine (DrawIsPrimitive_c A cx code _ (HX.out.below HZ.out) HY.out).mono ?_
              rintro e w1 ⟨c, ts, S, cs, L, P, cp, rfl, hT, hts, hR, hK, hL, hSh, hb⟩
              have HB := Lib.hid (HZ.out.trans (hb.mono HZ.out.size))
              replace HO1 := Lib.hid (HO1.out.below hb)
              replace HO2 := Lib.hid (HO2.out.below hb)
              have hSh9 : Short 1000000000 L := fun k hk => by have := hSh k hk; omega
              have HI := Lib.hid (fun W (h : Below w1.heap.size w1 W) => implIsPrimitive_c c ts S cs L P cp W (hT.below h) (by omega) (hR.below h) (by omega) hSh9)
              have HS := Lib.hid (fun W (h : Below w1.heap.size w1 W) => specIsPrimitive_c c ts S cs L P cp W (hT.below h) (by omega) (hR.below h) (by omega) hSh9)
              generalize primV c ts L = pv at *
              generalize codeB (isSetB c ts) (areBlocksB ts.length L) = vc at *
              clear hT hts hR hK hL hSh hb hSh9 HZ
              go_upto_region 60 with (fail)
              obtain ⟨gT, hgT⟩ : ∃ gT, gT = w1.heap.size := ⟨_, rfl⟩
              obtain ⟨wb, hwb⟩ : ∃ wb, wb = w1.alloc (.cells #[.int .i64 c, .slice S ts.length cs] 26) := ⟨_, rfl⟩
              have HW : Hid (Below w1.heap.size w1 wb) := by rw [hwb]; exact below_al (Below.refl _ _)
              have E0 := Lib.hid (keepC (W := wb) (b := gT) (o := 0) (v := .int .i64 c) (by rw [hwb, hgT]; simp))
              have E1 := Lib.hid (keepC (W := wb) (b := gT) (o := 1) (v := .slice S ts.length cs) (by rw [hwb, hgT]; simp))
              rw [← hwb, ← hgT]
              clear hwb hgT
              have HV := Lib.hid (Below.refl wb.heap.size wb)
              have d0 := E0.out _ HV.out
              have d1 := E1.out _ HV.out
              go_wp2_with fail
              clear d0 d1
              refine (HI.out _ (HW.out.trans (HV.out.mono HW.out.size))).mono ?_
              rintro e w2 ⟨rfl, hb⟩
              replace HV := Lib.hid (HV.out.trans (hb.mono HV.out.size))
              clear hb HI
              have d0 := E0.out _ HV.out
              have d1 := E1.out _ HV.out
              go_wp2_with fail
              clear d0 d1
              refine (HS.out _ (HW.out.trans (HV.out.mono HW.out.size))).mono ?_
              rintro e w3 ⟨rfl, hb⟩
              replace HV := Lib.hid (HV.out.trans (hb.mono HV.out.size))
              have HBt := Lib.hid (HW.out.trans (HV.out.mono HW.out.size))
              replace HO1 := Lib.hid (HO1.out.below HBt.out)
              replace HO2 := Lib.hid (HO2.out.below HBt.out)
              have HBe := Lib.hid (HB.out.trans (HBt.out.mono HB.out.size))
              clear hb HS
              have q1 : (td == td) = true := by simp
              have q2 : (pc == pc) = true := by simp
              have q3 : (pf == pf) = true := by simp
              have q4 : (pl == pl) = true := by simp
              have q5 : (vc == vc) = true := by simp
              have q6 : (pv == pv) = true := by simp
              go_wp2_with fail
              refine (likeInts_c tv tv A1 A2 k1 k2 _ HO1.out HO2.out (by omega) (by omega)).mono ?_
              rintro e w4 ⟨rfl, hb⟩
              rw [eqL_refl]
              replace HBe := Lib.hid (HBe.out.trans (hb.mono HBe.out.size))
              clear hb
              go_wp2_with fail
              go_ret
              exact ⟨rfl, HBe.out⟩

end Go.Proofs.YtkgnejhflnekaaaGreat
