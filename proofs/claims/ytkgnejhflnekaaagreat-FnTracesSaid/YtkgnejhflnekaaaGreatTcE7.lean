/- Contracts and lemmas for the statements of this seat, written for this claim; each theorem states its own conditions. -/
import Derived.Deep.Cut
import Derived.Test.YtkgnejhflnekaaaGreatTcE5
import Derived.Test.YtkgnejhflnekaaaGreatTcD4
set_option linter.unusedVariables false
set_option linter.unusedSimpArgs false
namespace Go.Proofs.YtkgnejhflnekaaaGreat
open Go.RowKit
attribute [local go_sem] addUpon_value addUpon_skip addUpon_enter
theorem ones_set {j C : Nat} (h : j < C) : (List.replicate j (1 : Int) ++ List.replicate (C - j) 0).set j 1 = List.replicate (j + 1) 1 ++ List.replicate (C - (j + 1)) 0 := by
  obtain ⟨d, rfl⟩ : ∃ d, C = j + d + 1 := ⟨C - j - 1, by omega⟩
  rw [show j + d + 1 - j = d + 1 by omega, show j + d + 1 - (j + 1) = d by omega, List.set_append_right _ _ (by simp), List.length_replicate, Nat.sub_self, List.replicate_succ (n := d), List.set_cons_zero, List.replicate_succ' (n := j), List.append_assoc]
  rfl
set_option maxRecDepth 100000 in
set_option maxHeartbeats 8000000 in
theorem left_c (C : Nat) (ts : List T4) (A : Option Addr) (cx : Nat) (word : List Int) (X : Option Addr) (kx : Nat) (w : World) (hs : isSetB (C : Int) ts = true) (hT : TileCells w A ts) (hX : Cells w X (ints word)) (hw : wordOk (C : Int) word = true) :
    Calls Tryz.prog 87 #[.agg #[.int .i64 (C : Int), .slice A ts.length cx], .slice X word.length kx, .func (.func 88) #[] #[]] w fun e w' => ∃ v, e = .returned v ∧ OwnII w' w.heap.size v (lefts C ts word) ∧ Below w.heap.size w w' := by
  have hwl : 1 ≤ word.length ∧ word.length ≤ 20 := by
    unfold wordOk at hw
    rw [Bool.and_eq_true, decide_eq_true_eq] at hw
    exact hw.1
  obtain ⟨_, ⟨c1, c6⟩, t16⟩ := isSetB_parts hs
  have HIC := Lib.hid (isSetB_inC hs)
  have HT := Lib.hid (fun W (h : Below w.heap.size w W) => hT.below h)
  have HX := Lib.hid (fun W (h : Below w.heap.size w W) => Cells.below hX h)
  have hC6 : C ≤ 6 := by omega
  have hC1 : 1 ≤ C := by omega
  obtain ⟨M, hM⟩ : ∃ M, M = word.length + 1 := ⟨_, rfl⟩
  have HM := Lib.hid hM
  have hms : ∀ W, (Instr.makeSlice 29 (.int .i64 ((word.length : Int) + 1)) (.int .i64 ((word.length : Int) + 1))).run Tryz.prog W = .ok (.slice (some ⟨W.heap.size, 0, none⟩) M M) (W.alloc (.cells (madeCells #[.slice none 0 0] M) 35)) := fun W => by
    have := make_ss M (by omega) W
    rwa [show ((M : Nat) : Int) = (word.length : Int) + 1 by omega] at this
  have hmi := fun W => make_i64x C (by omega) W
  have hwlM : word.length < M := by omega
  clear hs hT hX hw c1 c6 hM
  go_enter Tryz.func87, Tryz.ntmps87
  go_upto_region 1 with (fail)
  obtain ⟨wb, hwb⟩ : ∃ wb, wb = w.alloc (.cells #[.int .i64 (C : Int), .slice A ts.length cx] 26) := ⟨_, rfl⟩
  obtain ⟨bx, hbx⟩ : ∃ bx, bx = w.heap.size := ⟨_, rfl⟩
  have KB : Hid (Blk wb bx [.int .i64 (C : Int), .slice A ts.length cx] 26) := by rw [hwb, hbx]; exact Blk.newA _ _ _
  have HW : Hid (Below w.heap.size w wb) := by rw [hwb]; exact below_al (Below.refl _ _)
  have HZ : Hid (wb.heap.size = w.heap.size + 1) := by rw [hwb]; simp [Hid]
  rw [← hwb, ← hbx]
  clear hwb hbx
  go_upto_region 2 with (fail)
  obtain ⟨gv, hgv⟩ : ∃ gv, gv = wb.heap.size := ⟨_, rfl⟩
  obtain ⟨w2, hw2⟩ : ∃ w2, w2 = wb.alloc (.cells (madeCells #[.slice none 0 0] M) 35) := ⟨_, rfl⟩
  have HB2 : Hid (Below wb.heap.size wb w2) := by rw [hw2]; exact below_al (Below.refl _ _)
  have HO : Hid (OwnII w2 wb.heap.size (.slice (some ⟨gv, 0, none⟩) M M) (ltab C ts word M)) := by
    rw [hw2, hgv, show ltab C ts word M = List.replicate M [] by unfold ltab; rw [List.drop_eq_nil_of_le (by rw [lefts_len]; have := HM.out; omega), List.append_nil]]
    exact OwnII.made (Nat.le_refl _) (by have := HM.out; omega)
  rw [← hw2, ← hgv]
  clear hw2 hgv hms
  go_wp2_with fail
  go_loopw [8] (fun iv wr => ∃ k : Nat, k ≤ M ∧ iv = .int .i64 ((k : Int) - 1) ∧ Hid (OwnII wr wb.heap.size (.slice (some ⟨gv, 0, none⟩) M M) (ltab C ts word k)) ∧ Hid (Below wb.heap.size wb wr)) (fun i _ => (intOf i + 1).toNat)
  case atStart => exact ⟨M, Nat.le_refl _, by rw [show ((M : Nat) : Int) - 1 = (word.length : Int) by have := HM.out; omega], HO, HB2⟩
  case round =>
    clear HO HB2
    obtain ⟨k, hk, rfl, HO, HB⟩ := hrel
    by_cases h1 : 1 ≤ k
    · obtain ⟨m, rfl⟩ : ∃ m, k = m + 1 := ⟨k - 1, by omega⟩
      rw [show (((m + 1 : Nat) : Int) - 1) = (m : Int) by omega]
      have hmM : m < M := by omega
      have hw1 : IntKind.i64.wrap ((m : Int) - 1) = (m : Int) - 1 := IntWalk.i64_in _ (by have := HM.out; omega)
      clear hk h1
      obtain ⟨s1, s2, ⟨u, s3⟩, s4⟩ := HO.out.spot m (by rw [ltab_len _ _ _ _ (by have := HM.out; omega)]; have := HM.out; omega)
      have d0 := (KB.out.under HB.out).cell 0 (by simp)
      simp only [List.getElem_cons_zero] at d0
      go_upto_region 6 with (fail)
      clear d0 s1 s3 s4
      obtain ⟨wd, hwd⟩ : ∃ wd, wd = (wr.alloc (.cells (madeCells #[.int .i64 0] C) 2)).setCell ⟨gv, m, none⟩ (.slice (some ⟨wr.heap.size, 0, none⟩) C C) := ⟨_, rfl⟩
      have HBd : Hid (Below wb.heap.size wb wd) := by rw [hwd]; exact (below_al HB.out).setCell (by dsimp only; have := (HO.out.spot m (by rw [ltab_len _ _ _ _ (by have := HM.out; omega)]; have := HM.out; omega)).1; omega) _
      have HOd : Hid (OwnII wd wb.heap.size (.slice (some ⟨gv, 0, none⟩) M M) (lst m (List.replicate C 0) ((lefts C ts word).drop (m + 1)))) := by
        rw [hwd, ← ltab_succ]
        exact HO.out.putNew m (by rw [ltab_len _ _ _ _ (by have := HM.out; omega)]; have := HM.out; omega) (by omega)
      have hcm : (wr.alloc (.cells (madeCells #[.int .i64 0] C) 2)).setCell ⟨gv, m, none⟩ (.slice (some ⟨wr.heap.size, 0, none⟩) C C) = (wr.setCell ⟨gv, m, none⟩ (.slice (some ⟨wr.heap.size, 0, none⟩) C C)).alloc (.cells (madeCells #[.int .i64 0] C) 2) := by go_simp
      rw [hcm] at hwd
      rw [← hwd]
      clear hwd HO HB s2 hcm
      have HBx := Lib.hid (fun W (h : Below wb.heap.size wb W) => (KB.out.under h).cell 0 (by simp))
      simp only [List.getElem_cons_zero] at HBx
      by_cases hmn : m = word.length
      · have hmn' : ((m : Int) == (word.length : Int)) = true := by simp [hmn]
        have HN := Lib.hid hmn
        have Hl : Hid ((lefts C ts word).drop (m + 1) = []) := List.drop_eq_nil_of_le (by rw [lefts_len]; omega)
        rw [Hl.out] at HOd
        clear hmn
        have d0 := HBx.out wd HBd.out
        go_wp2_with fail
        clear d0
        go_loopw [30] (fun iv wr => ∃ j : Nat, j ≤ C ∧ iv = .int .i64 (j : Int) ∧ Hid (OwnII wr wb.heap.size (.slice (some ⟨gv, 0, none⟩) M M) (lst m (List.replicate j 1 ++ List.replicate (C - j) 0) [])) ∧ Hid (Below wb.heap.size wb wr)) (fun i _ => C - (intOf i).toNat)
        case atStart => exact ⟨0, by omega, rfl, HOd, HBd⟩
        case round =>
          clear HOd HBd
          obtain ⟨wz, rfl⟩ : ∃ wz, wz = wd := ⟨wd, rfl⟩
          obtain ⟨j, hj, rfl, HO, HB⟩ := hrel
          by_cases h2 : j < C
          · have d0 := HBx.out _ HB.out
            obtain ⟨gv', gr, cr, e1, q1, q2, q3, q4, q5, q6, q7, q8⟩ := HO.out.at2 m (by rw [lst_len]; omega) j (by rw [lst_at]; simp; omega)
            have e2 : gv = gv' := by injection e1 with e1; injection e1
            subst e2
            simp only [lst_at] at q3
            have hlen : (List.replicate j (1 : Int) ++ List.replicate (C - j) 0).length = C := by rw [List.length_append, List.length_replicate, List.length_replicate]; omega
            rw [hlen] at q3
            clear hlen
            have HQ : Hid (OwnII (wr.setCell ⟨gr, j, none⟩ (.int .i64 1)) wb.heap.size (.slice (some ⟨gv, 0, none⟩) M M) (lst m (List.replicate (j + 1) 1 ++ List.replicate (C - (j + 1)) 0) [])) := by
              have h9 := q8 1
              rw [lst_set, lst_at, ones_set h2] at h9
              exact h9
            generalize ((lst m (List.replicate j 1 ++ List.replicate (C - j) 0) [])[m]'_)[j]'_ = z at q6
            clear q8 e1 HO
            go_wp2_with fail
            refine (anyColour_c _ _).mono ?_
            rintro e w9 ⟨rfl, rfl⟩
            go_wp2_with fail
            go_roundw
            case rel => exact ⟨j + 1, by omega, by go_num, HQ, HB.out.setCell q4 _⟩
            case measure => simp [intOf] <;> omega
          · obtain rfl : C = j := by omega
            have HQ : Hid (OwnII wr wb.heap.size (.slice (some ⟨gv, 0, none⟩) M M) (ltab C ts word m)) := by
              rw [ltab_lst _ _ _ _ (by have := HN.out; omega), Hl.out, HN.out, List.drop_length, lfirst_nil]
              have h9 := HO.out
              rwa [Nat.sub_self, List.replicate_zero, List.append_nil, HN.out] at h9
            clear HO
            go_wp2_with fail
            go_roundw
            case rel => exact ⟨m, by omega, by go_num, HQ, HB⟩
            case measure => simp [intOf] <;> omega
      · have hmn' : ((m : Int) == (word.length : Int)) = false := by simp; omega
        have hml : m < word.length := by have := HM.out; omega
        clear hmn
        have d0 := HBx.out wd HBd.out
        go_wp2_with fail
        clear d0
        go_loopw [30] (fun iv wr => ∃ j : Nat, j ≤ C ∧ iv = .int .i64 (j : Int) ∧ Hid (wr = wd)) (fun i _ => C - (intOf i).toNat)
        case atStart => exact ⟨0, by omega, rfl, Lib.hid rfl⟩
        case round =>
          obtain ⟨j, hj, rfl, HQ⟩ := hrel
          obtain rfl := HQ.out
          by_cases h2 : j < C
          · go_wp2_with fail
            go_roundw
            case rel => exact ⟨j + 1, by omega, by go_num, by first | exact Lib.hid rfl | trivial⟩
            case measure => simp [intOf] <;> omega
          · obtain rfl : C = j := by omega
            clear HQ h2 hj
            obtain ⟨R', hR'⟩ : ∃ R', (lefts C ts word).drop (m + 1) = lfirst C ts (word.drop (m + 1)) :: R' := by
              rw [lefts_drop C ts word (m + 1) (by omega)]
              exact lefts_cons _ _ _
            have HR' := Lib.hid hR'
            rw [hR'] at HOd
            clear hR'
            have d1 := (KB.out.under HBd.out).cell 1 (by simp)
            simp only [List.getElem_cons_zero, List.getElem_cons_succ] at d1
            go_wp2_with fail
            clear d1
            go_loopw [56] (fun iv wr => ∃ q : Nat, q ≤ ts.length ∧ iv = .int .i64 (q : Int) ∧ Hid (OwnII wr wb.heap.size (.slice (some ⟨gv, 0, none⟩) M M) (lst m ((ts.take q).foldl (lstep word[m] (lfirst C ts (word.drop (m + 1)))) (List.replicate C 0)) (lfirst C ts (word.drop (m + 1)) :: R'))) ∧ Hid (Below wb.heap.size wb wr)) (fun i _ => ts.length - (intOf i).toNat)
            case atStart => exact ⟨0, by omega, rfl, HOd, HBd⟩
            case round =>
              clear HOd HBd
              obtain ⟨q, hq, rfl, HO, HB⟩ := hrel
              by_cases h3 : q < ts.length
              · obtain ⟨wz, rfl⟩ : ∃ wz, wz = wr := ⟨wr, rfl⟩
                obtain ⟨b5, o5, rfl, _, t0, t1, t2, t3⟩ := (HT.out _ (HW.out.trans (HB.out.mono HW.out.size))) q h3
                obtain ⟨⟨a0, a1⟩, _, ⟨a2, a3⟩, _⟩ := HIC.out ts[q] (List.getElem_mem h3)
                have HS := Lib.hid (show (ts.take (q + 1)).foldl (lstep word[m] (lfirst C ts (word.drop (m + 1)))) (List.replicate C 0) = lstep word[m] (lfirst C ts (word.drop (m + 1))) ((ts.take q).foldl (lstep word[m] (lfirst C ts (word.drop (m + 1)))) (List.replicate C 0)) ts[q] by rw [List.take_succ_eq_append_getElem h3, List.foldl_append]; rfl)
                have hLr := lok_take (C := C) (ts := ts) (word := word.drop (m + 1)) word[m] q
                have hLn := lfirst_ok C ts (word.drop (m + 1))
                have hrl := hLr.1
                have hnl := hLn.1
                generalize ts[q] = t at *
                obtain ⟨a, ha⟩ := Int.eq_ofNat_of_zero_le a0
                obtain ⟨d, hd⟩ := Int.eq_ofNat_of_zero_le a2
                have haC : a < C := by omega
                have hdC : d < C := by omega
                have g1 := hLr.getD a
                have g2 := hLn.getD d
                have HS2 := Lib.hid (show lstep word[m] (lfirst C ts (word.drop (m + 1))) ((ts.take q).foldl (lstep word[m] (lfirst C ts (word.drop (m + 1)))) (List.replicate C 0)) t = if t.b = word[m] then ((ts.take q).foldl (lstep word[m] (lfirst C ts (word.drop (m + 1)))) (List.replicate C 0)).set a (min 1000000000000001 (((ts.take q).foldl (lstep word[m] (lfirst C ts (word.drop (m + 1)))) (List.replicate C 0)).getD a 0 + (lfirst C ts (word.drop (m + 1))).getD d 0)) else ((ts.take q).foldl (lstep word[m] (lfirst C ts (word.drop (m + 1)))) (List.replicate C 0)) by unfold lstep; rw [ha, hd, Int.toNat_natCast, Int.toNat_natCast])
                rw [ha] at t0
                rw [hd] at t2
                obtain ⟨R, hR⟩ : ∃ R, R = (ts.take q).foldl (lstep word[m] (lfirst C ts (word.drop (m + 1)))) (List.replicate C 0) := ⟨_, rfl⟩
                obtain ⟨NX, hNX⟩ : ∃ NX, NX = lfirst C ts (word.drop (m + 1)) := ⟨_, rfl⟩
                have HNX := Lib.hid hNX
                have HE := Lib.hid (HS.out.trans HS2.out)
                rw [← hR, ← hNX] at HE HO
                rw [← hR] at g1 hrl
                rw [← hNX] at g2 hnl
                clear HS HS2 hLr hLn hR hNX ha hd a0 a1 a2 a3
                obtain ⟨wt, hwt⟩ : ∃ wt, wt = wz.alloc (.cells #[.int .i64 (a : Int), .int .i64 t.b, .int .i64 (d : Int), .int .i64 t.d] 127) := ⟨_, rfl⟩
                have HBt := Lib.hid (show Below wz.heap.size wz wt by rw [hwt]; exact below_al (Below.refl _ _))
                have HBu := Lib.hid (HB.out.trans (HBt.out.mono HB.out.size))
                have U0 := keepC (show wt.cell? ⟨wz.heap.size, 0, none⟩ = some (.int .i64 (a : Int)) by rw [hwt]; exact cell_alloc_at _ _ _ _ _ rfl)
                have U1 := keepC (show wt.cell? ⟨wz.heap.size, 1, none⟩ = some (.int .i64 t.b) by rw [hwt]; exact cell_alloc_at _ _ _ _ _ rfl)
                have U2 := keepC (show wt.cell? ⟨wz.heap.size, 2, none⟩ = some (.int .i64 (d : Int)) by rw [hwt]; exact cell_alloc_at _ _ _ _ _ rfl)
                obtain ⟨b6, o6, rfl, _, x0⟩ := (HX.out _ (HW.out.trans (HBu.out.mono HW.out.size))).int m hml
                have X0 := keepC x0
                clear x0
                have Hwt := Lib.hid hwt
                clear hwt
                by_cases hx : t.b = word[m]
                · have hx' : (t.b == word[m]) = true := by simp [hx]
                  rw [if_pos hx] at HE
                  clear hx
                  go_upto_region 16 with (fail)
                  rw [← Hwt.out]
                  clear t0 t1 t2 t3
                  refine wp_region_add (fun w' => Below (wt).heap.size (wt) w') (by kernel_rfl) (by kernel_rfl) ((Below.refl _ _).drew) ?_
                  repeat (first
                    | (refine add_skip rfl (fun K' hK' => ?_); go_simp; refine hK' _ ?_; clear hK' K')
                    | (refine add_do (v := ?_) rfl (fun w1 hb => ?_) (fun K' hK' => ?_); rotate_left
                       · go_simp
                         first
                         | (with_reducible exact rfl)
                         | (with_reducible exact ⟨rfl, hb⟩)
                         | exact rfl
                         | exact ⟨rfl, hb⟩
                       go_simp; refine hK' _ ?_; clear hK' K'))
                  refine add_nil ?_
                  intro wa hba
                  obtain ⟨wv, rfl⟩ : ∃ wv, wv = wa := ⟨wa, rfl⟩
                  have HOv := Lib.hid ((HO.out.below HBt.out).below hba)
                  have HBv := Lib.hid (HBu.out.trans (hba.mono HBu.out.size))
                  replace U0 := keepC (U0 _ hba)
                  replace U2 := keepC (U2 _ hba)
                  clear hba U1 X0
                  obtain ⟨m1, hm1⟩ : ∃ m1, m1 = m + 1 := ⟨_, rfl⟩
                  have hw2 : IntKind.i64.wrap ((m : Int) + 1) = (m1 : Int) := by rw [IntWalk.i64_in _ (by have := HM.out; omega)]; omega
                  have hm1M : m1 < M := by have := HM.out; omega
                  have H9 : Hid (∃ gr cr gn cn, wb.heap.size ≤ gr ∧ gr < wv.heap.size ∧ wv.cell? ⟨gv, m, none⟩ = some (.slice (some ⟨gr, 0, none⟩) C cr) ∧ wv.cell? ⟨gr, a, none⟩ = some (.int .i64 (R.getD a 0)) ∧ wv.frozen? ⟨gr, a, none⟩ = false ∧ wv.cell? ⟨gv, m1, none⟩ = some (.slice (some ⟨gn, 0, none⟩) C cn) ∧ wv.cell? ⟨gn, d, none⟩ = some (.int .i64 (NX.getD d 0)) ∧
                      ∀ W, Below wv.heap.size wv W → ∀ y, OwnII (W.setCell ⟨gr, a, none⟩ (.int .i64 y)) wb.heap.size (.slice (some ⟨gv, 0, none⟩) M M) (lst m (R.set a y) (NX :: R'))) := by
                    show ∃ gr, _
                    have hL1 : m < (lst m R (NX :: R')).length := by rw [lst_len]; omega
                    have hL2 : m + 1 < (lst m R (NX :: R')).length := by rw [lst_len, List.length_cons]; omega
                    obtain ⟨gv', gr, cr, e1, q1, q2, q3, q4, q5, q6, q7, q8⟩ := HOv.out.at2 m hL1 a (by rw [lst_at]; omega)
                    obtain ⟨gv2, gn, cn, e3, r1, r2, r3, r4, r5, r6, r7, r8⟩ := HOv.out.at2 (m + 1) hL2 d (by rw [lst_next]; omega)
                    have e2 : gv = gv' := by injection e1 with e1; injection e1
                    have e4 : gv = gv2 := by injection e3 with e3; injection e3
                    subst e2 e4
                    simp only [lst_at, lst_next] at q3 r3 q6 r6
                    rw [hrl] at q3
                    rw [hnl] at r3
                    refine ⟨gr, cr, gn, cn, q4, q5, q3, ?_, q7, by rw [hm1]; exact r3, ?_, fun W hb y => ?_⟩
                    · rw [List.getD_eq_getElem?_getD, List.getElem?_eq_getElem (by omega)]; exact q6
                    · rw [List.getD_eq_getElem?_getD, List.getElem?_eq_getElem (by omega)]; exact r6
                    · obtain ⟨gv3, gr3, cr3, f1, f2, f3, f4, f5, f6, f7, f8, f9⟩ := (HOv.out.below hb).at2 m hL1 a (by rw [lst_at]; omega)
                      have e5 : gv = gv3 := by injection f1 with f1; injection f1
                      subst e5
                      have hq3 := (hb.cell (p := ⟨gv, m, none⟩) q2).trans q3
                      rw [hq3] at f4
                      have e6 : gr = gr3 := by injection f4 with f4; injection f4 with f4; injection f4 with f4; injection f4
                      subst e6
                      have h9 := f9 y
                      rw [lst_set, lst_at] at h9
                      exact h9
                  obtain ⟨gr, cr, gn, cn, z1, z2, z3, z4, z5, z6, z7, z8⟩ := H9.out
                  have HSt := Lib.hid z8
                  have hadd : IntKind.i64.wrap (R.getD a 0 + NX.getD d 0) = R.getD a 0 + NX.getD d 0 := IntWalk.i64_in _ (by omega)
                  generalize R.getD a 0 = x at *
                  generalize NX.getD d 0 = y at *
                  have A3 := keepC z3
                  have A4 := keepC z4
                  have A5 := fun W (h : Below wv.heap.size wv W) => (h.frozen (p := ⟨gr, a, none⟩) z2).trans z5
                  have A6 := keepC z6
                  have A7 := keepC z7
                  clear z3 z4 z5 z6 z7 z8 H9 hm1
                  go_upto_region 17 with (fail)
                  refine wp_region_add_tail 26 (fun w' => Below (wv).heap.size (wv) w') (by kernel_rfl) (by kernel_rfl) ((Below.refl _ _).drew) ?_
                  simp only [List.take_succ_cons, List.take_zero, List.drop_succ_cons, List.drop_zero]
                  repeat (first
                    | (refine add_skip rfl (fun K' hK' => ?_); go_simp; refine hK' _ ?_; clear hK' K')
                    | (refine add_do (v := ?_) rfl (fun w1 hb => ?_) (fun K' hK' => ?_); rotate_left
                       · go_simp
                         first
                         | (with_reducible exact rfl)
                         | (with_reducible exact ⟨rfl, hb⟩)
                         | exact rfl
                         | exact ⟨rfl, hb⟩
                       go_simp; refine hK' _ ?_; clear hK' K'))
                  refine add_nil ?_
                  intro wa hba
                  have HQ := Lib.hid (HSt.out _ hba (min 1000000000000001 (x + y)))
                  have HBa : Hid (Below wb.heap.size wb (wa.setCell ⟨gr, a, none⟩ (.int .i64 (min 1000000000000001 (x + y))))) := (HBv.out.trans (hba.mono HBv.out.size)).setCell z1 _
                  have k4 := A4 _ hba
                  have k5 := A5 _ hba
                  clear hba A3 A4 A5 A6 A7 U0 U2 HSt
                  go_wp2_with fail
                  go_roundw
                  case rel => exact ⟨q + 1, by omega, by go_num, by rw [← HNX.out, HE.out]; exact HQ.out, HBa.out⟩
                  case measure => simp [intOf] <;> omega
                · have hx' : (t.b == word[m]) = false := by simp [hx]
                  rw [if_neg hx] at HE
                  clear hx
                  go_upto_region 16 with (fail)
                  rw [← Hwt.out]
                  clear t0 t1 t2 t3
                  refine wp_region_add (fun w' => Below (wt).heap.size (wt) w') (by kernel_rfl) (by kernel_rfl) ((Below.refl _ _).drew) ?_
                  repeat (first
                    | (refine add_skip rfl (fun K' hK' => ?_); go_simp; refine hK' _ ?_; clear hK' K')
                    | (refine add_do (v := ?_) rfl (fun w1 hb => ?_) (fun K' hK' => ?_); rotate_left
                       · go_simp
                         first
                         | (with_reducible exact rfl)
                         | (with_reducible exact ⟨rfl, hb⟩)
                         | exact rfl
                         | exact ⟨rfl, hb⟩
                       go_simp; refine hK' _ ?_; clear hK' K'))
                  refine add_nil ?_
                  intro wa hba
                  have HQ := Lib.hid (((HO.out.below HBt.out).below hba))
                  have HBa := Lib.hid (HBu.out.trans (hba.mono HBu.out.size))
                  clear hba U0 U1 U2 X0
                  go_wp2_with fail
                  go_roundw
                  case rel => exact ⟨q + 1, by omega, by go_num, by rw [← HNX.out, HE.out]; exact HQ.out, HBa⟩
                  case measure => simp [intOf] <;> omega
              · obtain rfl : q = ts.length := by omega
                have HQ : Hid (OwnII wr wb.heap.size (.slice (some ⟨gv, 0, none⟩) M M) (ltab C ts word m)) := by
                  rw [ltab_lst _ _ _ _ (by omega), HR'.out, show word.drop m = word[m] :: word.drop (m + 1) from List.drop_eq_getElem_cons hml, lfirst_cons]
                  have h9 := HO.out
                  rwa [List.take_length] at h9
                clear HO
                go_wp2_with fail
                go_roundw
                case rel => exact ⟨m, by omega, by go_num, HQ, HB⟩
                case measure => simp [intOf] <;> omega
    · obtain rfl : k = 0 := by omega
      rw [show (((0 : Nat) : Int) - 1) = (-1 : Int) from rfl]
      clear h1
      go_wp2_with fail
      go_ret
      exact ⟨_, rfl, HO.out.weaken (by have := HZ.out; omega), HW.out.trans (HB.out.mono HW.out.size)⟩

end Go.Proofs.YtkgnejhflnekaaaGreat
namespace Go.Proofs.YtkgnejhflnekaaaGreat
open Go.RowKit
def ovSum (C : Nat) (ts : List T4) (word : List Int) : Int := (lfirst C ts word).sum
def ovCode (n : Int) : Int := if 1000000000000000 < n then 3 else 0
def ovV (n : Int) : Int := if 1000000000000000 < n then 0 else n
set_option maxRecDepth 100000 in
set_option maxHeartbeats 1000000 in
theorem counted_c (n : Int) (w : World) : Calls Tryz.prog 89 #[.int .i64 n] w fun e w' => e = .returned (.tuple #[.int .i64 (ovV n), .int .i64 (ovCode n)]) ∧ w = w' := by
  unfold ovV ovCode
  by_cases h : 1000000000000000 < n
  · rw [if_pos h, if_pos h]
    have h2 : n > 1000000000000000 := h
    clear h
    go_enter Tryz.func89, Tryz.ntmps89
    go_wp2
    go_ret2
    exact ⟨rfl, rfl⟩
  · rw [if_neg h, if_neg h]
    have h2 : ¬ n > 1000000000000000 := h
    clear h
    go_enter Tryz.func89, Tryz.ntmps89
    go_wp2
    go_ret2
    exact ⟨rfl, rfl⟩
theorem take_sum {C : Nat} {r : List Int} (h : LOk C r) (k : Nat) : 0 ≤ (r.take k).sum ∧ (r.take k).sum ≤ C * 1000000000000001 := by
  have h1 := (sum_pos (r.take k) fun x hx => (h.2 x (List.mem_of_mem_take hx)).1).1
  have h2 := sum_le (M := 1000000000000001) (r.take k) fun x hx => (h.2 x (List.mem_of_mem_take hx)).2
  have h3 : (r.take k).length ≤ C := by rw [List.length_take, h.1]; omega
  refine ⟨h1, Int.le_trans h2 ?_⟩
  omega
theorem take_sum_succ {r : List Int} {k : Nat} (h : k < r.length) : (r.take (k + 1)).sum = (r.take k).sum + r[k] := by
  rw [List.take_succ_eq_append_getElem h, List.sum_append]; simp
set_option maxRecDepth 100000 in
set_option maxHeartbeats 1000000 in
theorem overF_c (c : Int) (n cx : Nat) (A : Option Addr) (word : List Int) (X : Option Addr) (kx b1 b2 : Nat) (w : World) (h1 : 1 ≤ c) (h6 : c ≤ 6) (hX : Cells w X (ints word)) (hl : word.length ≤ 1000000000)
    (f0 : w.cell? ⟨b1, 0, none⟩ = some (.int .i64 c)) (f1 : w.cell? ⟨b1, 1, none⟩ = some (.slice A n cx)) (f2 : w.cell? ⟨b2, 0, none⟩ = some (.slice X word.length kx)) :
    Calls Tryz.prog 86 #[.pointer (some ⟨b1, 0, none⟩), .pointer (some ⟨b2, 0, none⟩)] w fun e w' => e = .returned (.bool (wordOk c word)) ∧ Below w.heap.size w w' := by
  have HR := Lib.hid (isWord_c c n cx A word X kx w h1 h6 hX hl)
  clear hX
  go_enter Tryz.func86, Tryz.ntmps86
  go_wp2_with fail
  refine HR.out.mono ?_
  rintro e w1 ⟨rfl, hb⟩
  go_wp2
  go_ret
  exact ⟨rfl, hb⟩
set_option maxRecDepth 100000 in
set_option maxHeartbeats 8000000 in
theorem implCountRowsOver_c (C : Nat) (ts : List T4) (A : Option Addr) (cx : Nat) (word : List Int) (X : Option Addr) (kx : Nat) (w : World) (hs : isSetB (C : Int) ts = true) (hT : TileCells w A ts) (hX : Cells w X (ints word)) (hw : wordOk (C : Int) word = true) :
    Calls Tryz.prog 19 #[.agg #[.int .i64 (C : Int), .slice A ts.length cx], .slice X word.length kx] w fun e w' => e = .returned (.tuple #[.int .i64 (ovV (ovSum C ts word)), .int .i64 (ovCode (ovSum C ts word))]) ∧ Below w.heap.size w w' := by
  obtain ⟨_, ⟨c1, c6⟩, t16⟩ := isSetB_parts hs
  have hwl : word.length ≤ 20 := by
    unfold wordOk at hw
    rw [Bool.and_eq_true, decide_eq_true_eq] at hw
    exact hw.1.2
  have HC : Hid (∀ (wq : World) (hq : Below w.heap.size w wq) (b1 b2 : Nat) (h0 : wq.cell? ⟨b1, 0, none⟩ = some (.int .i64 (C : Int))) (h1 : wq.cell? ⟨b1, 1, none⟩ = some (.slice A ts.length cx)) (h2 : wq.cell? ⟨b2, 0, none⟩ = some (.slice X word.length kx)),
      Calls Tryz.prog 85 #[.agg #[.int .i64 (C : Int), .slice A ts.length cx], .func (.func 86) #[] #[.pointer (some ⟨b1, 0, none⟩), .pointer (some ⟨b2, 0, none⟩)]] wq fun e w' => e = .returned (.int .i64 0) ∧ Below wq.heap.size wq w') :=
    fun wq hq b1 b2 h0 h1 h2 => by
      have := setCode_c (C : Int) ts A cx 86 #[.pointer (some ⟨b1, 0, none⟩), .pointer (some ⟨b2, 0, none⟩)] (wordOk (C : Int) word) wq (fun _ _ => rfl) (hT.below hq) (by omega)
        (fun hs w1 hb => overF_c (C : Int) ts.length cx A word X kx b1 b2 w1 c1 c6 ((Cells.below hX hq).below hb) (by omega) (keepC h0 _ hb) (keepC h1 _ hb) (keepC h2 _ hb))
      rwa [hs, hw] at this
  have HL := Lib.hid (fun (wq : World) (hq : Below w.heap.size w wq) => left_c C ts A cx word X kx wq hs (hT.below hq) (Cells.below hX hq) hw)
  have HK := Lib.hid (lfirst_ok C ts word)
  clear hT hX hs hw
  go_enter Tryz.func19, Tryz.ntmps19
  go_wp2_with fail
  refine (HC.out _ (by (repeat (first | (with_reducible exact Below.refl _ _) | (with_reducible assumption) | (with_reducible refine below_al ?_) | (with_reducible refine below_dr ?_) | (with_reducible refine below_drN ?_) | (with_reducible refine below_set ?_ (by first | exact Nat.le_refl _ | (dsimp only; omega) | omega)) | (with_reducible refine below_tr (by with_reducible assumption) ?_)))) _ _ ?_ ?_ ?_).mono ?_
  · (repeat (first | (exact cell_al _ _ _ _ _ _ (by simp) rfl) | (refine cell_alloc_old _ _ _ _ _ ?_)))
  · (repeat (first | (exact cell_al _ _ _ _ _ _ (by simp) rfl) | (refine cell_alloc_old _ _ _ _ _ ?_)))
  · (repeat (first | (exact cell_al _ _ _ _ _ _ (by simp) rfl) | (refine cell_alloc_old _ _ _ _ _ ?_)))
  rintro e w1 ⟨rfl, hb1⟩
  have Hw1 : Hid (Below w.heap.size w w1) := by (show Below _ _ _); (repeat (first | (with_reducible exact Below.refl _ _) | (with_reducible assumption) | (with_reducible refine below_al ?_) | (with_reducible refine below_dr ?_) | (with_reducible refine below_drN ?_) | (with_reducible refine below_set ?_ (by first | exact Nat.le_refl _ | (dsimp only; omega) | omega)) | (with_reducible refine below_tr (by with_reducible assumption) ?_)))
  have x0 : w1.cell? ⟨w.heap.size, 0, none⟩ = some (.int .i64 (C : Int)) := by
    rw [(bcell hb1).1 _ _ (by simp; omega)]
    (repeat (first | (exact cell_al _ _ _ _ _ _ (by simp) rfl) | (refine cell_alloc_old _ _ _ _ _ ?_)))
  have x1 : w1.cell? ⟨w.heap.size, 1, none⟩ = some (.slice A ts.length cx) := by
    rw [(bcell hb1).1 _ _ (by simp; omega)]
    (repeat (first | (exact cell_al _ _ _ _ _ _ (by simp) rfl) | (refine cell_alloc_old _ _ _ _ _ ?_)))
  have x5 : w1.cell? ⟨w.heap.size + 1, 0, none⟩ = some (.slice X word.length kx) := by
    rw [(bcell hb1).1 _ _ (by simp)]
    (repeat (first | (exact cell_al _ _ _ _ _ _ (by simp) rfl) | (refine cell_alloc_old _ _ _ _ _ ?_)))
  clear hb1 HC
  go_wp2_with fail
  clear x0 x1 x5
  refine (HL.out _ Hw1.out).mono ?_
  rintro e w2 ⟨v, rfl, hO, hb⟩
  obtain ⟨B, cB, rfl, hr⟩ := hO.rows
  have HB := Lib.hid (Hw1.out.trans (hb.mono Hw1.out.size))
  have hL1 : 0 < (lefts C ts word).length := by rw [lefts_len]; omega
  obtain ⟨b, off, Ar, cr, rfl, hlt, hc, hcc⟩ := hr 0 hL1
  have h0 : (lefts C ts word)[0] = lfirst C ts word := by
    obtain ⟨R, hR⟩ := lefts_cons C ts word
    have e : (lefts C ts word)[0]? = some (lfirst C ts word) := by rw [hR]; rfl
    rw [List.getElem?_eq_getElem hL1] at e
    exact Option.some.inj e
  rw [h0] at hc hcc
  have hrl := HK.out.1
  have hS : Hid (ovSum C ts word = ((lfirst C ts word).take C).sum) := by show (lfirst C ts word).sum = _; rw [List.take_of_length_le (by omega)]
  generalize lfirst C ts word = r at *
  have HRC := Lib.hid hcc
  have HRl := Lib.hid hrl
  rw [hrl] at hc
  have hL2 : (0 : Int) < ((lefts C ts word).length : Int) := by omega
  rw [Nat.add_zero] at hc
  clear hO hb hr hcc h0 hL1 hrl HL
  go_wp2_with fail
  clear hc hL2
  go_loopw [7, 22] (fun sv iv wr => ∃ k : Nat, k ≤ C ∧ iv = .int .i64 (k : Int) ∧ sv = .int .i64 ((r.take k).sum) ∧ Hid (Below w2.heap.size w2 wr)) (fun _ i _ => C - (intOf i).toNat)
  case atStart => exact ⟨0, by omega, rfl, by simp, Lib.hid (Below.refl _ _)⟩
  case round =>
    obtain ⟨k, hk, rfl, rfl, HW⟩ := hrel
    by_cases h1 : k < C
    · have hkr : k < r.length := by rw [HRl.out]; exact h1
      obtain ⟨b3, o3, rfl, _, y0⟩ := (Cells.below HRC.out HW.out).int k (by rw [HRl.out]; exact h1)
      have HS2 := Lib.hid (take_sum_succ (r := r) (k := k) (by rw [HRl.out]; exact h1))
      have g1 := take_sum HK.out k
      have g2 := HK.out.2 r[k] (List.getElem_mem _)
      generalize r[k] = x at *
      clear hkr
      generalize (r.take k).sum = s at *
      have hadd : IntKind.i64.wrap (s + x) = s + x := IntWalk.i64_in _ (by omega)
      go_wp2_with fail
      go_roundw
      case rel => exact ⟨k + 1, by omega, by go_num, by rw [HS2.out], HW⟩
      case measure => simp [intOf] <;> omega
    · obtain rfl : k = C := by omega
      generalize (r.take k).sum = s at *
      go_wp2_with fail
      refine (counted_c _ _).mono ?_
      rintro e w3 ⟨rfl, rfl⟩
      go_wp2
      go_ret2
      exact ⟨by rw [hS.out]; rfl, HB.out.trans (HW.out.mono HB.out.size)⟩

end Go.Proofs.YtkgnejhflnekaaaGreat
namespace Go.Proofs.YtkgnejhflnekaaaGreat
open Go.RowKit
attribute [local go_sem] addUpon_value addUpon_skip addUpon_enter
set_option maxRecDepth 100000 in
set_option maxHeartbeats 1000000 in
theorem rows9g_c (L M : List (List Int)) (A B : Option Addr) (cx cy : Nat) (w : World) (hA : RowsC w A L) (hB : RowsC w B M) (hl : L.length ≤ 1000000) (hm : M.length ≤ 1000000) (hS : Short 1000000 L) (hS2 : Short 1000000 M) :
    Calls Tryz.prog 10 #[.slice A L.length cx, .slice B M.length cy] w fun e w' => e = .returned (.bool (eqII L M)) ∧ Below w.heap.size w w' := by
  by_cases hL : L.length = M.length
  · have HA := Lib.hid hA
    have HB := Lib.hid hB
    have HS := Lib.hid hS
    have HS2 := Lib.hid hS2
    have HL := Lib.hid hL
    have hne : ((L.length : Int) != (M.length : Int)) = false := by simp [hL]
    clear hA hB hS hS2 hL
    go_enter Tryz.func10, Tryz.ntmps10
    go_wp2_with fail
    go_loopw [5] (fun i wr => ∃ k : Nat, k ≤ L.length ∧ i = .int .i64 (k : Nat) ∧ Hid (∀ j (h1 : j < L.length) (h2 : j < M.length), j < k → L[j] = M[j]) ∧ Hid (Below w.heap.size w wr)) (fun i _ => L.length - (intOf i).toNat)
    case atStart => exact ⟨0, by omega, rfl, fun j h1 h2 h3 => by omega, Below.refl _ _⟩
    case round =>
      obtain ⟨k, hk, rfl, HE, HW⟩ := hrel
      by_cases h1 : k < L.length
      · have h2 : k < M.length := by rw [← HL.out]; exact h1
        obtain ⟨b, off, A', c1, rfl, hlt, hc, hr⟩ := (HA.out.below HW.out) k h1
        obtain ⟨b2, off2, B', c2, rfl, hlt2, hd, hr2⟩ := (HB.out.below HW.out) k h2
        have hs := HS.out k h1
        have hs2 := HS2.out k h2
        have HQ := Lib.hid (fun (W : World) (h : Below wr.heap.size wr W) => likeInts_c L[k] M[k] A' B' c1 c2 W (hr.below h) (hr2.below h) (by omega) (by omega))
        have e0 := keepC hc
        have f0 := keepC hd
        have HR : Hid ((L[k] = M[k] → eqL L[k] M[k] = true) ∧ (L[k] ≠ M[k] → eqL L[k] M[k] = false)) := ⟨fun e => by rw [e]; exact eqL_refl _, fun e => by simpa [eqL] using e⟩
        have HT : Hid ((L[k] = M[k] → ∀ j (h1 : j < L.length) (h2 : j < M.length), j < k + 1 → L[j] = M[j]) ∧ (L[k] ≠ M[k] → eqII L M = false)) := by
          refine ⟨fun e j h1 h2 h3 => ?_, fun e => ?_⟩
          · rcases Nat.lt_or_ge j k with h4 | h4
            · exact HE.out j h1 h2 h4
            · obtain rfl : j = k := by omega
              exact e
          · simp only [eqII, decide_eq_false_iff_not]; intro e2; subst e2; exact e rfl
        clear hc hd hr hr2 hs hs2 HE
        generalize L[k] = row at *
        generalize M[k] = row2 at *
        by_cases he : row = row2
        · rw [HR.out.1 he] at HQ
          have HT1 := Lib.hid (HT.out.1 he)
          clear he HR HT
          go_wp2_with fail
          refine wp_region_add (fun w' => Below (wr).heap.size (wr) w') (by kernel_rfl) (by kernel_rfl) ((Below.refl _ _).drew) ?_
          repeat (first
            | (refine add_skip rfl (fun K' hK' => ?_); go_simp; refine hK' _ ?_; clear hK' K')
            | (refine add_do (v := ?_) rfl (fun w1 hb => ?_) (fun K' hK' => ?_); rotate_left
               · go_simp
                 first
                 | (with_reducible exact rfl)
                 | (with_reducible exact ⟨rfl, hb⟩)
                 | (with_reducible exact (addCall (HQ.out w1 hb) hb).2)
                 | exact (addCall (HQ.out w1 hb) hb).2
                 | exact rfl
                 | exact ⟨rfl, hb⟩
               go_simp; refine hK' _ ?_; clear hK' K'))
          refine add_nil ?_
          intro wa hba
          have HW2 := Lib.hid (HW.out.trans (hba.mono HW.out.size))
          clear hba e0 f0
          go_wp2_with fail
          go_roundw
          case rel => exact ⟨k + 1, by omega, by go_num, HT1, HW2⟩
          case measure => simp [intOf] <;> omega
        · rw [HR.out.2 he] at HQ
          have HT1 := Lib.hid (HT.out.2 he)
          clear he HR HT
          go_wp2_with fail
          refine wp_region_add (fun w' => Below (wr).heap.size (wr) w') (by kernel_rfl) (by kernel_rfl) ((Below.refl _ _).drew) ?_
          repeat (first
            | (refine add_skip rfl (fun K' hK' => ?_); go_simp; refine hK' _ ?_; clear hK' K')
            | (refine add_do (v := ?_) rfl (fun w1 hb => ?_) (fun K' hK' => ?_); rotate_left
               · go_simp
                 first
                 | (with_reducible exact rfl)
                 | (with_reducible exact ⟨rfl, hb⟩)
                 | (with_reducible exact (addCall (HQ.out w1 hb) hb).2)
                 | exact (addCall (HQ.out w1 hb) hb).2
                 | exact rfl
                 | exact ⟨rfl, hb⟩
               go_simp; refine hK' _ ?_; clear hK' K'))
          refine add_nil ?_
          intro wa hba
          have HW2 := Lib.hid (HW.out.trans (hba.mono HW.out.size))
          clear hba e0 f0
          go_wp2_with fail
          go_ret
          exact ⟨by rw [HT1.out]; rfl, HW2.out⟩
      · have HT1 : Hid (eqII L M = true) := by
          show eqII L M = true
          simp only [eqII, decide_eq_true_eq]
          exact List.ext_getElem HL.out fun j h1 h2 => HE.out j h1 h2 (by omega)
        clear HE
        go_wp2_with fail
        go_ret
        exact ⟨by rw [HT1.out]; rfl, HW.out⟩
  · have HT1 : Hid (eqII L M = false) := by
      show eqII L M = false
      simp only [eqII, decide_eq_false_iff_not]; intro e; subst e; exact hL rfl
    have hne : ((L.length : Int) != (M.length : Int)) = true := by simp; omega
    clear hA hB hS hS2 hL
    go_enter Tryz.func10, Tryz.ntmps10
    go_wp2
    go_ret
    exact ⟨by rw [HT1.out]; rfl, Below.refl _ _⟩

end Go.Proofs.YtkgnejhflnekaaaGreat
