/- Contracts and lemmas for the statements of this seat, written for this claim; each theorem states its own conditions. -/
import Derived.Test.YtfkmophmiiehlaaLbF1
import Derived.Test.YtfkmophmiiehlaaLbTh1
set_option linter.unusedVariables false
set_option linter.unusedSimpArgs false
namespace Go.Proofs.Ytfkmophmiiehlaa
open Go.RowKit
set_option maxRecDepth 100000 in
set_option maxHeartbeats 3000000 in
theorem specLeastForbidden_c (c : Int) (ts : List T4) (A : Option Addr) (cx : Nat) (h n : Int) (w : World) (hT : TileCells w A ts) (hl : ts.length ≤ 1000000000) :
    Calls Try.prog 10 #[.agg #[.int .i64 c, .slice A ts.length cx], .int .i64 h, .int .i64 n] w fun e w' => ∃ v, e = .returned (.tuple #[v, .int .i64 (lfCode c ts h n)]) ∧ OwnII w' w.heap.size v (lfVal c ts h n) ∧ Below w.heap.size w w' := by
  have H1 := Lib.hid (fun w => l01In_c n 1 5 w)
  have H2 := Lib.hid (fun (wq : World) (hwq : Below w.heap.size w wq) => l10Code_c c ts A cx h (inR 1 5 n) wq (hT.below hwq) hl)
  have HLs := Lib.hid (fun (m : Int) (wq : World) (hwq : Below w.heap.size w wq) => l10List_c c ts A cx h m wq (hT.below hwq) hl)
  have hv2 : lfCode c ts h n = if tsCode c ts h (inR 1 5 n) = 0 then (if lfBad (powC c h.toNat).toNat (lev c ts h.toNat) c.toNat n.toNat = true then 3 else 0) else tsCode c ts h (inR 1 5 n) := rfl
  have hv3 : lfVal c ts h n = if lfCode c ts h n = 0 then lfTo (powC c h.toNat).toNat (lev c ts h.toNat) c.toNat n.toNat else [] := rfl
  have hz := Lib.hid (tsCode_zero (c := c) (ts := ts) (h := h) (fine := inR 1 5 n))
  have hct : ∀ m : Int, 1 ≤ m → m ≤ 8 → tsCode c ts h (inR 1 5 n) = 0 → ctCode 200 c ts h m = if 200 < (trL c ts h m).length then 3 else 0 := fun m h1 h2 h0 => by
    have hf := (tsCode_zero h0).2.1
    have h8 : inR 1 8 m = true := inR_iff.2 ⟨h1, h2⟩
    have : tsCode c ts h (inR 1 8 m) = 0 := by rw [h8, ← hf]; exact h0
    unfold ctCode; rw [if_pos this]
  have htw : ∀ m : Int, twVal 200 c ts h m = if ctCode 200 c ts h m = 0 then trL c ts h m else [] := fun _ => rfl
  have HCt0 := Lib.hid hct
  have HTw0 := Lib.hid htw
  clear hT hct htw
  generalize hcode : tsCode c ts h (inR 1 5 n) = code at *
  have hS : Below w.heap.size w (w.alloc (.cells #[.int .i64 c, .slice A ts.length cx] 31)) := below_al (Below.refl _ _)
  go_enter Try.func10, Try.ntmps10
  go_wp2_with fail
  obtain ⟨wt, hwt⟩ : ∃ wt, wt = w.alloc (.cells #[.int .i64 c, .slice A ts.length cx] 31) := ⟨_, rfl⟩
  rw [← hwt]
  rw [← hwt] at hS
  have U0 := keepC (show wt.cell? ⟨w.heap.size, 0, none⟩ = some (.int .i64 c) by rw [hwt]; exact cell_alloc_at _ _ _ _ _ rfl)
  have U1 := keepC (show wt.cell? ⟨w.heap.size, 1, none⟩ = some (.slice A ts.length cx) by rw [hwt]; exact cell_alloc_at _ _ _ _ _ rfl)
  have hN : w.heap.size < wt.heap.size := by rw [hwt]; simp
  replace hwt := Lib.hid hwt
  have HS := Lib.hid hS
  clear hS
  refine wp_region_mix [(0, true), (1, true), (2, true), (3, false), (4, false), (5, true), (6, true), (7, true), (8, true), (9, true)] (fun w' => Below (wt).heap.size (wt) w') (by kernel_rfl) (by kernel_rfl) (fun _ _ d _ _ h => by cases d <;> exact h) ((Below.refl _ _).drew) ?_
  repeat (first
    | (refine mix_skip rfl rfl (fun K' hK' => ?_); go_simp; refine hK' _ ?_; clear hK' K')
    | (refine mix_do (v := ?_) rfl rfl (fun w1 hb => ?_) (fun K' hK' => ?_); rotate_left
       · go_simp
         rfl
       go_simp; refine hK' _ ?_; clear hK' K'))
  refine mix_call rfl rfl (fun K' hK' => ?_)
  go_simp
  refine (H1.out _).mono ?_
  rintro e w1' ⟨rfl, rfl⟩
  refine hK' _ _ ((Below.refl _ wt).drew) ?_; clear hK' K'
  repeat (first
    | (refine mix_skip rfl rfl (fun K' hK' => ?_); go_simp; refine hK' _ ?_; clear hK' K')
    | (refine mix_do (v := ?_) rfl rfl (fun w1 hb => ?_) (fun K' hK' => ?_); rotate_left
       · go_simp
         rfl
       go_simp; refine hK' _ ?_; clear hK' K'))
  refine mix_call rfl rfl (fun K' hK' => ?_)
  go_simp
  refine (H2.out _ HS.out.drew).mono ?_
  rintro e w1 ⟨v, rfl, hO, hb2⟩
  have HB2 := Lib.hid (show Below wt.heap.size wt w1 from (Below.refl _ wt).drew.trans hb2)
  obtain ⟨Az, kz, rfl, _⟩ := hO.rows
  clear hb2 hO
  refine hK' _ _ (HB2.out) ?_; clear hK' K'
  repeat (first
    | (refine mix_skip rfl rfl (fun K' hK' => ?_); go_simp; refine hK' _ ?_; clear hK' K')
    | (refine mix_do (v := ?_) rfl rfl (fun w1 hb => ?_) (fun K' hK' => ?_); rotate_left
       · go_simp
         rfl
       go_simp; refine hK' _ ?_; clear hK' K'))
  refine mix_nil ?_
  have Hw1 := Lib.hid (HS.out.trans (HB2.out.mono HS.out.size))
  have d0 := U0 _ HB2.out
  have d1 := U1 _ HB2.out
  have hN : w.heap.size < w1.heap.size := Nat.lt_of_lt_of_le hN HB2.out.size
  clear U0 U1
  by_cases hc0 : code = 0
  rotate_left
  · have hcz : (code != 0) = true := by simp [hc0]
    rw [if_neg hc0] at hv2
    rw [hv2, if_neg hc0] at hv3
    have HV2 := Lib.hid hv2
    have HV3 := Lib.hid hv3
    clear hc0 hcode hv2 hv3
    go_wp2
    go_ret2
    exact ⟨_, by rw [HV2.out]; rfl, by rw [HV3.out]; exact OwnII.nil _ _, Hw1.out⟩
  · subst hc0
    rw [if_pos rfl] at hv2
    obtain ⟨hs, hf, n1, n3, hp⟩ := hz.out rfl
    obtain ⟨hn, rfl⟩ := Int.eq_ofNat_of_zero_le (by omega : 0 ≤ h)
    rw [Int.toNat_natCast] at hp
    rw [Int.toNat_natCast] at hv2 hv3
    have hn5 : 1 ≤ n ∧ n ≤ 5 := by unfold inR at hf; simpa using hf
    obtain ⟨nn, rfl⟩ := Int.eq_ofNat_of_zero_le (by omega : 0 ≤ n)
    have D0 := Lib.hid (keepC d1)
    have D1 := Lib.hid (keepC d0)
    obtain ⟨_, ⟨c1, c6⟩, h16⟩ := isSetB_parts hs
    have p1 := powC_4 c1 c6 (h := hn) (by omega)
    have hll := Nat.le_trans (lev_len c ts hn) (pow16 h16 (by omega : hn ≤ 3))
    obtain ⟨cn, rfl⟩ := Int.eq_ofNat_of_zero_le (by omega : 0 ≤ c)
    obtain ⟨S, hS'⟩ := Int.eq_ofNat_of_zero_le (by omega : 0 ≤ powC cn hn)
    have htr : ∀ m : Nat, trL cn ts hn m = trWords S (lev cn ts hn) cn m := fun m => by unfold trL; simp [hS']
    rw [hS'] at p1 hp hv2 hv3
    simp only [Int.toNat_natCast] at hv2 hv3
    have HTr := Lib.hid htr
    have HCt := Lib.hid (fun (m : Nat) (h1 : 1 ≤ m) (h2 : m ≤ 8) => HCt0.out (m : Int) (by omega) (by omega) rfl)
    have HTw := Lib.hid (fun (m : Nat) => HTw0.out (m : Int))
    have HV2 := Lib.hid hv2
    have HV3 := Lib.hid hv3
    have hcn6 : cn ≤ 6 := by omega
    clear hcode hS' hz hv2 hv3 hs hf n1 n3 p1 hp hll htr HCt0 HTw0
    generalize lev cn ts hn = cols at *
    have HW := Lib.hid (fun m => exts_len S cols cn m (List.replicate S true))
    go_wp2_with fail
    clear d0
    go_loopw [10, 11, 12] (fun ov bv iv wr => ∃ m : Nat, m ≤ nn ∧ iv = .int .i64 ((m : Int) + 1) ∧ Hid (OwnII wr w1.heap.size ov (lfTo S cols cn m)) ∧ (∃ Ab kb, bv = .slice Ab (trWords S cols cn m).length kb ∧ Hid (RowsX wr Ab (trWords S cols cn m) ov.ownBlock)) ∧ Hid (Below w1.heap.size w1 wr) ∧ Hid (∀ j, j < m → (trWords S cols cn (j + 1)).length ≤ 200)) (fun _ _ i _ => nn + 1 - (intOf i).toNat)
    case atStart =>
      refine ⟨0, by omega, by simp, Lib.hid ((OwnII.empty rfl (Nat.le_refl _)).below (by have h9 := Below.refl (w1.alloc (.cells #[] 63)).heap.size (w1.alloc (.cells #[] 63)); exact below_al (below_al h9))), ⟨some ⟨w1.heap.size + 2, 0, none⟩, 1, by simp [trWords, exts], Lib.hid ?_⟩, Lib.hid (by (repeat (first | (with_reducible exact Below.refl _ _) | (with_reducible assumption) | (with_reducible refine below_al ?_) | (with_reducible refine below_dr ?_) | (with_reducible refine below_drN ?_) | (with_reducible refine below_set ?_ (by first | exact Nat.le_refl _ | (dsimp only; omega) | omega)) | (with_reducible refine below_tr (by with_reducible assumption) ?_)))), Lib.hid (fun j hj => by omega)⟩
      intro k hk
      have hk0 : k = 0 := by simp [trWords, exts] at hk; omega
      subst hk0
      refine ⟨w1.heap.size + 2, 0, w1.heap.size + 1, 0, 0, rfl, by simp, (fun e => by have e : some (w1.heap.size + 2) = some w1.heap.size := e; injection e with e; omega), ?_, by simp, (fun e => by have e : some (w1.heap.size + 1) = some w1.heap.size := e; injection e with e; omega), fun j hj => by simp [trWords, exts] at hj⟩
      have h9 := cell_alloc_at ((w1.alloc (.cells #[] 63)).alloc (.cells #[] 2)) #[.slice (some ⟨w1.heap.size + 1, 0, none⟩) 0 0] 63 0 _ rfl
      simpa [trWords, exts] using h9
    case round =>
      obtain ⟨m, hm, rfl, HOm, ⟨Ab, kb, rfl, HXb⟩, HBm, HLm⟩ := hrel
      obtain ⟨wj, rfl⟩ : ∃ wj, wj = wr := ⟨wr, rfl⟩
      have d0 := D0.out _ HBm.out
      have d1 := D1.out _ HBm.out
      have hNj : w.heap.size < wj.heap.size := Nat.lt_of_lt_of_le hN HBm.out.size
      obtain ⟨Ao, ko, rfl, _⟩ := HOm.out.rows
      by_cases hmn : m < nn
      · have hmn' : (m : Int) + 1 ≤ (nn : Int) := by omega
        have HT := Lib.hid (HLs.out ((m + 1 : Nat) : Int) wj (Hw1.out.trans (HBm.out.mono Hw1.out.size)))
        have hcd : ctCode 200 cn ts hn ((m + 1 : Nat) : Int) = if 200 < (trWords S cols cn (m + 1)).length then 3 else 0 := by rw [HCt.out (m + 1) (by omega) (by omega), HTr.out]
        have htv : twVal 200 cn ts hn ((m + 1 : Nat) : Int) = if ctCode 200 cn ts hn ((m + 1 : Nat) : Int) = 0 then trWords S cols cn (m + 1) else [] := by rw [HTw.out, HTr.out]
        generalize ctCode 200 cn ts hn ((m + 1 : Nat) : Int) = cd at *
        generalize twVal 200 cn ts hn ((m + 1 : Nat) : Int) = tv at *
        have hm1 : ((m : Int) + 1) = ((m + 1 : Nat) : Int) := by omega
        have hbl : (trWords S cols cn m).length ≤ 200 := by
          cases m with
          | zero => simp [trWords, exts]
          | succ m => exact HLm.out m (by omega)
        have hol : (lfTo S cols cn m).length ≤ 6000 := by
          have h9 := lfTo_len (S := S) (cols := cols) hcn6 m (fun j hj => by
            cases j with
            | zero => simp [trWords, exts]
            | succ j => exact HLm.out j (by omega))
          omega
        have HSu : Hid (lfTo S cols cn (m + 1) = lfTo S cols cn m ++ lfAdd (trWords S cols cn m) (trWords S cols cn (m + 1)) cn (trWords S cols cn m).length) := rfl
        have HBd := Lib.hid (fun hb => lfBad_true (S := S) (cols := cols) (c := cn) (n := nn) (m := m) hmn hb)
        have HWb := Lib.hid (HW.out m)
        have HWn := Lib.hid (HW.out (m + 1))
        have HWb : Hid (∀ x ∈ trWords S cols cn m, x.length = m) := HWb
        have HWn : Hid (∀ x ∈ trWords S cols cn (m + 1), x.length = m + 1) := HWn
        have HOL := Lib.hid hol
        clear hol
        generalize lfTo S cols cn m = OT at *
        generalize hWm : trWords S cols cn m = Wb at *
        generalize hWn : trWords S cols cn (m + 1) = Wn at *
        have HWM := Lib.hid hWm
        have HWN := Lib.hid hWn
        have HCd := Lib.hid hcd
        have HTv := Lib.hid htv
        clear hWm hWn hcd htv
        rw [hm1]
        clear hm1
        go_wp2_with fail
        refine HT.out.mono ?_
        rintro e w2 ⟨v2, rfl, ho, hb2⟩
        obtain ⟨A', k', rfl, _⟩ := ho.rows
        have HB2 := Lib.hid (HBm.out.trans (hb2.mono HBm.out.size))
        have HO2 := Lib.hid ho
        have Hb2 := Lib.hid hb2
        clear ho hb2
        by_cases hle : Wn.length ≤ 200
        · have hc0 : cd = 0 := by rw [HCd.out, if_neg (by omega)]
          have ht0 : tv = Wn := by rw [HTv.out, if_pos hc0]
          subst hc0 ht0
          clear HCd HTv HBd HT
          have hoo := HO2.out
          have hob : ∀ q, (Value.slice Ao OT.length ko).ownBlock = some q → q < wj.heap.size := fun q hq => (HOm.out.lt q hq).2
          obtain ⟨An, kn, en, hxn⟩ := hoo.rowsX (o := (Value.slice Ao OT.length ko).ownBlock) (fun r hr => by rw [HWn.out r hr]; omega) hob
          injection en with en1 _ en3
          subst en1 en3
          have HXn := Lib.hid hxn
          have HXb2 := Lib.hid (HXb.out.below Hb2.out)
          have HO3 := Lib.hid (HOm.out.below Hb2.out)
          have HLe := Lib.hid hle
          have d1 := D1.out _ HB2.out
          have hN2 : w.heap.size < w2.heap.size := Nat.lt_of_lt_of_le hN HB2.out.size
          have HShB := Lib.hid (show Short 1000000000 Wb from fun k hk => by rw [HWb.out _ (List.getElem_mem hk)]; omega)
          have HShN := Lib.hid (show Short 1000000000 tv from fun k hk => by rw [HWn.out _ (List.getElem_mem hk)]; omega)
          clear hoo hob hxn hle
          go_wp2_with fail
          go_loopw [10, 15] (fun ov iv wr => ∃ k : Nat, k ≤ Wb.length ∧ iv = .int .i64 k ∧ Hid (OwnII wr w1.heap.size ov (OT ++ lfAdd Wb tv cn k)) ∧ Hid (RowsX wr Ab Wb ov.ownBlock) ∧ Hid (RowsX wr A' tv ov.ownBlock) ∧ Hid (Below w1.heap.size w1 wr)) (fun _ i _ => Wb.length - (intOf i).toNat)
          case atStart => exact ⟨0, by omega, rfl, Lib.hid (by have h9 := HO3.out; simpa [lfAdd] using h9), HXb2, HXn, HB2⟩
          case round =>
            clear HXb2 HO3 HXn
            obtain ⟨k, hk, rfl, HOk, HXb3, HXn3, HBk⟩ := hrel
            obtain ⟨wk, rfl⟩ : ∃ wk, wk = wr := ⟨wr, rfl⟩
            obtain ⟨Ak, kk, rfl, _⟩ := HOk.out.rows
            by_cases hkl : k < Wb.length
            · obtain ⟨b, off, r, ro, rc, rfl, q1, q2, q3, q4, q5, q6⟩ := HXb3.out k hkl
              have HAS := Lib.hid (lfAdd_succ Wb tv cn k hkl)
              have hbl2 := HWb.out _ (List.getElem_mem hkl)
              have hal := lfAdd_len Wb tv cn k (by omega)
              have hal2 : k * cn ≤ 200 * 6 := Nat.mul_le_mul (by omega) hcn6
              have d1 := D1.out _ HBk.out
              have hNk : w.heap.size < wk.heap.size := by have := HBk.out.size; omega
              obtain ⟨row, hrow⟩ : ∃ row, row = Wb[k] := ⟨_, rfl⟩
              rw [← hrow] at q3 q6 HAS hbl2
              have hrr : ∃ r', r' = lfRow Wb tv row 0 := ⟨_, rfl⟩
              rw [hbl2] at q3
              have HRl := Lib.hid hbl2
              have HRow := Lib.hid hrow
              have HAl := Lib.hid (show (OT ++ lfAdd Wb tv cn k).length ≤ 7200 by rw [List.length_append]; have := HOL.out; omega)
              clear hrow hbl2 hal hal2 hrr
              generalize hac : OT ++ lfAdd Wb tv cn k = AC at *
              have HAC := Lib.hid hac
              have HRw := Lib.hid (show RowsX wk (some ⟨b, off, none⟩) [row] (Value.slice Ak AC.length kk).ownBlock ∨ True from .inr trivial)
              have Hq := Lib.hid (And.intro q4 (And.intro q5 q6))
              clear hac q4 q5 q6
              go_wp2_with fail
              go_loopw [10, 16] (fun ov iv wr => ∃ x : Nat, x ≤ cn ∧ iv = .int .i64 x ∧ Hid (OwnII wr w1.heap.size ov (AC ++ lfRow Wb tv row x)) ∧ Hid (RowsX wr (some ⟨b, off, none⟩) Wb ov.ownBlock) ∧ Hid (RowsX wr A' tv ov.ownBlock) ∧ Hid (Below w1.heap.size w1 wr)) (fun _ i _ => cn - (intOf i).toNat)
              case atStart => exact ⟨0, by omega, rfl, Lib.hid (by have h9 := HOk.out; simpa [lfRow] using h9), HXb3, HXn3, HBk⟩
              case round =>
                clear HOk HXb3 HXn3 Hq HRw q3 d1
                obtain ⟨x, hx, rfl, HOx, HXb4, HXn4, HBx⟩ := hrel
                obtain ⟨wx, rfl⟩ : ∃ wx, wx = wr := ⟨wr, rfl⟩
                obtain ⟨Ax, kx, rfl, _⟩ := HOx.out.rows
                obtain ⟨b', off', r, ro, rc, eb, q1, q2, q3, q4, q5, q6⟩ := HXb4.out k hkl
                injection eb with eb; injection eb with eb1 eb2 _; subst eb1 eb2
                rw [← HRow.out] at q3 q6
                rw [HRl.out] at q3
                have Hq := Lib.hid (And.intro q4 (And.intro q5 q6))
                have d1 := D1.out _ HBx.out
                have hNx : w.heap.size < wx.heap.size := by have := HBx.out.size; omega
                clear q4 q5 q6 q2
                by_cases hxc : x < cn
                · have hrc := lfRow_len Wb tv row x
                  have HRS := Lib.hid (lfRow_succ Wb tv row x)
                  have HCl := Lib.hid (l01Own_c row r ro rc wx Hq.out.2.2 (by rw [HRl.out]; omega))
                  rw [HRl.out] at HCl
                  have hal : (AC ++ lfRow Wb tv row x).length ≤ 8000 := by rw [List.length_append]; have := HAl.out; omega
                  have HAl2 := Lib.hid hal
                  have HW1 := Lib.hid (fun wq Aw kw (hB : Below wx.heap.size wx wq) (hw : Cells wq Aw (ints ((row ++ [(x : Int)]).drop 1))) => l10Member_c Wb ((row ++ [(x : Int)]).drop 1) (some ⟨b, off, none⟩) Aw kb kw wq (HXb4.out.below hB).rows hw (by omega) HShB.out (by simp [HRl.out]; omega))
                  have HW2 := Lib.hid (fun wq Aw kw (hB : Below wx.heap.size wx wq) (hw : Cells wq Aw (ints (row ++ [(x : Int)]))) => l10Member_c tv (row ++ [(x : Int)]) A' Aw k' kw wq (HXn4.out.below hB).rows hw (by have := HLe.out; omega) HShN.out (by simp [HRl.out]; omega))
                  have hdl : ((row ++ [(x : Int)]).drop 1).length = m := by simp [HRl.out]
                  have hwl : (row ++ [(x : Int)]).length = m + 1 := by simp [HRl.out]
                  rw [hdl] at HW1
                  rw [hwl] at HW2
                  generalize memB Wb ((row ++ [(x : Int)]).drop 1) = p1 at *
                  generalize memB tv (row ++ [(x : Int)]) = p2 at *
                  clear hrc hal
                  generalize hac2 : AC ++ lfRow Wb tv row x = AX at *
                  have HAX := Lib.hid hac2
                  clear hac2 hdl hwl
                  go_wp2_with fail
                  refine HCl.out.mono ?_
                  rintro e w3 ⟨v3, rfl, hO3, hb3⟩
                  obtain ⟨A3, k3, rfl, _⟩ := hO3.shape
                  have hO3' : OwnI w3 wx.heap.size (.slice A3 m k3) row := by rw [← HRl.out]; exact hO3
                  have HO3 := Lib.hid hO3'
                  have Hb3 := Lib.hid hb3
                  rw [HRl.out]
                  clear hO3 hO3' hb3
                  go_wp2_with (at_builtin; refine Hold.of ?_)
                  refine Hold.to ?_
                  refine wpl_app_int rfl (.tmp 63) (.tmp 65) rfl wx.heap.size (.slice A3 m k3) row (x : Int) rfl (HO3.out.alloc _) w3.heap.size 0 rfl (cell_alloc_at _ _ _ _ _ rfl) (by rw [HRl.out]; omega) (le_al Hb3.out.size) (fun v4 w4 h1 h2 h3 => ?_)
                  have hb4 : Below wx.heap.size wx w4 := Below.grown (below_al Hb3.out) h2 (le_al Hb3.out.size) (fun q hq => (World.ownsRow.lt HO3.out q hq).1)
                  obtain ⟨A4, k4, rfl, hc4, _⟩ := h1.shape
                  have hl4 : (row ++ [(x : Int)]).length = m + 1 := by simp [HRl.out]
                  obtain ⟨g4, hg4, _, _, _, _⟩ := h1.at_ 0 (by simp)
                  subst hg4
                  have h1' : OwnI w4 wx.heap.size (.slice (some ⟨g4, 0, none⟩) (m + 1) k4) (row ++ [(x : Int)]) := by rw [← hl4]; exact h1
                  have HO4 := Lib.hid h1'
                  have hct : Cells w4 (some ⟨g4, 1, none⟩) (ints ((row ++ [(x : Int)]).drop 1)) := by
                    intro j hj
                    have hj' : j < ((row ++ [(x : Int)]).drop 1).length := by simpa [ints] using hj
                    have hj2 : j + 1 < (row ++ [(x : Int)]).length := by rw [List.length_drop] at hj'; omega
                    obtain ⟨g5, e5, _, _, c5, _⟩ := h1'.at_ (j + 1) hj2
                    injection e5 with e5; injection e5 with e5 _; subst e5
                    refine ⟨g4, 1, rfl, ?_⟩
                    rw [show 1 + j = j + 1 by omega, c5]
                    simp only [ints, List.getElem_map, List.getElem_drop, show 1 + j = j + 1 by omega]
                  have HCt := Lib.hid hct
                  have HCw := Lib.hid hc4
                  have HB4 := Lib.hid hb4
                  rw [hl4]
                  clear h1 h1' h2 h3 hct hc4 hb4 hl4
                  have hk4 : m + 1 ≤ k4 := by
                    have h9 := HO4.out
                    rcases h9.2 with ⟨e9, _⟩ | ⟨_, cap, _, e9, _, _, h9, _⟩
                    · cases e9
                    · injection e9 with _ e9a e9b; subst e9b; simpa [HRl.out] using h9
                  have hdm : (ints ((row ++ [(x : Int)]).drop 1)).length = m := by simp [ints, HRl.out]
                  go_wp2_with fail
                  all_goals
                    refine (HW1.out w4 _ _ HB4.out (by first | exact HCt.out | (intro j hj; omega))).mono ?_
                    first | subst h | clear h
                    clear hk4 hdm
                    rintro e w5 ⟨rfl, hb5⟩
                    have HB5 := Lib.hid (HB4.out.trans (hb5.mono HB4.out.size))
                    have HO5 := Lib.hid (HO4.out.below hb5)
                    have HCw5 := Lib.hid (HCw.out.below hb5)
                    clear hb5
                    cases p1
                    · have HRn := Lib.hid (show AC ++ lfRow Wb tv row (x + 1) = AX by rw [HRS.out, if_neg (by simp), List.append_nil, HAX.out])
                      have HX1 := Lib.hid (HOx.out.below HB5.out)
                      have HX2 := Lib.hid (HXb4.out.below HB5.out)
                      have HX3 := Lib.hid (HXn4.out.below HB5.out)
                      have HX4 := Lib.hid (show r < w5.heap.size ∧ some r ≠ (Value.slice Ax AX.length kx).ownBlock ∧ ∀ j (hj : j < row.length), w5.cell? ⟨r, ro + j, none⟩ = some (.int .i64 row[j]) from ⟨Nat.lt_of_lt_of_le Hq.out.1 HB5.out.size, Hq.out.2.1, fun j hj => (HB5.out.cell (p := ⟨r, ro + j, none⟩) Hq.out.1).trans (Hq.out.2.2 j hj)⟩)
                      have HX5 := Lib.hid (HBx.out.trans (HB5.out.mono HBx.out.size))
                      go_wp2_with fail
                      go_roundw
                      case rel => exact ⟨x + 1, by omega, by go_num, Lib.hid (by rw [HRn.out]; exact HX1.out), HX2, HX3, HX5⟩
                      case measure => simp [intOf]; omega
                    · go_wp2_with fail
                      refine (HW2.out w5 _ _ HB5.out HCw5.out).mono ?_
                      rintro e w6 ⟨rfl, hb6⟩
                      have HB6 := Lib.hid (HB5.out.trans (hb6.mono HB5.out.size))
                      have HO6 := Lib.hid (HO5.out.below hb6)
                      clear hb6
                      cases p2
                      · have HRn := Lib.hid (show AC ++ lfRow Wb tv row (x + 1) = AX ++ [row ++ [(x : Int)]] by rw [HRS.out, if_pos (by decide), ← List.append_assoc, HAX.out])
                        have HX4 := Lib.hid (show r < w6.heap.size ∧ some r ≠ (Value.slice Ax AX.length kx).ownBlock ∧ ∀ j (hj : j < row.length), w6.cell? ⟨r, ro + j, none⟩ = some (.int .i64 row[j]) from ⟨Nat.lt_of_lt_of_le Hq.out.1 HB6.out.size, Hq.out.2.1, fun j hj => (HB6.out.cell (p := ⟨r, ro + j, none⟩) Hq.out.1).trans (Hq.out.2.2 j hj)⟩)
                        have HX2 := Lib.hid (HXb4.out.below HB6.out)
                        have HX3 := Lib.hid (HXn4.out.below HB6.out)
                        have HX5 := Lib.hid (HBx.out.trans (HB6.out.mono HBx.out.size))
                        go_wp2_with (at_builtin; refine Hold.of ?_)
                        refine Hold.to ?_
                        refine wpl_app_rowH (W0 := wx) rfl (.tmp 77) (.tmp 79) rfl w1.heap.size (.slice Ax AX.length kx) AX _ (row ++ [(x : Int)]) rfl HOx.out (below_al HB6.out) (HO6.out.alloc _) w6.heap.size 0 rfl (cell_alloc_at _ _ _ _ _ rfl) (by have := HAl2.out; omega) HBx.out.size (fun v7 w7 y1 y2 y3 y4 => ?_)
                        have hb7 : Below w1.heap.size w1 w7 := Below.grown ((HX5.out).alloc HX5.out.size _) y2 (le_al HX5.out.size) y3
                        have ho2 : ∀ q, v7.ownBlock = some q → (Value.slice Ax AX.length kx).ownBlock = some q ∨ w6.heap.size + 1 ≤ q := fun q hq => by
                          rcases y4 with e | e
                          · left; rw [← e]; exact hq
                          · right; rw [e] at hq; injection hq with hq; simp at hq; omega
                        have hx2 := (HX2.out.below (below_al (Below.refl _ w6))).step y2 (fun q hq => by have := ho2 q hq; simpa using this)
                        have hx3 := (HX3.out.below (below_al (Below.refl _ w6))).step y2 (fun q hq => by have := ho2 q hq; simpa using this)
                        have hx4 : r < w7.heap.size ∧ some r ≠ v7.ownBlock ∧ ∀ j (hj : j < row.length), w7.cell? ⟨r, ro + j, none⟩ = some (.int .i64 row[j]) := by
                          have hs7 := y2.size
                          simp at hs7
                          refine ⟨by have := HX4.out.1; omega, fun e => ?_, fun j hj => ?_⟩
                          · rcases y4 with e2 | e2
                            · rw [e2] at e; exact HX4.out.2.1 e
                            · rw [e2] at e; injection e with e; simp at e; have := HX4.out.1; omega
                          · exact (grown_cell (p := ⟨r, ro + j, none⟩) y2 (by have := HX4.out.1; simp; omega) HX4.out.2.1).trans (((below_al (Below.refl _ w6)).cell (p := ⟨r, ro + j, none⟩) HX4.out.1).trans (HX4.out.2.2 j hj))
                        obtain ⟨A7, k7, rfl, _⟩ := y1.rows
                        have hAl : (AX ++ [row ++ [(x : Int)]]).length = AX.length + 1 := by simp
                        rw [hAl] at y1 hx2 hx3 hx4
                        clear hAl
                        have HF := Lib.hid (And.intro y1 (And.intro hx2 (And.intro hx3 (And.intro hx4 hb7))))
                        clear y1 y2 y3 y4 hx2 hx3 hx4 hb7 ho2
                        go_wp2_with fail
                        go_roundw
                        case rel => exact ⟨x + 1, by omega, by go_num, Lib.hid (by rw [HRn.out]; exact HF.out.1), Lib.hid HF.out.2.1, Lib.hid HF.out.2.2.1, Lib.hid HF.out.2.2.2.2⟩
                        case measure => simp [intOf]; omega
                      · have HRn := Lib.hid (show AC ++ lfRow Wb tv row (x + 1) = AX by rw [HRS.out, if_neg (by decide), List.append_nil, HAX.out])
                        have HX1 := Lib.hid (HOx.out.below HB6.out)
                        have HX2 := Lib.hid (HXb4.out.below HB6.out)
                        have HX3 := Lib.hid (HXn4.out.below HB6.out)
                        have HX4 := Lib.hid (show r < w6.heap.size ∧ some r ≠ (Value.slice Ax AX.length kx).ownBlock ∧ ∀ j (hj : j < row.length), w6.cell? ⟨r, ro + j, none⟩ = some (.int .i64 row[j]) from ⟨Nat.lt_of_lt_of_le Hq.out.1 HB6.out.size, Hq.out.2.1, fun j hj => (HB6.out.cell (p := ⟨r, ro + j, none⟩) Hq.out.1).trans (Hq.out.2.2 j hj)⟩)
                        have HX5 := Lib.hid (HBx.out.trans (HB6.out.mono HBx.out.size))
                        go_wp2_with fail
                        go_roundw
                        case rel => exact ⟨x + 1, by omega, by go_num, Lib.hid (by rw [HRn.out]; exact HX1.out), HX2, HX3, HX5⟩
                        case measure => simp [intOf]; omega
                · obtain rfl : x = cn := by omega
                  have HOx2 := Lib.hid (show OwnII wx w1.heap.size (.slice Ax (AC ++ lfRow Wb tv row x).length kx) (OT ++ lfAdd Wb tv x (k + 1)) by rw [HAS.out, ← List.append_assoc, HAC.out]; exact HOx.out)
                  go_wp2_with fail
                  go_roundw
                  case rel => exact ⟨k + 1, by omega, by go_num, HOx2, HXb4, HXn4, HBx⟩
                  case measure => simp [intOf]; omega
            · obtain rfl : k = Wb.length := by omega
              have HO5 := Lib.hid (show OwnII wk w1.heap.size (.slice Ak (OT ++ lfAdd Wb tv cn Wb.length).length kk) (lfTo S cols cn (m + 1)) by rw [HSu.out]; exact HOk.out)
              have HLm2 := Lib.hid (show ∀ j, j < m + 1 → (trWords S cols cn (j + 1)).length ≤ 200 from fun j hj => by
                by_cases e : j = m
                · subst e; rw [HWN.out]; exact HLe.out
                · exact HLm.out j (by omega))
              go_wp2_with fail
              go_roundw
              case rel => exact ⟨m + 1, by omega, by go_num, HO5, ⟨A', k', by rw [HWN.out], Lib.hid (by rw [HWN.out]; exact HXn3.out)⟩, HBk, HLm2⟩
              case measure => simp [intOf]; omega
        · have hc0 : cd = 3 := by rw [HCd.out, if_pos (by omega)]
          subst hc0
          have HBad := Lib.hid (HBd.out hle)
          replace hle := Lib.hid hle
          clear HCd HTv
          go_wp2
          go_ret2
          refine ⟨_, by rw [HV2.out, if_pos HBad.out]; rfl, ?_, Hw1.out.trans (HB2.out.mono Hw1.out.size)⟩
          rw [HV3.out, if_neg (by rw [HV2.out, if_pos HBad.out]; decide)]
          exact OwnII.nil _ _
      · obtain rfl : m = nn := by omega
        have HGood := Lib.hid (lfBad_false HLm.out)
        have HF := Lib.hid (HOm.out.weaken (B' := w.heap.size) Hw1.out.size)
        go_wp2
        go_ret2
        refine ⟨_, by rw [HV2.out, if_neg (by rw [HGood.out]; decide)]; rfl, ?_, Hw1.out.trans (HBm.out.mono Hw1.out.size)⟩
        rw [HV3.out, if_pos (by rw [HV2.out, if_neg (by rw [HGood.out]; decide)])]
        exact HF.out

end Go.Proofs.Ytfkmophmiiehlaa
