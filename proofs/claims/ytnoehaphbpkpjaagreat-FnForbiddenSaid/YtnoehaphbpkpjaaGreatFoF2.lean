/- Contracts and lemmas for the statements of this seat, written for this claim; each theorem states its own conditions. -/
import Derived.Deep.RegionHeld3
import Derived.RangeFuncNested
import Derived.RangeFuncBox
import Derived.RangeFuncLeaves
import Derived.RangeFuncCalls
import Derived.RangeFuncBound
import Derived.Shelf.Abstract
import Derived.Shelf.RegionOpen
import Derived.WalkKit
import Derived.OwnWalkIn
import Derived.TacticsInMore
import Derived.LoopNIn
import Derived.LoopIn
import Derived.Maps.AppendAt
import Derived.Shelf.SlSortCmp.WholeK
import Derived.Shelf.SlSortCmp.NoneTotal
import Derived.Sort.LotA
import Derived.Test.YtnoehaphbpkpjaaGreatFoF1
import Derived.Test.YtnoehaphbpkpjaaGreatFoTh1
import Derived.Test.YtnoehaphbpkpjaaGreatFoSe
import Derived.Test.YtnoehaphbpkpjaaGreatFoBk
import Derived.Test.YtnoehaphbpkpjaaGreatFoL1
set_option linter.unusedVariables false
set_option linter.unusedSimpArgs false
namespace Go.Proofs.YtnoehaphbpkpjaaGreat
open Go.RowKit
set_option maxRecDepth 100000 in
set_option maxHeartbeats 3000000 in
theorem specLeastForbidden_c (c : Int) (ts : List T4) (A : Option Addr) (cx : Nat) (h n : Int) (w : World) (hT : TileCells w A ts) (hl : ts.length ≤ 1000000000) :
    Calls Tryz.prog 21 #[.agg #[.int .i64 c, .slice A ts.length cx], .int .i64 h, .int .i64 n] w fun e w' => ∃ v, e = .returned (.tuple #[v, .int .i64 (lfCode c ts h n)]) ∧ OwnII w' w.heap.size v (lfVal c ts h n) ∧ Below w.heap.size w w' := by
  have H1 := Lib.hid (fun w => l01In_c n 1 5 w)
  have H2 := Lib.hid (fun (wq : World) (hwq : Below w.heap.size w wq) => l10Code_c c ts A cx h (inR 1 5 n) wq (hT.below hwq) hl)
  have HLs := Lib.hid (fun (m : Int) (wq : World) (hwq : Below w.heap.size w wq) => l10List_c c ts A cx h m wq (hT.below hwq) hl)
  have hv2 : lfCode c ts h n = if tsCode c ts h (inR 1 5 n) = 0 then (if lfBad (powC c h.toNat).toNat (lev c ts h.toNat) c.toNat n.toNat = true then 3 else 0) else tsCode c ts h (inR 1 5 n) := rfl
  have hv3 : lfVal c ts h n = if lfCode c ts h n = 0 then lfTo (powC c h.toNat).toNat (lev c ts h.toNat) c.toNat n.toNat else [] := rfl
  have hz := Lib.hid (tsCode_zero (c := c) (ts := ts) (h := h) (fine := inR 1 5 n))
  have hct : ∀ m : Int, 1 ≤ m → m ≤ 8 → tsCode c ts h (inR 1 5 n) = 0 → ctCode 200 c ts h m = if 200 < (trL c ts h m).length then 3 else 0 := fun m h1 h2 h0 => by
    have hf := (tsCode_zero h0).2.1
    have h8 : inR 1 8 m = true := inR_iff.2 ⟨h1, h2⟩
    have : tsCode c ts h (inR 1 8 m) = 0 := by rw [h8, ← hf]; exact h0
    unfold ctCode; rw [if_pos this]
  have htw : ∀ m : Int, twVal 200 c ts h m = if ctCode 200 c ts h m = 0 then trL c ts h m else [] := fun _ => rfl
  have HCt0 := Lib.hid hct
  have HTw0 := Lib.hid htw
  clear hT hct htw
  generalize hcode : tsCode c ts h (inR 1 5 n) = code at *
  have hS : Below w.heap.size w (w.alloc (.cells #[.int .i64 c, .slice A ts.length cx] 32)) := below_al (Below.refl _ _)
  go_enter Tryz.func21, Tryz.ntmps21
  go_wp2_with fail
  obtain ⟨wt, hwt⟩ : ∃ wt, wt = w.alloc (.cells #[.int .i64 c, .slice A ts.length cx] 32) := ⟨_, rfl⟩
  rw [← hwt]
  rw [← hwt] at hS
  have U0 := keepC (show wt.cell? ⟨w.heap.size, 0, none⟩ = some (.int .i64 c) by rw [hwt]; exact cell_alloc_at _ _ _ _ _ rfl)
  have U1 := keepC (show wt.cell? ⟨w.heap.size, 1, none⟩ = some (.slice A ts.length cx) by rw [hwt]; exact cell_alloc_at _ _ _ _ _ rfl)
  have hN : w.heap.size < wt.heap.size := by rw [hwt]; simp
  replace hwt := Lib.hid hwt
  have HS := Lib.hid hS
  clear hS
  refine wp_region_mix [(0, true), (1, true), (2, true), (3, false), (4, false), (5, true), (6, true), (7, true), (8, true), (9, true)] (fun w' => Below (wt).heap.size (wt) w') (by kernel_rfl) (by kernel_rfl) (fun _ _ d _ _ h => by cases d <;> exact h) ((Below.refl _ _).drew) ?_
  repeat (first
    | (refine mix_skip rfl rfl (fun K' hK' => ?_); go_simp; refine hK' _ ?_; clear hK' K')
    | (refine mix_do (v := ?_) rfl rfl (fun w1 hb => ?_) (fun K' hK' => ?_); rotate_left
       · go_simp
         rfl
       go_simp; refine hK' _ ?_; clear hK' K'))
  refine mix_call rfl rfl (fun K' hK' => ?_)
  go_simp
  refine (H1.out _).mono ?_
  rintro e w1' ⟨rfl, rfl⟩
  refine hK' _ _ ((Below.refl _ wt).drew) ?_; clear hK' K'
  repeat (first
    | (refine mix_skip rfl rfl (fun K' hK' => ?_); go_simp; refine hK' _ ?_; clear hK' K')
    | (refine mix_do (v := ?_) rfl rfl (fun w1 hb => ?_) (fun K' hK' => ?_); rotate_left
       · go_simp
         rfl
       go_simp; refine hK' _ ?_; clear hK' K'))
  refine mix_call rfl rfl (fun K' hK' => ?_)
  go_simp
  refine (H2.out _ HS.out.drew).mono ?_
  rintro e w1 ⟨v, rfl, hO, hb2⟩
  have HB2 := Lib.hid (show Below wt.heap.size wt w1 from (Below.refl _ wt).drew.trans hb2)
  obtain ⟨Az, kz, rfl, _⟩ := hO.rows
  clear hb2 hO
  refine hK' _ _ (HB2.out) ?_; clear hK' K'
  repeat (first
    | (refine mix_skip rfl rfl (fun K' hK' => ?_); go_simp; refine hK' _ ?_; clear hK' K')
    | (refine mix_do (v := ?_) rfl rfl (fun w1 hb => ?_) (fun K' hK' => ?_); rotate_left
       · go_simp
         rfl
       go_simp; refine hK' _ ?_; clear hK' K'))
  refine mix_nil ?_
  have Hw1 := Lib.hid (HS.out.trans (HB2.out.mono HS.out.size))
  have d0 := U0 _ HB2.out
  have d1 := U1 _ HB2.out
  have hN : w.heap.size < w1.heap.size := Nat.lt_of_lt_of_le hN HB2.out.size
  clear U0 U1
  by_cases hc0 : code = 0
  rotate_left
  · have hcz : (code != 0) = true := by simp [hc0]
    rw [if_neg hc0] at hv2
    rw [hv2, if_neg hc0] at hv3
    have HV2 := Lib.hid hv2
    have HV3 := Lib.hid hv3
    clear hc0 hcode hv2 hv3
    go_wp2
    go_ret2
    exact ⟨_, by rw [HV2.out]; rfl, by rw [HV3.out]; exact OwnII.nil _ _, Hw1.out⟩
  · subst hc0
    rw [if_pos rfl] at hv2
    obtain ⟨hs, hf, n1, n3, hp⟩ := hz.out rfl
    obtain ⟨hn, rfl⟩ := Int.eq_ofNat_of_zero_le (by omega : 0 ≤ h)
    rw [Int.toNat_natCast] at hp
    rw [Int.toNat_natCast] at hv2 hv3
    have hn5 : 1 ≤ n ∧ n ≤ 5 := by unfold inR at hf; simpa using hf
    obtain ⟨nn, rfl⟩ := Int.eq_ofNat_of_zero_le (by omega : 0 ≤ n)
    have D0 := Lib.hid (keepC d1)
    have D1 := Lib.hid (keepC d0)
    obtain ⟨_, ⟨c1, c6⟩, h16⟩ := isSetB_parts hs
    have p1 := powC_4 c1 c6 (h := hn) (by omega)
    have hll := Nat.le_trans (lev_len c ts hn) (pow16 h16 (by omega : hn ≤ 3))
    obtain ⟨cn, rfl⟩ := Int.eq_ofNat_of_zero_le (by omega : 0 ≤ c)
    obtain ⟨S, hS'⟩ := Int.eq_ofNat_of_zero_le (by omega : 0 ≤ powC cn hn)
    have htr : ∀ m : Nat, trL cn ts hn m = trWords S (lev cn ts hn) cn m := fun m => by unfold trL; simp [hS']
    rw [hS'] at p1 hp hv2 hv3
    simp only [Int.toNat_natCast] at hv2 hv3
    have HTr := Lib.hid htr
    have HCt := Lib.hid (fun (m : Nat) (h1 : 1 ≤ m) (h2 : m ≤ 8) => HCt0.out (m : Int) (by omega) (by omega) rfl)
    have HTw := Lib.hid (fun (m : Nat) => HTw0.out (m : Int))
    have HV2 := Lib.hid hv2
    have HV3 := Lib.hid hv3
    have hcn6 : cn ≤ 6 := by omega
    clear hcode hS' hz hv2 hv3 hs hf n1 n3 p1 hp hll htr HCt0 HTw0
    generalize lev cn ts hn = cols at *
    have HW := Lib.hid (fun m => exts_len S cols cn m (List.replicate S true))
    go_wp2_with fail
    clear d0
    go_loopw [10, 11, 12] (fun ov bv iv wr => ∃ m : Nat, m ≤ nn ∧ iv = .int .i64 ((m : Int) + 1) ∧ Hid (OwnII wr w1.heap.size ov (lfTo S cols cn m)) ∧ (∃ Ab kb, bv = .slice Ab (trWords S cols cn m).length kb ∧ Hid (RowsX wr Ab (trWords S cols cn m) ov.ownBlock)) ∧ Hid (Below w1.heap.size w1 wr) ∧ Hid (∀ j, j < m → (trWords S cols cn (j + 1)).length ≤ 200)) (fun _ _ i _ => nn + 1 - (intOf i).toNat)
    case atStart =>
      refine ⟨0, by omega, by simp, Lib.hid ((OwnII.empty rfl (Nat.le_refl _)).below (by have h9 := Below.refl (w1.alloc (.cells #[] 39)).heap.size (w1.alloc (.cells #[] 39)); exact below_al (below_al h9))), ⟨some ⟨w1.heap.size + 2, 0, none⟩, 1, by simp [trWords, exts], Lib.hid ?_⟩, Lib.hid (by (repeat (first | (with_reducible exact Below.refl _ _) | (with_reducible assumption) | (with_reducible refine below_al ?_) | (with_reducible refine below_dr ?_) | (with_reducible refine below_drN ?_) | (with_reducible refine below_set ?_ (by first | exact Nat.le_refl _ | (dsimp only; omega) | omega)) | (with_reducible refine below_tr (by with_reducible assumption) ?_)))), Lib.hid (fun j hj => by omega)⟩
      intro k hk
      have hk0 : k = 0 := by simp [trWords, exts] at hk; omega
      subst hk0
      refine ⟨w1.heap.size + 2, 0, w1.heap.size + 1, 0, 0, rfl, by simp, (fun e => by have e : some (w1.heap.size + 2) = some w1.heap.size := e; injection e with e; omega), ?_, by simp, (fun e => by have e : some (w1.heap.size + 1) = some w1.heap.size := e; injection e with e; omega), fun j hj => by simp [trWords, exts] at hj⟩
      have h9 := cell_alloc_at ((w1.alloc (.cells #[] 39)).alloc (.cells #[] 2)) #[.slice (some ⟨w1.heap.size + 1, 0, none⟩) 0 0] 39 0 _ rfl
      simpa [trWords, exts] using h9
    case round =>
      obtain ⟨m, hm, rfl, HOm, ⟨Ab, kb, rfl, HXb⟩, HBm, HLm⟩ := hrel
      obtain ⟨wj, rfl⟩ : ∃ wj, wj = wr := ⟨wr, rfl⟩
      have d0 := D0.out _ HBm.out
      have d1 := D1.out _ HBm.out
      have hNj : w.heap.size < wj.heap.size := Nat.lt_of_lt_of_le hN HBm.out.size
      obtain ⟨Ao, ko, rfl, _⟩ := HOm.out.rows
      by_cases hmn : m < nn
      · have hmn' : (m : Int) + 1 ≤ (nn : Int) := by omega
        have HT := Lib.hid (HLs.out ((m + 1 : Nat) : Int) wj (Hw1.out.trans (HBm.out.mono Hw1.out.size)))
        have hcd : ctCode 200 cn ts hn ((m + 1 : Nat) : Int) = if 200 < (trWords S cols cn (m + 1)).length then 3 else 0 := by rw [HCt.out (m + 1) (by omega) (by omega), HTr.out]
        have htv : twVal 200 cn ts hn ((m + 1 : Nat) : Int) = if ctCode 200 cn ts hn ((m + 1 : Nat) : Int) = 0 then trWords S cols cn (m + 1) else [] := by rw [HTw.out, HTr.out]
        generalize ctCode 200 cn ts hn ((m + 1 : Nat) : Int) = cd at *
        generalize twVal 200 cn ts hn ((m + 1 : Nat) : Int) = tv at *
        have hm1 : ((m : Int) + 1) = ((m + 1 : Nat) : Int) := by omega
        have hbl : (trWords S cols cn m).length ≤ 200 := by
          cases m with
          | zero => simp [trWords, exts]
          | succ m => exact HLm.out m (by omega)
        have hol : (lfTo S cols cn m).length ≤ 6000 := by
          have h9 := lfTo_len (S := S) (cols := cols) hcn6 m (fun j hj => by
            cases j with
            | zero => simp [trWords, exts]
            | succ j => exact HLm.out j (by omega))
          omega
        have HSu : Hid (lfTo S cols cn (m + 1) = lfTo S cols cn m ++ lfAdd (trWords S cols cn m) (trWords S cols cn (m + 1)) cn (trWords S cols cn m).length) := rfl
        have HBd := Lib.hid (fun hb => lfBad_true (S := S) (cols := cols) (c := cn) (n := nn) (m := m) hmn hb)
        have HWb := Lib.hid (HW.out m)
        have HWn := Lib.hid (HW.out (m + 1))
        have HWb : Hid (∀ x ∈ trWords S cols cn m, x.length = m) := HWb
        have HWn : Hid (∀ x ∈ trWords S cols cn (m + 1), x.length = m + 1) := HWn
        have HOL := Lib.hid hol
        clear hol
        generalize lfTo S cols cn m = OT at *
        generalize hWm : trWords S cols cn m = Wb at *
        generalize hWn : trWords S cols cn (m + 1) = Wn at *
        have HWM := Lib.hid hWm
        have HWN := Lib.hid hWn
        have HCd := Lib.hid hcd
        have HTv := Lib.hid htv
        clear hWm hWn hcd htv
        rw [hm1]
        clear hm1
        go_wp2_with fail
        refine HT.out.mono ?_
        rintro e w2 ⟨v2, rfl, ho, hb2⟩
        obtain ⟨A', k', rfl, _⟩ := ho.rows
        have HB2 := Lib.hid (HBm.out.trans (hb2.mono HBm.out.size))
        have HO2 := Lib.hid ho
        have Hb2 := Lib.hid hb2
        clear ho hb2
        by_cases hle : Wn.length ≤ 200
        · have hc0 : cd = 0 := by rw [HCd.out, if_neg (by omega)]
          have ht0 : tv = Wn := by rw [HTv.out, if_pos hc0]
          subst hc0 ht0
          clear HCd HTv HBd HT
          have hoo := HO2.out
          have hob : ∀ q, (Value.slice Ao OT.length ko).ownBlock = some q → q < wj.heap.size := fun q hq => (HOm.out.lt q hq).2
          obtain ⟨An, kn, en, hxn⟩ := hoo.rowsX (o := (Value.slice Ao OT.length ko).ownBlock) (fun r hr => by rw [HWn.out r hr]; omega) hob
          injection en with en1 _ en3
          subst en1 en3
          have HXn := Lib.hid hxn
          have HXb2 := Lib.hid (HXb.out.below Hb2.out)
          have HO3 := Lib.hid (HOm.out.below Hb2.out)
          have HLe := Lib.hid hle
          have d1 := D1.out _ HB2.out
          have hN2 : w.heap.size < w2.heap.size := Nat.lt_of_lt_of_le hN HB2.out.size
          have HShB := Lib.hid (show Short 1000000000 Wb from fun k hk => by rw [HWb.out _ (List.getElem_mem hk)]; omega)
          have HShN := Lib.hid (show Short 1000000000 tv from fun k hk => by rw [HWn.out _ (List.getElem_mem hk)]; omega)
          clear hoo hob hxn hle
          go_wp2_with fail
          go_loopw [10, 15] (fun ov iv wr => ∃ k : Nat, k ≤ Wb.length ∧ iv = .int .i64 k ∧ Hid (OwnII wr w1.heap.size ov (OT ++ lfAdd Wb tv cn k)) ∧ Hid (RowsX wr Ab Wb ov.ownBlock) ∧ Hid (RowsX wr A' tv ov.ownBlock) ∧ Hid (Below w1.heap.size w1 wr)) (fun _ i _ => Wb.length - (intOf i).toNat)
          case atStart => exact ⟨0, by omega, rfl, Lib.hid (by have h9 := HO3.out; simpa [lfAdd] using h9), HXb2, HXn, HB2⟩
          case round =>
            clear HXb2 HO3 HXn
            obtain ⟨k, hk, rfl, HOk, HXb3, HXn3, HBk⟩ := hrel
            obtain ⟨wk, rfl⟩ : ∃ wk, wk = wr := ⟨wr, rfl⟩
            obtain ⟨Ak, kk, rfl, _⟩ := HOk.out.rows
            by_cases hkl : k < Wb.length
            · obtain ⟨b, off, r, ro, rc, rfl, q1, q2, q3, q4, q5, q6⟩ := HXb3.out k hkl
              have HAS := Lib.hid (lfAdd_succ Wb tv cn k hkl)
              have hbl2 := HWb.out _ (List.getElem_mem hkl)
              have hal := lfAdd_len Wb tv cn k (by omega)
              have hal2 : k * cn ≤ 200 * 6 := Nat.mul_le_mul (by omega) hcn6
              have d1 := D1.out _ HBk.out
              have hNk : w.heap.size < wk.heap.size := by have := HBk.out.size; omega
              obtain ⟨row, hrow⟩ : ∃ row, row = Wb[k] := ⟨_, rfl⟩
              rw [← hrow] at q3 q6 HAS hbl2
              have hrr : ∃ r', r' = lfRow Wb tv row 0 := ⟨_, rfl⟩
              rw [hbl2] at q3
              have HRl := Lib.hid hbl2
              have HRow := Lib.hid hrow
              have HAl := Lib.hid (show (OT ++ lfAdd Wb tv cn k).length ≤ 7200 by rw [List.length_append]; have := HOL.out; omega)
              clear hrow hbl2 hal hal2 hrr
              generalize hac : OT ++ lfAdd Wb tv cn k = AC at *
              have HAC := Lib.hid hac
              have HRw := Lib.hid (show RowsX wk (some ⟨b, off, none⟩) [row] (Value.slice Ak AC.length kk).ownBlock ∨ True from .inr trivial)
              have Hq := Lib.hid (And.intro q4 (And.intro q5 q6))
              clear hac q4 q5 q6
              go_wp2_with fail
              go_loopw [10, 16] (fun ov iv wr => ∃ x : Nat, x ≤ cn ∧ iv = .int .i64 x ∧ Hid (OwnII wr w1.heap.size ov (AC ++ lfRow Wb tv row x)) ∧ Hid (RowsX wr (some ⟨b, off, none⟩) Wb ov.ownBlock) ∧ Hid (RowsX wr A' tv ov.ownBlock) ∧ Hid (Below w1.heap.size w1 wr)) (fun _ i _ => cn - (intOf i).toNat)
              case atStart => exact ⟨0, by omega, rfl, Lib.hid (by have h9 := HOk.out; simpa [lfRow] using h9), HXb3, HXn3, HBk⟩
              case round =>
                clear HOk HXb3 HXn3 Hq HRw q3 d1
                obtain ⟨x, hx, rfl, HOx, HXb4, HXn4, HBx⟩ := hrel
                obtain ⟨wx, rfl⟩ : ∃ wx, wx = wr := ⟨wr, rfl⟩
                obtain ⟨Ax, kx, rfl, _⟩ := HOx.out.rows
                obtain ⟨b', off', r, ro, rc, eb, q1, q2, q3, q4, q5, q6⟩ := HXb4.out k hkl
                injection eb with eb; injection eb with eb1 eb2 _; subst eb1 eb2
                rw [← HRow.out] at q3 q6
                rw [HRl.out] at q3
                have Hq := Lib.hid (And.intro q4 (And.intro q5 q6))
                have d1 := D1.out _ HBx.out
                have hNx : w.heap.size < wx.heap.size := by have := HBx.out.size; omega
                clear q4 q5 q6 q2
                by_cases hxc : x < cn
                · have hrc := lfRow_len Wb tv row x
                  have HRS := Lib.hid (lfRow_succ Wb tv row x)
                  have HCl := Lib.hid (l01Own_c row r ro rc wx Hq.out.2.2 (by rw [HRl.out]; omega))
                  rw [HRl.out] at HCl
                  have hal : (AC ++ lfRow Wb tv row x).length ≤ 8000 := by rw [List.length_append]; have := HAl.out; omega
                  have HAl2 := Lib.hid hal
                  have HW1 := Lib.hid (fun wq Aw kw (hB : Below wx.heap.size wx wq) (hw : Cells wq Aw (ints ((row ++ [(x : Int)]).drop 1))) => l10Member_c Wb ((row ++ [(x : Int)]).drop 1) (some ⟨b, off, none⟩) Aw kb kw wq (HXb4.out.below hB).rows hw (by omega) HShB.out (by simp [HRl.out]; omega))
                  have HW2 := Lib.hid (fun wq Aw kw (hB : Below wx.heap.size wx wq) (hw : Cells wq Aw (ints (row ++ [(x : Int)]))) => l10Member_c tv (row ++ [(x : Int)]) A' Aw k' kw wq (HXn4.out.below hB).rows hw (by have := HLe.out; omega) HShN.out (by simp [HRl.out]; omega))
                  have hdl : ((row ++ [(x : Int)]).drop 1).length = m := by simp [HRl.out]
                  have hwl : (row ++ [(x : Int)]).length = m + 1 := by simp [HRl.out]
                  rw [hdl] at HW1
                  rw [hwl] at HW2
                  generalize memB Wb ((row ++ [(x : Int)]).drop 1) = p1 at *
                  generalize memB tv (row ++ [(x : Int)]) = p2 at *
                  clear hrc hal
                  generalize hac2 : AC ++ lfRow Wb tv row x = AX at *
                  have HAX := Lib.hid hac2
                  clear hac2 hdl hwl
                  go_wp2_with fail
                  refine HCl.out.mono ?_
                  rintro e w3 ⟨v3, rfl, hO3, hb3⟩
                  obtain ⟨A3, k3, rfl, _⟩ := hO3.shape
                  have hO3' : OwnI w3 wx.heap.size (.slice A3 m k3) row := by rw [← HRl.out]; exact hO3
                  have HO3 := Lib.hid hO3'
                  have Hb3 := Lib.hid hb3
                  rw [HRl.out]
                  clear hO3 hO3' hb3
                  go_wp2_with (at_builtin; refine Hold.of ?_)
                  refine Hold.to ?_
                  refine wpl_app_int rfl (.tmp 63) (.tmp 65) rfl wx.heap.size (.slice A3 m k3) row (x : Int) rfl (HO3.out.alloc _) w3.heap.size 0 rfl (cell_alloc_at _ _ _ _ _ rfl) (by rw [HRl.out]; omega) (le_al Hb3.out.size) (fun v4 w4 h1 h2 h3 => ?_)
                  have hb4 : Below wx.heap.size wx w4 := Below.grown (below_al Hb3.out) h2 (le_al Hb3.out.size) (fun q hq => (World.ownsRow.lt HO3.out q hq).1)
                  obtain ⟨A4, k4, rfl, hc4, _⟩ := h1.shape
                  have hl4 : (row ++ [(x : Int)]).length = m + 1 := by simp [HRl.out]
                  obtain ⟨g4, hg4, _, _, _, _⟩ := h1.at_ 0 (by simp)
                  subst hg4
                  have h1' : OwnI w4 wx.heap.size (.slice (some ⟨g4, 0, none⟩) (m + 1) k4) (row ++ [(x : Int)]) := by rw [← hl4]; exact h1
                  have HO4 := Lib.hid h1'
                  have hct : Cells w4 (some ⟨g4, 1, none⟩) (ints ((row ++ [(x : Int)]).drop 1)) := by
                    intro j hj
                    have hj' : j < ((row ++ [(x : Int)]).drop 1).length := by simpa [ints] using hj
                    have hj2 : j + 1 < (row ++ [(x : Int)]).length := by rw [List.length_drop] at hj'; omega
                    obtain ⟨g5, e5, _, _, c5, _⟩ := h1'.at_ (j + 1) hj2
                    injection e5 with e5; injection e5 with e5 _; subst e5
                    refine ⟨g4, 1, rfl, ?_⟩
                    rw [show 1 + j = j + 1 by omega, c5]
                    simp only [ints, List.getElem_map, List.getElem_drop, show 1 + j = j + 1 by omega]
                  have HCt := Lib.hid hct
                  have HCw := Lib.hid hc4
                  have HB4 := Lib.hid hb4
                  rw [hl4]
                  clear h1 h1' h2 h3 hct hc4 hb4 hl4
                  have hk4 : m + 1 ≤ k4 := by
                    have h9 := HO4.out
                    rcases h9.2 with ⟨e9, _⟩ | ⟨_, cap, _, e9, _, _, h9, _⟩
                    · cases e9
                    · injection e9 with _ e9a e9b; subst e9b; simpa [HRl.out] using h9
                  have hdm : (ints ((row ++ [(x : Int)]).drop 1)).length = m := by simp [ints, HRl.out]
                  go_wp2_with fail
                  all_goals
                    refine (HW1.out w4 _ _ HB4.out (by first | exact HCt.out | (intro j hj; omega))).mono ?_
                    first | subst h | clear h
                    clear hk4 hdm
                    rintro e w5 ⟨rfl, hb5⟩
                    have HB5 := Lib.hid (HB4.out.trans (hb5.mono HB4.out.size))
                    have HO5 := Lib.hid (HO4.out.below hb5)
                    have HCw5 := Lib.hid (HCw.out.below hb5)
                    clear hb5
                    cases p1
                    · have HRn := Lib.hid (show AC ++ lfRow Wb tv row (x + 1) = AX by rw [HRS.out, if_neg (by simp), List.append_nil, HAX.out])
                      have HX1 := Lib.hid (HOx.out.below HB5.out)
                      have HX2 := Lib.hid (HXb4.out.below HB5.out)
                      have HX3 := Lib.hid (HXn4.out.below HB5.out)
                      have HX4 := Lib.hid (show r < w5.heap.size ∧ some r ≠ (Value.slice Ax AX.length kx).ownBlock ∧ ∀ j (hj : j < row.length), w5.cell? ⟨r, ro + j, none⟩ = some (.int .i64 row[j]) from ⟨Nat.lt_of_lt_of_le Hq.out.1 HB5.out.size, Hq.out.2.1, fun j hj => (HB5.out.cell (p := ⟨r, ro + j, none⟩) Hq.out.1).trans (Hq.out.2.2 j hj)⟩)
                      have HX5 := Lib.hid (HBx.out.trans (HB5.out.mono HBx.out.size))
                      go_wp2_with fail
                      go_roundw
                      case rel => exact ⟨x + 1, by omega, by go_num, Lib.hid (by rw [HRn.out]; exact HX1.out), HX2, HX3, HX5⟩
                      case measure => simp [intOf]; omega
                    · go_wp2_with fail
                      refine (HW2.out w5 _ _ HB5.out HCw5.out).mono ?_
                      rintro e w6 ⟨rfl, hb6⟩
                      have HB6 := Lib.hid (HB5.out.trans (hb6.mono HB5.out.size))
                      have HO6 := Lib.hid (HO5.out.below hb6)
                      clear hb6
                      cases p2
                      · have HRn := Lib.hid (show AC ++ lfRow Wb tv row (x + 1) = AX ++ [row ++ [(x : Int)]] by rw [HRS.out, if_pos (by decide), ← List.append_assoc, HAX.out])
                        have HX4 := Lib.hid (show r < w6.heap.size ∧ some r ≠ (Value.slice Ax AX.length kx).ownBlock ∧ ∀ j (hj : j < row.length), w6.cell? ⟨r, ro + j, none⟩ = some (.int .i64 row[j]) from ⟨Nat.lt_of_lt_of_le Hq.out.1 HB6.out.size, Hq.out.2.1, fun j hj => (HB6.out.cell (p := ⟨r, ro + j, none⟩) Hq.out.1).trans (Hq.out.2.2 j hj)⟩)
                        have HX2 := Lib.hid (HXb4.out.below HB6.out)
                        have HX3 := Lib.hid (HXn4.out.below HB6.out)
                        have HX5 := Lib.hid (HBx.out.trans (HB6.out.mono HBx.out.size))
                        go_wp2_with (at_builtin; refine Hold.of ?_)
                        refine Hold.to ?_
                        refine wpl_app_rowH (W0 := wx) rfl (.tmp 77) (.tmp 79) rfl w1.heap.size (.slice Ax AX.length kx) AX _ (row ++ [(x : Int)]) rfl HOx.out (below_al HB6.out) (HO6.out.alloc _) w6.heap.size 0 rfl (cell_alloc_at _ _ _ _ _ rfl) (by have := HAl2.out; omega) HBx.out.size (fun v7 w7 y1 y2 y3 y4 => ?_)
                        have hb7 : Below w1.heap.size w1 w7 := Below.grown ((HX5.out).alloc HX5.out.size _) y2 (le_al HX5.out.size) y3
                        have ho2 : ∀ q, v7.ownBlock = some q → (Value.slice Ax AX.length kx).ownBlock = some q ∨ w6.heap.size + 1 ≤ q := fun q hq => by
                          rcases y4 with e | e
                          · left; rw [← e]; exact hq
                          · right; rw [e] at hq; injection hq with hq; simp at hq; omega
                        have hx2 := (HX2.out.below (below_al (Below.refl _ w6))).step y2 (fun q hq => by have := ho2 q hq; simpa using this)
                        have hx3 := (HX3.out.below (below_al (Below.refl _ w6))).step y2 (fun q hq => by have := ho2 q hq; simpa using this)
                        have hx4 : r < w7.heap.size ∧ some r ≠ v7.ownBlock ∧ ∀ j (hj : j < row.length), w7.cell? ⟨r, ro + j, none⟩ = some (.int .i64 row[j]) := by
                          have hs7 := y2.size
                          simp at hs7
                          refine ⟨by have := HX4.out.1; omega, fun e => ?_, fun j hj => ?_⟩
                          · rcases y4 with e2 | e2
                            · rw [e2] at e; exact HX4.out.2.1 e
                            · rw [e2] at e; injection e with e; simp at e; have := HX4.out.1; omega
                          · exact (grown_cell (p := ⟨r, ro + j, none⟩) y2 (by have := HX4.out.1; simp; omega) HX4.out.2.1).trans (((below_al (Below.refl _ w6)).cell (p := ⟨r, ro + j, none⟩) HX4.out.1).trans (HX4.out.2.2 j hj))
                        obtain ⟨A7, k7, rfl, _⟩ := y1.rows
                        have hAl : (AX ++ [row ++ [(x : Int)]]).length = AX.length + 1 := by simp
                        rw [hAl] at y1 hx2 hx3 hx4
                        clear hAl
                        have HF := Lib.hid (And.intro y1 (And.intro hx2 (And.intro hx3 (And.intro hx4 hb7))))
                        clear y1 y2 y3 y4 hx2 hx3 hx4 hb7 ho2
                        go_wp2_with fail
                        go_roundw
                        case rel => exact ⟨x + 1, by omega, by go_num, Lib.hid (by rw [HRn.out]; exact HF.out.1), Lib.hid HF.out.2.1, Lib.hid HF.out.2.2.1, Lib.hid HF.out.2.2.2.2⟩
                        case measure => simp [intOf]; omega
                      · have HRn := Lib.hid (show AC ++ lfRow Wb tv row (x + 1) = AX by rw [HRS.out, if_neg (by decide), List.append_nil, HAX.out])
                        have HX1 := Lib.hid (HOx.out.below HB6.out)
                        have HX2 := Lib.hid (HXb4.out.below HB6.out)
                        have HX3 := Lib.hid (HXn4.out.below HB6.out)
                        have HX4 := Lib.hid (show r < w6.heap.size ∧ some r ≠ (Value.slice Ax AX.length kx).ownBlock ∧ ∀ j (hj : j < row.length), w6.cell? ⟨r, ro + j, none⟩ = some (.int .i64 row[j]) from ⟨Nat.lt_of_lt_of_le Hq.out.1 HB6.out.size, Hq.out.2.1, fun j hj => (HB6.out.cell (p := ⟨r, ro + j, none⟩) Hq.out.1).trans (Hq.out.2.2 j hj)⟩)
                        have HX5 := Lib.hid (HBx.out.trans (HB6.out.mono HBx.out.size))
                        go_wp2_with fail
                        go_roundw
                        case rel => exact ⟨x + 1, by omega, by go_num, Lib.hid (by rw [HRn.out]; exact HX1.out), HX2, HX3, HX5⟩
                        case measure => simp [intOf]; omega
                · obtain rfl : x = cn := by omega
                  have HOx2 := Lib.hid (show OwnII wx w1.heap.size (.slice Ax (AC ++ lfRow Wb tv row x).length kx) (OT ++ lfAdd Wb tv x (k + 1)) by rw [HAS.out, ← List.append_assoc, HAC.out]; exact HOx.out)
                  go_wp2_with fail
                  go_roundw
                  case rel => exact ⟨k + 1, by omega, by go_num, HOx2, HXb4, HXn4, HBx⟩
                  case measure => simp [intOf]; omega
            · obtain rfl : k = Wb.length := by omega
              have HO5 := Lib.hid (show OwnII wk w1.heap.size (.slice Ak (OT ++ lfAdd Wb tv cn Wb.length).length kk) (lfTo S cols cn (m + 1)) by rw [HSu.out]; exact HOk.out)
              have HLm2 := Lib.hid (show ∀ j, j < m + 1 → (trWords S cols cn (j + 1)).length ≤ 200 from fun j hj => by
                by_cases e : j = m
                · subst e; rw [HWN.out]; exact HLe.out
                · exact HLm.out j (by omega))
              go_wp2_with fail
              go_roundw
              case rel => exact ⟨m + 1, by omega, by go_num, HO5, ⟨A', k', by rw [HWN.out], Lib.hid (by rw [HWN.out]; exact HXn3.out)⟩, HBk, HLm2⟩
              case measure => simp [intOf]; omega
        · have hc0 : cd = 3 := by rw [HCd.out, if_pos (by omega)]
          subst hc0
          have HBad := Lib.hid (HBd.out hle)
          replace hle := Lib.hid hle
          clear HCd HTv
          go_wp2
          go_ret2
          refine ⟨_, by rw [HV2.out, if_pos HBad.out]; rfl, ?_, Hw1.out.trans (HB2.out.mono Hw1.out.size)⟩
          rw [HV3.out, if_neg (by rw [HV2.out, if_pos HBad.out]; decide)]
          exact OwnII.nil _ _
      · obtain rfl : m = nn := by omega
        have HGood := Lib.hid (lfBad_false HLm.out)
        have HF := Lib.hid (HOm.out.weaken (B' := w.heap.size) Hw1.out.size)
        go_wp2
        go_ret2
        refine ⟨_, by rw [HV2.out, if_neg (by rw [HGood.out]; decide)]; rfl, ?_, Hw1.out.trans (HBm.out.mono Hw1.out.size)⟩
        rw [HV3.out, if_pos (by rw [HV2.out, if_neg (by rw [HGood.out]; decide)])]
        exact HF.out

end Go.Proofs.YtnoehaphbpkpjaaGreat
namespace Go.Proofs.YtnoehaphbpkpjaaGreat
open Go.RowKit
theorem lfVal_short (c : Int) (ts : List T4) (h n : Int) : (lfVal c ts h n).length ≤ 6000 ∧ Short 1000000000 (lfVal c ts h n) ∧ tot (lfVal c ts h n) ≤ 30000 := by
  have key : (lfVal c ts h n).length ≤ 6000 ∧ ∀ r ∈ lfVal c ts h n, r.length ≤ 5 := by
    unfold lfVal
    split
    · rename_i hc
      unfold lfCode at hc
      split at hc
      · rename_i h0
        obtain ⟨hs, hf, _⟩ := tsCode_zero h0
        have hn5 : 1 ≤ n ∧ n ≤ 5 := by unfold inR at hf; simpa using hf
        split at hc
        · cases hc
        · rename_i hb
          have h6 : c.toNat ≤ 6 := by
            obtain ⟨_, ⟨_, c6⟩, _⟩ := isSetB_parts hs
            omega
          have hl : ∀ j, j < n.toNat → (trWords (powC c h.toNat).toNat (lev c ts h.toNat) c.toNat j).length ≤ 200 := fun j hj => by
            cases j with
            | zero => simp [trWords, exts]
            | succ j =>
              refine Nat.le_of_not_lt fun hlt => hb (lfBad_true (m := j) (by omega) (by omega))
          have h1 := lfTo_len (S := (powC c h.toNat).toNat) (cols := lev c ts h.toNat) h6 n.toNat hl
          refine ⟨by omega, fun r hr => ?_⟩
          have := lfTo_word _ r hr
          omega
      · rename_i h0; exact absurd hc h0
    · simp
  refine ⟨key.1, fun k hk => ?_, ?_⟩
  · have := key.2 _ (List.getElem_mem hk); omega
  · have := tot_short key.2; have := key.1; omega
end Go.Proofs.YtnoehaphbpkpjaaGreat
namespace Go.Proofs.YtnoehaphbpkpjaaGreat
open Go.RowKit
theorem tcells_snoc (ts : List T4) (t : T4) : tcells (ts ++ [t]) = tcells ts ++ [.int .i64 t.a, .int .i64 t.b, .int .i64 t.c, .int .i64 t.d] := by rw [tcells_append]; rfl
theorem new_cells (w : World) (cs : List Value) (T : TypeId) : ∀ j u, cs[j]? = some u → (w.alloc (.cells cs.toArray T)).cell? ((⟨w.heap.size, 0, none⟩ : Addr).add j) = some u := by
  intro j u hj
  have := (Blk.new w cs T).cell? j
  rw [hj] at this
  cases j with
  | zero => simpa [Addr.add] using this
  | succ j => simpa [Addr.add] using this
theorem infoTile2 : (Tryz.prog.info? 30).map (fun i => (i.zero, i.size, i.bytes)) = some (some (.agg #[.int .i64 0, .int .i64 0, .int .i64 0, .int .i64 0]), 4, 32) := by kernel_rfl
/-- a slice that the call made and owns: tiles -/
def OwnT (w : World) (B : Nat) (v : Value) (ts : List T4) : Prop := w.ownsRow B 30 4 v ts.length (tcells ts)
end Go.Proofs.YtnoehaphbpkpjaaGreat
namespace Go.Proofs.YtnoehaphbpkpjaaGreat
open Go.RowKit
theorem ltT_iff (s t : T4) : ltT s t = decide (s.a < t.a ∨ s.a = t.a ∧ (s.b < t.b ∨ s.b = t.b ∧ (s.c < t.c ∨ s.c = t.c ∧ s.d < t.d))) := by
  by_cases h0 : s.a = t.a
  · by_cases h1 : s.b = t.b
    · by_cases h2 : s.c = t.c
      · rw [ltT_d h0 h1 h2]; congr 1; simp [h0, h1, h2]
      · rw [ltT_c h0 h1 h2]; congr 1; simp [h0, h1, h2]
    · rw [ltT_b h0 h1]; congr 1; simp [h0, h1]
  · rw [ltT_a h0]; congr 1; simp [h0]
theorem ltT_swo : Go.Sort.SWO ltT where
  irrefl x := by rw [ltT_iff]; simp
  trans x y z h1 h2 := by rw [ltT_iff] at *; rw [decide_eq_true_eq] at *; omega
  ntrans x y z h1 h2 := by rw [ltT_iff] at *; rw [decide_eq_false_iff_not] at *; omega
theorem ltT_anti (x y : T4) (h1 : ltT x y = false) (h2 : ltT y x = false) : x = y := by
  rw [ltT_iff] at *; rw [decide_eq_false_iff_not] at *
  obtain ⟨a, b, c, d⟩ := x; obtain ⟨a', b', c', d'⟩ := y
  simp only [T4.mk.injEq]; dsimp only at h1 h2; omega
def sortT (ts : List T4) : List T4 := ts.mergeSort fun x y => !ltT y x
theorem sortT_perm (ts : List T4) : (sortT ts).Perm ts := List.mergeSort_perm _ _
theorem sortT_sorted (ts : List T4) : (sortT ts).Pairwise fun x y => ltT y x = false := by
  have := List.pairwise_mergeSort (le := fun x y => !ltT y x) (fun a b c h1 h2 => by simp only [Bool.not_eq_true'] at *; exact ltT_swo.ntrans _ _ _ h2 h1) (fun a b => by
    simp only [Bool.or_eq_true, Bool.not_eq_true']
    rcases Bool.eq_false_or_eq_true (ltT b a) with h | h
    · right; rw [ltT_iff] at *; rw [decide_eq_true_eq] at h; rw [decide_eq_false_iff_not]; omega
    · exact .inl h) ts
  exact this.imp (fun h => by simpa using h)
theorem sortT_length (ts : List T4) : (sortT ts).length = ts.length := (sortT_perm ts).length_eq
def encT (t : T4) : List Value := ints t.l
theorem flat_tcells (ts : List T4) : Go.Sort.flatK encT 4 ts.toArray = (tcells ts).toArray := by
  apply Array.ext
  · simp [tcells_length]
  · intro i h1 h2
    have hi : i < ts.length * 4 := by simpa using h1
    have hk : i / 4 < ts.length := by omega
    have e1 := tcells_get ts (i / 4) (i % 4) hk (by omega)
    rw [show i / 4 * 4 + i % 4 = i by omega] at e1
    have h2' : i < (tcells ts).length := by simpa using h2
    rw [List.getElem?_eq_getElem h2'] at e1
    have e2 := Go.Sort.get_flatK encT 4 ts.toArray i (by simpa using hi)
    rw [getElem!_pos (Go.Sort.flatK encT 4 ts.toArray) i h1] at e2
    rw [e2]
    have e3 : (ts.toArray)[i / 4]! = ts[i / 4] := by simp [hk]
    rw [e3]
    have e4 : (encT ts[i / 4])[i % 4]? = some (tcells ts)[i] := by rw [e1]; rfl
    rw [List.getElem!_eq_getElem?_getD, e4]
    simp
theorem holdsT {w : World} {g : Nat} {cur : Array Value} {e : TypeId} {ts : List T4} (hb : w.heap[g]? = some (.cells cur e (0, 0))) (ht : cur.toList.take (ts.length * 4) = tcells ts) : Go.Sort.HoldsK encT 4 w g 0 ts.toArray := by
  unfold Go.Sort.HoldsK
  rw [flat_tcells]
  intro j hj
  have hj' : j < (tcells ts).length := by simpa using hj
  refine ⟨?_, by simp [World.frozen?, hb]⟩
  have h1 : (cur.toList.take (ts.length * 4))[j]? = (tcells ts)[j]? := by rw [ht]
  rw [List.getElem?_take_of_lt (by rw [← tcells_length]; exact hj')] at h1
  simp only [World.cell?, hb, Nat.zero_add]
  simp only [Option.isSome_none, Bool.false_eq_true, if_false]
  rw [← Array.getElem?_toList, h1, List.getElem?_eq_getElem hj']
  simp [hj']
theorem heap_sortT {w : World} {g n : Nat} {os : Array Obj} {cur : Array Value} {e : TypeId} {fr : Nat × Nat} (d : Array Value) (hb : w.heap[g]? = some (.cells cur e fr)) :
    (Go.Sort.grow (Go.Sort.putRow id (Go.Sort.ahead w n) g 0 d) os).heap[g]? = some (.cells (Go.Sort.putCells id 0 d cur) e fr) := by
  have hg : g < w.heap.size := (Array.getElem?_eq_some_iff.1 hb).1
  rw [Go.Sort.heap_grow_old _ _ (by simpa using hg)]
  simp [Go.Sort.putRow, Go.Sort.mapBlock, Go.Sort.ahead, Array.getElem?_modify, hb, Go.Sort.onCells]
theorem grownBy_sortT {w : World} {g n : Nat} {os : Array Obj} (d : Array Value) : w.grownBy (Go.Sort.grow (Go.Sort.putRow id (Go.Sort.ahead w n) g 0 d) os) (some g) := by
  refine ⟨rfl, rfl, rfl, by simp, fun k hk hne => ?_⟩
  rw [Go.Sort.heap_grow_old _ _ (by simpa using hk)]
  have : g ≠ k := fun e => hne (by rw [e])
  simp [Go.Sort.putRow, Go.Sort.mapBlock, Go.Sort.ahead, Array.getElem?_modify, this]
theorem take_putT (cur : Array Value) (cs : List Value) (h : cs.length ≤ cur.size) : (Go.Sort.putCells id 0 cs.toArray cur).toList.take cs.length = cs := by
  apply List.ext_getElem?
  intro j
  by_cases hj : j < cs.length
  · rw [List.getElem?_take_of_lt hj, Array.getElem?_toList]
    simp [Go.Sort.putCells, hj, show j < cur.size by omega]
  · rw [List.getElem?_take_eq_none (by omega), List.getElem?_eq_none (by omega)]
theorem OwnT.parts {w : World} {B : Nat} {v : Value} {ts : List T4} (h : OwnT w B v ts) (hne : 0 < ts.length) : ∃ g cap cur, v = .slice (some ⟨g, 0, none⟩) ts.length cap ∧ B ≤ g ∧ w.heap[g]? = some (.cells cur 30 (0, 0)) ∧ ts.length ≤ cap ∧ cap ≤ maxLen ∧ cur.size = cap * 4 ∧ cur.toList.take (ts.length * 4) = tcells ts := by
  obtain ⟨h1, ⟨_, h2⟩ | ⟨g, cap, cur, h2⟩⟩ := h
  · omega
  · exact ⟨g, cap, cur, h2⟩
theorem OwnT.tiles {w : World} {B : Nat} {v : Value} {ts : List T4} (h : OwnT w B v ts) : ∃ A cx, v = .slice A ts.length cx ∧ TileCells w A ts := by
  obtain ⟨h1, ⟨h3, h2⟩ | ⟨g, cap, cur, rfl, hB, hb, h3, h4, h5, h6⟩⟩ := h
  · exact ⟨none, 0, by rw [h3, h2], fun k hk => by omega⟩
  · refine ⟨some ⟨g, 0, none⟩, cap, rfl, fun k hk => ⟨g, 0, rfl, (Array.getElem?_eq_some_iff.1 hb).1, ?_⟩⟩
    have q : ∀ j, j < 4 → w.cell? ⟨g, 0 + k * 4 + j, none⟩ = [Value.int .i64 ts[k].a, .int .i64 ts[k].b, .int .i64 ts[k].c, .int .i64 ts[k].d][j]? := by
      intro j hj
      rw [← tcells_get ts k j hk hj, ← h6, List.getElem?_take_of_lt (by omega)]
      simp [World.cell?, hb]
    exact ⟨q 0 (by omega), q 1 (by omega), q 2 (by omega), q 3 (by omega)⟩
theorem OwnT.below {w w1 : World} {B : Nat} {v : Value} {ts : List T4} (h : OwnT w B v ts) (hb : Below w.heap.size w w1) : OwnT w1 B v ts :=
  World.ownsRow.kept (row := none) h ⟨hb.os, hb.tape, hb.output, hb.size, fun k hk _ => hb.block k hk⟩ (by cases h : v.ownBlock with | none => exact .inl rfl | some k => exact .inr (by simp))
theorem OwnT.sorted {w1 : World} {B g cap : Nat} {cur : Array Value} {ts : List T4} (hB : B ≤ g) (h1 : ts.length ≤ cap) (h2 : cap ≤ maxLen) (h3 : cur.size = cap * 4)
    (hb : w1.heap[g]? = some (.cells (Go.Sort.putCells id 0 (tcells (sortT ts)).toArray cur) 30 (0, 0))) : OwnT w1 B (.slice (some ⟨g, 0, none⟩) ts.length cap) (sortT ts) := by
  have hl := sortT_length ts
  refine ⟨tcells_length _, .inr ⟨g, cap, _, by rw [hl], hB, hb, by omega, h2, by simp [Go.Sort.putCells, h3], ?_⟩⟩
  rw [← tcells_length]
  exact take_putT cur _ (by rw [tcells_length, h3]; omega)
end Go.Proofs.YtnoehaphbpkpjaaGreat
