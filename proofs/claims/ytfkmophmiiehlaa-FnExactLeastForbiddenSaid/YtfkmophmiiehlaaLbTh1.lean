/- Contracts and lemmas for the statements of this seat, written for this claim; each theorem states its own conditions. -/
import Derived.Test.YtfkmophmiiehlaaLbTg1
set_option linter.unusedVariables false
set_option linter.unusedSimpArgs false
namespace Go.Proofs.Ytfkmophmiiehlaa
open Go.RowKit
def trL (c : Int) (ts : List T4) (h n : Int) : List (List Int) := trWords (powC c h.toNat).toNat (lev c ts h.toNat) c.toNat n.toNat
def ctCode (lim : Nat) (c : Int) (ts : List T4) (h n : Int) : Int := if tsCode c ts h (inR 1 8 n) = 0 then (if lim < (trL c ts h n).length then 3 else 0) else tsCode c ts h (inR 1 8 n)
def ctVal (lim : Nat) (c : Int) (ts : List T4) (h n : Int) : Int := if ctCode lim c ts h n = 0 then (trL c ts h n).length else 0
def twVal (lim : Nat) (c : Int) (ts : List T4) (h n : Int) : List (List Int) := if ctCode lim c ts h n = 0 then trL c ts h n else []
theorem twVal_len (lim : Nat) (c : Int) (ts : List T4) (h n : Int) : ((twVal lim c ts h n).length : Int) = ctVal lim c ts h n := by
  unfold twVal ctVal; split <;> simp
set_option maxRecDepth 100000 in
set_option maxHeartbeats 1000000 in
theorem l10List_c (c : Int) (ts : List T4) (A : Option Addr) (cx : Nat) (h n : Int) (w : World) (hT : TileCells w A ts) (hl : ts.length ≤ 1000000000) :
    Calls Try.prog 48 #[.agg #[.int .i64 c, .slice A ts.length cx], .int .i64 h, .int .i64 n] w fun e w' => ∃ v, e = .returned (.tuple #[v, .int .i64 (ctCode 200 c ts h n)]) ∧ OwnII w' w.heap.size v (twVal 200 c ts h n) ∧ Below w.heap.size w w' := by
  have H1 := Lib.hid (fun w => l01In_c n 1 8 w)
  have H2 := Lib.hid (fun (wq : World) (hwq : Below w.heap.size w wq) => l10Code_c c ts A cx h (inR 1 8 n) wq (hT.below hwq) hl)
  have H3 := Lib.hid (fun (cn hn nn S : Nat) (hc : c = cn) h1 h6 (hh : hn ≤ 3) hS hS1 hS2 hC hcl (hnn : nn ≤ 100) (Ac : Option Addr) (kc : Nat) (wq : World) hR => l10Words_c cn ts.length cx A (lev c ts hn) Ac kc hn nn 201 S wq h1 h6 hh hS hS1 hS2 hC hcl hnn (by decide) (by decide) hR)
  have hcol : tsCols c ts h (inR 1 8 n) = if tsCode c ts h (inR 1 8 n) = 0 then lev c ts h.toNat else [] := rfl
  have hv1 : ctVal 200 c ts h n = if ctCode 200 c ts h n = 0 then ((trL c ts h n).length : Int) else 0 := rfl
  have hv2 : ctCode 200 c ts h n = if tsCode c ts h (inR 1 8 n) = 0 then (if 200 < (trL c ts h n).length then 3 else 0) else tsCode c ts h (inR 1 8 n) := rfl
  have hv3 : twVal 200 c ts h n = if ctCode 200 c ts h n = 0 then trL c ts h n else [] := rfl
  have hz := Lib.hid (tsCode_zero (c := c) (ts := ts) (h := h) (fine := inR 1 8 n))
  rw [hcol] at H2
  clear hT hcol
  generalize tsCode c ts h (inR 1 8 n) = code at *
  have hS : Below w.heap.size w (w.alloc (.cells #[.int .i64 c, .slice A ts.length cx] 31)) := below_al (Below.refl _ _)
  go_enter Try.func48, Try.ntmps48
  go_wp2_with fail
  obtain ⟨wt, hwt⟩ : ∃ wt, wt = w.alloc (.cells #[.int .i64 c, .slice A ts.length cx] 31) := ⟨_, rfl⟩
  rw [← hwt]
  rw [← hwt] at hS
  have U0 := keepC (show wt.cell? ⟨w.heap.size, 0, none⟩ = some (.int .i64 c) by rw [hwt]; exact cell_alloc_at _ _ _ _ _ rfl)
  have U1 := keepC (show wt.cell? ⟨w.heap.size, 1, none⟩ = some (.slice A ts.length cx) by rw [hwt]; exact cell_alloc_at _ _ _ _ _ rfl)
  have hN : w.heap.size < wt.heap.size := by rw [hwt]; simp
  replace hwt := Lib.hid hwt
  have HS := Lib.hid hS
  clear hS
  refine wp_region_mix [(0, true), (1, true), (2, true), (3, false), (4, false), (5, true), (6, true), (7, true), (8, true), (9, true)] (fun w' => Below (wt).heap.size (wt) w') (by kernel_rfl) (by kernel_rfl) (fun _ _ d _ _ h => by cases d <;> exact h) ((Below.refl _ _).drew) ?_
  repeat (first
    | (refine mix_skip rfl rfl (fun K' hK' => ?_); go_simp; refine hK' _ ?_; clear hK' K')
    | (refine mix_do (v := ?_) rfl rfl (fun w1 hb => ?_) (fun K' hK' => ?_); rotate_left
       · go_simp
         rfl
       go_simp; refine hK' _ ?_; clear hK' K'))
  refine mix_call rfl rfl (fun K' hK' => ?_)
  go_simp
  refine (H1.out _).mono ?_
  rintro e w1 ⟨rfl, rfl⟩
  refine hK' _ _ ((Below.refl _ wt).drew) ?_; clear hK' K'
  repeat (first
    | (refine mix_skip rfl rfl (fun K' hK' => ?_); go_simp; refine hK' _ ?_; clear hK' K')
    | (refine mix_do (v := ?_) rfl rfl (fun w1 hb => ?_) (fun K' hK' => ?_); rotate_left
       · go_simp
         rfl
       go_simp; refine hK' _ ?_; clear hK' K'))
  refine mix_call rfl rfl (fun K' hK' => ?_)
  go_simp
  refine (H2.out _ HS.out.drew).mono ?_
  rintro e w2 ⟨v, rfl, hO, hb2⟩
  have HB2 := Lib.hid (show Below wt.heap.size wt w2 from (Below.refl _ wt).drew.trans hb2)
  have HO := Lib.hid hO
  clear hb2 hO
  refine hK' _ _ (HB2.out) ?_; clear hK' K'
  repeat (first
    | (refine mix_skip rfl rfl (fun K' hK' => ?_); go_simp; refine hK' _ ?_; clear hK' K')
    | (refine mix_do (v := ?_) rfl rfl (fun w1 hb => ?_) (fun K' hK' => ?_); rotate_left
       · go_simp
         rfl
       go_simp; refine hK' _ ?_; clear hK' K'))
  refine mix_nil ?_
  have HW := Lib.hid (HS.out.trans (HB2.out.mono HS.out.size))
  by_cases hc0 : code = 0
  · subst hc0
    obtain ⟨hs, hf, n1, n3, hp⟩ := hz.out rfl
    obtain ⟨hn, rfl⟩ := Int.eq_ofNat_of_zero_le (by omega : 0 ≤ h)
    have hn8 : 1 ≤ n ∧ n ≤ 8 := by unfold inR at hf; simpa using hf
    obtain ⟨nn, rfl⟩ := Int.eq_ofNat_of_zero_le (by omega : 0 ≤ n)
    obtain ⟨_, ⟨c1, c6⟩, h16⟩ := isSetB_parts hs
    obtain ⟨cn, rfl⟩ := Int.eq_ofNat_of_zero_le (by omega : 0 ≤ c)
    have p1 := powC_4 c1 c6 (h := hn) (by omega)
    have hll := Nat.le_trans (lev_len cn ts hn) (pow16 h16 (by omega : hn ≤ 3))
    have HCs := Lib.hid (lev_Codes hs hn)
    rw [Int.toNat_natCast] at hp
    obtain ⟨S, hS'⟩ := Int.eq_ofNat_of_zero_le (by omega : 0 ≤ powC cn hn)
    have htr : trL cn ts hn nn = trWords S (lev cn ts hn) cn nn := by unfold trL; simp [hS']
    rw [if_pos rfl, Int.toNat_natCast] at HO
    rw [hS'] at p1 HCs
    rw [Int.toNat_natCast] at HCs
    obtain ⟨Ac, kc, rfl, hRc⟩ := HO.out.rows
    have HK := Lib.hid (H3.out cn hn nn S rfl (by omega) (by omega) (by omega) hS' (by omega) (by omega) HCs.out (by omega) (by omega) Ac kc w2 hRc)
    rw [crows_len]
    rw [htr] at hv1 hv2 hv3
    rw [if_pos rfl] at hv2
    have d0 := U0 _ HB2.out
    have d1 := U1 _ HB2.out
    have hN2 : w.heap.size < w2.heap.size := Nat.lt_of_lt_of_le hN HB2.out.size
    clear U0 U1 hRc htr hf n1 n3 hs h16 HCs H3 hp p1
    generalize trWords S (lev cn ts hn) cn nn = TW at *
    obtain ⟨ml, hml⟩ : ∃ ml, (TW.take 201).length = ml := ⟨_, rfl⟩
    go_wp2_with fail
    refine HK.out.mono ?_
    rintro e w3 ⟨v3, rfl, hO3, hb3⟩
    obtain ⟨A3, k3, rfl, _⟩ := hO3.rows
    rw [hml]
    have HW3 := Lib.hid (HW.out.trans (hb3.mono HW.out.size))
    have HO3 := Lib.hid hO3
    clear hO3 hb3
    by_cases hml2 : 200 < TW.length
    · have hml3 : ml = 201 := by rw [← hml, List.length_take]; omega
      subst hml3
      rw [if_pos hml2] at hv2
      rw [hv2] at hv1 hv3
      have hv3 := hv3
      clear d0 d1
      go_wp2
      go_ret2
      exact ⟨_, by rw [hv2]; rfl, by rw [hv3]; exact OwnII.nil _ _, HW3.out⟩
    · have hml3 : ml = TW.length := by rw [← hml, List.length_take]; omega
      subst hml3
      rw [List.take_of_length_le (by omega)] at HO3
      rw [if_neg hml2] at hv2
      rw [hv2] at hv1 hv3
      clear d0 d1
      go_wp2
      go_ret2
      exact ⟨_, by rw [hv2]; rfl, by rw [hv3]; exact HO3.out.weaken HW.out.size, HW3.out⟩
  · have hcz : (code != 0) = true := by simp [hc0]
    rw [if_neg hc0] at hv2
    rw [hv2, if_neg hc0] at hv1 hv3
    clear U0 U1
    go_wp2
    go_ret2
    exact ⟨_, by rw [hv2]; rfl, by rw [hv3]; exact OwnII.nil _ _, HW.out⟩

end Go.Proofs.Ytfkmophmiiehlaa
