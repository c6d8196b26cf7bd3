/- Contracts and lemmas for the statements of this seat, written for this claim; each theorem states its own conditions. -/
import Derived.BigQuiet
import Derived.Test.YtkgnejhflnekaaaGreatMuK1
set_option linter.unusedVariables false
set_option linter.unusedSimpArgs false
namespace Go.Proofs.YtkgnejhflnekaaaGreat
open Go.RowKit
set_option maxRecDepth 100000 in
set_option maxHeartbeats 1000000 in
theorem specNumberRow_c (p q a b s n : Int) (w : World) :
    Calls Tryz.prog 49 #[.int .i64 p, .int .i64 q, .int .i64 a, .int .i64 b, .int .i64 s, .int .i64 n] w (RetSI w (nrCol p q a b s n) (nrSet p q a b s n) (nrRow p q a b s n) (nrCode p q a b s n)) := by
  have HF := Lib.hid (fun w => l08Factor_c p q w)
  have HG := Lib.hid (fun w => l08Fraction_c a b w)
  have HP := Lib.hid (fun w => l08Places_c s n w)
  have q0 := (Blk.newA w #[.int .i64 0, .slice none 0 0] 26)
  have HB0 := Lib.hid q0
  have y0 := q0.cell 0 (by simp)
  have y1 := q0.cell 1 (by simp)
  have g0 := q0.frozen 0
  have g1 := q0.frozen 1
  simp only [List.getElem_cons_zero, List.getElem_cons_succ] at y0 y1
  clear q0
  have HO : Hid (okN p q a b s n ↔ factB p q = true ∧ fracB a b = true ∧ placesB s n = true ∧ a * p ≤ 5 * b * q) := Iff.rfl
  have HFI := Lib.hid (factB_iff (p := p) (q := q))
  have HGI := Lib.hid (fracB_iff (a := a) (b := b))
  have HPI := Lib.hid (placesB_iff (p := s) (n := n))
  have HV : Hid (nrCol p q a b s n = if okN p q a b s n ∧ nK p q a b s n = 0 then nC p q a b s n else 0) := rfl
  have HW : Hid (nrSet p q a b s n = if okN p q a b s n ∧ nK p q a b s n = 0 then nS p q a b s n else []) := rfl
  have HX : Hid (nrRow p q a b s n = if okN p q a b s n ∧ nK p q a b s n = 0 then nR p q a b s n else []) := rfl
  have HY : Hid (nrCode p q a b s n = if okN p q a b s n then nK p q a b s n else 2) := rfl
  generalize nrCol p q a b s n = cc at *
  generalize nrSet p q a b s n = ss at *
  generalize nrRow p q a b s n = rr at *
  generalize nrCode p q a b s n = kk at *
  cases hf : factB p q
  · rw [hf] at HF
    have HN : Hid (¬ okN p q a b s n) := fun h => by have := (HO.out.1 h).1; rw [hf] at this; cases this
    clear hf
    go_enter Tryz.func49, Tryz.ntmps49
    go_wp2_with fail
    refine (HF.out _).mono ?_
    rintro e w1 ⟨rfl, rfl⟩
    rw [if_neg (fun h => HN.out h.1)] at HV HW HX
    rw [if_neg HN.out] at HY
    obtain rfl := HV.out
    obtain rfl := HW.out
    obtain rfl := HX.out
    obtain rfl := HY.out
    go_wp2
    refine bodyPost_ret (v := .tuple #[.agg #[.int .i64 0, .slice none 0 0], .slice none 0 0, .int .i64 2]) (by
      have x0 := ((HB0.out.set 0 (.int .i64 0)).set 1 (.slice none 0 0)).cell 0 (by simp)
      have x1 := ((HB0.out.set 0 (.int .i64 0)).set 1 (.slice none 0 0)).cell 1 (by simp)
      simp only [List.set_cons_zero, List.set_cons_succ, List.getElem_cons_zero, List.getElem_cons_succ] at x0 x1
      simp [results, Tryz.results49, go_sem, x0, x1]) rfl ⟨none, 0, .slice none 0 0, rfl, World.ownsRow_nil _ _ _ _, OwnI.nil _ _, .inl rfl, by (repeat (first | (with_reducible exact Below.refl _ _) | (with_reducible assumption) | (with_reducible refine below_al ?_) | (with_reducible refine below_dr ?_) | (with_reducible refine below_drN ?_) | (with_reducible refine below_set ?_ (by first | exact Nat.le_refl _ | (dsimp only; omega) | omega)) | (with_reducible refine below_tr (by with_reducible assumption) ?_)))⟩
  · rw [hf] at HF
    obtain ⟨⟨hp, hp'⟩, hq, hq'⟩ := HFI.out.1 hf
    have HFT := Lib.hid hf
    clear hf
    cases hf : fracB a b
    · rw [hf] at HG
      have HN : Hid (¬ okN p q a b s n) := fun h => by have := (HO.out.1 h).2.1; rw [hf] at this; cases this
      clear hf
      go_enter Tryz.func49, Tryz.ntmps49
      go_wp2_with fail
      refine (HF.out _).mono ?_
      rintro e w1 ⟨rfl, rfl⟩
      go_wp2_with fail
      refine (HG.out _).mono ?_
      rintro e w1 ⟨rfl, rfl⟩
      rw [if_neg (fun h => HN.out h.1)] at HV HW HX
      rw [if_neg HN.out] at HY
      obtain rfl := HV.out
      obtain rfl := HW.out
      obtain rfl := HX.out
      obtain rfl := HY.out
      go_wp2
      refine bodyPost_ret (v := .tuple #[.agg #[.int .i64 0, .slice none 0 0], .slice none 0 0, .int .i64 2]) (by
        have x0 := ((HB0.out.set 0 (.int .i64 0)).set 1 (.slice none 0 0)).cell 0 (by simp)
        have x1 := ((HB0.out.set 0 (.int .i64 0)).set 1 (.slice none 0 0)).cell 1 (by simp)
        simp only [List.set_cons_zero, List.set_cons_succ, List.getElem_cons_zero, List.getElem_cons_succ] at x0 x1
        simp [results, Tryz.results49, go_sem, x0, x1]) rfl ⟨none, 0, .slice none 0 0, rfl, World.ownsRow_nil _ _ _ _, OwnI.nil _ _, .inl rfl, by (repeat (first | (with_reducible exact Below.refl _ _) | (with_reducible assumption) | (with_reducible refine below_al ?_) | (with_reducible refine below_dr ?_) | (with_reducible refine below_drN ?_) | (with_reducible refine below_set ?_ (by first | exact Nat.le_refl _ | (dsimp only; omega) | omega)) | (with_reducible refine below_tr (by with_reducible assumption) ?_)))⟩
    · rw [hf] at HG
      obtain ⟨⟨hb, hb'⟩, ha, ha'⟩ := HGI.out.1 hf
      have HGT := Lib.hid hf
      clear hf
      cases hf : placesB s n
      · rw [hf] at HP
        have HN : Hid (¬ okN p q a b s n) := fun h => by have := (HO.out.1 h).2.2.1; rw [hf] at this; cases this
        clear hf
        go_enter Tryz.func49, Tryz.ntmps49
        go_wp2_with fail
        refine (HF.out _).mono ?_
        rintro e w1 ⟨rfl, rfl⟩
        go_wp2_with fail
        refine (HG.out _).mono ?_
        rintro e w1 ⟨rfl, rfl⟩
        go_wp2_with fail
        refine (HP.out _).mono ?_
        rintro e w1 ⟨rfl, rfl⟩
        rw [if_neg (fun h => HN.out h.1)] at HV HW HX
        rw [if_neg HN.out] at HY
        obtain rfl := HV.out
        obtain rfl := HW.out
        obtain rfl := HX.out
        obtain rfl := HY.out
        go_wp2
        refine bodyPost_ret (v := .tuple #[.agg #[.int .i64 0, .slice none 0 0], .slice none 0 0, .int .i64 2]) (by
          have x0 := ((HB0.out.set 0 (.int .i64 0)).set 1 (.slice none 0 0)).cell 0 (by simp)
          have x1 := ((HB0.out.set 0 (.int .i64 0)).set 1 (.slice none 0 0)).cell 1 (by simp)
          simp only [List.set_cons_zero, List.set_cons_succ, List.getElem_cons_zero, List.getElem_cons_succ] at x0 x1
          simp [results, Tryz.results49, go_sem, x0, x1]) rfl ⟨none, 0, .slice none 0 0, rfl, World.ownsRow_nil _ _ _ _, OwnI.nil _ _, .inl rfl, by (repeat (first | (with_reducible exact Below.refl _ _) | (with_reducible assumption) | (with_reducible refine below_al ?_) | (with_reducible refine below_dr ?_) | (with_reducible refine below_drN ?_) | (with_reducible refine below_set ?_ (by first | exact Nat.le_refl _ | (dsimp only; omega) | omega)) | (with_reducible refine below_tr (by with_reducible assumption) ?_)))⟩
      · rw [hf] at HP
        obtain ⟨⟨hs, hs'⟩, hn, hn'⟩ := HPI.out.1 hf
        have HPT := Lib.hid hf
        clear hf
        obtain ⟨fx0, fx1, fz0, fz1, fy⟩ := frac_bounds hp hp' hq hq' hb hb' ha (show a ≤ 100 by omega)
        by_cases hle : a * p ≤ 5 * b * q
        · have HOK := Lib.hid (HO.out.2 ⟨HFT.out, HGT.out, HPT.out, hle⟩)
          have HOwn := Lib.hid (fun (N i : Nat) (hi : i < N) => nOwn_mem (s := s) (n := N) hp hq hb ha hs i hi)
          have HRB := Lib.hid (fun (i : Int) (hi : 0 ≤ i) => carAt_range (i := i) hp hq hb ha hi)
          obtain ⟨x, hx⟩ : ∃ x : Int, x = a * p := ⟨_, rfl⟩
          obtain ⟨z, hz⟩ : ∃ z : Int, z = b * q := ⟨_, rfl⟩
          have ex : IntKind.i64.wrap (a * p) = x := by rw [hx]; exact IntWalk.i64_in _ (by omega)
          have ez : IntKind.i64.wrap (b * q) = z := by rw [hz]; exact IntWalk.i64_in _ (by omega)
          have ey : IntKind.i64.wrap (5 * b * q) = 5 * z := by rw [hz, fy]; exact IntWalk.i64_in _ (by omega)
          have hxy : x ≤ 5 * z := by rw [hx, hz]; omega
          rw [← hx] at fx0 fx1
          rw [← hz] at fz0 fz1
          rw [if_pos HOK.out] at HY
          have HV2 : Hid (okN p q a b s n ∧ nK p q a b s n = 0 ↔ nK p q a b s n = 0) := ⟨fun h => h.2, fun h => ⟨HOK.out, h⟩⟩
          have HK : Hid (nK p q a b s n = mCode p q (minL (digs a b s n.toNat)) (maxL (digs a b s n.toNat)) (minL (digs x z s n.toNat)) (maxL (digs x z s n.toNat))) := by show _ = _; rw [hx, hz]; rfl
          have HS : Hid (nS p q a b s n = mSet p q (minL (digs a b s n.toNat)) (maxL (digs a b s n.toNat)) (minL (digs x z s n.toNat)) (maxL (digs x z s n.toNat))) := by show _ = _; rw [hx, hz]; rfl
          have HC : Hid (nC p q a b s n = mCol p q (minL (digs a b s n.toNat)) (maxL (digs a b s n.toNat)) (minL (digs x z s n.toNat)) (maxL (digs x z s n.toNat))) := by show _ = _; rw [hx, hz]; rfl
          have HR : Hid (nR p q a b s n = nRow p (digs a b s n.toNat) (digs x z s n.toNat) (cars p q a b (s - 1) (n.toNat + 1)) (nS p q a b s n) n.toNat) := by show _ = _; rw [hx, hz]; rfl
          rw [← hx, ← hz] at HOwn
          clear hx hz fy hle
          obtain ⟨N, rfl⟩ := Int.eq_ofNat_of_zero_le (by omega : 0 ≤ n)
          have hN : 0 < N := by omega
          have hN20 : N ≤ 20 := by omega
          simp only [Int.toNat_natCast] at HK HS HC HR
          have HD1 := Lib.hid (fun w => l08Digits_c a b s N w ha (by omega) hb (by omega) hs hs' hN20)
          have HD2 := Lib.hid (fun w => l08Digits_c x z s N w fx0 (by omega) fz0 (by omega) hs hs' hN20)
          have HCA := Lib.hid (fun w => l08Carries_c p q a b s N w hp hp' hq hq' hb hb' ha (by omega) hs hs' hN20)
          obtain ⟨l0, l1, l2⟩ := digs_ends (s := s) hb ha ha' hN
          obtain ⟨m0, m1, m2⟩ := digs_ends (s := s) fz0 fx0 hxy hN
          have HLD := Lib.hid (digs_len a b s N)
          have HLE := Lib.hid (digs_len x z s N)
          obtain ⟨M, hM⟩ : ∃ M, M = N + 1 := ⟨_, rfl⟩
          have HM := Lib.hid hM
          have HLB : Hid ((cars p q a b (s - 1) (N + 1)).length = M) := (cars_len p q a b (s - 1) (N + 1)).trans hM.symm
          clear hM
          have HBB : Hid (∀ v ∈ cars p q a b (s - 1) (N + 1), 1 - p ≤ v ∧ v ≤ q - 1) := by
            intro v hv
            obtain ⟨j, _, rfl⟩ := List.mem_map.1 hv
            exact HRB.out _ (by omega)
          have HMem := Lib.hid (fun i hi => HOwn.out N i hi)
          clear HOwn HRB
          generalize digs a b s N = D at *
          generalize digs x z s N = E at *
          generalize cars p q a b (s - 1) (N + 1) = B at *
          go_enter Tryz.func49, Tryz.ntmps49
          go_wp2_with fail
          refine (HF.out _).mono ?_
          rintro e w1 ⟨rfl, rfl⟩
          go_wp2_with fail
          refine (HG.out _).mono ?_
          rintro e w1 ⟨rfl, rfl⟩
          go_wp2_with fail
          refine (HP.out _).mono ?_
          rintro e w1 ⟨rfl, rfl⟩
          go_wp2_with fail
          refine (HD1.out _).mono ?_
          rintro e w1 ⟨v1, rfl, hO1, hb1⟩
          obtain ⟨A1, c1, rfl, hC1, _⟩ := hO1.shape
          rw [HLD.out]
          have HC1 := Lib.hid hC1
          have Hb1 : Hid (Below w.heap.size w w1) := by show Below _ _ _; (repeat (first | (with_reducible exact Below.refl _ _) | (with_reducible assumption) | (with_reducible refine below_al ?_) | (with_reducible refine below_dr ?_) | (with_reducible refine below_drN ?_) | (with_reducible refine below_set ?_ (by first | exact Nat.le_refl _ | (dsimp only; omega) | omega)) | (with_reducible refine below_tr (by with_reducible assumption) ?_)))
          have Q1 := Lib.hid (HB0.out.under hb1)
          clear hO1 hC1 hb1 y0 y1 g0 g1
          go_wp2_with fail
          refine (HD2.out _).mono ?_
          rintro e w2 ⟨v2, rfl, hO2, hb2⟩
          obtain ⟨A2, c2, rfl, hC2, _⟩ := hO2.shape
          rw [HLE.out]
          have HC1b := Lib.hid (HC1.out.below hb2)
          have HC2 := Lib.hid hC2
          have Hb2 : Hid (Below w.heap.size w w2) := Hb1.out.trans (hb2.mono Hb1.out.size)
          have Q2 := Lib.hid (Q1.out.under hb2)
          clear hO2 hC2 hb2
          go_wp2_with fail
          refine (HCA.out _).mono ?_
          rintro e w3 ⟨v3, rfl, hO3, hb3⟩
          obtain ⟨A3, c3, rfl, hC3, _⟩ := hO3.shape
          rw [HLB.out]
          have HC1c := Lib.hid (HC1b.out.below hb3)
          have HC2c := Lib.hid (HC2.out.below hb3)
          have HC3c := Lib.hid hC3
          have Hb3 : Hid (Below w.heap.size w w3) := Hb2.out.trans (hb3.mono Hb2.out.size)
          have Q3 := Lib.hid (Q2.out.under hb3)
          clear hO3 hC3 hb3
          have hme1 := fun w h => l08Ends_c D A1 c1 w h (by have := HLD.out; omega) (by have := HLD.out; omega)
          have hme2 := fun w h => l08Ends_c E A2 c2 w h (by have := HLE.out; omega) (by have := HLE.out; omega)
          rw [HLD.out] at hme1
          rw [HLE.out] at hme2
          have Hme1 := Lib.hid hme1
          have Hme2 := Lib.hid hme2
          clear hme1 hme2
          have HMU := Lib.hid (fun w => l08Made_c p q (minL D) (maxL D) (minL E) (maxL E) w hp hp' hq hq' l0 l1 l2 m0 m1 m2)
          have HND := Lib.hid (mSet_nodup p q (minL D) (maxL D) (minL E) (maxL E))
          have HTL := Lib.hid (mSet_len p q (minL D) (maxL D) (minL E) (maxL E))
          have HMM : Hid (mCode p q (minL D) (maxL D) (minL E) (maxL E) = 0 → ∀ i, i < N → nOwn p D E B i ∈ mSet p q (minL D) (maxL D) (minL E) (maxL E)) := fun hk i hi => mSet_mem hk (HMem.out i hi)
          have HK3 : Hid (mCode p q (minL D) (maxL D) (minL E) (maxL E) = 0 ∨ mCode p q (minL D) (maxL D) (minL E) (maxL E) = 3) := by
            show _ ∨ _
            unfold mCode
            split
            · exact .inl rfl
            · exact .inr rfl
          clear HMem l0 l1 l2 m0 m1 m2
          generalize mCode p q (minL D) (maxL D) (minL E) (maxL E) = K at *
          generalize mSet p q (minL D) (maxL D) (minL E) (maxL E) = T at *
          generalize mCol p q (minL D) (maxL D) (minL E) (maxL E) = C at *
          generalize minL D = d0 at *
          generalize maxL D = d1 at *
          generalize minL E = e0 at *
          generalize maxL E = e1 at *
          rw [HK.out] at HV HW HX HY HV2
          rw [HS.out] at HW HR
          rw [HC.out] at HV
          rw [HR.out] at HX
          clear HK HS HC HR
          go_wp2_with fail
          refine (Hme1.out _ HC1c.out).mono ?_
          rintro e w31 ⟨rfl, hb31⟩
          have HC1e := Lib.hid (HC1c.out.below hb31)
          have HC2e := Lib.hid (HC2c.out.below hb31)
          have HC3e := Lib.hid (HC3c.out.below hb31)
          have Hb31 : Hid (Below w.heap.size w w31) := Hb3.out.trans (hb31.mono Hb3.out.size)
          have Q31 := Lib.hid (Q3.out.under hb31)
          clear hb31
          go_wp2_with fail
          refine (Hme2.out _ HC2e.out).mono ?_
          rintro e w32 ⟨rfl, hb32⟩
          have HC1f := Lib.hid (HC1e.out.below hb32)
          have HC2f := Lib.hid (HC2e.out.below hb32)
          have HC3f := Lib.hid (HC3e.out.below hb32)
          have Hb32 : Hid (Below w.heap.size w w32) := Hb31.out.trans (hb32.mono Hb31.out.size)
          have Q32 := Lib.hid (Q31.out.under hb32)
          clear hb32
          go_wp2_with fail
          refine (HMU.out _).mono ?_
          rintro e w4 ⟨AT, cT, rfl, hOT, hb4⟩
          have HOT := Lib.hid hOT
          have Hb4 : Hid (Below w.heap.size w w4) := Hb32.out.trans (hb4.mono Hb32.out.size)
          have hq4 := (Q32.out.under hb4)
          have hs4 : w.heap.size < w4.heap.size := hq4.lt
          have HC1d := Lib.hid (HC1f.out.below hb4)
          have HC2d := Lib.hid (HC2f.out.below hb4)
          have HC3d := Lib.hid (HC3f.out.below hb4)
          have Q4 := Lib.hid hq4
          have HS4 := Lib.hid hs4
          have hs3 := Lib.hid (show w.heap.size < w32.heap.size from Q32.out.lt)
          clear hOT hb4 hq4 hs4 HMU Hme1 Hme2 HC1 HC1b HC1c HC2 HC2c HC3c HC1e HC2e HC3e HC1f HC2f HC3f Hb1 Hb2 Hb3 Hb31 Hb32 Q1 Q2 Q3 Q31 Q32
          by_cases hk : K = 0
          · have hkn : (K != 0) = false := by simp [hk]
            rw [if_pos (HV2.out.2 hk)] at HV HW HX
            have HK0 := Lib.hid hk
            clear hk
            have HN1 := Lib.hid (show (w4.alloc (.cells #[.int .i64 C, .slice AT T.length cT] 26)).heap.size = w4.heap.size + 1 by simp)
            have QZ := Lib.hid (Q4.out.alloc (.cells #[.int .i64 C, .slice AT T.length cT] 26))
            have QT := Lib.hid (Blk.newA w4 #[.int .i64 C, .slice AT T.length cT] 26)
            have HOZ := Lib.hid (HOT.out.alloc (.cells #[.int .i64 C, .slice AT T.length cT] 26))
            have HCZ := Lib.hid (And.intro (HC3d.out.below ((Below.refl _ _).alloc (Nat.le_refl _) (.cells #[.int .i64 C, .slice AT T.length cT] 26))) (And.intro (HC1d.out.below ((Below.refl _ _).alloc (Nat.le_refl _) (.cells #[.int .i64 C, .slice AT T.length cT] 26))) (HC2d.out.below ((Below.refl _ _).alloc (Nat.le_refl _) (.cells #[.int .i64 C, .slice AT T.length cT] 26)))))
            have HBZ : Hid (Below w.heap.size w (w4.alloc (.cells #[.int .i64 C, .slice AT T.length cT] 26))) := by
              show Below _ _ _
              have hb4 := Hb4.out
              (repeat (first | (with_reducible exact Below.refl _ _) | (with_reducible assumption) | (with_reducible refine below_al ?_) | (with_reducible refine below_dr ?_) | (with_reducible refine below_drN ?_) | (with_reducible refine below_set ?_ (by first | exact Nat.le_refl _ | (dsimp only; omega) | omega)) | (with_reducible refine below_tr (by with_reducible assumption) ?_)))
            have HOT2 := HOT
            clear Q4 HOT HC1d HC2d HC3d Hb4
            go_wp2_with fail
            go_loopw [24, 25] (fun v i wr => ∃ k : Nat, k ≤ N ∧ i = .int .i64 k ∧ Hid (OwnI wr (w4.heap.size + 1) v (nRow p D E B T k)) ∧ Hid (Below (w4.heap.size + 1) (w4.alloc (.cells #[.int .i64 C, .slice AT T.length cT] 26)) wr)) (fun _ i _ => N - (intOf i).toNat)
            case atStart => exact ⟨0, by omega, rfl, OwnI.newly (by simp) rfl rfl (Nat.le_of_eq (by simp)) (Nat.zero_le _), by show Below _ _ _; exact (Below.refl _ _).alloc (by simp) _⟩
            case round =>
              obtain ⟨k, hk, rfl, HOR, HBR⟩ := hrel
              have HBR' : Hid (Below (w4.alloc (.cells #[.int .i64 C, .slice AT T.length cT] 26)).heap.size (w4.alloc (.cells #[.int .i64 C, .slice AT T.length cT] 26)) wr) := by rw [Hid, HN1.out]; exact HBR.out
              have HCR := Lib.hid (And.intro (HCZ.out.1.below HBR'.out) (And.intro (HCZ.out.2.1.below HBR'.out) (HCZ.out.2.2.below HBR'.out)))
              by_cases h1 : k < N
              · obtain ⟨b1, o1, rfl, _, a1⟩ := HCR.out.2.1.int k (by rw [HLD.out]; exact h1)
                obtain ⟨b2, o2, rfl, _, a2⟩ := HCR.out.2.2.int k (by rw [HLE.out]; exact h1)
                obtain ⟨b3, o3, rfl, _, a3⟩ := HCR.out.1.int k (by rw [HLB.out, HM.out]; omega)
                obtain ⟨b3', o3', e3, _, a4⟩ := HCR.out.1.int (k + 1) (by rw [HLB.out, HM.out]; omega)
                injection e3 with e3
                injection e3 with e31 e32
                subst e31 e32
                have hbk := HBB.out _ (List.getElem_mem (show k < B.length by rw [HLB.out, HM.out]; omega))
                have hbk1 := HBB.out _ (List.getElem_mem (show k + 1 < B.length by rw [HLB.out, HM.out]; omega))
                have HOW : Hid (nOwn p D E B k = ⟨B[k]'(by rw [HLB.out, HM.out]; omega) + p - 1, D[k]'(by rw [HLD.out]; exact h1), B[k + 1]'(by rw [HLB.out, HM.out]; omega) + p - 1, E[k]'(by rw [HLE.out]; exact h1)⟩) := by
                  show _ = _
                  unfold nOwn
                  have g : ∀ (L : List Int) (j : Nat) (h : j < L.length), L.getD j 0 = L[j] := fun L j h => by simp [h]
                  rw [g B k (by rw [HLB.out, HM.out]; omega), g D k (by rw [HLD.out]; exact h1), g B (k + 1) (by rw [HLB.out, HM.out]; omega), g E k (by rw [HLE.out]; exact h1)]
                generalize B[k]'(by rw [HLB.out, HM.out]; omega) = vB at *
                generalize B[k + 1]'(by rw [HLB.out, HM.out]; omega) = vB1 at *
                generalize D[k]'(by rw [HLD.out]; exact h1) = vD at *
                generalize E[k]'(by rw [HLE.out]; exact h1) = vE at *
                obtain ⟨k1, hk1⟩ : ∃ k1 : Nat, k1 = k + 1 := ⟨_, rfl⟩
                have ek1 : IntKind.i64.wrap ((k : Int) + 1) = (k1 : Int) := by rw [hk1, IntWalk.i64_in _ (by omega)]; omega
                have hk1N : k1 < M := by rw [HM.out]; omega
                have hkN1 : k < M := by rw [HM.out]; omega
                rw [← hk1] at a4
                have HK1 := Lib.hid hk1
                have z1 := keepC a1
                have z2 := keepC a2
                have z3 := keepC a3
                have z4 := keepC a4
                have HRS := Lib.hid (nRow_succ p D E B T k)
                have hB0 : -2 ≤ vB ∧ vB ≤ 2 := by omega
                have hB1 : -2 ≤ vB1 ∧ vB1 ≤ 2 := by omega
                obtain ⟨hB00, hB01⟩ := hB0
                obtain ⟨hB10, hB11⟩ := hB1
                clear hk1 a1 a2 a3 a4 hbk hbk1
                go_wp2_with fail
                have ew0 : IntKind.i64.wrap (IntKind.i64.wrap (vB + p) - 1) = vB + p - 1 := by rw [IntWalk.i64_in (vB + p) (by omega), IntWalk.i64_in _ (by omega)]
                have ew1 : IntKind.i64.wrap (IntKind.i64.wrap (vB1 + p) - 1) = vB1 + p - 1 := by rw [IntWalk.i64_in (vB1 + p) (by omega), IntWalk.i64_in _ (by omega)]
                refine wp_region_mix [(0, true), (1, true), (2, true), (3, true), (4, true), (5, true), (6, true), (7, true), (8, true), (9, true), (10, true), (11, true), (12, true), (13, true), (14, true), (15, true), (16, true), (17, true), (18, true), (19, true), (20, true), (21, true), (22, true), (23, true), (24, false), (25, false)] (fun w' => Below (wr).heap.size (wr) w') (by kernel_rfl) (by kernel_rfl) (fun _ _ d _ _ h => by cases d <;> exact h) ((Below.refl _ _).drew) ?_
                repeat (first
                  | (refine mix_skip rfl rfl (fun K' hK' => ?_); go_simp; refine hK' _ ?_; clear hK' K')
                  | (refine mix_do (v := ?_) rfl rfl (fun w1 hb => ?_) (fun K' hK' => ?_); rotate_left
                     · go_simp
                       rfl
                     go_simp; refine hK' _ ?_; clear hK' K'))
                refine mix_call rfl rfl (fun K' hK' => ?_)
                go_simp
                refine hK' _ _ (below_al (Below.refl _ _).drew) ?_; clear hK' K'
                refine mix_call rfl rfl (fun K' hK' => ?_)
                go_simp
                refine hK' _ _ (below_al (Below.refl _ _).drew) ?_; clear hK' K'
                refine mix_nil ?_
                rw [show IntKind.i64.wrap (vB + p) = vB + p from IntWalk.i64_in _ (by omega), show IntKind.i64.wrap (vB1 + p) = vB1 + p from IntWalk.i64_in _ (by omega)]
                obtain ⟨wq, hwq⟩ : ∃ wq, (wr.alloc (.cells #[.int .i64 (vB + p - 1), .int .i64 vD, .int .i64 (vB1 + p - 1), .int .i64 vE] 127)).drew = wq := ⟨_, rfl⟩
                have HBQ : Hid (Below wr.heap.size wr wq) := by show Below _ _ _; rw [← hwq]; exact ((Below.refl _ _).alloc (Nat.le_refl _) _).drew
                have qq : Blk wq wr.heap.size [.int .i64 (vB + p - 1), .int .i64 vD, .int .i64 (vB1 + p - 1), .int .i64 vE] 127 := by rw [← hwq]; exact (Blk.newA wr _ _).drew
                rw [hwq]
                clear hwq ew0 ew1 z1 z2 z3 z4
                have qt := Lib.hid ((QT.out.below HBR'.out (by rw [HN1.out]; omega)).under HBQ.out)
                have QQ := Lib.hid qq
                have HTq := Lib.hid ((HOZ.out.below HBR'.out).below HBQ.out).tilesAt
                have HORq := Lib.hid (HOR.out.below HBQ.out)
                have HBRq := Lib.hid (HBR.out.trans (HBQ.out.mono (by have := HBR'.out.size; rw [HN1.out] at this; exact this)))
                have hwq1 := Lib.hid (show w4.heap.size + 1 ≤ wq.heap.size by have := HBRq.out.size; rw [HN1.out] at this; exact this)
                have hwr1 := Lib.hid (show wr.heap.size < wq.heap.size from qq.lt)
                have HHits := Lib.hid (nHits_all HND.out (HMM.out HK0.out k h1))
                have HTT := Lib.hid HOW.out
                generalize nOwn p D E B k = ow at *
                have HNL := Lib.hid (nRow_len p D E B T k)
                have HHL := Lib.hid (nHits_len T ow)
                have HHS := Lib.hid (nHits_succ T ow)
                have hvn := Lib.hid (show ∀ j, Value.ownBlock u24 = some j → j ≠ wr.heap.size from fun j hj => by have := (World.ownsRow.lt HOR.out j hj).2; omega)
                have hTl : T.length ≤ 16 := HTL.out
                clear qq
                go_wp2_with fail
                obtain ⟨w5, rfl⟩ : ∃ w5, w5 = wr := ⟨wr, rfl⟩
                go_loopw [24, 27] (fun v i wr => ∃ j : Nat, j ≤ T.length ∧ i = .int .i64 j ∧ Hid (OwnI wr (w4.heap.size + 1) v (nRow p D E B T k ++ nHits T ow j)) ∧ Hid (Below (w4.heap.size + 1) (w4.alloc (.cells #[.int .i64 C, .slice AT T.length cT] 26)) wr) ∧ Hid (Blk wr w5.heap.size [.int .i64 (vB + p - 1), .int .i64 vD, .int .i64 (vB1 + p - 1), .int .i64 vE] 127) ∧ Hid (∀ j, Value.ownBlock v = some j → j ≠ w5.heap.size)) (fun _ i _ => T.length - (intOf i).toNat)
                case atStart => exact ⟨0, by omega, rfl, by show OwnI _ _ _ _; simpa [nHits] using HORq.out, HBRq.out, QQ.out, hvn.out⟩
                case round =>
                  obtain ⟨j, hj, rfl, HOI, HBI, HQI, HVI⟩ := hrel
                  have HBI' : Hid (Below (w4.alloc (.cells #[.int .i64 C, .slice AT T.length cT] 26)).heap.size (w4.alloc (.cells #[.int .i64 C, .slice AT T.length cT] 26)) wr) := by rw [Hid, HN1.out]; exact HBI.out
                  have qt2 := (QT.out.below HBI'.out (by rw [HN1.out]; omega))
                  have y0 := qt2.cell 0 (by simp)
                  have y1 := qt2.cell 1 (by simp)
                  simp only [List.getElem_cons_zero, List.getElem_cons_succ] at y0 y1
                  clear qt2
                  by_cases hj1 : j < T.length
                  · obtain ⟨bt, ot, rfl, _, c0, c1, c2, c3⟩ := (HOZ.out.below HBI'.out).tilesAt j hj1
                    have z0 := HQI.out.cell 0 (by simp)
                    have z1 := HQI.out.cell 1 (by simp)
                    have z2 := HQI.out.cell 2 (by simp)
                    have z3 := HQI.out.cell 3 (by simp)
                    simp only [List.getElem_cons_zero, List.getElem_cons_succ] at z0 z1 z2 z3
                    have HJ := Lib.hid (HHS.out j)
                    rw [List.getElem?_eq_getElem hj1] at HJ
                    generalize T[j] = x at *
                    have heq2 := fun w => eql_tile x ⟨vB + p - 1, vD, vB1 + p - 1, vE⟩ w
                    have hgd2 := fun op X Y w => guard_tile op X Y x ⟨vB + p - 1, vD, vB1 + p - 1, vE⟩ w
                    dsimp only at heq2 hgd2
                    by_cases hx : x = ow
                    · have hd : decide (x = ⟨vB + p - 1, vD, vB1 + p - 1, vE⟩) = true := by rw [← HTT.out, hx]; simp
                      have HJ2 : Hid (nHits T ow (j + 1) = nHits T ow j ++ [(j : Int)]) := by show _ = _; rw [HJ.out, hx, if_pos rfl]
                      clear hx
                      go_wp2_with fail
                      go_quiet (fail)
                      have HB5 : Hid (Below (w4.heap.size + 1) (w4.alloc (.cells #[.int .i64 C, .slice (some ⟨bt, ot, none⟩) T.length cT] 26)) (wr.drewN nq)) := by have h := HBI.out; exact ⟨h.os, h.tape, h.output, h.size, h.block⟩
                      have HO5 : Hid (OwnI (wr.drewN nq) (w4.heap.size + 1) u24 (nRow p D E B T k ++ nHits T ow j)) := HOI.out
                      have HQ5 : Hid (Blk (wr.drewN nq) w5.heap.size [.int .i64 (vB + p - 1), .int .i64 vD, .int .i64 (vB1 + p - 1), .int .i64 vE] 127) := HQI.out
                      generalize wr.drewN nq = w6 at *
                      have hs6 : w4.heap.size + 1 ≤ w6.heap.size := by have := HB5.out.size; rw [HN1.out] at this; exact this
                      have hlen : (nRow p D E B T k ++ nHits T ow j).length ≤ 1000 := by rw [List.length_append, HNL.out]; have := HHL.out j; have := HTL.out; omega
                      have HLN := Lib.hid hlen
                      clear y0 y1 z0 z1 z2 z3 c0 c1 c2 c3 hd hlen
                      go_wp2_with (at_builtin; refine Hold.of ?_)
                      refine Hold.to ?_
                      refine wpl_app_int rfl (.tmp 145) (.tmp 147) rfl (w4.heap.size + 1) _ _ (j : Int) rfl (HO5.out.alloc _) w6.heap.size 0 rfl (cell_alloc_at _ _ _ _ _ rfl) (by have := HLN.out; omega) (by simp; omega) (fun v' w' h1 h2 h3 => ?_)
                      have h4 : Below (w4.heap.size + 1) (w4.alloc (.cells #[.int .i64 C, .slice (some ⟨bt, ot, none⟩) T.length cT] 26)) w' := (HB5.out.alloc hs6 _).grown h2 (by simp; omega) (fun k hk => (World.ownsRow.lt HO5.out k hk).1)
                      have h5 := (HQ5.out.alloc _).grownB h2 (fun e => HVI.out _ e rfl)
                      have h6 : ∀ j, Value.ownBlock v' = some j → j ≠ w5.heap.size := by
                        intro j hj
                        rcases h3 with h3 | h3
                        · exact HVI.out j (show Value.ownBlock u24 = some j from h3.symm.trans hj)
                        · rw [h3] at hj; injection hj with hj; have := HQ5.out.lt; simp at hj; omega
                      have H1 := Lib.hid h1
                      have H4 := Lib.hid h4
                      have H5 := Lib.hid h5
                      have H6 := Lib.hid h6
                      clear h1 h2 h3 h4 h5 h6 hs6
                      go_wp2_with fail
                      go_roundw
                      case rel => exact ⟨j + 1, by omega, by go_num, by show OwnI _ _ _ _; rw [HJ2.out, ← List.append_assoc]; exact H1.out, H4.out, H5.out, H6.out⟩
                      case measure => simp [intOf]; omega
                    · have hd : decide (x = ⟨vB + p - 1, vD, vB1 + p - 1, vE⟩) = false := by rw [← HTT.out]; simp [hx]
                      have HJ2 : Hid (nHits T ow (j + 1) = nHits T ow j) := by show _ = _; rw [HJ.out, if_neg (fun h => hx (Option.some.inj h)), List.append_nil]
                      clear hx
                      go_wp2_with fail
                      go_quiet (fail)
                      go_wp2
                      go_roundw
                      case rel => exact ⟨j + 1, by omega, by go_num, by show OwnI _ _ _ _; rw [HJ2.out]; exact HOI.out, by have h := HBI.out; exact ⟨h.os, h.tape, h.output, h.size, h.block⟩, HQI.out, HVI.out⟩
                      case measure => simp [intOf]; omega
                  · have hjT : j = T.length := by omega
                    have HJ2 : Hid (nHits T ow j = [nIdx T ow]) := by show _ = _; rw [hjT]; exact HHits.out
                    clear hjT
                    go_wp2_with fail
                    go_roundw
                    case rel => exact ⟨k1, by have := HK1.out; omega, by go_num, by show OwnI _ _ _ _; rw [HK1.out, HRS.out, ← HJ2.out]; exact HOI.out, HBI.out⟩
                    case measure => have := HK1.out; simp [intOf]; omega
              · have hkN : k = N := by omega
                have HXX : Hid (nRow p D E B T k = rr) := by show _ = _; rw [hkN]; exact HX.out.symm
                clear hkN
                obtain ⟨gR, cR, rfl, _, _⟩ := HOR.out.shape
                have qt := Lib.hid (QT.out.below HBR.out (by omega))
                have qz := Lib.hid (QZ.out.below HBR'.out (by rw [HN1.out]; have := HS4.out; omega))
                have y0 := qt.out.cell 0 (by simp)
                have y1 := qt.out.cell 1 (by simp)
                have z0 := qz.out.cell 0 (by simp)
                have z1 := qz.out.cell 1 (by simp)
                have g0 := qz.out.frozen 0
                have g1 := qz.out.frozen 1
                simp only [List.getElem_cons_zero, List.getElem_cons_succ] at y0 y1 z0 z1
                have HNL := Lib.hid (nRow_len p D E B T k)
                rw [HNL.out]
                have hOR := HOR.out
                rw [HNL.out] at hOR
                have HOR2 := Lib.hid hOR
                have hOT := Lib.hid (HOZ.out.below HBR'.out)
                have hBB := Lib.hid (HBZ.out.trans (HBR'.out.mono HBZ.out.size))
                have hlt3 := Lib.hid (show w4.heap.size + 1 ≤ wr.heap.size by have := HBR.out.size; rw [HN1.out] at this; exact this)
                clear hOR
                go_wp2
                refine bodyPost_ret (v := .tuple #[.agg #[.int .i64 C, .slice AT T.length cT], .slice gR k cR, .int .i64 0]) (by
                  have x0 := ((qz.out.set 0 (.int .i64 C)).set 1 (.slice AT T.length cT)).cell 0 (by simp)
                  have x1 := ((qz.out.set 0 (.int .i64 C)).set 1 (.slice AT T.length cT)).cell 1 (by simp)
                  simp only [List.set_cons_zero, List.set_cons_succ, List.getElem_cons_zero, List.getElem_cons_succ] at x0 x1
                  simp [results, Tryz.results49, go_sem, x0, x1]) rfl ?_
                rw [HV.out, HW.out, ← HXX.out, HY.out, HK0.out]
                have hs4 := HS4.out
                have hs3' := hs3.out
                refine ⟨AT, cT, .slice gR k cR, rfl, ?_, ?_, ?_, ?_⟩
                · exact ((hOT.out.other _ 0 hs3' _).other _ 1 hs3' _).weaken (by omega)
                · exact ((HOR2.out.other _ 0 (by omega) _).other _ 1 (by omega) _).weaken (by omega)
                · cases h1 : Value.ownBlock (.slice gR k cR) with
                  | none => exact .inl h1
                  | some j =>
                    refine .inr (fun h2 => ?_)
                    rw [h1] at h2
                    have a1 := (World.ownsRow.lt HOR2.out j h1).1
                    have a2 := (HOT2.out.blt j h2.symm).2
                    omega
                · have hb4 := hBB.out
                  (repeat (first | (with_reducible exact Below.refl _ _) | (with_reducible assumption) | (with_reducible refine below_al ?_) | (with_reducible refine below_dr ?_) | (with_reducible refine below_drN ?_) | (with_reducible refine below_set ?_ (by first | exact Nat.le_refl _ | (dsimp only; omega) | omega)) | (with_reducible refine below_tr (by with_reducible assumption) ?_)))
          · have hkn : (K != 0) = true := by simp [hk]
            rw [if_neg (fun h => hk (HV2.out.1 h))] at HV HW HX
            obtain rfl := HV.out
            obtain rfl := HW.out
            obtain rfl := HX.out
            obtain rfl := HY.out
            clear hk
            have qa := Lib.hid (Q4.out.alloc (.cells #[.int .i64 C, .slice AT T.length cT] 26))
            have y0 := qa.out.cell 0 (by simp)
            have y1 := qa.out.cell 1 (by simp)
            have g0 := qa.out.frozen 0
            have g1 := qa.out.frozen 1
            simp only [List.getElem_cons_zero, List.getElem_cons_succ] at y0 y1
            go_wp2
            refine bodyPost_ret (v := .tuple #[.agg #[.int .i64 0, .slice none 0 0], .slice none 0 0, .int .i64 kk]) (by
              have x0 := ((qa.out.set 0 (.int .i64 0)).set 1 (.slice none 0 0)).cell 0 (by simp)
              have x1 := ((qa.out.set 0 (.int .i64 0)).set 1 (.slice none 0 0)).cell 1 (by simp)
              simp only [List.set_cons_zero, List.set_cons_succ, List.getElem_cons_zero, List.getElem_cons_succ] at x0 x1
              simp [results, Tryz.results49, go_sem, x0, x1]) rfl ⟨none, 0, .slice none 0 0, rfl, World.ownsRow_nil _ _ _ _, OwnI.nil _ _, .inl rfl, ?_⟩
            have hb4 := Hb4.out
            have hs4 := HS4.out
            (repeat (first | (with_reducible exact Below.refl _ _) | (with_reducible assumption) | (with_reducible refine below_al ?_) | (with_reducible refine below_dr ?_) | (with_reducible refine below_drN ?_) | (with_reducible refine below_set ?_ (by first | exact Nat.le_refl _ | (dsimp only; omega) | omega)) | (with_reducible refine below_tr (by with_reducible assumption) ?_)))
        · have HN : Hid (¬ okN p q a b s n) := fun h => hle (HO.out.1 h).2.2.2
          obtain ⟨x, hx⟩ : ∃ x : Int, x = a * p := ⟨_, rfl⟩
          obtain ⟨z, hz⟩ : ∃ z : Int, z = b * q := ⟨_, rfl⟩
          have ex : IntKind.i64.wrap (a * p) = x := by rw [hx]; exact IntWalk.i64_in _ (by omega)
          have ey : IntKind.i64.wrap (5 * b * q) = 5 * z := by rw [hz, fy]; exact IntWalk.i64_in _ (by omega)
          have hxy : ¬ x ≤ 5 * z := by rw [hx, hz]; omega
          clear hx hz fy hle
          go_enter Tryz.func49, Tryz.ntmps49
          go_wp2_with fail
          refine (HF.out _).mono ?_
          rintro e w1 ⟨rfl, rfl⟩
          go_wp2_with fail
          refine (HG.out _).mono ?_
          rintro e w1 ⟨rfl, rfl⟩
          go_wp2_with fail
          refine (HP.out _).mono ?_
          rintro e w1 ⟨rfl, rfl⟩
          rw [if_neg (fun h => HN.out h.1)] at HV HW HX
          rw [if_neg HN.out] at HY
          obtain rfl := HV.out
          obtain rfl := HW.out
          obtain rfl := HX.out
          obtain rfl := HY.out
          go_wp2
          refine bodyPost_ret (v := .tuple #[.agg #[.int .i64 0, .slice none 0 0], .slice none 0 0, .int .i64 2]) (by
            have x0 := ((HB0.out.set 0 (.int .i64 0)).set 1 (.slice none 0 0)).cell 0 (by simp)
            have x1 := ((HB0.out.set 0 (.int .i64 0)).set 1 (.slice none 0 0)).cell 1 (by simp)
            simp only [List.set_cons_zero, List.set_cons_succ, List.getElem_cons_zero, List.getElem_cons_succ] at x0 x1
            simp [results, Tryz.results49, go_sem, x0, x1]) rfl ⟨none, 0, .slice none 0 0, rfl, World.ownsRow_nil _ _ _ _, OwnI.nil _ _, .inl rfl, by (repeat (first | (with_reducible exact Below.refl _ _) | (with_reducible assumption) | (with_reducible refine below_al ?_) | (with_reducible refine below_dr ?_) | (with_reducible refine below_drN ?_) | (with_reducible refine below_set ?_ (by first | exact Nat.le_refl _ | (dsimp only; omega) | omega)) | (with_reducible refine below_tr (by with_reducible assumption) ?_)))⟩

end Go.Proofs.YtkgnejhflnekaaaGreat
