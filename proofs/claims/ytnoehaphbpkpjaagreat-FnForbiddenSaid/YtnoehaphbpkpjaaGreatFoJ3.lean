/- Contracts and lemmas for the statements of this seat, written for this claim; each theorem states its own conditions. -/
import Derived.Test.YtnoehaphbpkpjaaGreatFoI3
import Derived.Test.YtnoehaphbpkpjaaGreatFoSe
set_option linter.unusedVariables false
set_option linter.unusedSimpArgs false
namespace Go.Proofs.YtnoehaphbpkpjaaGreat
open Go.RowKit
attribute [local go_sem] addUpon_value addUpon_skip addUpon_enter
set_option maxRecDepth 100000 in
set_option maxHeartbeats 1000000 in
theorem l01Sort_c (ts : List T4) (A : Option Addr) (cx : Nat) (w : World) (hT : TileCells w A ts) (hl : ts.length ≤ 100000000) :
    Calls Tryz.prog 87 #[.slice A ts.length cx] w fun e w' => ∃ g cap, e = .returned (.slice (some ⟨g, 0, none⟩) (setT ts).length cap) ∧ OwnT w' w.heap.size (.slice (some ⟨g, 0, none⟩) (setT ts).length cap) (setT ts) ∧ Below w.heap.size w w' := by
  have HT := Lib.hid hT
  clear hT
  have heq := eql_tile
  have hgd := guard_tile
  go_enter Tryz.func87, Tryz.ntmps87
  go_wp2_with fail
  go_loopw [3, 4] (fun v i wr => ∃ (k : Nat) (L : List T4) (g cap : Nat), k ≤ ts.length ∧ i = .int .i64 k ∧ v = .slice (some ⟨g, 0, none⟩) L.length cap ∧ Hid (L = setT (ts.take k)) ∧ Hid (OwnT wr w.heap.size (.slice (some ⟨g, 0, none⟩) L.length cap) L) ∧ L.length ≤ cap ∧ L.length ≤ 100000000 ∧ Hid (Below w.heap.size w wr)) (fun _ i _ => ts.length - (intOf i).toNat)
  case atStart => exact ⟨0, [], w.heap.size, 0, by omega, rfl, rfl, (by show _ = _; simp [setT, sortT, ddT]), OwnT.empty w _ (Nat.le_refl _), Nat.le_refl _, by simp, by show Below w.heap.size w _; (repeat (first | (with_reducible exact Below.refl _ _) | (with_reducible assumption) | (with_reducible refine below_al ?_) | (with_reducible refine below_dr ?_) | (with_reducible refine below_drN ?_) | (with_reducible refine below_set ?_ (by first | exact Nat.le_refl _ | (dsimp only; omega) | omega)) | (with_reducible refine below_tr (by with_reducible assumption) ?_)))⟩
  case round =>
    obtain ⟨k, L, g, cap, hk, rfl, rfl, HL, HO, hC, hL, Hb⟩ := hrel
    by_cases h1 : k < ts.length
    · obtain ⟨bT, oT, rfl, ltT', c0, c1, c2, c3⟩ := HT.out.below Hb.out k h1
      have HK := Lib.hid (show ts.take (k + 1) = ts.take k ++ [ts[k]] by rw [List.take_succ_eq_append_getElem h1])
      generalize ts[k] = x at *
      have k0 := keepC c0
      have k1 := keepC c1
      have k2 := keepC c2
      have k3 := keepC c3
      have K0 := Lib.hid k0
      have K1 := Lib.hid k1
      have K2 := Lib.hid k2
      have K3 := Lib.hid k3
      clear k0 k1 k2 k3 c0 c1 c2 c3
      go_wp2_with fail
      obtain ⟨w0, rfl⟩ : ∃ w0, w0 = wr := ⟨wr, rfl⟩
      go_loopw [5] (fun j wi => ∃ (m : Nat), m ≤ L.length ∧ j = .int .i64 m ∧ Hid (∀ i (h : i < L.length), m ≤ i → ltT x L[i] = true) ∧ Hid (Below w0.heap.size w0 wi)) (fun j _ => (intOf j).toNat)
      case atStart => exact ⟨L.length, Nat.le_refl _, rfl, fun i h h2 => by omega, Below.refl _ _⟩
      case round =>
        obtain ⟨m, hm, rfl, HM, HB⟩ := hrel
        have HO2 := Lib.hid (HO.out.below HB.out)
        have c0 := K0.out _ HB.out
        have c1 := K1.out _ HB.out
        have c2 := K2.out _ HB.out
        have c3 := K3.out _ HB.out
        by_cases hm0 : 0 < m
        · obtain ⟨d0, d1, d2, d3⟩ := HO2.out.tile (m - 1) (by omega)
          have q1 : IntKind.i64.wrap ((m : Int) - 1) = ((m - 1 : Nat) : Int) := by rw [IntWalk.i64_in _ (by omega)]; omega
          have q2 : m - 1 < L.length := by omega
          have HE := Lib.hid (show ∀ (h : m - 1 < L.length) z, L[m - 1] = z → L[m - 1] = z from fun _ _ h => h)
          generalize hy : L[m - 1]'(by omega) = y at d0 d1 d2 d3
          have HY := Lib.hid hy
          clear hy HE
          have e0 := keepC c0
          have e1 := keepC c1
          have e2 := keepC c2
          have e3 := keepC c3
          have g0 := keepC d0
          have g1 := keepC d1
          have g2 := keepC d2
          have g3 := keepC d3
          clear c0 c1 c2 c3 d0 d1 d2 d3
          have HQ := Lib.hid (fun w => l01Before_c x y w)
          cases hxy : ltT x y
          · rw [hxy] at HQ
            have HF := Lib.hid hxy
            clear hxy
            go_wp2_with fail
            refine wp_region_add (fun w' => Below (wr).heap.size (wr) w') (by kernel_rfl) (by kernel_rfl) ((Below.refl _ _).drew) ?_
            repeat (first
              | (refine add_skip rfl (fun K' hK' => ?_); go_simp; refine hK' _ ?_; clear hK' K')
              | (refine add_do (v := ?_) rfl (fun w1 hb => ?_) (fun K' hK' => ?_); rotate_left
                 · go_simp
                   first
                   | (with_reducible exact rfl)
                   | (with_reducible exact ⟨rfl, hb⟩)
                   | (with_reducible exact (addCall (HQ.out w1) hb).2)
                   | exact (addCall (HQ.out w1) hb).2
                   | exact rfl
                   | exact ⟨rfl, hb⟩
                 go_simp; refine hK' _ ?_; clear hK' K'))
            refine add_nil ?_
            intro wa hba
            have HBA := Lib.hid (HB.out.trans (hba.mono HB.out.size))
            have HBX := Lib.hid hba
            clear e0 e1 e2 e3 g0 g1 g2 g3 hba
            go_wp2_with fail
            obtain ⟨w2, rfl⟩ : ∃ w2, w2 = wa := ⟨wa, rfl⟩
            have e0 := keepC (K0.out _ HBA.out)
            have e1 := keepC (K1.out _ HBA.out)
            have e2 := keepC (K2.out _ HBA.out)
            have e3 := keepC (K3.out _ HBA.out)
            have hd := (HO2.out.below HBX.out).tile (m - 1) (by omega)
            rw [HY.out] at hd
            obtain ⟨d0, d1, d2, d3⟩ := hd
            have g0 := keepC d0
            have g1 := keepC d1
            have g2 := keepC d2
            have g3 := keepC d3
            clear d0 d1 d2 d3
            by_cases hyx : y = x
            · have hdx : decide (y = x) = true := by simp [hyx]
              have HYX := Lib.hid hyx
              clear hyx
              refine wp_region_add (fun w' => Below (w2).heap.size (w2) w') (by kernel_rfl) (by kernel_rfl) ((Below.refl _ _).drew) ?_
              repeat (first
                | (refine add_skip rfl (fun K' hK' => ?_); go_simp; refine hK' _ ?_; clear hK' K')
                | (refine add_do (v := ?_) rfl (fun w1 hb => ?_) (fun K' hK' => ?_); rotate_left
                   · go_simp
                     first
                     | (with_reducible exact rfl)
                     | (with_reducible exact ⟨rfl, hb⟩)
                     | exact rfl
                     | exact ⟨rfl, hb⟩
                   go_simp; refine hK' _ ?_; clear hK' K'))
              refine add_nil ?_
              intro wa hba
              have HBW := Lib.hid (HBA.out.trans (hba.mono HBA.out.size))
              clear e0 e1 e2 e3 g0 g1 g2 g3 hba
              go_wp2
              go_roundw
              case rel => exact ⟨k + 1, L, g, cap, by omega, by go_num, rfl, (by
                  show L = _
                  rw [HK.out, setT_skip, HL.out]
                  rw [← HL.out, ← HYX.out, ← HY.out]
                  exact List.getElem_mem _), HO.out.below HBW.out, hC, hL, Hb.out.trans (HBW.out.mono Hb.out.size)⟩
              case measure => simp [intOf]; omega
            · have hdx : decide (y = x) = false := by simp [hyx]
              have HYX := Lib.hid hyx
              clear hyx
              refine wp_region_add (fun w' => Below (w2).heap.size (w2) w') (by kernel_rfl) (by kernel_rfl) ((Below.refl _ _).drew) ?_
              repeat (first
                | (refine add_skip rfl (fun K' hK' => ?_); go_simp; refine hK' _ ?_; clear hK' K')
                | (refine add_do (v := ?_) rfl (fun w1 hb => ?_) (fun K' hK' => ?_); rotate_left
                   · go_simp
                     first
                     | (with_reducible exact rfl)
                     | (with_reducible exact ⟨rfl, hb⟩)
                     | exact rfl
                     | exact ⟨rfl, hb⟩
                   go_simp; refine hK' _ ?_; clear hK' K'))
              refine add_nil ?_
              intro wa hba
              have HBW := Lib.hid (HBA.out.trans (hba.mono HBA.out.size))
              have HZ := Lib.hid (show m = 0 ∨ ∃ h : m - 1 < (setT (ts.take k)).length, ltT x (setT (ts.take k))[m - 1] = false ∧ (setT (ts.take k))[m - 1] ≠ x from .inr ⟨by rw [← HL.out]; exact q2, by
                have := HY.out
                simp only [HL.out] at this
                rw [this]
                exact ⟨HF.out, HYX.out⟩⟩)
              clear e0 e1 e2 e3 g0 g1 g2 g3 hba
              go_wp2_with fail
              have e0 := keepC (K0.out _ HBW.out)
              have e1 := keepC (K1.out _ HBW.out)
              have e2 := keepC (K2.out _ HBW.out)
              have e3 := keepC (K3.out _ HBW.out)
              by_cases hmc : cap = m
              · obtain ⟨ad, ha1, ha2⟩ : ∃ ad : Addr, (cap = m → ad = ⟨g, 0, none⟩) ∧ (¬ cap = m → ad = ⟨g, m * 4, none⟩) := by
                  by_cases h : cap = m
                  · exact ⟨_, fun _ => rfl, fun h2 => absurd h h2⟩
                  · exact ⟨_, fun h2 => absurd h2 h, fun _ => rfl⟩
                have Ha := Lib.hid (And.intro ha1 ha2)
                clear ha1 ha2
                refine wp_region_mix [(0, true), (1, true), (2, true), (3, true), (5, true), (6, true), (7, true), (4, false), (8, false), (9, false)] (fun w' => Below (wa).heap.size (wa) w') (by kernel_rfl) (by kernel_rfl) (fun _ _ d _ _ h => by cases d <;> exact h) ((Below.refl _ _).drew) ?_
                repeat (first
                  | (refine mix_skip rfl rfl (fun K' hK' => ?_); go_simp; refine hK' _ ?_; clear hK' K')
                  | (refine mix_do (v := ?_) rfl rfl (fun w1 hb => ?_) (fun K' hK' => ?_); rotate_left
                     · go_simp
                       rfl
                     go_simp; refine hK' _ ?_; clear hK' K'))
                refine mix_call rfl rfl (fun K' hK' => ?_)
                go_simp
                refine hK' _ _ (below_al (Below.refl _ _).drew) ?_; clear hK' K'
                refine mix_call rfl rfl (fun K' hK' => ?_)
                refine app_tiles (.tmp 50) (.tmp 53) rfl wa.heap.size _ [x] (L.drop m) rfl (OwnT.one _ x (Nat.le_refl _)) ad (cap - m) (by
                  rw [List.length_drop]
                  first
                  | (rw [Ha.out.1 hmc]; go_simp)
                  | (rw [Ha.out.2 hmc]; go_simp)) (fun j u hj => by
                  by_cases hmc : cap = m
                  · rw [List.drop_eq_nil_of_le (by omega)] at hj; simp [tcells] at hj
                  · rw [Ha.out.2 hmc]; exact (((HO.out.below HBW.out).drew).alloc _).cellsFrom m j u hj) (by rw [List.length_drop]; show 1 + (L.length - m) ≤ _; omega) (by simp) (fun v' w' a1 a2 a3 => ?_)
                have hlt : ∀ k, (Value.slice (some ⟨wa.heap.size, 0, none⟩) 1 1).ownBlock = some k → wa.heap.size ≤ k := fun k hk => by have hk' : some wa.heap.size = some k := hk; injection hk' with hk'; omega
                have A2 : Below wa.heap.size wa w' := (below_al (Below.refl wa.heap.size wa).drew).grown a2 (by simp) hlt
                refine hK' _ _ A2 ?_
                clear hK' K'
                refine mix_call rfl rfl (fun K' hK' => ?_)
                go_simp
                refine hK' _ _ (A2) ?_; clear hK' K'
                refine mix_nil ?_
                have HA1 := Lib.hid a1
                have HA2 := Lib.hid A2
                clear a1 a2 a3 A2 hlt e0 e1 e2 e3
                obtain ⟨g', cap', cur', rfl, hg', _, _, _, _, _⟩ := HA1.out.parts (by simp)
                have Hg := Lib.hid hg'
                clear hg'
                have hw' := Lib.hid (show Below w.heap.size w w' from Hb.out.trans ((HBW.out.trans (HA2.out.mono HBW.out.size)).mono Hb.out.size))
                have HBW2 := Lib.hid (HBW.out.trans (HA2.out.mono HBW.out.size))
                have hlen : ([x] ++ List.drop m L).length = L.length - m + 1 := by simp
                have HLEN := Lib.hid hlen
                clear hlen
                go_wp2_with (at_builtin; refine Hold.of ?_)
                refine Hold.to ?_
                refine wpl_app_tiles rfl (.tmp 55) (.tmp 58) rfl w'.heap.size _ [] (L.take m) rfl (OwnT.empty w' _ (Nat.le_refl _)) ⟨g, 0, none⟩ _ (by rw [List.length_take, Nat.min_eq_left hm]; rfl) (fun j u hj => ((HO.out.below HBW2.out).alloc _).upto m j u hj) (by rw [List.length_take]; simp; omega) (by simp) (fun v2 w3 b1 b2 b3 => ?_)
                have B2 : Below w'.heap.size w' w3 := (below_al (Below.refl w'.heap.size w')).grown b2 (by simp) (OwnT.empty w' _ (Nat.le_refl _)).rowlt
                have HB1 := Lib.hid b1
                have HB2 := Lib.hid B2
                clear b1 b2 b3 B2
                go_wp2_with (at_builtin; refine Hold.of ?_)
                refine Hold.to ?_
                refine wpl_app_tiles rfl (.tmp 59) (.tmp 60) rfl w'.heap.size _ ([] ++ L.take m) ([x] ++ List.drop m L) rfl HB1.out ⟨g', 0, none⟩ cap' (by rw [HLEN.out]; rfl) (fun j u hj => (HA1.out.below HB2.out).all j u hj) (by rw [HLEN.out, List.nil_append, List.length_take]; omega) HB2.out.size (fun v3 w4 c1 c2 c3 => ?_)
                have C2 : Below w'.heap.size w' w4 := HB2.out.grown c2 HB2.out.size HB1.out.rowlt
                obtain ⟨g3, cap3, cur3, rfl, hg3, _, hcap3, _, _, _⟩ := c1.parts (by simp; omega)
                have HC1 := Lib.hid c1
                have HC2 := Lib.hid C2
                have HC3 := Lib.hid hcap3
                have HLL : Hid (([] ++ List.take m L ++ ([x] ++ List.drop m L)).length = L.length + 1) := by show _ = _; simp; omega
                have HL2 := Lib.hid (show [] ++ List.take m L ++ ([x] ++ List.drop m L) = L.take m ++ x :: L.drop m by simp)
                clear c1 c2 c3 hg3 C2 hcap3
                rw [HLL.out]
                go_wp2
                go_roundw
                case rel =>
                  refine ⟨k + 1, [] ++ List.take m L ++ ([x] ++ List.drop m L), g3, cap3, by omega, by go_num, by rw [HLL.out], ?_, HC1.out.weaken hw'.out.size, HC3.out, by rw [HLL.out]; have := setT_take_len (ts.take k); rw [← HL.out, List.length_take] at this; omega, hw'.out.trans (HC2.out.mono hw'.out.size)⟩
                  show _ = _
                  rw [HL2.out, HK.out, setT_ins m (by rw [← HL.out]; exact hm) (fun j h hj => by have := HM.out j (by rw [HL.out]; exact h) hj; simpa only [HL.out] using this) HZ.out, HL.out]
                case measure => simp [intOf]; omega
              · obtain ⟨ad, ha1, ha2⟩ : ∃ ad : Addr, (cap = m → ad = ⟨g, 0, none⟩) ∧ (¬ cap = m → ad = ⟨g, m * 4, none⟩) := by
                  by_cases h : cap = m
                  · exact ⟨_, fun _ => rfl, fun h2 => absurd h h2⟩
                  · exact ⟨_, fun h2 => absurd h2 h, fun _ => rfl⟩
                have Ha := Lib.hid (And.intro ha1 ha2)
                clear ha1 ha2
                refine wp_region_mix [(0, true), (1, true), (2, true), (3, true), (5, true), (6, true), (7, true), (4, false), (8, false), (9, false)] (fun w' => Below (wa).heap.size (wa) w') (by kernel_rfl) (by kernel_rfl) (fun _ _ d _ _ h => by cases d <;> exact h) ((Below.refl _ _).drew) ?_
                repeat (first
                  | (refine mix_skip rfl rfl (fun K' hK' => ?_); go_simp; refine hK' _ ?_; clear hK' K')
                  | (refine mix_do (v := ?_) rfl rfl (fun w1 hb => ?_) (fun K' hK' => ?_); rotate_left
                     · go_simp
                       rfl
                     go_simp; refine hK' _ ?_; clear hK' K'))
                refine mix_call rfl rfl (fun K' hK' => ?_)
                go_simp
                refine hK' _ _ (below_al (Below.refl _ _).drew) ?_; clear hK' K'
                refine mix_call rfl rfl (fun K' hK' => ?_)
                refine app_tiles (.tmp 50) (.tmp 53) rfl wa.heap.size _ [x] (L.drop m) rfl (OwnT.one _ x (Nat.le_refl _)) ad (cap - m) (by
                  rw [List.length_drop]
                  first
                  | (rw [Ha.out.1 hmc]; go_simp)
                  | (rw [Ha.out.2 hmc]; go_simp)) (fun j u hj => by
                  by_cases hmc : cap = m
                  · rw [List.drop_eq_nil_of_le (by omega)] at hj; simp [tcells] at hj
                  · rw [Ha.out.2 hmc]; exact (((HO.out.below HBW.out).drew).alloc _).cellsFrom m j u hj) (by rw [List.length_drop]; show 1 + (L.length - m) ≤ _; omega) (by simp) (fun v' w' a1 a2 a3 => ?_)
                have hlt : ∀ k, (Value.slice (some ⟨wa.heap.size, 0, none⟩) 1 1).ownBlock = some k → wa.heap.size ≤ k := fun k hk => by have hk' : some wa.heap.size = some k := hk; injection hk' with hk'; omega
                have A2 : Below wa.heap.size wa w' := (below_al (Below.refl wa.heap.size wa).drew).grown a2 (by simp) hlt
                refine hK' _ _ A2 ?_
                clear hK' K'
                refine mix_call rfl rfl (fun K' hK' => ?_)
                go_simp
                refine hK' _ _ (A2) ?_; clear hK' K'
                refine mix_nil ?_
                have HA1 := Lib.hid a1
                have HA2 := Lib.hid A2
                clear a1 a2 a3 A2 hlt e0 e1 e2 e3
                obtain ⟨g', cap', cur', rfl, hg', _, _, _, _, _⟩ := HA1.out.parts (by simp)
                have Hg := Lib.hid hg'
                clear hg'
                have hw' := Lib.hid (show Below w.heap.size w w' from Hb.out.trans ((HBW.out.trans (HA2.out.mono HBW.out.size)).mono Hb.out.size))
                have HBW2 := Lib.hid (HBW.out.trans (HA2.out.mono HBW.out.size))
                have hlen : ([x] ++ List.drop m L).length = L.length - m + 1 := by simp
                have HLEN := Lib.hid hlen
                clear hlen
                go_wp2_with (at_builtin; refine Hold.of ?_)
                refine Hold.to ?_
                refine wpl_app_tiles rfl (.tmp 55) (.tmp 58) rfl w'.heap.size _ [] (L.take m) rfl (OwnT.empty w' _ (Nat.le_refl _)) ⟨g, 0, none⟩ _ (by rw [List.length_take, Nat.min_eq_left hm]; rfl) (fun j u hj => ((HO.out.below HBW2.out).alloc _).upto m j u hj) (by rw [List.length_take]; simp; omega) (by simp) (fun v2 w3 b1 b2 b3 => ?_)
                have B2 : Below w'.heap.size w' w3 := (below_al (Below.refl w'.heap.size w')).grown b2 (by simp) (OwnT.empty w' _ (Nat.le_refl _)).rowlt
                have HB1 := Lib.hid b1
                have HB2 := Lib.hid B2
                clear b1 b2 b3 B2
                go_wp2_with (at_builtin; refine Hold.of ?_)
                refine Hold.to ?_
                refine wpl_app_tiles rfl (.tmp 59) (.tmp 60) rfl w'.heap.size _ ([] ++ L.take m) ([x] ++ List.drop m L) rfl HB1.out ⟨g', 0, none⟩ cap' (by rw [HLEN.out]; rfl) (fun j u hj => (HA1.out.below HB2.out).all j u hj) (by rw [HLEN.out, List.nil_append, List.length_take]; omega) HB2.out.size (fun v3 w4 c1 c2 c3 => ?_)
                have C2 : Below w'.heap.size w' w4 := HB2.out.grown c2 HB2.out.size HB1.out.rowlt
                obtain ⟨g3, cap3, cur3, rfl, hg3, _, hcap3, _, _, _⟩ := c1.parts (by simp; omega)
                have HC1 := Lib.hid c1
                have HC2 := Lib.hid C2
                have HC3 := Lib.hid hcap3
                have HLL : Hid (([] ++ List.take m L ++ ([x] ++ List.drop m L)).length = L.length + 1) := by show _ = _; simp; omega
                have HL2 := Lib.hid (show [] ++ List.take m L ++ ([x] ++ List.drop m L) = L.take m ++ x :: L.drop m by simp)
                clear c1 c2 c3 hg3 C2 hcap3
                rw [HLL.out]
                go_wp2
                go_roundw
                case rel =>
                  refine ⟨k + 1, [] ++ List.take m L ++ ([x] ++ List.drop m L), g3, cap3, by omega, by go_num, by rw [HLL.out], ?_, HC1.out.weaken hw'.out.size, HC3.out, by rw [HLL.out]; have := setT_take_len (ts.take k); rw [← HL.out, List.length_take] at this; omega, hw'.out.trans (HC2.out.mono hw'.out.size)⟩
                  show _ = _
                  rw [HL2.out, HK.out, setT_ins m (by rw [← HL.out]; exact hm) (fun j h hj => by have := HM.out j (by rw [HL.out]; exact h) hj; simpa only [HL.out] using this) HZ.out, HL.out]
                case measure => simp [intOf]; omega
          · rw [hxy] at HQ
            have HF := Lib.hid hxy
            clear hxy
            go_wp2_with fail
            refine wp_region_add (fun w' => Below (wr).heap.size (wr) w') (by kernel_rfl) (by kernel_rfl) ((Below.refl _ _).drew) ?_
            repeat (first
              | (refine add_skip rfl (fun K' hK' => ?_); go_simp; refine hK' _ ?_; clear hK' K')
              | (refine add_do (v := ?_) rfl (fun w1 hb => ?_) (fun K' hK' => ?_); rotate_left
                 · go_simp
                   first
                   | (with_reducible exact rfl)
                   | (with_reducible exact ⟨rfl, hb⟩)
                   | (with_reducible exact (addCall (HQ.out w1) hb).2)
                   | exact (addCall (HQ.out w1) hb).2
                   | exact rfl
                   | exact ⟨rfl, hb⟩
                 go_simp; refine hK' _ ?_; clear hK' K'))
            refine add_nil ?_
            intro wa hba
            go_wp2
            go_roundw
            case rel => exact ⟨m - 1, by omega, by go_num, (fun i h h2 => by
              by_cases e : i = m - 1
              · subst e; rw [HY.out]; exact HF.out
              · exact HM.out i h (by omega)), HB.out.trans (hba.mono HB.out.size)⟩
            case measure => simp [intOf]; omega
        · skip
          go_wp2_with fail
          refine wp_region_add (fun w' => Below (wr).heap.size (wr) w') (by kernel_rfl) (by kernel_rfl) ((Below.refl _ _).drew) ?_
          repeat (first
            | (refine add_skip rfl (fun K' hK' => ?_); go_simp; refine hK' _ ?_; clear hK' K')
            | (refine add_do (v := ?_) rfl (fun w1 hb => ?_) (fun K' hK' => ?_); rotate_left
               · go_simp
                 first
                 | (with_reducible exact rfl)
                 | (with_reducible exact ⟨rfl, hb⟩)
                 | exact rfl
                 | exact ⟨rfl, hb⟩
               go_simp; refine hK' _ ?_; clear hK' K'))
          refine add_nil ?_
          intro wa hba
          have HBA := Lib.hid (HB.out.trans (hba.mono HB.out.size))
          clear hba
          go_wp2_with fail
          obtain ⟨w2, rfl⟩ : ∃ w2, w2 = wa := ⟨wa, rfl⟩
          refine wp_region_add (fun w' => Below (w2).heap.size (w2) w') (by kernel_rfl) (by kernel_rfl) ((Below.refl _ _).drew) ?_
          repeat (first
            | (refine add_skip rfl (fun K' hK' => ?_); go_simp; refine hK' _ ?_; clear hK' K')
            | (refine add_do (v := ?_) rfl (fun w1 hb => ?_) (fun K' hK' => ?_); rotate_left
               · go_simp
                 first
                 | (with_reducible exact rfl)
                 | (with_reducible exact ⟨rfl, hb⟩)
                 | exact rfl
                 | exact ⟨rfl, hb⟩
               go_simp; refine hK' _ ?_; clear hK' K'))
          refine add_nil ?_
          intro wa hba
          have HBW := Lib.hid (HBA.out.trans (hba.mono HBA.out.size))
          have HZ := Lib.hid (show m = 0 ∨ ∃ h : m - 1 < (setT (ts.take k)).length, ltT x (setT (ts.take k))[m - 1] = false ∧ (setT (ts.take k))[m - 1] ≠ x from .inl (by omega))
          clear hba
          go_wp2_with fail
          have e0 := keepC (K0.out _ HBW.out)
          have e1 := keepC (K1.out _ HBW.out)
          have e2 := keepC (K2.out _ HBW.out)
          have e3 := keepC (K3.out _ HBW.out)
          by_cases hmc : cap = m
          · obtain ⟨ad, ha1, ha2⟩ : ∃ ad : Addr, (cap = m → ad = ⟨g, 0, none⟩) ∧ (¬ cap = m → ad = ⟨g, m * 4, none⟩) := by
              by_cases h : cap = m
              · exact ⟨_, fun _ => rfl, fun h2 => absurd h h2⟩
              · exact ⟨_, fun h2 => absurd h2 h, fun _ => rfl⟩
            have Ha := Lib.hid (And.intro ha1 ha2)
            clear ha1 ha2
            refine wp_region_mix [(0, true), (1, true), (2, true), (3, true), (5, true), (6, true), (7, true), (4, false), (8, false), (9, false)] (fun w' => Below (wa).heap.size (wa) w') (by kernel_rfl) (by kernel_rfl) (fun _ _ d _ _ h => by cases d <;> exact h) ((Below.refl _ _).drew) ?_
            repeat (first
              | (refine mix_skip rfl rfl (fun K' hK' => ?_); go_simp; refine hK' _ ?_; clear hK' K')
              | (refine mix_do (v := ?_) rfl rfl (fun w1 hb => ?_) (fun K' hK' => ?_); rotate_left
                 · go_simp
                   rfl
                 go_simp; refine hK' _ ?_; clear hK' K'))
            refine mix_call rfl rfl (fun K' hK' => ?_)
            go_simp
            refine hK' _ _ (below_al (Below.refl _ _).drew) ?_; clear hK' K'
            refine mix_call rfl rfl (fun K' hK' => ?_)
            refine app_tiles (.tmp 50) (.tmp 53) rfl wa.heap.size _ [x] (L.drop m) rfl (OwnT.one _ x (Nat.le_refl _)) ad (cap - m) (by
              rw [List.length_drop]
              first
              | (rw [Ha.out.1 hmc]; go_simp)
              | (rw [Ha.out.2 hmc]; go_simp)) (fun j u hj => by
              by_cases hmc : cap = m
              · rw [List.drop_eq_nil_of_le (by omega)] at hj; simp [tcells] at hj
              · rw [Ha.out.2 hmc]; exact (((HO.out.below HBW.out).drew).alloc _).cellsFrom m j u hj) (by rw [List.length_drop]; show 1 + (L.length - m) ≤ _; omega) (by simp) (fun v' w' a1 a2 a3 => ?_)
            have hlt : ∀ k, (Value.slice (some ⟨wa.heap.size, 0, none⟩) 1 1).ownBlock = some k → wa.heap.size ≤ k := fun k hk => by have hk' : some wa.heap.size = some k := hk; injection hk' with hk'; omega
            have A2 : Below wa.heap.size wa w' := (below_al (Below.refl wa.heap.size wa).drew).grown a2 (by simp) hlt
            refine hK' _ _ A2 ?_
            clear hK' K'
            refine mix_call rfl rfl (fun K' hK' => ?_)
            go_simp
            refine hK' _ _ (A2) ?_; clear hK' K'
            refine mix_nil ?_
            have HA1 := Lib.hid a1
            have HA2 := Lib.hid A2
            clear a1 a2 a3 A2 hlt e0 e1 e2 e3
            obtain ⟨g', cap', cur', rfl, hg', _, _, _, _, _⟩ := HA1.out.parts (by simp)
            have Hg := Lib.hid hg'
            clear hg'
            have hw' := Lib.hid (show Below w.heap.size w w' from Hb.out.trans ((HBW.out.trans (HA2.out.mono HBW.out.size)).mono Hb.out.size))
            have HBW2 := Lib.hid (HBW.out.trans (HA2.out.mono HBW.out.size))
            have hlen : ([x] ++ List.drop m L).length = L.length - m + 1 := by simp
            have HLEN := Lib.hid hlen
            clear hlen
            go_wp2_with (at_builtin; refine Hold.of ?_)
            refine Hold.to ?_
            refine wpl_app_tiles rfl (.tmp 55) (.tmp 58) rfl w'.heap.size _ [] (L.take m) rfl (OwnT.empty w' _ (Nat.le_refl _)) ⟨g, 0, none⟩ _ (by rw [List.length_take, Nat.min_eq_left hm]; rfl) (fun j u hj => ((HO.out.below HBW2.out).alloc _).upto m j u hj) (by rw [List.length_take]; simp; omega) (by simp) (fun v2 w3 b1 b2 b3 => ?_)
            have B2 : Below w'.heap.size w' w3 := (below_al (Below.refl w'.heap.size w')).grown b2 (by simp) (OwnT.empty w' _ (Nat.le_refl _)).rowlt
            have HB1 := Lib.hid b1
            have HB2 := Lib.hid B2
            clear b1 b2 b3 B2
            go_wp2_with (at_builtin; refine Hold.of ?_)
            refine Hold.to ?_
            refine wpl_app_tiles rfl (.tmp 59) (.tmp 60) rfl w'.heap.size _ ([] ++ L.take m) ([x] ++ List.drop m L) rfl HB1.out ⟨g', 0, none⟩ cap' (by rw [HLEN.out]; rfl) (fun j u hj => (HA1.out.below HB2.out).all j u hj) (by rw [HLEN.out, List.nil_append, List.length_take]; omega) HB2.out.size (fun v3 w4 c1 c2 c3 => ?_)
            have C2 : Below w'.heap.size w' w4 := HB2.out.grown c2 HB2.out.size HB1.out.rowlt
            obtain ⟨g3, cap3, cur3, rfl, hg3, _, hcap3, _, _, _⟩ := c1.parts (by simp; omega)
            have HC1 := Lib.hid c1
            have HC2 := Lib.hid C2
            have HC3 := Lib.hid hcap3
            have HLL : Hid (([] ++ List.take m L ++ ([x] ++ List.drop m L)).length = L.length + 1) := by show _ = _; simp; omega
            have HL2 := Lib.hid (show [] ++ List.take m L ++ ([x] ++ List.drop m L) = L.take m ++ x :: L.drop m by simp)
            clear c1 c2 c3 hg3 C2 hcap3
            rw [HLL.out]
            go_wp2
            go_roundw
            case rel =>
              refine ⟨k + 1, [] ++ List.take m L ++ ([x] ++ List.drop m L), g3, cap3, by omega, by go_num, by rw [HLL.out], ?_, HC1.out.weaken hw'.out.size, HC3.out, by rw [HLL.out]; have := setT_take_len (ts.take k); rw [← HL.out, List.length_take] at this; omega, hw'.out.trans (HC2.out.mono hw'.out.size)⟩
              show _ = _
              rw [HL2.out, HK.out, setT_ins m (by rw [← HL.out]; exact hm) (fun j h hj => by have := HM.out j (by rw [HL.out]; exact h) hj; simpa only [HL.out] using this) HZ.out, HL.out]
            case measure => simp [intOf]; omega
          · obtain ⟨ad, ha1, ha2⟩ : ∃ ad : Addr, (cap = m → ad = ⟨g, 0, none⟩) ∧ (¬ cap = m → ad = ⟨g, m * 4, none⟩) := by
              by_cases h : cap = m
              · exact ⟨_, fun _ => rfl, fun h2 => absurd h h2⟩
              · exact ⟨_, fun h2 => absurd h2 h, fun _ => rfl⟩
            have Ha := Lib.hid (And.intro ha1 ha2)
            clear ha1 ha2
            refine wp_region_mix [(0, true), (1, true), (2, true), (3, true), (5, true), (6, true), (7, true), (4, false), (8, false), (9, false)] (fun w' => Below (wa).heap.size (wa) w') (by kernel_rfl) (by kernel_rfl) (fun _ _ d _ _ h => by cases d <;> exact h) ((Below.refl _ _).drew) ?_
            repeat (first
              | (refine mix_skip rfl rfl (fun K' hK' => ?_); go_simp; refine hK' _ ?_; clear hK' K')
              | (refine mix_do (v := ?_) rfl rfl (fun w1 hb => ?_) (fun K' hK' => ?_); rotate_left
                 · go_simp
                   rfl
                 go_simp; refine hK' _ ?_; clear hK' K'))
            refine mix_call rfl rfl (fun K' hK' => ?_)
            go_simp
            refine hK' _ _ (below_al (Below.refl _ _).drew) ?_; clear hK' K'
            refine mix_call rfl rfl (fun K' hK' => ?_)
            refine app_tiles (.tmp 50) (.tmp 53) rfl wa.heap.size _ [x] (L.drop m) rfl (OwnT.one _ x (Nat.le_refl _)) ad (cap - m) (by
              rw [List.length_drop]
              first
              | (rw [Ha.out.1 hmc]; go_simp)
              | (rw [Ha.out.2 hmc]; go_simp)) (fun j u hj => by
              by_cases hmc : cap = m
              · rw [List.drop_eq_nil_of_le (by omega)] at hj; simp [tcells] at hj
              · rw [Ha.out.2 hmc]; exact (((HO.out.below HBW.out).drew).alloc _).cellsFrom m j u hj) (by rw [List.length_drop]; show 1 + (L.length - m) ≤ _; omega) (by simp) (fun v' w' a1 a2 a3 => ?_)
            have hlt : ∀ k, (Value.slice (some ⟨wa.heap.size, 0, none⟩) 1 1).ownBlock = some k → wa.heap.size ≤ k := fun k hk => by have hk' : some wa.heap.size = some k := hk; injection hk' with hk'; omega
            have A2 : Below wa.heap.size wa w' := (below_al (Below.refl wa.heap.size wa).drew).grown a2 (by simp) hlt
            refine hK' _ _ A2 ?_
            clear hK' K'
            refine mix_call rfl rfl (fun K' hK' => ?_)
            go_simp
            refine hK' _ _ (A2) ?_; clear hK' K'
            refine mix_nil ?_
            have HA1 := Lib.hid a1
            have HA2 := Lib.hid A2
            clear a1 a2 a3 A2 hlt e0 e1 e2 e3
            obtain ⟨g', cap', cur', rfl, hg', _, _, _, _, _⟩ := HA1.out.parts (by simp)
            have Hg := Lib.hid hg'
            clear hg'
            have hw' := Lib.hid (show Below w.heap.size w w' from Hb.out.trans ((HBW.out.trans (HA2.out.mono HBW.out.size)).mono Hb.out.size))
            have HBW2 := Lib.hid (HBW.out.trans (HA2.out.mono HBW.out.size))
            have hlen : ([x] ++ List.drop m L).length = L.length - m + 1 := by simp
            have HLEN := Lib.hid hlen
            clear hlen
            go_wp2_with (at_builtin; refine Hold.of ?_)
            refine Hold.to ?_
            refine wpl_app_tiles rfl (.tmp 55) (.tmp 58) rfl w'.heap.size _ [] (L.take m) rfl (OwnT.empty w' _ (Nat.le_refl _)) ⟨g, 0, none⟩ _ (by rw [List.length_take, Nat.min_eq_left hm]; rfl) (fun j u hj => ((HO.out.below HBW2.out).alloc _).upto m j u hj) (by rw [List.length_take]; simp; omega) (by simp) (fun v2 w3 b1 b2 b3 => ?_)
            have B2 : Below w'.heap.size w' w3 := (below_al (Below.refl w'.heap.size w')).grown b2 (by simp) (OwnT.empty w' _ (Nat.le_refl _)).rowlt
            have HB1 := Lib.hid b1
            have HB2 := Lib.hid B2
            clear b1 b2 b3 B2
            go_wp2_with (at_builtin; refine Hold.of ?_)
            refine Hold.to ?_
            refine wpl_app_tiles rfl (.tmp 59) (.tmp 60) rfl w'.heap.size _ ([] ++ L.take m) ([x] ++ List.drop m L) rfl HB1.out ⟨g', 0, none⟩ cap' (by rw [HLEN.out]; rfl) (fun j u hj => (HA1.out.below HB2.out).all j u hj) (by rw [HLEN.out, List.nil_append, List.length_take]; omega) HB2.out.size (fun v3 w4 c1 c2 c3 => ?_)
            have C2 : Below w'.heap.size w' w4 := HB2.out.grown c2 HB2.out.size HB1.out.rowlt
            obtain ⟨g3, cap3, cur3, rfl, hg3, _, hcap3, _, _, _⟩ := c1.parts (by simp; omega)
            have HC1 := Lib.hid c1
            have HC2 := Lib.hid C2
            have HC3 := Lib.hid hcap3
            have HLL : Hid (([] ++ List.take m L ++ ([x] ++ List.drop m L)).length = L.length + 1) := by show _ = _; simp; omega
            have HL2 := Lib.hid (show [] ++ List.take m L ++ ([x] ++ List.drop m L) = L.take m ++ x :: L.drop m by simp)
            clear c1 c2 c3 hg3 C2 hcap3
            rw [HLL.out]
            go_wp2
            go_roundw
            case rel =>
              refine ⟨k + 1, [] ++ List.take m L ++ ([x] ++ List.drop m L), g3, cap3, by omega, by go_num, by rw [HLL.out], ?_, HC1.out.weaken hw'.out.size, HC3.out, by rw [HLL.out]; have := setT_take_len (ts.take k); rw [← HL.out, List.length_take] at this; omega, hw'.out.trans (HC2.out.mono hw'.out.size)⟩
              show _ = _
              rw [HL2.out, HK.out, setT_ins m (by rw [← HL.out]; exact hm) (fun j h hj => by have := HM.out j (by rw [HL.out]; exact h) hj; simpa only [HL.out] using this) HZ.out, HL.out]
            case measure => simp [intOf]; omega
    · have HE := Lib.hid (show ts.take k = ts by rw [show k = ts.length by omega, List.take_length])
      go_wp2
      go_ret
      rw [HE.out] at HL
      refine ⟨g, cap, by rw [← HL.out]; rfl, ?_, Hb.out⟩
      have := HO.out
      rw [HL.out] at this
      exact this

end Go.Proofs.YtnoehaphbpkpjaaGreat
namespace Go.Proofs.YtnoehaphbpkpjaaGreat
open Go.RowKit
/-- the code of a multiplying set -/
def RetS (w : World) (c : Int) (ts : List T4) (code : Int) (e : Ending) (w' : World) : Prop :=
  ∃ A cx, e = .returned (.tuple #[.agg #[.int .i64 c, .slice A ts.length cx], .int .i64 code]) ∧ OwnT w' w.heap.size (.slice A ts.length cx) ts ∧ Below w.heap.size w w'
def mTiles (p q m n u v : Int) : List T4 := mAll p q m u (n - m + 1).toNat (v - u + 1).toNat (p + q - 1).toNat
def mC (p q n v : Int) : Int := max (max (p + q - 1) (n + 1)) (v + 1)
def mSet (p q m n u v : Int) : List T4 := if (mTiles p q m n u v).length ≤ 16 then setT (mTiles p q m n u v) else []
def mCol (p q m n u v : Int) : Int := if (mTiles p q m n u v).length ≤ 16 then mC p q n v else 0
def mCode (p q m n u v : Int) : Int := if (mTiles p q m n u v).length ≤ 16 then 0 else 3
set_option maxRecDepth 100000 in
set_option maxHeartbeats 1000000 in
theorem l01Made_c (c : Int) (ts : List T4) (A : Option Addr) (cx : Nat) (w : World) (hT : TileCells w A ts) (hl : ts.length ≤ 100000000) :
    Calls Tryz.prog 37 #[.int .i64 c, .slice A ts.length cx] w fun e w' => ∃ A' cx', e = .returned (.agg #[.int .i64 c, .slice A' (setT ts).length cx']) ∧ OwnT w' w.heap.size (.slice A' (setT ts).length cx') (setT ts) ∧ Below w.heap.size w w' := by
  have HT := Lib.hid hT
  have HL := Lib.hid hl
  clear hT hl
  have HS := Lib.hid (fun (ss : List T4) (h : setT ts = ss) => h)
  generalize hS : setT ts = ss at *
  go_enter Tryz.func37, Tryz.ntmps37
  go_wp2_with fail
  refine (l01Sort_c ts A cx _ (HT.out.below (by (repeat (first | (with_reducible exact Below.refl _ _) | (with_reducible assumption) | (with_reducible refine below_al ?_) | (with_reducible refine below_dr ?_) | (with_reducible refine below_drN ?_) | (with_reducible refine below_set ?_ (by first | exact Nat.le_refl _ | (dsimp only; omega) | omega)) | (with_reducible refine below_tr (by with_reducible assumption) ?_))))) HL.out).mono ?_
  rintro e w1 ⟨g, cap, rfl, hO, hb1⟩
  rw [hS] at hO ⊢
  clear hS HS
  have HO := Lib.hid hO
  have q := (Blk.newA w #[.int .i64 0, .slice none 0 0] 32).under hb1
  have Hb1 := Lib.hid (show Below w.heap.size w w1 by (repeat (first | (with_reducible exact Below.refl _ _) | (with_reducible assumption) | (with_reducible refine below_al ?_) | (with_reducible refine below_dr ?_) | (with_reducible refine below_drN ?_) | (with_reducible refine below_set ?_ (by first | exact Nat.le_refl _ | (dsimp only; omega) | omega)) | (with_reducible refine below_tr (by with_reducible assumption) ?_))))
  have hs1 := Lib.hid (show w.heap.size < w1.heap.size by have := hb1.size; simp at this; omega)
  have y0 := q.cell 0 (by simp)
  have y1 := q.cell 1 (by simp)
  have g0 := q.frozen 0
  have g1 := q.frozen 1
  have Q := Lib.hid q
  clear q hO hb1
  go_wp2
  refine bodyPost_ret (v := .agg #[.int .i64 c, .slice (some ⟨g, 0, none⟩) ss.length cap]) (by
    have x0 := ((Q.out.set 0 (.int .i64 c)).set 1 (.slice (some ⟨g, 0, none⟩) ss.length cap)).cell 0 (by simp)
    have x1 := ((Q.out.set 0 (.int .i64 c)).set 1 (.slice (some ⟨g, 0, none⟩) ss.length cap)).cell 1 (by simp)
    simp only [List.set_cons_zero, List.set_cons_succ, List.getElem_cons_zero, List.getElem_cons_succ] at x0 x1
    simp [results, Tryz.results37, go_sem, x0, x1]) rfl ⟨_, _, rfl, ?_, ?_⟩
  · have hB := HO.out
    rw [World.size_alloc] at hB
    exact ((hB.other _ 0 (by omega) _).other _ 1 (by omega) _).weaken (by omega)
  · have hb1 := Hb1.out
    (repeat (first | (with_reducible exact Below.refl _ _) | (with_reducible assumption) | (with_reducible refine below_al ?_) | (with_reducible refine below_dr ?_) | (with_reducible refine below_drN ?_) | (with_reducible refine below_set ?_ (by first | exact Nat.le_refl _ | (dsimp only; omega) | omega)) | (with_reducible refine below_tr (by with_reducible assumption) ?_)))
end Go.Proofs.YtnoehaphbpkpjaaGreat
