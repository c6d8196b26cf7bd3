/- Contracts and lemmas for the statements of this seat, written for this claim; each theorem states its own conditions. -/
import Derived.Test.YtkgnejhflnekaaaFrRu
import Derived.Test.YtkgnejhflnekaaaFrBy
set_option linter.unusedVariables false
set_option linter.unusedSimpArgs false
namespace Go.Proofs.Ytkgnejhflnekaaa
open Go.RowKit
attribute [local go_sem] addUpon_value addUpon_skip addUpon_enter
set_option maxRecDepth 100000 in
set_option maxHeartbeats 1000000 in
theorem isRule_c (c : Int) (ts : List T4) (A : Option Addr) (cx : Nat) (L : List (List Int)) (B : Option Addr) (cr : Nat) (w : World) (hT : TileCells w A ts) (hl : ts.length ≤ 1000000) (hR : RowsC w B L) (hK : CapsC w B L) (hB : Blocks ts.length L) :
    Calls Try.prog 32 #[.agg #[.int .i64 c, .slice A ts.length cx], .slice B L.length cr] w fun e w' => e = .returned (.bool (ruleB ts L)) ∧ Below w.heap.size w w' := by
  have HT := Lib.hid hT
  have HR := Lib.hid hR
  have HK := Lib.hid hK
  have HB := Lib.hid hB
  have HLN := Lib.hid hB.1
  have hLs : L.length ≤ 1000000 := by rw [hB.1]; exact hl
  clear hT hR hK hB
  go_enter Try.func32, Try.ntmps32
  go_wp2
  go_loopw [11] (fun i wr => ∃ k : Nat, k ≤ L.length ∧ i = .int .i64 k ∧ Hid (∀ j, j < k → ruleAt ts L j = true) ∧ Below (w.heap.size + 1) (w.alloc (.cells #[.int .i64 c, .slice A ts.length cx] 26)) wr) (fun i _ => L.length - (intOf i).toNat)
  case atStart => exact ⟨0, by omega, rfl, fun j hj => by omega, Below.refl _ _⟩
  case round =>
    obtain ⟨i, hi, rfl, Hn, hb⟩ := hrel
    obtain ⟨w0, rfl⟩ : ∃ w0, w0 = wr := ⟨wr, rfl⟩
    have hbw : Below w.heap.size w w0 := (((Below.refl w.heap.size w).alloc (Nat.le_refl _) _).trans (hb.mono (by omega)))
    have Hbw := Lib.hid hbw
    have Hb3 := Lib.hid hb
    have d0 : w0.cell? ⟨w.heap.size, 0, none⟩ = some (.int .i64 c) := (hb.cell (p := ⟨w.heap.size, 0, none⟩) (by simp)).trans (by simp)
    have d1 : w0.cell? ⟨w.heap.size, 1, none⟩ = some (.slice A ts.length cx) := (hb.cell (p := ⟨w.heap.size, 1, none⟩) (by simp)).trans (by simp)
    have D0 := Lib.hid (keepC d0)
    have D1 := Lib.hid (keepC d1)
    have hN : w.heap.size < w0.heap.size := by have := hb.size; simp at this; omega
    clear hb
    by_cases h1 : i < L.length
    · have HRw := Lib.hid (HR.out.below hbw)
      have HKw := Lib.hid (HK.out.below HR.out hbw)
      have HTw := Lib.hid (HT.out.below hbw)
      obtain ⟨b, off, b5, off5, c5, eB, q0, q1, q2, q3, q4, i0, i1, i2, i3⟩ := blk4 HRw.out HB.out h1
      have hL4 : L[i].length = 4 := (HB.out.2 i h1).1
      have hcap : 4 ≤ c5 := by
        have := HKw.out i h1 b off (some ⟨b5, off5, none⟩) c5 eB (by rw [hL4]; exact q0)
        rw [hL4] at this; exact this
      have HBad := Lib.hid (ruleB_bad (ts := ts) h1)
      have HFill := Lib.hid (ruleAt_fill (ts := ts) (L := L) (i := i))
      have HPair := Lib.hid (fun k hk => ruleAt_pair (ts := ts) (L := L) (i := i) (k := k) hk)
      have HAll := Lib.hid (ruleAt_all (ts := ts) (L := L) (i := i))
      have HPd : Hid (∀ k, pairOk ts L i k = ((!meetE ts i k || (meetE ts ((L.getD i []).getD 1 0) ((L.getD k []).getD 0 0) && meetE ts ((L.getD i []).getD 3 0) ((L.getD k []).getD 2 0))) && (!meetS ts i k || (meetS ts ((L.getD i []).getD 2 0) ((L.getD k []).getD 0 0) && meetS ts ((L.getD i []).getD 3 0) ((L.getD k []).getD 1 0))))) := fun k => rfl
      have hiT : (0 : Int) ≤ (i : Int) ∧ (i : Int) < ts.length := by have := HLN.out; omega
      have HiT := Lib.hid hiT
      have HF4 := Lib.hid (fun (bb c1 c2 cR : Nat) (wq : World) (h : TileCells wq A ts) r0 r1 y0 y1 y2 y3 => isFilling4_c c ts A cx _ _ _ _ bb b5 b5 off5 (off5 + 2) c1 c2 cR wq h hl i0 i1 i2 i3 r0 r1 y0 y1 y2 y3)
      have Q0 := Lib.hid (keepC q0)
      have Q1 := Lib.hid (keepC q1)
      have Q2 := Lib.hid (keepC q2)
      have Q3 := Lib.hid (keepC q3)
      have Q4 := Lib.hid (keepC q4)
      have I1 := Lib.hid i1
      have I2 := Lib.hid i2
      have I3 := Lib.hid i3
      have hci : (2 : Int) ≤ (c5 : Int) := by omega
      have hn0 : ¬ c5 = 0 := by omega
      have hn2 : ¬ c5 = 2 := by omega
      have HEB := Lib.hid eB
      subst eB
      clear hbw hiT q1 q2 q3 q4 i0 i1 i2 i3 hL4 hcap
      generalize (L.getD i []).getD 0 0 = a0 at *
      generalize (L.getD i []).getD 1 0 = a1 at *
      generalize (L.getD i []).getD 2 0 = a2 at *
      generalize (L.getD i []).getD 3 0 = a3 at *
      generalize hfl : fill4 ts a0 a1 a2 a3 = fl at *
      clear hfl
      have g0 := keepC d0
      have g1 := keepC d1
      cases fl
      · have HF := Lib.hid (HBad.out (HFill.out rfl))
        go_wp2_with fail
        clear q0 d0 d1
        refine wp_region_mix [(0, true), (1, true), (2, true), (3, true), (4, true), (5, false), (6, false), (7, true)] (fun w' => Below (w0).heap.size (w0) w') (by kernel_rfl) (by kernel_rfl) (fun _ _ d _ _ h => by cases d <;> exact h) ((Below.refl _ _).drew) ?_
        repeat (first
          | (refine mix_skip rfl rfl (fun K' hK' => ?_); go_simp; refine hK' _ ?_; clear hK' K')
          | (refine mix_do (v := ?_) rfl rfl (fun w1 hb => ?_) (fun K' hK' => ?_); rotate_left
             · go_simp
               rfl
             go_simp; refine hK' _ ?_; clear hK' K'))
        refine mix_call rfl rfl (fun K' hK' => ?_)
        go_simp
        refine hK' _ _ (below_al (Below.refl _ _).drew) ?_; clear hK' K'
        refine mix_call rfl rfl (fun K' hK' => ?_)
        go_simp
        refine (HF4.out _ _ _ _ _ (HTw.out.below (below_al (Below.refl _ _).drew)) (cell_alloc_at _ _ _ _ _ rfl) (cell_alloc_at _ _ _ _ _ rfl) (cell_alloc_old _ _ _ _ _ (Q1.out _ (Below.refl _ _).drew)) (cell_alloc_old _ _ _ _ _ (Q2.out _ (Below.refl _ _).drew)) (cell_alloc_old _ _ _ _ _ (Q3.out _ (Below.refl _ _).drew)) (cell_alloc_old _ _ _ _ _ (Q4.out _ (Below.refl _ _).drew))).mono ?_
        rintro e w5 ⟨rfl, hb5⟩
        have Hb5 : Hid (Below w0.heap.size w0 w5) := by (show Below _ _ _); exact (below_al (Below.refl _ _).drew).trans (hb5.mono (by simp))
        refine hK' _ _ (Hb5.out) ?_; clear hK' K'
        repeat (first
          | (refine mix_skip rfl rfl (fun K' hK' => ?_); go_simp; refine hK' _ ?_; clear hK' K')
          | (refine mix_do (v := ?_) rfl rfl (fun w1 hb => ?_) (fun K' hK' => ?_); rotate_left
             · go_simp
               rfl
             go_simp; refine hK' _ ?_; clear hK' K'))
        refine mix_nil ?_
        clear hb5 g0 g1
        go_wp2
        go_ret
        exact ⟨ret_bool HF.out.symm, Hbw.out.trans (Hb5.out.mono Hbw.out.size)⟩
      · have HAll2 := Lib.hid (HAll.out rfl)
        go_wp2_with fail
        clear q0 d0 d1
        refine wp_region_mix [(0, true), (1, true), (2, true), (3, true), (4, true), (5, false), (6, false), (7, true)] (fun w' => Below (w0).heap.size (w0) w') (by kernel_rfl) (by kernel_rfl) (fun _ _ d _ _ h => by cases d <;> exact h) ((Below.refl _ _).drew) ?_
        repeat (first
          | (refine mix_skip rfl rfl (fun K' hK' => ?_); go_simp; refine hK' _ ?_; clear hK' K')
          | (refine mix_do (v := ?_) rfl rfl (fun w1 hb => ?_) (fun K' hK' => ?_); rotate_left
             · go_simp
               rfl
             go_simp; refine hK' _ ?_; clear hK' K'))
        refine mix_call rfl rfl (fun K' hK' => ?_)
        go_simp
        refine hK' _ _ (below_al (Below.refl _ _).drew) ?_; clear hK' K'
        refine mix_call rfl rfl (fun K' hK' => ?_)
        go_simp
        refine (HF4.out _ _ _ _ _ (HTw.out.below (below_al (Below.refl _ _).drew)) (cell_alloc_at _ _ _ _ _ rfl) (cell_alloc_at _ _ _ _ _ rfl) (cell_alloc_old _ _ _ _ _ (Q1.out _ (Below.refl _ _).drew)) (cell_alloc_old _ _ _ _ _ (Q2.out _ (Below.refl _ _).drew)) (cell_alloc_old _ _ _ _ _ (Q3.out _ (Below.refl _ _).drew)) (cell_alloc_old _ _ _ _ _ (Q4.out _ (Below.refl _ _).drew))).mono ?_
        rintro e w5 ⟨rfl, hb5⟩
        have Hb5 : Hid (Below w0.heap.size w0 w5) := by (show Below _ _ _); exact (below_al (Below.refl _ _).drew).trans (hb5.mono (by simp))
        refine hK' _ _ (Hb5.out) ?_; clear hK' K'
        repeat (first
          | (refine mix_skip rfl rfl (fun K' hK' => ?_); go_simp; refine hK' _ ?_; clear hK' K')
          | (refine mix_do (v := ?_) rfl rfl (fun w1 hb => ?_) (fun K' hK' => ?_); rotate_left
             · go_simp
               rfl
             go_simp; refine hK' _ ?_; clear hK' K'))
        refine mix_nil ?_
        clear hb5 g0 g1
        go_wp2_with fail
        go_loopw [26] (fun x wz => ∃ k : Nat, k ≤ L.length ∧ x = .int .i64 k ∧ Hid (∀ j, j < k → pairOk ts L i j = true) ∧ Below w0.heap.size w0 wz) (fun x _ => L.length - (intOf x).toNat)
        case atStart => exact ⟨0, by omega, rfl, fun j hj => by omega, Hb5.out⟩
        case round =>
          obtain ⟨k, hk, rfl, Hm, hb2⟩ := hrel
          have Hb2 := Lib.hid hb2
          have hN2 : w.heap.size < wr.heap.size := by have := hb2.size; omega
          by_cases hkL : k < L.length
          · obtain ⟨b', off', b6, off6, c6, eB', p0, p1, p2, p3, p4, j0, j1, j2, j3⟩ := blk4 (HRw.out.below hb2) HB.out hkL
            injection eB' with eB'
            injection eB' with s1 s2
            subst s1 s2
            have hkT : (0 : Int) ≤ (k : Int) ∧ (k : Int) < ts.length := by have := HLN.out; omega
            have HBad2 := Lib.hid (fun h => HBad.out (HPair.out k hkL h))
            have HP := Lib.hid (HPd.out k)
            have HNext : Hid (pairOk ts L i k = true → ∀ j, j < k + 1 → pairOk ts L i j = true) := fun h j hj => by
              by_cases e : j = k
              · subst e; exact h
              · exact Hm.out j (by omega)
            generalize (L.getD k []).getD 0 0 = v0 at *
            generalize (L.getD k []).getD 1 0 = v1 at *
            generalize (L.getD k []).getD 2 0 = v2 at *
            have HE1 := Lib.hid (fun w h => meetsE_c c ts A cx (i : Int) (k : Int) w h hl HiT.out hkT)
            have HE2 := Lib.hid (fun w h => meetsE_c c ts A cx a1 v0 w h hl I1.out j0)
            have HE3 := Lib.hid (fun w h => meetsE_c c ts A cx a3 v2 w h hl I3.out j2)
            have HS1 := Lib.hid (fun w h => meetsS_c c ts A cx (i : Int) (k : Int) w h hl HiT.out hkT)
            have HS2 := Lib.hid (fun w h => meetsS_c c ts A cx a2 v0 w h hl I2.out j0)
            have HS3 := Lib.hid (fun w h => meetsS_c c ts A cx a3 v1 w h hl I3.out j1)
            have HTr := Lib.hid (HTw.out.below hb2)
            have g0 := keepC (D0.out _ hb2)
            have g1 := keepC (D1.out _ hb2)
            have g2 := keepC (Q2.out _ hb2)
            have g3 := keepC (Q3.out _ hb2)
            have g4 := keepC (Q4.out _ hb2)
            have g5 := keepC p1
            have g6 := keepC p2
            have g7 := keepC p3
            generalize meetE ts (i : Int) (k : Int) = e1 at *
            generalize meetE ts a1 v0 = e2 at *
            generalize meetE ts a3 v2 = e3 at *
            generalize meetS ts (i : Int) (k : Int) = f1 at *
            generalize meetS ts a2 v0 = f2 at *
            generalize meetS ts a3 v1 = f3 at *
            clear hb2 p1 p2 p3 p4 j0 j1 j2 j3 hkT
            cases e1
            · cases f1
              · have HF := Lib.hid (HNext.out (by rw [HP.out]; rfl))
                go_wp2_with fail
                clear p0
                refine wp_region_add (fun w' => Below (wr).heap.size (wr) w') (by kernel_rfl) (by kernel_rfl) ((Below.refl _ _).drew) ?_
                repeat (first
                  | (refine add_skip rfl (fun K' hK' => ?_); go_simp; refine hK' _ ?_; clear hK' K')
                  | (refine add_do (v := ?_) rfl (fun w1 hb => ?_) (fun K' hK' => ?_); rotate_left
                     · go_simp
                       first
                       | (with_reducible exact rfl)
                       | (with_reducible exact ⟨rfl, hb⟩)
                       | (with_reducible exact (addCall (HE1.out w1 (HTr.out.below hb)) hb).2)
                       | (with_reducible exact (addCall (HE2.out w1 (HTr.out.below hb)) hb).2)
                       | (with_reducible exact (addCall (HE3.out w1 (HTr.out.below hb)) hb).2)
                       | exact (addCall (HE1.out w1 (HTr.out.below hb)) hb).2
                       | exact (addCall (HE2.out w1 (HTr.out.below hb)) hb).2
                       | exact (addCall (HE3.out w1 (HTr.out.below hb)) hb).2
                       | exact rfl
                       | exact ⟨rfl, hb⟩
                     go_simp; refine hK' _ ?_; clear hK' K'))
                refine add_nil ?_
                intro wa hba
                go_wp2_with fail
                have Hba := Lib.hid hba
                refine wp_region_add (fun w' => Below (wr).heap.size (wr) w') (by kernel_rfl) (by kernel_rfl) (Hba.out.drew) ?_
                repeat (first
                  | (refine add_skip rfl (fun K' hK' => ?_); go_simp; refine hK' _ ?_; clear hK' K')
                  | (refine add_do (v := ?_) rfl (fun w1 hb => ?_) (fun K' hK' => ?_); rotate_left
                     · go_simp
                       first
                       | (with_reducible exact rfl)
                       | (with_reducible exact ⟨rfl, hb⟩)
                       | (with_reducible exact (addCall (HS1.out w1 (HTr.out.below hb)) hb).2)
                       | (with_reducible exact (addCall (HS2.out w1 (HTr.out.below hb)) hb).2)
                       | (with_reducible exact (addCall (HS3.out w1 (HTr.out.below hb)) hb).2)
                       | exact (addCall (HS1.out w1 (HTr.out.below hb)) hb).2
                       | exact (addCall (HS2.out w1 (HTr.out.below hb)) hb).2
                       | exact (addCall (HS3.out w1 (HTr.out.below hb)) hb).2
                       | exact rfl
                       | exact ⟨rfl, hb⟩
                     go_simp; refine hK' _ ?_; clear hK' K'))
                refine add_nil ?_
                intro wa hba
                go_wp2
                go_roundw
                case rel => exact ⟨k + 1, by omega, by go_num, HF.out, Hb2.out.trans (hba.mono Hb2.out.size)⟩
                case measure => simp [intOf]; omega
              · cases f2
                · have HF := Lib.hid (HBad2.out (by rw [HP.out]; simp))
                  go_wp2_with fail
                  clear p0
                  refine wp_region_add (fun w' => Below (wr).heap.size (wr) w') (by kernel_rfl) (by kernel_rfl) ((Below.refl _ _).drew) ?_
                  repeat (first
                    | (refine add_skip rfl (fun K' hK' => ?_); go_simp; refine hK' _ ?_; clear hK' K')
                    | (refine add_do (v := ?_) rfl (fun w1 hb => ?_) (fun K' hK' => ?_); rotate_left
                       · go_simp
                         first
                         | (with_reducible exact rfl)
                         | (with_reducible exact ⟨rfl, hb⟩)
                         | (with_reducible exact (addCall (HE1.out w1 (HTr.out.below hb)) hb).2)
                         | (with_reducible exact (addCall (HE2.out w1 (HTr.out.below hb)) hb).2)
                         | (with_reducible exact (addCall (HE3.out w1 (HTr.out.below hb)) hb).2)
                         | exact (addCall (HE1.out w1 (HTr.out.below hb)) hb).2
                         | exact (addCall (HE2.out w1 (HTr.out.below hb)) hb).2
                         | exact (addCall (HE3.out w1 (HTr.out.below hb)) hb).2
                         | exact rfl
                         | exact ⟨rfl, hb⟩
                       go_simp; refine hK' _ ?_; clear hK' K'))
                  refine add_nil ?_
                  intro wa hba
                  go_wp2_with fail
                  have Hba := Lib.hid hba
                  refine wp_region_add (fun w' => Below (wr).heap.size (wr) w') (by kernel_rfl) (by kernel_rfl) (Hba.out.drew) ?_
                  repeat (first
                    | (refine add_skip rfl (fun K' hK' => ?_); go_simp; refine hK' _ ?_; clear hK' K')
                    | (refine add_do (v := ?_) rfl (fun w1 hb => ?_) (fun K' hK' => ?_); rotate_left
                       · go_simp
                         first
                         | (with_reducible exact rfl)
                         | (with_reducible exact ⟨rfl, hb⟩)
                         | (with_reducible exact (addCall (HS1.out w1 (HTr.out.below hb)) hb).2)
                         | (with_reducible exact (addCall (HS2.out w1 (HTr.out.below hb)) hb).2)
                         | (with_reducible exact (addCall (HS3.out w1 (HTr.out.below hb)) hb).2)
                         | exact (addCall (HS1.out w1 (HTr.out.below hb)) hb).2
                         | exact (addCall (HS2.out w1 (HTr.out.below hb)) hb).2
                         | exact (addCall (HS3.out w1 (HTr.out.below hb)) hb).2
                         | exact rfl
                         | exact ⟨rfl, hb⟩
                       go_simp; refine hK' _ ?_; clear hK' K'))
                  refine add_nil ?_
                  intro wa hba
                  go_wp2
                  go_ret
                  exact ⟨ret_bool HF.out.symm, Hbw.out.trans ((Hb2.out.trans (hba.mono Hb2.out.size)).mono Hbw.out.size)⟩
                · cases f3
                  · have HF := Lib.hid (HBad2.out (by rw [HP.out]; simp))
                    go_wp2_with fail
                    clear p0
                    refine wp_region_add (fun w' => Below (wr).heap.size (wr) w') (by kernel_rfl) (by kernel_rfl) ((Below.refl _ _).drew) ?_
                    repeat (first
                      | (refine add_skip rfl (fun K' hK' => ?_); go_simp; refine hK' _ ?_; clear hK' K')
                      | (refine add_do (v := ?_) rfl (fun w1 hb => ?_) (fun K' hK' => ?_); rotate_left
                         · go_simp
                           first
                           | (with_reducible exact rfl)
                           | (with_reducible exact ⟨rfl, hb⟩)
                           | (with_reducible exact (addCall (HE1.out w1 (HTr.out.below hb)) hb).2)
                           | (with_reducible exact (addCall (HE2.out w1 (HTr.out.below hb)) hb).2)
                           | (with_reducible exact (addCall (HE3.out w1 (HTr.out.below hb)) hb).2)
                           | exact (addCall (HE1.out w1 (HTr.out.below hb)) hb).2
                           | exact (addCall (HE2.out w1 (HTr.out.below hb)) hb).2
                           | exact (addCall (HE3.out w1 (HTr.out.below hb)) hb).2
                           | exact rfl
                           | exact ⟨rfl, hb⟩
                         go_simp; refine hK' _ ?_; clear hK' K'))
                    refine add_nil ?_
                    intro wa hba
                    go_wp2_with fail
                    have Hba := Lib.hid hba
                    refine wp_region_add (fun w' => Below (wr).heap.size (wr) w') (by kernel_rfl) (by kernel_rfl) (Hba.out.drew) ?_
                    repeat (first
                      | (refine add_skip rfl (fun K' hK' => ?_); go_simp; refine hK' _ ?_; clear hK' K')
                      | (refine add_do (v := ?_) rfl (fun w1 hb => ?_) (fun K' hK' => ?_); rotate_left
                         · go_simp
                           first
                           | (with_reducible exact rfl)
                           | (with_reducible exact ⟨rfl, hb⟩)
                           | (with_reducible exact (addCall (HS1.out w1 (HTr.out.below hb)) hb).2)
                           | (with_reducible exact (addCall (HS2.out w1 (HTr.out.below hb)) hb).2)
                           | (with_reducible exact (addCall (HS3.out w1 (HTr.out.below hb)) hb).2)
                           | exact (addCall (HS1.out w1 (HTr.out.below hb)) hb).2
                           | exact (addCall (HS2.out w1 (HTr.out.below hb)) hb).2
                           | exact (addCall (HS3.out w1 (HTr.out.below hb)) hb).2
                           | exact rfl
                           | exact ⟨rfl, hb⟩
                         go_simp; refine hK' _ ?_; clear hK' K'))
                    refine add_nil ?_
                    intro wa hba
                    go_wp2
                    go_ret
                    exact ⟨ret_bool HF.out.symm, Hbw.out.trans ((Hb2.out.trans (hba.mono Hb2.out.size)).mono Hbw.out.size)⟩
                  · have HF := Lib.hid (HNext.out (by rw [HP.out]; rfl))
                    go_wp2_with fail
                    clear p0
                    refine wp_region_add (fun w' => Below (wr).heap.size (wr) w') (by kernel_rfl) (by kernel_rfl) ((Below.refl _ _).drew) ?_
                    repeat (first
                      | (refine add_skip rfl (fun K' hK' => ?_); go_simp; refine hK' _ ?_; clear hK' K')
                      | (refine add_do (v := ?_) rfl (fun w1 hb => ?_) (fun K' hK' => ?_); rotate_left
                         · go_simp
                           first
                           | (with_reducible exact rfl)
                           | (with_reducible exact ⟨rfl, hb⟩)
                           | (with_reducible exact (addCall (HE1.out w1 (HTr.out.below hb)) hb).2)
                           | (with_reducible exact (addCall (HE2.out w1 (HTr.out.below hb)) hb).2)
                           | (with_reducible exact (addCall (HE3.out w1 (HTr.out.below hb)) hb).2)
                           | exact (addCall (HE1.out w1 (HTr.out.below hb)) hb).2
                           | exact (addCall (HE2.out w1 (HTr.out.below hb)) hb).2
                           | exact (addCall (HE3.out w1 (HTr.out.below hb)) hb).2
                           | exact rfl
                           | exact ⟨rfl, hb⟩
                         go_simp; refine hK' _ ?_; clear hK' K'))
                    refine add_nil ?_
                    intro wa hba
                    go_wp2_with fail
                    have Hba := Lib.hid hba
                    refine wp_region_add (fun w' => Below (wr).heap.size (wr) w') (by kernel_rfl) (by kernel_rfl) (Hba.out.drew) ?_
                    repeat (first
                      | (refine add_skip rfl (fun K' hK' => ?_); go_simp; refine hK' _ ?_; clear hK' K')
                      | (refine add_do (v := ?_) rfl (fun w1 hb => ?_) (fun K' hK' => ?_); rotate_left
                         · go_simp
                           first
                           | (with_reducible exact rfl)
                           | (with_reducible exact ⟨rfl, hb⟩)
                           | (with_reducible exact (addCall (HS1.out w1 (HTr.out.below hb)) hb).2)
                           | (with_reducible exact (addCall (HS2.out w1 (HTr.out.below hb)) hb).2)
                           | (with_reducible exact (addCall (HS3.out w1 (HTr.out.below hb)) hb).2)
                           | exact (addCall (HS1.out w1 (HTr.out.below hb)) hb).2
                           | exact (addCall (HS2.out w1 (HTr.out.below hb)) hb).2
                           | exact (addCall (HS3.out w1 (HTr.out.below hb)) hb).2
                           | exact rfl
                           | exact ⟨rfl, hb⟩
                         go_simp; refine hK' _ ?_; clear hK' K'))
                    refine add_nil ?_
                    intro wa hba
                    go_wp2
                    go_roundw
                    case rel => exact ⟨k + 1, by omega, by go_num, HF.out, Hb2.out.trans (hba.mono Hb2.out.size)⟩
                    case measure => simp [intOf]; omega
            · cases e2
              · have HF := Lib.hid (HBad2.out (by rw [HP.out]; simp))
                go_wp2_with fail
                clear p0
                refine wp_region_add (fun w' => Below (wr).heap.size (wr) w') (by kernel_rfl) (by kernel_rfl) ((Below.refl _ _).drew) ?_
                repeat (first
                  | (refine add_skip rfl (fun K' hK' => ?_); go_simp; refine hK' _ ?_; clear hK' K')
                  | (refine add_do (v := ?_) rfl (fun w1 hb => ?_) (fun K' hK' => ?_); rotate_left
                     · go_simp
                       first
                       | (with_reducible exact rfl)
                       | (with_reducible exact ⟨rfl, hb⟩)
                       | (with_reducible exact (addCall (HE1.out w1 (HTr.out.below hb)) hb).2)
                       | (with_reducible exact (addCall (HE2.out w1 (HTr.out.below hb)) hb).2)
                       | (with_reducible exact (addCall (HE3.out w1 (HTr.out.below hb)) hb).2)
                       | exact (addCall (HE1.out w1 (HTr.out.below hb)) hb).2
                       | exact (addCall (HE2.out w1 (HTr.out.below hb)) hb).2
                       | exact (addCall (HE3.out w1 (HTr.out.below hb)) hb).2
                       | exact rfl
                       | exact ⟨rfl, hb⟩
                     go_simp; refine hK' _ ?_; clear hK' K'))
                refine add_nil ?_
                intro wa hba
                go_wp2
                go_ret
                exact ⟨ret_bool HF.out.symm, Hbw.out.trans ((Hb2.out.trans (hba.mono Hb2.out.size)).mono Hbw.out.size)⟩
              · cases e3
                · have HF := Lib.hid (HBad2.out (by rw [HP.out]; simp))
                  go_wp2_with fail
                  clear p0
                  refine wp_region_add (fun w' => Below (wr).heap.size (wr) w') (by kernel_rfl) (by kernel_rfl) ((Below.refl _ _).drew) ?_
                  repeat (first
                    | (refine add_skip rfl (fun K' hK' => ?_); go_simp; refine hK' _ ?_; clear hK' K')
                    | (refine add_do (v := ?_) rfl (fun w1 hb => ?_) (fun K' hK' => ?_); rotate_left
                       · go_simp
                         first
                         | (with_reducible exact rfl)
                         | (with_reducible exact ⟨rfl, hb⟩)
                         | (with_reducible exact (addCall (HE1.out w1 (HTr.out.below hb)) hb).2)
                         | (with_reducible exact (addCall (HE2.out w1 (HTr.out.below hb)) hb).2)
                         | (with_reducible exact (addCall (HE3.out w1 (HTr.out.below hb)) hb).2)
                         | exact (addCall (HE1.out w1 (HTr.out.below hb)) hb).2
                         | exact (addCall (HE2.out w1 (HTr.out.below hb)) hb).2
                         | exact (addCall (HE3.out w1 (HTr.out.below hb)) hb).2
                         | exact rfl
                         | exact ⟨rfl, hb⟩
                       go_simp; refine hK' _ ?_; clear hK' K'))
                  refine add_nil ?_
                  intro wa hba
                  go_wp2
                  go_ret
                  exact ⟨ret_bool HF.out.symm, Hbw.out.trans ((Hb2.out.trans (hba.mono Hb2.out.size)).mono Hbw.out.size)⟩
                · cases f1
                  · have HF := Lib.hid (HNext.out (by rw [HP.out]; rfl))
                    go_wp2_with fail
                    clear p0
                    refine wp_region_add (fun w' => Below (wr).heap.size (wr) w') (by kernel_rfl) (by kernel_rfl) ((Below.refl _ _).drew) ?_
                    repeat (first
                      | (refine add_skip rfl (fun K' hK' => ?_); go_simp; refine hK' _ ?_; clear hK' K')
                      | (refine add_do (v := ?_) rfl (fun w1 hb => ?_) (fun K' hK' => ?_); rotate_left
                         · go_simp
                           first
                           | (with_reducible exact rfl)
                           | (with_reducible exact ⟨rfl, hb⟩)
                           | (with_reducible exact (addCall (HE1.out w1 (HTr.out.below hb)) hb).2)
                           | (with_reducible exact (addCall (HE2.out w1 (HTr.out.below hb)) hb).2)
                           | (with_reducible exact (addCall (HE3.out w1 (HTr.out.below hb)) hb).2)
                           | exact (addCall (HE1.out w1 (HTr.out.below hb)) hb).2
                           | exact (addCall (HE2.out w1 (HTr.out.below hb)) hb).2
                           | exact (addCall (HE3.out w1 (HTr.out.below hb)) hb).2
                           | exact rfl
                           | exact ⟨rfl, hb⟩
                         go_simp; refine hK' _ ?_; clear hK' K'))
                    refine add_nil ?_
                    intro wa hba
                    go_wp2_with fail
                    have Hba := Lib.hid hba
                    refine wp_region_add (fun w' => Below (wr).heap.size (wr) w') (by kernel_rfl) (by kernel_rfl) (Hba.out.drew) ?_
                    repeat (first
                      | (refine add_skip rfl (fun K' hK' => ?_); go_simp; refine hK' _ ?_; clear hK' K')
                      | (refine add_do (v := ?_) rfl (fun w1 hb => ?_) (fun K' hK' => ?_); rotate_left
                         · go_simp
                           first
                           | (with_reducible exact rfl)
                           | (with_reducible exact ⟨rfl, hb⟩)
                           | (with_reducible exact (addCall (HS1.out w1 (HTr.out.below hb)) hb).2)
                           | (with_reducible exact (addCall (HS2.out w1 (HTr.out.below hb)) hb).2)
                           | (with_reducible exact (addCall (HS3.out w1 (HTr.out.below hb)) hb).2)
                           | exact (addCall (HS1.out w1 (HTr.out.below hb)) hb).2
                           | exact (addCall (HS2.out w1 (HTr.out.below hb)) hb).2
                           | exact (addCall (HS3.out w1 (HTr.out.below hb)) hb).2
                           | exact rfl
                           | exact ⟨rfl, hb⟩
                         go_simp; refine hK' _ ?_; clear hK' K'))
                    refine add_nil ?_
                    intro wa hba
                    go_wp2
                    go_roundw
                    case rel => exact ⟨k + 1, by omega, by go_num, HF.out, Hb2.out.trans (hba.mono Hb2.out.size)⟩
                    case measure => simp [intOf]; omega
                  · cases f2
                    · have HF := Lib.hid (HBad2.out (by rw [HP.out]; simp))
                      go_wp2_with fail
                      clear p0
                      refine wp_region_add (fun w' => Below (wr).heap.size (wr) w') (by kernel_rfl) (by kernel_rfl) ((Below.refl _ _).drew) ?_
                      repeat (first
                        | (refine add_skip rfl (fun K' hK' => ?_); go_simp; refine hK' _ ?_; clear hK' K')
                        | (refine add_do (v := ?_) rfl (fun w1 hb => ?_) (fun K' hK' => ?_); rotate_left
                           · go_simp
                             first
                             | (with_reducible exact rfl)
                             | (with_reducible exact ⟨rfl, hb⟩)
                             | (with_reducible exact (addCall (HE1.out w1 (HTr.out.below hb)) hb).2)
                             | (with_reducible exact (addCall (HE2.out w1 (HTr.out.below hb)) hb).2)
                             | (with_reducible exact (addCall (HE3.out w1 (HTr.out.below hb)) hb).2)
                             | exact (addCall (HE1.out w1 (HTr.out.below hb)) hb).2
                             | exact (addCall (HE2.out w1 (HTr.out.below hb)) hb).2
                             | exact (addCall (HE3.out w1 (HTr.out.below hb)) hb).2
                             | exact rfl
                             | exact ⟨rfl, hb⟩
                           go_simp; refine hK' _ ?_; clear hK' K'))
                      refine add_nil ?_
                      intro wa hba
                      go_wp2_with fail
                      have Hba := Lib.hid hba
                      refine wp_region_add (fun w' => Below (wr).heap.size (wr) w') (by kernel_rfl) (by kernel_rfl) (Hba.out.drew) ?_
                      repeat (first
                        | (refine add_skip rfl (fun K' hK' => ?_); go_simp; refine hK' _ ?_; clear hK' K')
                        | (refine add_do (v := ?_) rfl (fun w1 hb => ?_) (fun K' hK' => ?_); rotate_left
                           · go_simp
                             first
                             | (with_reducible exact rfl)
                             | (with_reducible exact ⟨rfl, hb⟩)
                             | (with_reducible exact (addCall (HS1.out w1 (HTr.out.below hb)) hb).2)
                             | (with_reducible exact (addCall (HS2.out w1 (HTr.out.below hb)) hb).2)
                             | (with_reducible exact (addCall (HS3.out w1 (HTr.out.below hb)) hb).2)
                             | exact (addCall (HS1.out w1 (HTr.out.below hb)) hb).2
                             | exact (addCall (HS2.out w1 (HTr.out.below hb)) hb).2
                             | exact (addCall (HS3.out w1 (HTr.out.below hb)) hb).2
                             | exact rfl
                             | exact ⟨rfl, hb⟩
                           go_simp; refine hK' _ ?_; clear hK' K'))
                      refine add_nil ?_
                      intro wa hba
                      go_wp2
                      go_ret
                      exact ⟨ret_bool HF.out.symm, Hbw.out.trans ((Hb2.out.trans (hba.mono Hb2.out.size)).mono Hbw.out.size)⟩
                    · cases f3
                      · have HF := Lib.hid (HBad2.out (by rw [HP.out]; simp))
                        go_wp2_with fail
                        clear p0
                        refine wp_region_add (fun w' => Below (wr).heap.size (wr) w') (by kernel_rfl) (by kernel_rfl) ((Below.refl _ _).drew) ?_
                        repeat (first
                          | (refine add_skip rfl (fun K' hK' => ?_); go_simp; refine hK' _ ?_; clear hK' K')
                          | (refine add_do (v := ?_) rfl (fun w1 hb => ?_) (fun K' hK' => ?_); rotate_left
                             · go_simp
                               first
                               | (with_reducible exact rfl)
                               | (with_reducible exact ⟨rfl, hb⟩)
                               | (with_reducible exact (addCall (HE1.out w1 (HTr.out.below hb)) hb).2)
                               | (with_reducible exact (addCall (HE2.out w1 (HTr.out.below hb)) hb).2)
                               | (with_reducible exact (addCall (HE3.out w1 (HTr.out.below hb)) hb).2)
                               | exact (addCall (HE1.out w1 (HTr.out.below hb)) hb).2
                               | exact (addCall (HE2.out w1 (HTr.out.below hb)) hb).2
                               | exact (addCall (HE3.out w1 (HTr.out.below hb)) hb).2
                               | exact rfl
                               | exact ⟨rfl, hb⟩
                             go_simp; refine hK' _ ?_; clear hK' K'))
                        refine add_nil ?_
                        intro wa hba
                        go_wp2_with fail
                        have Hba := Lib.hid hba
                        refine wp_region_add (fun w' => Below (wr).heap.size (wr) w') (by kernel_rfl) (by kernel_rfl) (Hba.out.drew) ?_
                        repeat (first
                          | (refine add_skip rfl (fun K' hK' => ?_); go_simp; refine hK' _ ?_; clear hK' K')
                          | (refine add_do (v := ?_) rfl (fun w1 hb => ?_) (fun K' hK' => ?_); rotate_left
                             · go_simp
                               first
                               | (with_reducible exact rfl)
                               | (with_reducible exact ⟨rfl, hb⟩)
                               | (with_reducible exact (addCall (HS1.out w1 (HTr.out.below hb)) hb).2)
                               | (with_reducible exact (addCall (HS2.out w1 (HTr.out.below hb)) hb).2)
                               | (with_reducible exact (addCall (HS3.out w1 (HTr.out.below hb)) hb).2)
                               | exact (addCall (HS1.out w1 (HTr.out.below hb)) hb).2
                               | exact (addCall (HS2.out w1 (HTr.out.below hb)) hb).2
                               | exact (addCall (HS3.out w1 (HTr.out.below hb)) hb).2
                               | exact rfl
                               | exact ⟨rfl, hb⟩
                             go_simp; refine hK' _ ?_; clear hK' K'))
                        refine add_nil ?_
                        intro wa hba
                        go_wp2
                        go_ret
                        exact ⟨ret_bool HF.out.symm, Hbw.out.trans ((Hb2.out.trans (hba.mono Hb2.out.size)).mono Hbw.out.size)⟩
                      · have HF := Lib.hid (HNext.out (by rw [HP.out]; rfl))
                        go_wp2_with fail
                        clear p0
                        refine wp_region_add (fun w' => Below (wr).heap.size (wr) w') (by kernel_rfl) (by kernel_rfl) ((Below.refl _ _).drew) ?_
                        repeat (first
                          | (refine add_skip rfl (fun K' hK' => ?_); go_simp; refine hK' _ ?_; clear hK' K')
                          | (refine add_do (v := ?_) rfl (fun w1 hb => ?_) (fun K' hK' => ?_); rotate_left
                             · go_simp
                               first
                               | (with_reducible exact rfl)
                               | (with_reducible exact ⟨rfl, hb⟩)
                               | (with_reducible exact (addCall (HE1.out w1 (HTr.out.below hb)) hb).2)
                               | (with_reducible exact (addCall (HE2.out w1 (HTr.out.below hb)) hb).2)
                               | (with_reducible exact (addCall (HE3.out w1 (HTr.out.below hb)) hb).2)
                               | exact (addCall (HE1.out w1 (HTr.out.below hb)) hb).2
                               | exact (addCall (HE2.out w1 (HTr.out.below hb)) hb).2
                               | exact (addCall (HE3.out w1 (HTr.out.below hb)) hb).2
                               | exact rfl
                               | exact ⟨rfl, hb⟩
                             go_simp; refine hK' _ ?_; clear hK' K'))
                        refine add_nil ?_
                        intro wa hba
                        go_wp2_with fail
                        have Hba := Lib.hid hba
                        refine wp_region_add (fun w' => Below (wr).heap.size (wr) w') (by kernel_rfl) (by kernel_rfl) (Hba.out.drew) ?_
                        repeat (first
                          | (refine add_skip rfl (fun K' hK' => ?_); go_simp; refine hK' _ ?_; clear hK' K')
                          | (refine add_do (v := ?_) rfl (fun w1 hb => ?_) (fun K' hK' => ?_); rotate_left
                             · go_simp
                               first
                               | (with_reducible exact rfl)
                               | (with_reducible exact ⟨rfl, hb⟩)
                               | (with_reducible exact (addCall (HS1.out w1 (HTr.out.below hb)) hb).2)
                               | (with_reducible exact (addCall (HS2.out w1 (HTr.out.below hb)) hb).2)
                               | (with_reducible exact (addCall (HS3.out w1 (HTr.out.below hb)) hb).2)
                               | exact (addCall (HS1.out w1 (HTr.out.below hb)) hb).2
                               | exact (addCall (HS2.out w1 (HTr.out.below hb)) hb).2
                               | exact (addCall (HS3.out w1 (HTr.out.below hb)) hb).2
                               | exact rfl
                               | exact ⟨rfl, hb⟩
                             go_simp; refine hK' _ ?_; clear hK' K'))
                        refine add_nil ?_
                        intro wa hba
                        go_wp2
                        go_roundw
                        case rel => exact ⟨k + 1, by omega, by go_num, HF.out, Hb2.out.trans (hba.mono Hb2.out.size)⟩
                        case measure => simp [intOf]; omega
          · have HF := Lib.hid (HAll2.out (fun j hj => Hm.out j (by omega)))
            clear hb2
            go_wp2_with fail
            go_roundw
            case rel => exact ⟨i + 1, by omega, by go_num, fun j hj => by
              by_cases e : j = i
              · subst e; exact HF.out
              · exact Hn.out j (by omega), Hb3.out.trans (Hb2.out.mono (by omega))⟩
            case measure => simp [intOf]; omega
    · have HF := Lib.hid (ruleB_all (fun j hj => Hn.out j (by omega)))
      clear hbw d0 d1
      go_wp2
      go_ret
      exact ⟨ret_bool HF.out.symm, Hbw.out⟩

end Go.Proofs.Ytkgnejhflnekaaa
