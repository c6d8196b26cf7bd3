/- Contracts and lemmas for the statements of this seat, written for this claim; each theorem states its own conditions. -/
import Derived.Deep.Cut
import Derived.Deep.CutBlock
import Derived.Deep.DeepCutAuto
import Derived.Deep.RegionHeld3
import Derived.Test.YtnoehaphbpkpjaaGreatFoY7
import Derived.Test.YtnoehaphbpkpjaaGreatFoY9
import Derived.Test.YtnoehaphbpkpjaaGreatFoSr
import Derived.Test.YtnoehaphbpkpjaaGreatFoJ3
import Derived.Test.YtnoehaphbpkpjaaGreatFoJ7
import Derived.Test.YtnoehaphbpkpjaaGreatFoSe
import Derived.Test.YtnoehaphbpkpjaaGreatFoBk
import Derived.Test.YtnoehaphbpkpjaaGreatFoI3
import Derived.Test.YtnoehaphbpkpjaaGreatFoBy
import Derived.Test.YtnoehaphbpkpjaaGreatFoAdd
set_option linter.unusedVariables false
set_option linter.unusedSimpArgs false
namespace Go.Proofs.YtnoehaphbpkpjaaGreat
open Go.RowKit
/-- where a draw of a set stands: its result's box, the source -/
structure LD (w wr : World) (g : Nat) (code : List Int) : Prop where
  res : Blk wr w.heap.size [.int .i64 0, .slice none 0 0] 32
  src : Src wr g code
  sub : w.grownBy wr (some g)
  hg : g < w.heap.size
  sz : w.heap.size + 1 ≤ wr.heap.size
theorem LD.app {w wr W : World} {g : Nat} {code : List Int} (h : LD w wr g code) {r : Option Nat} (hG : wr.grownBy W r) (hr : ∀ k, r = some k → w.heap.size + 1 ≤ k) : LD w W g code :=
  ⟨h.res.kept1 hG (fun e => by have := hr _ (by first | exact e | exact e.symm); omega), h.src.app hG (fun k hk => by have := hr k hk; have := h.hg; omega), grown_app h.sub hG (fun k hk => by have := hr k hk; omega), h.hg, Nat.le_trans h.sz hG.size⟩
theorem LD.grow {w wr W : World} {g : Nat} {code : List Int} (h : LD w wr g code) (hS : Src W g code) (hG : wr.grownBy W (some g)) : LD w W g code :=
  ⟨h.res.kept1 hG (by have := h.hg; intro e; injection e with e; omega), hS, h.sub.trans hG, h.hg, Nat.le_trans h.sz hG.size⟩
theorem LD.below {w wr W : World} {g : Nat} {code : List Int} (h : LD w wr g code) (hb : Below wr.heap.size wr W) : LD w W g code :=
  h.grow (h.src.below hb) (grown_below hb _)
theorem LD.fin {w wr : World} {g : Nat} {code : List Int} (h : LD w wr g code) {B n cx : Nat} {A : Option Addr} {ts : List T4} (hO : OwnT wr B (.slice A n cx) ts) (hB : w.heap.size + 1 ≤ B) (x y : Value) :
    OwnT ((wr.setCell ⟨w.heap.size, 0, none⟩ x).setCell ⟨w.heap.size, 1, none⟩ y) w.heap.size (.slice A n cx) ts ∧ Src ((wr.setCell ⟨w.heap.size, 0, none⟩ x).setCell ⟨w.heap.size, 1, none⟩ y) g code ∧ w.grownBy ((wr.setCell ⟨w.heap.size, 0, none⟩ x).setCell ⟨w.heap.size, 1, none⟩ y) (some g) := by
  have hg := h.hg
  refine ⟨((hO.other w.heap.size 0 (by omega) x).other w.heap.size 1 (by omega) y).lower (by omega), (h.src.store (by dsimp only; omega)).store (by dsimp only; omega), grown_store (grown_store h.sub (Nat.le_refl _)) (Nat.le_refl _)⟩
theorem LD.start {w : World} {g : Nat} {code : List Int} (h : Src w g code) : LD w (w.alloc (.cells #[.int .i64 0, .slice none 0 0] 32)) g code :=
  ⟨Blk.newA _ _ _, h.alloc _, World.grownBy_alloc _ _ _, h.lt, by simp⟩
theorem Blk.one_tile {w : World} {b : Nat} {t : T4} {T : TypeId} (h : Blk w b [.int .i64 t.a, .int .i64 t.b, .int .i64 t.c, .int .i64 t.d] T) : ∀ j u, (tcells [t])[j]? = some u → w.cell? ((⟨b, 0, none⟩ : Addr).add j) = some u := fun j u hu => by
  rw [add_off, Nat.zero_add, h.cell?]
  simpa [tcells, ints, T4.l] using hu
set_option maxRecDepth 100000 in
set_option maxHeartbeats 8000000 in
theorem l01Draw_c (g : Nat) (code : List Int) (w : World) (h : Src w g code) :
    Calls Tryz.prog 124 #[.pointer (some ⟨g, 0, none⟩)] w (SetDrawn w g code w.heap.size SmallK) := by
  have HL := Lib.hid h.lt
  have HQ0 := Lib.hid (LD.start h)
  clear h
  go_enter Tryz.func124, Tryz.ntmps124
  go_upto_region 1 with (fail)
  obtain ⟨wb, hwb⟩ : ∃ wb, wb = w.alloc (.cells #[.int .i64 0, .slice none 0 0] 32) := ⟨_, rfl⟩
  rw [← hwb] at HQ0
  have HQ := HQ0
  rw [← hwb]
  clear hwb HQ0
  go_wp2_with fail
  refine (l01Next_c g code _ _ HQ.out.src).mono ?_
  rintro e w1 ⟨r1, rfl, _, _, _, S, G⟩
  replace HQ := Lib.hid (HQ.out.grow S G)
  clear S G
  by_cases r0 : r1 = 0
  · have r0' : (r1 == 0) = true := by simp [r0]
    clear r0
    go_wp2_with fail
    refine (l01Small_c g code _ HQ.out.src).mono ?_
    rintro e w2 ⟨c, ss, A', cx', rfl, hO, hK, S, G⟩
    have hsz := HQ.out.sz
    replace HQ := Lib.hid (HQ.out.grow S G)
    have HO := Lib.hid hO
    have HK := Lib.hid hK
    clear S G hO hK
    have y0 := HQ.out.res.cell 0 (by simp)
    have y1 := HQ.out.res.cell 1 (by simp)
    have g0 := HQ.out.res.frozen 0
    have g1 := HQ.out.res.frozen 1
    simp only [List.getElem_cons_zero, List.getElem_cons_succ] at y0 y1
    go_wp2
    refine bodyPost_ret (v := .agg #[.int .i64 c, .slice A' ss.length cx']) (by
      have x0 := ((HQ.out.res.set 0 (.int .i64 c)).set 1 (.slice A' ss.length cx')).cell 0 (by simp)
      have x1 := ((HQ.out.res.set 0 (.int .i64 c)).set 1 (.slice A' ss.length cx')).cell 1 (by simp)
      simp only [List.set_cons_zero, List.set_cons_succ, List.getElem_cons_zero, List.getElem_cons_succ] at x0 x1
      simp [results, Tryz.results124, go_sem, x0, x1]) rfl ?_
    obtain ⟨f1, f2, f3⟩ := HQ.out.fin HO.out hsz (.int .i64 c) (.slice A' ss.length cx')
    exact ⟨c, ss, A', cx', rfl, f1, HK.out, f2, f3⟩
  · have r0' : (r1 == 0) = false := by simp [r0]
    clear r0
    by_cases r0 : r1 = 1
    · have r1' : (r1 == 1) = true := by simp [r0]
      clear r0
      go_wp2_with fail
      refine (l01Small_c g code _ HQ.out.src).mono ?_
      rintro e w2 ⟨c, ss, A', cx', rfl, hO, hK, S, G⟩
      have hsz := HQ.out.sz
      replace HQ := Lib.hid (HQ.out.grow S G)
      have HO := Lib.hid hO
      have HK := Lib.hid hK
      clear S G hO hK
      have y0 := HQ.out.res.cell 0 (by simp)
      have y1 := HQ.out.res.cell 1 (by simp)
      have g0 := HQ.out.res.frozen 0
      have g1 := HQ.out.res.frozen 1
      simp only [List.getElem_cons_zero, List.getElem_cons_succ] at y0 y1
      go_wp2
      refine bodyPost_ret (v := .agg #[.int .i64 c, .slice A' ss.length cx']) (by
        have x0 := ((HQ.out.res.set 0 (.int .i64 c)).set 1 (.slice A' ss.length cx')).cell 0 (by simp)
        have x1 := ((HQ.out.res.set 0 (.int .i64 c)).set 1 (.slice A' ss.length cx')).cell 1 (by simp)
        simp only [List.set_cons_zero, List.set_cons_succ, List.getElem_cons_zero, List.getElem_cons_succ] at x0 x1
        simp [results, Tryz.results124, go_sem, x0, x1]) rfl ?_
      obtain ⟨f1, f2, f3⟩ := HQ.out.fin HO.out hsz (.int .i64 c) (.slice A' ss.length cx')
      exact ⟨c, ss, A', cx', rfl, f1, HK.out, f2, f3⟩
    · have r1' : (r1 == 1) = false := by simp [r0]
      clear r0
      by_cases r0 : r1 = 2
      · have r2' : (r1 == 2) = true := by simp [r0]
        clear r0
        go_wp2_with fail
        refine (pick_new g code _ HQ.out.src _ _ [2, 3, 4] _ rfl rfl (by simp)).mono ?_
        rintro e w2 ⟨r2, rfl, m2, S, G⟩
        have H2 : 2 ≤ r2 ∧ r2 ≤ 4 := by simp at m2; omega
        replace HQ := Lib.hid (HQ.out.grow S G)
        clear S G m2
        go_wp2_with fail
        refine (l01Next_c g code _ _ HQ.out.src).mono ?_
        rintro e w3 ⟨r3, rfl, _, _, b3, S, G⟩
        have H3 : r3 < 10 := b3 (by omega)
        replace HQ := Lib.hid (HQ.out.grow S G)
        clear S G b3
        go_wp2_with fail
        refine (l01DrawOf_c g code r2 r3 _ HQ.out.src (by omega) (by omega)).mono ?_
        rintro e w4 ⟨c, ts, A, cx, rfl, hO, ⟨rfl, hK, hKl⟩, S, G⟩
        have hsz := HQ.out.sz
        replace HQ := Lib.hid (HQ.out.grow S G)
        have HO := Lib.hid (hO.lower (show w.heap.size + 1 ≤ w3.heap.size + 1 by omega))
        have HK := Lib.hid hK
        have hl : ts.length ≤ 9 := by omega
        clear S G hO hK hKl hsz
        go_upto_region 7 with (fail)
        obtain ⟨gT, hgT⟩ : ∃ gT, gT = w4.heap.size := ⟨_, rfl⟩
        obtain ⟨wt, hwt⟩ : ∃ wt, wt = w4.alloc (.cells #[.int .i64 c, .slice A ts.length cx] 32) := ⟨_, rfl⟩
        have HX : Hid (Blk wt gT [.int .i64 c, .slice A ts.length cx] 32) := by rw [hwt, hgT]; exact Blk.newA _ _ _
        have HgT : Hid (w.heap.size < gT) := by rw [hgT]; exact HQ.out.sz
        replace HQ := Lib.hid (HQ.out.below (below_al (o := .cells #[.int .i64 c, .slice A ts.length cx] 32) (Below.refl w4.heap.size w4)))
        replace HO := Lib.hid (HO.out.alloc (.cells #[.int .i64 c, .slice A ts.length cx] 32))
        rw [← hwt] at HQ HO
        rw [← hwt, ← hgT]
        clear hwt hgT
        have e0 := fun w1 (h : Blk w1 gT [.int .i64 c, .slice A ts.length cx] 32) => h.cell 0 (by simp)
        have e1 := fun w1 (h : Blk w1 gT [.int .i64 c, .slice A ts.length cx] 32) => h.cell 1 (by simp)
        simp only [List.getElem_cons_zero, List.getElem_cons_succ] at e0 e1
        refine wp_region_mix [(0, true), (1, true), (2, true), (4, true), (5, true), (6, true), (3, false), (7, false), (8, true), (9, true)] (fun w' => Blk w' gT [.int .i64 c, .slice A ts.length cx] 32) (by kernel_rfl) (by kernel_rfl) (fun _ _ d _ _ h => by cases d <;> exact h) (HX.out.drew) ?_
        repeat (first
          | (refine mix_skip rfl rfl (fun K' hK' => ?_); go_simp; refine hK' _ ?_; clear hK' K')
          | (refine mix_do (v := ?_) rfl rfl (fun w1 hb => ?_) (fun K' hK' => ?_); rotate_left
             · go_simp
               rfl
             go_simp; refine hK' _ ?_; clear hK' K'))
        generalize hwd : ({ wt with drawn := wt.drawn + 1 } : World) = wd
        have HQd : Hid (LD w wd g code) := by rw [← hwd]; exact HQ.out.below (Below.refl _ _).drew
        have HOd : Hid (OwnT wd (w.heap.size + 1) (.slice A ts.length cx) ts) := by rw [← hwd]; exact HO.out.below (Below.refl _ _).drew
        have HXd : Hid (Blk wd gT [.int .i64 c, .slice A ts.length cx] 32) := by rw [← hwd]; exact HX.out.drew
        clear hwd HQ HO HX
        refine mix_call rfl rfl (fun K' hK' => ?_)
        go_simp
        refine (l01Next_c g code _ _ HQd.out.src).mono ?_
        rintro e w5 ⟨x, rfl, ax, _, bx, S, G⟩
        have hx : 0 ≤ x ∧ x < c := ⟨ax, bx (by omega)⟩
        replace HQd := Lib.hid (HQd.out.grow S G)
        replace HOd := Lib.hid (HOd.out.grew G (by have := HL.out; omega))
        replace HXd := Lib.hid (HXd.out.kept1 G (by have := HL.out; have := HgT.out; intro e; injection e with e; omega))
        clear S G ax bx
        refine hK' _ _ (HXd.out) ?_; clear hK' K'
        refine mix_call rfl rfl (fun K' hK' => ?_)
        go_simp
        refine (l01Next_c g code _ _ HQd.out.src).mono ?_
        rintro e w6 ⟨y, rfl, ay, _, by_, S, G⟩
        have hy : 0 ≤ y ∧ y < c := ⟨ay, by_ (by omega)⟩
        replace HQd := Lib.hid (HQd.out.grow S G)
        replace HOd := Lib.hid (HOd.out.grew G (by have := HL.out; omega))
        replace HXd := Lib.hid (HXd.out.kept1 G (by have := HL.out; have := HgT.out; intro e; injection e with e; omega))
        clear S G ay by_
        refine hK' _ _ (HXd.out) ?_; clear hK' K'
        repeat (first
          | (refine mix_skip rfl rfl (fun K' hK' => ?_); go_simp; refine hK' _ ?_; clear hK' K')
          | (refine mix_do (v := ?_) rfl rfl (fun w1 hb => ?_) (fun K' hK' => ?_); rotate_left
             · go_simp
               rfl
             go_simp; refine hK' _ ?_; clear hK' K'))
        refine mix_nil ?_
        have HKt : Hid (∀ t ∈ ts ++ [(⟨x, y, x, y⟩ : T4)], TIn c t) := fun t ht => by
          rcases List.mem_append.1 ht with ht | ht
          · exact HK.out t ht
          · have := List.mem_singleton.1 ht; subst this; exact ⟨hx, hy, hx, hy⟩
        have HKl : Hid ((setT (ts ++ [(⟨x, y, x, y⟩ : T4)])).length ≤ 16) := by have := setT_take_len (ts ++ [(⟨x, y, x, y⟩ : T4)]); rw [List.length_append] at this; show _ ≤ _; simp at this ⊢; omega
        clear HK hx hy
        obtain ⟨us, hus⟩ : ∃ us, us = ts ++ [(⟨x, y, x, y⟩ : T4)] := ⟨_, rfl⟩
        rw [← hus] at HKt HKl
        have hul : us.length ≤ 10 := by rw [hus, List.length_append]; simp; omega
        have HUs := Lib.hid hus
        clear hus
        go_wp2_with fail
        refine wp_region_plan (.det 0 (.det 1 (.det 3 (.det 4 (.det 6 (.det 7 (.det 8 (.det 9 (.det 10 (.two 2 (.two 5 (.one 11 (.one 12 (.one 13 (.one 14 (.done))))) 11 (.one 5 (.one 12 (.one 13 (.one 14 (.done)))))) 11 (.one 2 (.one 5 (.one 12 (.one 13 (.one 14 (.done)))))))))))))))) (fun w' => Blk w' gT [.int .i64 c, .slice A ts.length cx] 32) (fun a a' w' => ∃ x0 x1 x2 x3 x4 x5 x6 x7 x8 x9 x10 x11 x12 x13, a' = ((((((((((((((a.put (some 30) x0).put (some 31) x1).put (some 32) x2).put (some 33) x3).put (some 34) x4).put (some 35) x5).put (some 36) x6).put (some 37) x7).put (some 38) x8).put (some 39) x9).put (some 40) x10).put (some 41) x11).put (some 42) x12).put (some 43) x13) ∧ ∃ A' cx', Hid (Blk w' w.heap.size [.int .i64 c, .slice A' (setT us).length cx'] 32) ∧ Hid (OwnT w' w.heap.size (.slice A' (setT us).length cx') (setT us)) ∧ Hid (Src w' g code) ∧ Hid (w.grownBy w' (some g))) (by kernel_rfl) (by kernel_rfl) (fun _ _ d _ _ h => by cases d <;> exact h) (HXd.out.drew) ?_ ?_
        rotate_left
        · rintro a' wa hba ⟨x0, x1, x2, x3, x4, x5, x6, x7, x8, x9, x10, x11, x12, x13, rfl, hP⟩
          obtain ⟨A', cx', HR, HOf, HSf, HGf⟩ := hP
          go_simp
          go_wp2_with fail
          refine bodyPost_ret (v := .agg #[.int .i64 c, .slice A' (setT us).length cx']) (by
            have u0 := HR.out.cell 0 (by simp)
            have u1 := HR.out.cell 1 (by simp)
            simp only [List.getElem_cons_zero, List.getElem_cons_succ] at u0 u1
            simp [results, Tryz.results124, go_sem, u0, u1]) rfl ?_
          exact ⟨c, _, A', cx', rfl, HOf.out, ⟨fun t ht => HKt.out t ((setT_mem _ t).1 ht), by omega, by omega, HKl.out⟩, HSf.out, HGf.out⟩
        repeat (first
          | (refine plan_skip rfl rfl (fun K' hK' => ?_); go_simp; refine hK' _ ?_; clear hK' K')
          | (refine plan_do (v := ?_) rfl rfl (fun w1 hb => ?_) (fun K' hK' => ?_); rotate_left
             · go_simp
               rfl
             go_simp; refine hK' _ ?_; clear hK' K'))
        generalize hwd : ({ w6 with drawn := w6.drawn + 1 } : World) = wd2
        have HQ2 : Hid (LD w wd2 g code) := by rw [← hwd]; exact HQd.out.below (Below.refl _ _).drew
        have HO2 : Hid (OwnT wd2 (w.heap.size + 1) (.slice A ts.length cx) ts) := by rw [← hwd]; exact HOd.out.below (Below.refl _ _).drew
        have HX2 : Hid (Blk wd2 gT [.int .i64 c, .slice A ts.length cx] 32) := by rw [← hwd]; exact HXd.out.drew
        clear hwd HQd HOd HXd e0 e1
        have hz2 := HQ2.out.sz
        have HgX : Hid (gT < wd2.heap.size) := HX2.out.lt
        refine plan_two ?_ ?_
        · refine step_op rfl rfl (fun K' hK' => ?_)
          go_simp
          have HVa : Hid (OwnT (wd2.alloc (.cells #[] 30)) wd2.heap.size (.slice (some ⟨wd2.heap.size, 0, none⟩) 0 0) []) := OwnT.empty wd2 _ (Nat.le_refl _)
          have HQa := Lib.hid (HQ2.out.below (below_al (o := .cells #[] 30) (Below.refl _ _)))
          have HOa := Lib.hid (HO2.out.alloc (.cells #[] 30))
          have HXa := Lib.hid (HX2.out.alloc (.cells #[] 30))
          refine hK' _ _ (HXa.out) ?_; clear hK' K'
          refine plan_two ?_ ?_
          · refine step_op rfl rfl (fun K' hK' => ?_)
            refine app_tilesV (.tmp 32) (.tmp 34) rfl wd2.heap.size (w.heap.size + 1) _ _ [] ts rfl HVa.out rfl HOa.out (by simp; omega) (by simp) (fun v' w' a1 a2 => ?_)
            rw [List.nil_append] at a1
            have HQb := Lib.hid (HQa.out.app a2 (fun k hk => by have := (World.ownsRow.lt HVa.out k hk).1; omega))
            have HXb := Lib.hid (HXa.out.kept1 a2 (own_ne HVa.out HXa.out (by decide)))
            have HVb := Lib.hid a1
            have HNb : Hid (wd2.heap.size ≤ w'.heap.size) := by have := a2.size; simp at this; show _ ≤ _; omega
            clear a1 a2 HVa HOa HXa HQa
            refine hK' _ _ (HXb.out) ?_; clear hK' K'
            refine plan_one (step_op rfl rfl (fun K' hK' => ?_))
            go_simp
            obtain ⟨gB, hgB⟩ : ∃ gB, gB = w'.heap.size := ⟨_, rfl⟩
            have HB5 : Hid (Blk (w'.alloc (.cells #[.int .i64 x, .int .i64 y, .int .i64 x, .int .i64 y] 30)) gB [.int .i64 x, .int .i64 y, .int .i64 x, .int .i64 y] 30) := by rw [hgB]; exact Blk.newA _ _ _
            have HQ5 := Lib.hid (HQb.out.below (below_al (o := .cells #[.int .i64 x, .int .i64 y, .int .i64 x, .int .i64 y] 30) (Below.refl _ _)))
            have HX5 := Lib.hid (HXb.out.alloc (.cells #[.int .i64 x, .int .i64 y, .int .i64 x, .int .i64 y] 30))
            have HV5 := Lib.hid (HVb.out.alloc (.cells #[.int .i64 x, .int .i64 y, .int .i64 x, .int .i64 y] 30))
            have HN5 : Hid (wd2.heap.size ≤ (w'.alloc (.cells #[.int .i64 x, .int .i64 y, .int .i64 x, .int .i64 y] 30)).heap.size) := by have := HNb.out; simp [Hid]; omega
            obtain ⟨v5, rfl⟩ : ∃ v5, v5 = v' := ⟨_, rfl⟩
            rw [← hgB]
            clear hgB
            refine hK' _ _ (HX5.out) ?_; clear hK' K'
            refine plan_one (step_op rfl rfl (fun K' hK' => ?_))
            refine app_tiles (.tmp 35) (.tmp 41) rfl wd2.heap.size v5 ts [(⟨x, y, x, y⟩ : T4)] rfl HV5.out ⟨gB, 0, none⟩ 1 rfl (Blk.one_tile (t := ⟨x, y, x, y⟩) HB5.out) (by simp; omega) HN5.out (fun v' w' a1 a2 _ => ?_)
            rw [← HUs.out] at a1
            have HQ6 := Lib.hid (HQ5.out.app a2 (fun k hk => by have := (World.ownsRow.lt HV5.out k hk).1; omega))
            have HX6 := Lib.hid (HX5.out.kept1 a2 (own_ne HV5.out HX5.out (by decide)))
            obtain ⟨A6, c6, rfl, hT6⟩ := a1.tiles
            have HT6 := Lib.hid hT6
            clear a1 a2 hT6 HV5 HB5 HQ5 HX5 HN5
            refine hK' _ _ (HX6.out) ?_; clear hK' K'
            refine plan_one (step_op rfl rfl (fun K' hK' => ?_))
            go_simp
            refine (l01Made_c c us A6 c6 _ HT6.out (by omega)).mono ?_
            rintro e w7 ⟨A7, c7, rfl, hO7, hb7⟩
            have hz7 := HQ6.out.sz
            have HQ7 := Lib.hid (HQ6.out.below hb7)
            have HX7 := Lib.hid (HX6.out.under hb7)
            have HO7 := Lib.hid hO7
            clear hO7 hb7
            refine hK' _ _ (HX7.out) ?_; clear hK' K'
            refine plan_one (step_op rfl rfl (fun K' hK' => ?_))
            have y0 := HQ7.out.res.cell 0 (by simp)
            have y1 := HQ7.out.res.cell 1 (by simp)
            have g0 := HQ7.out.res.frozen 0
            have g1 := HQ7.out.res.frozen 1
            simp only [List.getElem_cons_zero, List.getElem_cons_succ] at y0 y1
            go_simp
            have hne : gT ≠ w.heap.size := by have := HgT.out; omega
            refine hK' _ _ ((HX7.out.other (a := ⟨w.heap.size, 0, none⟩) hne _).other (a := ⟨w.heap.size, 1, none⟩) hne _) ?_; clear hK' K'
            have HR7 : Hid (Blk ((w7.setCell ⟨w.heap.size, 0, none⟩ (.int .i64 c)).setCell ⟨w.heap.size, 1, none⟩ (.slice A7 (setT us).length c7)) w.heap.size [.int .i64 c, .slice A7 (setT us).length c7] 32) := (HQ7.out.res.set 0 _).set 1 _
            obtain ⟨f1, f2, f3⟩ := HQ7.out.fin HO7.out hz7 (.int .i64 c) (.slice A7 (setT us).length c7)
            refine plan_done ⟨?_, ?_, ?_, ?_, ?_, ?_, ?_, ?_, ?_, ?_, ?_, ?_, ?_, ?_, ?_, ?_⟩
            rotate_left 14
            · go_simp; (first | rfl | (and_intros <;> rfl))
            · exact ⟨A7, c7, HR7, f1, f2, f3⟩
          · refine step_op rfl rfl (fun K' hK' => ?_)
            go_simp
            obtain ⟨gB, hgB⟩ : ∃ gB, gB = wd2.heap.size + 1 := ⟨_, rfl⟩
            have HBb : Hid (Blk ((wd2.alloc (.cells #[] 30)).alloc (.cells #[.int .i64 x, .int .i64 y, .int .i64 x, .int .i64 y] 30)) gB [.int .i64 x, .int .i64 y, .int .i64 x, .int .i64 y] 30) := by
              have := Blk.newA (wd2.alloc (.cells #[] 30)) #[.int .i64 x, .int .i64 y, .int .i64 x, .int .i64 y] 30
              rw [World.size_alloc] at this
              rw [hgB]; exact this
            have HQb := Lib.hid (HQa.out.below (below_al (o := (.cells #[.int .i64 x, .int .i64 y, .int .i64 x, .int .i64 y] 30)) (Below.refl _ _)))
            have HOb := Lib.hid (HOa.out.alloc (.cells #[.int .i64 x, .int .i64 y, .int .i64 x, .int .i64 y] 30))
            have HXb := Lib.hid (HXa.out.alloc (.cells #[.int .i64 x, .int .i64 y, .int .i64 x, .int .i64 y] 30))
            have HVb := Lib.hid (HVa.out.alloc (.cells #[.int .i64 x, .int .i64 y, .int .i64 x, .int .i64 y] 30))
            have HgB : Hid (gB ≠ wd2.heap.size) := by show _ ≠ _; omega
            clear HVa HOa HXa HQa
            rw [← hgB]
            clear hgB
            refine hK' _ _ (HXb.out) ?_; clear hK' K'
            refine plan_one (step_op rfl rfl (fun K' hK' => ?_))
            refine app_tilesV (.tmp 32) (.tmp 34) rfl wd2.heap.size (w.heap.size + 1) _ _ [] ts rfl HVb.out rfl HOb.out (by simp; omega) (by simp; omega) (fun v' w' a1 a2 => ?_)
            rw [List.nil_append] at a1
            have HQ5 := Lib.hid (HQb.out.app a2 (fun k hk => by have := (World.ownsRow.lt HVb.out k hk).1; omega))
            have HX5 := Lib.hid (HXb.out.kept1 a2 (own_ne HVb.out HXb.out (by decide)))
            have HB5 := Lib.hid (HBb.out.kept1 a2 (fun e => HgB.out (by first | (injection e with e; exact e.symm) | (injection e with e))))
            have HV5 := Lib.hid a1
            have HN5 : Hid (wd2.heap.size ≤ w'.heap.size) := by have := a2.size; simp at this; show _ ≤ _; omega
            clear a1 a2 HVb HOb HXb HQb HBb
            obtain ⟨v5, rfl⟩ : ∃ v5, v5 = v' := ⟨_, rfl⟩
            refine hK' _ _ (HX5.out) ?_; clear hK' K'
            refine plan_one (step_op rfl rfl (fun K' hK' => ?_))
            refine app_tiles (.tmp 35) (.tmp 41) rfl wd2.heap.size v5 ts [(⟨x, y, x, y⟩ : T4)] rfl HV5.out ⟨gB, 0, none⟩ 1 rfl (Blk.one_tile (t := ⟨x, y, x, y⟩) HB5.out) (by simp; omega) HN5.out (fun v' w' a1 a2 _ => ?_)
            rw [← HUs.out] at a1
            have HQ6 := Lib.hid (HQ5.out.app a2 (fun k hk => by have := (World.ownsRow.lt HV5.out k hk).1; omega))
            have HX6 := Lib.hid (HX5.out.kept1 a2 (own_ne HV5.out HX5.out (by decide)))
            obtain ⟨A6, c6, rfl, hT6⟩ := a1.tiles
            have HT6 := Lib.hid hT6
            clear a1 a2 hT6 HV5 HB5 HQ5 HX5 HN5
            refine hK' _ _ (HX6.out) ?_; clear hK' K'
            refine plan_one (step_op rfl rfl (fun K' hK' => ?_))
            go_simp
            refine (l01Made_c c us A6 c6 _ HT6.out (by omega)).mono ?_
            rintro e w7 ⟨A7, c7, rfl, hO7, hb7⟩
            have hz7 := HQ6.out.sz
            have HQ7 := Lib.hid (HQ6.out.below hb7)
            have HX7 := Lib.hid (HX6.out.under hb7)
            have HO7 := Lib.hid hO7
            clear hO7 hb7
            refine hK' _ _ (HX7.out) ?_; clear hK' K'
            refine plan_one (step_op rfl rfl (fun K' hK' => ?_))
            have y0 := HQ7.out.res.cell 0 (by simp)
            have y1 := HQ7.out.res.cell 1 (by simp)
            have g0 := HQ7.out.res.frozen 0
            have g1 := HQ7.out.res.frozen 1
            simp only [List.getElem_cons_zero, List.getElem_cons_succ] at y0 y1
            go_simp
            have hne : gT ≠ w.heap.size := by have := HgT.out; omega
            refine hK' _ _ ((HX7.out.other (a := ⟨w.heap.size, 0, none⟩) hne _).other (a := ⟨w.heap.size, 1, none⟩) hne _) ?_; clear hK' K'
            have HR7 : Hid (Blk ((w7.setCell ⟨w.heap.size, 0, none⟩ (.int .i64 c)).setCell ⟨w.heap.size, 1, none⟩ (.slice A7 (setT us).length c7)) w.heap.size [.int .i64 c, .slice A7 (setT us).length c7] 32) := (HQ7.out.res.set 0 _).set 1 _
            obtain ⟨f1, f2, f3⟩ := HQ7.out.fin HO7.out hz7 (.int .i64 c) (.slice A7 (setT us).length c7)
            refine plan_done ⟨?_, ?_, ?_, ?_, ?_, ?_, ?_, ?_, ?_, ?_, ?_, ?_, ?_, ?_, ?_, ?_⟩
            rotate_left 14
            · go_simp; (first | rfl | (and_intros <;> rfl))
            · exact ⟨A7, c7, HR7, f1, f2, f3⟩
        · refine step_op rfl rfl (fun K' hK' => ?_)
          go_simp
          have HVa : Hid (OwnT ((wd2.alloc (.cells #[.int .i64 x, .int .i64 y, .int .i64 x, .int .i64 y] 30)).alloc (.cells #[] 30)) wd2.heap.size (.slice (some ⟨wd2.heap.size + 1, 0, none⟩) 0 0) []) := by
            have := OwnT.empty (wd2.alloc (.cells #[.int .i64 x, .int .i64 y, .int .i64 x, .int .i64 y] 30)) wd2.heap.size (by simp)
            rwa [World.size_alloc] at this
          obtain ⟨gB, hgB⟩ : ∃ gB, gB = wd2.heap.size := ⟨_, rfl⟩
          have HBa : Hid (Blk (wd2.alloc (.cells #[.int .i64 x, .int .i64 y, .int .i64 x, .int .i64 y] 30)) gB [.int .i64 x, .int .i64 y, .int .i64 x, .int .i64 y] 30) := by rw [hgB]; exact Blk.newA _ _ _
          have HQa := Lib.hid (HQ2.out.below (below_al (o := (.cells #[.int .i64 x, .int .i64 y, .int .i64 x, .int .i64 y] 30)) (Below.refl _ _)))
          have HOa := Lib.hid (HO2.out.alloc (.cells #[.int .i64 x, .int .i64 y, .int .i64 x, .int .i64 y] 30))
          have HXa := Lib.hid (HX2.out.alloc (.cells #[.int .i64 x, .int .i64 y, .int .i64 x, .int .i64 y] 30))
          have HgB : Hid (gB ≠ wd2.heap.size + 1) := by show _ ≠ _; omega
          have HgC := Lib.hid hgB
          rw [← hgB]
          clear hgB
          refine hK' _ _ (HXa.out) ?_; clear hK' K'
          refine plan_one (step_op rfl rfl (fun K' hK' => ?_))
          go_simp
          have HBb := Lib.hid (HBa.out.alloc (.cells #[] 30))
          have HQb := Lib.hid (HQa.out.below (below_al (o := (.cells #[] 30)) (Below.refl _ _)))
          have HOb := Lib.hid (HOa.out.alloc (.cells #[] 30))
          have HXb := Lib.hid (HXa.out.alloc (.cells #[] 30))
          have HVb := HVa
          clear HVa HOa HXa HQa HBa
          refine hK' _ _ (HXb.out) ?_; clear hK' K'
          refine plan_one (step_op rfl rfl (fun K' hK' => ?_))
          refine app_tilesV (.tmp 32) (.tmp 34) rfl wd2.heap.size (w.heap.size + 1) _ _ [] ts rfl HVb.out rfl HOb.out (by simp; omega) (by simp; omega) (fun v' w' a1 a2 => ?_)
          rw [List.nil_append] at a1
          have HQ5 := Lib.hid (HQb.out.app a2 (fun k hk => by have := (World.ownsRow.lt HVb.out k hk).1; omega))
          have HX5 := Lib.hid (HXb.out.kept1 a2 (own_ne HVb.out HXb.out (by decide)))
          have HB5 := Lib.hid (HBb.out.kept1 a2 (fun e => HgB.out (by first | (injection e with e; exact e.symm) | (injection e with e))))
          have HV5 := Lib.hid a1
          have HN5 : Hid (wd2.heap.size ≤ w'.heap.size) := by have := a2.size; simp at this; show _ ≤ _; omega
          clear a1 a2 HVb HOb HXb HQb HBb
          obtain ⟨v5, rfl⟩ : ∃ v5, v5 = v' := ⟨_, rfl⟩
          refine hK' _ _ (HX5.out) ?_; clear hK' K'
          refine plan_one (step_op rfl rfl (fun K' hK' => ?_))
          refine app_tiles (.tmp 35) (.tmp 41) rfl wd2.heap.size v5 ts [(⟨x, y, x, y⟩ : T4)] rfl HV5.out ⟨gB, 0, none⟩ 1 rfl (Blk.one_tile (t := ⟨x, y, x, y⟩) HB5.out) (by simp; omega) HN5.out (fun v' w' a1 a2 _ => ?_)
          rw [← HUs.out] at a1
          have HQ6 := Lib.hid (HQ5.out.app a2 (fun k hk => by have := (World.ownsRow.lt HV5.out k hk).1; omega))
          have HX6 := Lib.hid (HX5.out.kept1 a2 (own_ne HV5.out HX5.out (by decide)))
          obtain ⟨A6, c6, rfl, hT6⟩ := a1.tiles
          have HT6 := Lib.hid hT6
          clear a1 a2 hT6 HV5 HB5 HQ5 HX5 HN5
          refine hK' _ _ (HX6.out) ?_; clear hK' K'
          refine plan_one (step_op rfl rfl (fun K' hK' => ?_))
          go_simp
          refine (l01Made_c c us A6 c6 _ HT6.out (by omega)).mono ?_
          rintro e w7 ⟨A7, c7, rfl, hO7, hb7⟩
          have hz7 := HQ6.out.sz
          have HQ7 := Lib.hid (HQ6.out.below hb7)
          have HX7 := Lib.hid (HX6.out.under hb7)
          have HO7 := Lib.hid hO7
          clear hO7 hb7
          refine hK' _ _ (HX7.out) ?_; clear hK' K'
          refine plan_one (step_op rfl rfl (fun K' hK' => ?_))
          have y0 := HQ7.out.res.cell 0 (by simp)
          have y1 := HQ7.out.res.cell 1 (by simp)
          have g0 := HQ7.out.res.frozen 0
          have g1 := HQ7.out.res.frozen 1
          simp only [List.getElem_cons_zero, List.getElem_cons_succ] at y0 y1
          go_simp
          have hne : gT ≠ w.heap.size := by have := HgT.out; omega
          refine hK' _ _ ((HX7.out.other (a := ⟨w.heap.size, 0, none⟩) hne _).other (a := ⟨w.heap.size, 1, none⟩) hne _) ?_; clear hK' K'
          have HR7 : Hid (Blk ((w7.setCell ⟨w.heap.size, 0, none⟩ (.int .i64 c)).setCell ⟨w.heap.size, 1, none⟩ (.slice A7 (setT us).length c7)) w.heap.size [.int .i64 c, .slice A7 (setT us).length c7] 32) := (HQ7.out.res.set 0 _).set 1 _
          obtain ⟨f1, f2, f3⟩ := HQ7.out.fin HO7.out hz7 (.int .i64 c) (.slice A7 (setT us).length c7)
          refine plan_done ⟨?_, ?_, ?_, ?_, ?_, ?_, ?_, ?_, ?_, ?_, ?_, ?_, ?_, ?_, ?_, ?_⟩
          rotate_left 14
          · go_simp; (first | rfl | (and_intros <;> rfl))
          · exact ⟨A7, c7, HR7, f1, f2, f3⟩
      · have r2' : (r1 == 2) = false := by simp [r0]
        clear r0
        go_wp2_with fail
        refine (l01Next_c g code _ _ HQ.out.src).mono ?_
        rintro e w2 ⟨r2, rfl, a2, _, b2, S, G⟩
        have H2 : 0 ≤ r2 ∧ r2 < 6 := ⟨a2, b2 (by omega)⟩
        replace HQ := Lib.hid (HQ.out.grow S G)
        clear S G a2 b2
        go_wp2_with fail
        refine (l01Next_c g code _ _ HQ.out.src).mono ?_
        rintro e w3 ⟨r3, rfl, a3, _, b3, S, G⟩
        have H3 : r3 < 17 := b3 (by omega)
        replace HQ := Lib.hid (HQ.out.grow S G)
        clear S G a3 b3
        go_wp2_with fail
        refine (l01DrawOf_c g code (1 + r2) r3 _ HQ.out.src (by omega) (by omega)).mono ?_
        rintro e w4 ⟨c, ss, A', cx', rfl, hO, ⟨hc, hK, hKl⟩, S, G⟩
        have hsz := HQ.out.sz
        replace HQ := Lib.hid (HQ.out.grow S G)
        have HO := Lib.hid hO
        have HK : Hid (SmallK c ss) := ⟨by rw [hc]; exact hK, by omega, by omega, by omega⟩
        clear S G hO hK hKl hc
        have y0 := HQ.out.res.cell 0 (by simp)
        have y1 := HQ.out.res.cell 1 (by simp)
        have g0 := HQ.out.res.frozen 0
        have g1 := HQ.out.res.frozen 1
        simp only [List.getElem_cons_zero, List.getElem_cons_succ] at y0 y1
        go_wp2
        refine bodyPost_ret (v := .agg #[.int .i64 c, .slice A' ss.length cx']) (by
          have x0 := ((HQ.out.res.set 0 (.int .i64 c)).set 1 (.slice A' ss.length cx')).cell 0 (by simp)
          have x1 := ((HQ.out.res.set 0 (.int .i64 c)).set 1 (.slice A' ss.length cx')).cell 1 (by simp)
          simp only [List.set_cons_zero, List.set_cons_succ, List.getElem_cons_zero, List.getElem_cons_succ] at x0 x1
          simp [results, Tryz.results124, go_sem, x0, x1]) rfl ?_
        obtain ⟨f1, f2, f3⟩ := HQ.out.fin HO.out (by omega) (.int .i64 c) (.slice A' ss.length cx')
        exact ⟨c, ss, A', cx', rfl, f1, HK.out, f2, f3⟩

end Go.Proofs.YtnoehaphbpkpjaaGreat
namespace Go.Proofs.YtnoehaphbpkpjaaGreat
open Go.RowKit
set_option maxRecDepth 100000 in
set_option maxHeartbeats 1000000 in
theorem l01Spoil_c (g : Nat) (code : List Int) (w : World) (h : Src w g code) :
    Calls Tryz.prog 100 #[.pointer (some ⟨g, 0, none⟩)] w (SetDrawn w g code w.heap.size fun _ us => us.length ≤ 101) := by
  have HL := Lib.hid h.lt
  have HQ0 := Lib.hid (LD.start h)
  clear h
  go_enter Tryz.func100, Tryz.ntmps100
  go_upto_region 1 with (fail)
  obtain ⟨wb, hwb⟩ : ∃ wb, wb = w.alloc (.cells #[.int .i64 0, .slice none 0 0] 32) := ⟨_, rfl⟩
  rw [← hwb] at HQ0
  have HQ := HQ0
  rw [← hwb]
  clear hwb HQ0
  go_wp2_with fail
  refine (l01Draw_c g code _ HQ.out.src).mono ?_
  rintro e w1 ⟨c, ts, A, cx, rfl, hO, ⟨_, _, _, hl⟩, S, G⟩
  have hz := HQ.out.sz
  have hgs := G.size
  replace HQ := Lib.hid (HQ.out.grow S G)
  have HO := Lib.hid hO
  clear S G hO
  go_wp2_with fail
  refine (l01Bad_c g code c ts A cx wb.heap.size _ HQ.out.src HO.out (by have := HL.out; omega) hgs (by omega)).mono ?_
  rintro e w2 ⟨c2, us, A2, cx2, rfl, hO2, hl2, S, G⟩
  replace HQ := Lib.hid (HQ.out.grow S G)
  have HO2 := Lib.hid hO2
  clear S G hO2 HO hgs
  have y0 := HQ.out.res.cell 0 (by simp)
  have y1 := HQ.out.res.cell 1 (by simp)
  have g0 := HQ.out.res.frozen 0
  have g1 := HQ.out.res.frozen 1
  simp only [List.getElem_cons_zero, List.getElem_cons_succ] at y0 y1
  go_wp2
  refine bodyPost_ret (v := .agg #[.int .i64 c2, .slice A2 us.length cx2]) (by
    have x0 := ((HQ.out.res.set 0 (.int .i64 c2)).set 1 (.slice A2 us.length cx2)).cell 0 (by simp)
    have x1 := ((HQ.out.res.set 0 (.int .i64 c2)).set 1 (.slice A2 us.length cx2)).cell 1 (by simp)
    simp only [List.set_cons_zero, List.set_cons_succ, List.getElem_cons_zero, List.getElem_cons_succ] at x0 x1
    simp [results, Tryz.results100, go_sem, x0, x1]) rfl ?_
  obtain ⟨f1, f2, f3⟩ := HQ.out.fin HO2.out hz (.int .i64 c2) (.slice A2 us.length cx2)
  exact ⟨c2, us, A2, cx2, rfl, f1, hl2, f2, f3⟩
end Go.Proofs.YtnoehaphbpkpjaaGreat
namespace Go.Proofs.YtnoehaphbpkpjaaGreat
open Go.RowKit
def SetRes (w w' : World) (ts : List T4) (S : Option Addr) : Prop := TileCells w' S ts ∧ ts.length ≤ 101 ∧ Below w.heap.size w w'
/-- where an exported draw of a set stands, behind the first draw; its own box of the set lies at gT -/
structure LX (w wr : World) (g : Nat) (code : List Int) (c : Int) (ts : List T4) (A : Option Addr) (cx gT : Nat) : Prop where
  res : Blk wr w.heap.size [.int .i64 0, .slice none 0 0] 32
  box : Blk wr gT [.int .i64 c, .slice A ts.length cx] 32
  own : OwnT wr (g + 1) (.slice A ts.length cx) ts
  src : Src wr g code
  sub : Below w.heap.size w wr
  hgT : g < gT
  hg : w.heap.size < g
theorem LX.grow {w wr W : World} {g : Nat} {code : List Int} {c : Int} {ts : List T4} {A : Option Addr} {cx gT : Nat} (h : LX w wr g code c ts A cx gT) (hS : Src W g code) (hG : wr.grownBy W (some g)) : LX w W g code c ts A cx gT :=
  ⟨h.res.kept1 hG (by have := h.hg; intro e; injection e with e; omega), h.box.kept1 hG (by have := h.hgT; intro e; injection e with e; omega), h.own.grew hG (by omega), hS, below_src h.sub hG (by have := h.hg; omega), h.hgT, h.hg⟩
theorem LX.below {w wr W : World} {g : Nat} {code : List Int} {c : Int} {ts : List T4} {A : Option Addr} {cx gT : Nat} (h : LX w wr g code c ts A cx gT) (hb : Below wr.heap.size wr W) : LX w W g code c ts A cx gT :=
  h.grow (h.src.below hb) (grown_below hb _)
theorem LX.start {w w0 w1 w2 : World} {g : Nat} {code : List Int} {c : Int} {ts : List T4} {A : Option Addr} {cx : Nat} (hw0 : w0 = w.alloc (.cells #[.int .i64 0, .slice none 0 0] 32)) (hb : Below w0.heap.size w0 w1) (hg : w0.heap.size ≤ g)
    (hS1 : g < w1.heap.size) (hO : OwnT w2 w1.heap.size (.slice A ts.length cx) ts) (hS : Src w2 g code) (hG : w1.grownBy w2 (some g)) : LX w (w2.alloc (.cells #[.int .i64 c, .slice A ts.length cx] 32)) g code c ts A cx w2.heap.size := by
  have hz : w0.heap.size = w.heap.size + 1 := by rw [hw0]; simp
  have hr : Blk w0 w.heap.size [.int .i64 0, .slice none 0 0] 32 := by rw [hw0]; exact Blk.newA _ _ _
  have hbw : Below w.heap.size w w0 := by rw [hw0]; exact below_al (Below.refl _ _)
  exact ⟨((hr.under hb).kept1 hG (by intro e; injection e with e; omega)).alloc _, Blk.newA _ _ _, (hO.lower (by omega)).alloc _, hS.alloc _, below_al (below_src (hbw.trans (hb.mono (by omega))) hG (by omega)), hS.lt, by omega⟩
theorem LX.fin {w wr : World} {g : Nat} {code : List Int} {c : Int} {ts : List T4} {A : Option Addr} {cx gT : Nat} (h : LX w wr g code c ts A cx gT) (hl : ts.length ≤ 101) (x y : Value) : SetRes w ((wr.setCell ⟨w.heap.size, 0, none⟩ x).setCell ⟨w.heap.size, 1, none⟩ y) ts A := by
  have hg := h.hg
  exact ⟨OwnT.cells ((h.own.other w.heap.size 0 (by omega) x).other w.heap.size 1 (by omega) y), hl, (h.sub.setCell (Nat.le_refl _) _).setCell (Nat.le_refl _) _⟩
end Go.Proofs.YtnoehaphbpkpjaaGreat
namespace Go.Proofs.YtnoehaphbpkpjaaGreat
open Go.RowKit
attribute [local go_sem] addUpon_value addUpon_skip addUpon_enter
set_option maxRecDepth 100000 in
set_option maxHeartbeats 1000000 in
theorem rows9_c (L : List (List Int)) (A B : Option Addr) (cx cy : Nat) (w : World) (hA : RowsC w A L) (hB : RowsC w B L) (hl : L.length ≤ 1000000) (hS : Short 1000000 L) :
    Calls Tryz.prog 17 #[.slice A L.length cx, .slice B L.length cy] w fun e w' => e = .returned (.bool true) ∧ Below w.heap.size w w' := by
  have HA := Lib.hid hA
  have HB := Lib.hid hB
  have HS := Lib.hid hS
  clear hA hB hS
  go_enter Tryz.func17, Tryz.ntmps17
  go_wp2_with fail
  go_loopw [5] (fun i wr => ∃ k : Nat, k ≤ L.length ∧ i = .int .i64 (k : Nat) ∧ Hid (Below w.heap.size w wr)) (fun i _ => L.length - (intOf i).toNat)
  case atStart => exact ⟨0, by omega, rfl, Below.refl _ _⟩
  case round =>
    obtain ⟨k, hk, rfl, HW⟩ := hrel
    by_cases h1 : k < L.length
    · obtain ⟨b, off, A', c1, rfl, hlt, hc, hr⟩ := (HA.out.below HW.out) k h1
      obtain ⟨b2, off2, B', c2, rfl, hlt2, hd, hr2⟩ := (HB.out.below HW.out) k h1
      have hs := HS.out k h1
      have HQ := Lib.hid (fun (W : World) (h : Below wr.heap.size wr W) => likeInts_c L[k] L[k] A' B' c1 c2 W (hr.below h) (hr2.below h) (by omega) (by omega))
      have hq : eqL L[k] L[k] = true := by simp [eqL]
      rw [hq] at HQ
      have e0 := keepC hc
      have f0 := keepC hd
      clear hc hd hr hr2 hq hs
      generalize L[k] = row at *
      go_wp2_with fail
      refine wp_region_add (fun w' => Below (wr).heap.size (wr) w') (by kernel_rfl) (by kernel_rfl) ((Below.refl _ _).drew) ?_
      repeat (first
        | (refine add_skip rfl (fun K' hK' => ?_); go_simp; refine hK' _ ?_; clear hK' K')
        | (refine add_do (v := ?_) rfl (fun w1 hb => ?_) (fun K' hK' => ?_); rotate_left
           · go_simp
             first
             | (with_reducible exact rfl)
             | (with_reducible exact ⟨rfl, hb⟩)
             | (with_reducible exact (addCall (HQ.out w1 hb) hb).2)
             | exact (addCall (HQ.out w1 hb) hb).2
             | exact rfl
             | exact ⟨rfl, hb⟩
           go_simp; refine hK' _ ?_; clear hK' K'))
      refine add_nil ?_
      intro wa hba
      have HW2 := Lib.hid (HW.out.trans (hba.mono HW.out.size))
      clear hba e0 f0
      go_wp2_with fail
      go_roundw
      case rel => exact ⟨k + 1, by omega, by go_num, HW2⟩
      case measure => simp [intOf]; omega
    · go_wp2_with fail
      go_ret
      exact ⟨rfl, HW.out⟩
end Go.Proofs.YtnoehaphbpkpjaaGreat
