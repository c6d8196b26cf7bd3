/- Contracts and lemmas for the statements of this seat, written for this claim; each theorem states its own conditions. -/
import Derived.Test.YtkgnejhflnekaaaGreatMuY5
import Derived.Test.YtkgnejhflnekaaaGreatMuOb
set_option linter.unusedVariables false
set_option linter.unusedSimpArgs false
namespace Go.Proofs.YtkgnejhflnekaaaGreat
open Go.RowKit
theorem isSetB_tin {c : Int} {ts : List T4} (h : isSetB c ts = true) : (∀ t ∈ ts, TIn c t) ∧ 0 ≤ c ∧ c ≤ 6 ∧ ts.length ≤ 16 := by
  have h2 := isSetB_parts h
  refine ⟨fun t ht => ?_, by omega, by omega, h2.2.2⟩
  exact isSetB_inC h t ht
theorem readB_ok (s : ByteArray) : (∀ t ∈ rdT (readB s), TIn (rdC (readB s)) t) ∧ 0 ≤ rdC (readB s) ∧ rdC (readB s) ≤ 6 ∧ (rdT (readB s)).length ≤ 16 := by
  cases h : readB s with
  | none => exact ⟨fun t ht => by simp [rdT] at ht, by simp [rdC], by simp [rdC], by simp [rdT]⟩
  | some x =>
    unfold readB at h
    split at h
    · split at h
      · split at h
        · rename_i hs
          injection h with h
          subst h
          exact isSetB_tin hs
        · cases h
      · cases h
    · cases h
theorem namedTo_ok (s : ByteArray) : ∀ k x, namedTo s k = some x → (∀ t ∈ x.2, TIn x.1 t) ∧ 0 ≤ x.1 ∧ x.1 ≤ 6 ∧ x.2.length ≤ 16
  | 0, x, h => by simp [namedTo] at h
  | k + 1, x, h => by
    unfold namedTo at h
    split at h
    · rename_i y hy
      injection h with h
      subst h
      exact namedTo_ok s k _ hy
    · split at h
      · injection h with h
        subst h
        exact readB_ok _
      · cases h
theorem namedB_ok (s : ByteArray) : (∀ t ∈ rdT (namedB s), TIn (rdC (namedB s)) t) ∧ 0 ≤ rdC (namedB s) ∧ rdC (namedB s) ≤ 6 ∧ (rdT (namedB s)).length ≤ 16 := by
  cases h : namedB s with
  | none => exact ⟨fun t ht => by simp [rdT] at ht, by simp [rdC], by simp [rdC], by simp [rdT]⟩
  | some x => exact namedTo_ok s 8 x h
def SmallK (c : Int) (ts : List T4) : Prop := (∀ t ∈ ts, TIn c t) ∧ 0 ≤ c ∧ c ≤ 6 ∧ ts.length ≤ 16
set_option maxRecDepth 100000 in
set_option maxHeartbeats 4000000 in
theorem l01Small_c (g : Nat) (code : List Int) (w : World) (h : Src w g code) :
    Calls Tryz.prog 81 #[.pointer (some ⟨g, 0, none⟩)] w (SetDrawn w g code w.heap.size SmallK) := by
  have HL := Lib.hid h.lt
  have HS := Lib.hid (h.alloc (.cells #[.int .i64 0, .slice none 0 0] 26))
  have HG := Lib.hid (World.grownBy.refl (w.alloc (.cells #[.int .i64 0, .slice none 0 0] 26)) (some g))
  clear h
  go_enter Tryz.func81, Tryz.ntmps81
  go_wp2_with fail
  refine (l01Next_c g code _ _ HS.out).mono ?_
  rintro e w7 ⟨r7, rfl, a, b, c, S, G⟩
  have M7 := Lib.hid (And.intro a (And.intro b c))
  replace HG := Lib.hid (HG.out.trans G)
  replace HS := Lib.hid S
  clear S G a b c
  have HZ0 : Hid (Blk w7 w.heap.size [.int .i64 0, .slice none 0 0] 26) := (Blk.newA w _ _).kept1 HG.out (by have := HL.out; intro e; injection e with e; omega)
  have HZs : Hid (w.heap.size < w7.heap.size) := HZ0.out.lt
  by_cases h0 : r7 = 0
  · subst h0
    go_wp2_with fail
    refine (l01Names_c _).mono ?_
    rintro e w1 ⟨rfl, hO, hb⟩
    replace HZ0 := Lib.hid (HZ0.out.under hb)
    replace HS := Lib.hid (HS.out.below hb)
    replace HG := Lib.hid (HG.out.trans (grown_below hb (some g)))
    have HN := Lib.hid hO
    have Hb := Lib.hid hb.size
    clear hO hb
    go_wp2_with fail
    have HSn := HS.out
    refine (l01Next_c g code _ _ HSn).mono ?_
    rintro e w8 ⟨r8, rfl, a8, b8, c8, S8, G8⟩
    have HN8 : Hid (OwnS w8 w7.heap.size (.slice (some ⟨w7.heap.size, 0, none⟩) 8 8) namesL) := World.ownsRow.kept HN.out G8 (.inr (by show some w7.heap.size ≠ some g; intro e; injection e with e; have := HZs.out; have := HL.out; omega))
    replace HG := Lib.hid (HG.out.trans G8)
    replace HZ0 : Hid (Blk w8 w.heap.size [.int .i64 0, .slice none 0 0] 26) := HZ0.out.kept1 G8 (by have := HL.out; intro e; injection e with e; omega)
    replace HS := Lib.hid S8
    have HSz8 : Hid (w.heap.size < w8.heap.size) := HZ0.out.lt
    obtain ⟨j, rfl⟩ := Int.eq_ofNat_of_zero_le a8
    have hj : j < 8 := by have := c8 (by omega); omega
    obtain ⟨_, e1, -, hlt, c1⟩ := HN8.out.at_ j (by show j < 8; exact hj)
    injection e1 with e1
    injection e1 with e1
    subst e1
    generalize namesL[j]'(by show j < 8; exact hj) = nm at *
    clear S8 G8 a8 b8 c8 HSn
    go_wp2_with fail
    refine (l01Named_c nm _).mono ?_
    rintro e w9 ⟨A, cx, rfl, hO9, hb9⟩
    obtain ⟨k1, k2, k3, k4⟩ := namedB_ok nm
    generalize rdC (namedB nm) = cc at *
    generalize rdT (namedB nm) = tt at *
    generalize (namedB nm).isSome = bb at *
    have HO9 := Lib.hid hO9
    replace HZ0 := Lib.hid (HZ0.out.under hb9)
    replace HS := Lib.hid (HS.out.below hb9)
    replace HG := Lib.hid (HG.out.trans (grown_below hb9 (some g)))
    have HSz9 : Hid (w8.heap.size ≤ w9.heap.size) := hb9.size
    have HK := Lib.hid k1
    clear hO9 hb9 k1 c1
    go_wp2_with fail
    obtain ⟨wt, hwt⟩ : ∃ wt, wt = w9.alloc (.cells #[.int .i64 cc, .slice A tt.length cx] 26) := ⟨_, rfl⟩
    have HX : Hid (Blk wt w9.heap.size [.int .i64 cc, .slice A tt.length cx] 26) := by rw [hwt]; exact Blk.newA _ _ _
    have Bt : Below w9.heap.size w9 wt := by rw [hwt]; exact below_al (Below.refl _ _)
    rw [← hwt]
    clear hwt
    replace HS := Lib.hid (HS.out.below Bt)
    replace HG := Lib.hid (HG.out.trans (grown_below Bt (some g)))
    replace HZ0 := Lib.hid (HZ0.out.under Bt)
    have HOt := Lib.hid (HO9.out.below Bt)
    clear Bt
    have e0 := fun w1 (h : Blk w1 w9.heap.size [.int .i64 cc, .slice A tt.length cx] 26) => h.cell 0 (by simp)
    have e1 := fun w1 (h : Blk w1 w9.heap.size [.int .i64 cc, .slice A tt.length cx] 26) => h.cell 1 (by simp)
    simp only [List.getElem_cons_zero, List.getElem_cons_succ] at e0 e1
    refine wp_region_mix [(0, true), (1, true), (2, true), (3, true), (4, false), (5, false), (6, false)] (fun w' => Blk w' w9.heap.size [.int .i64 cc, .slice A tt.length cx] 26) (by kernel_rfl) (by kernel_rfl) (fun _ _ d _ _ h => by cases d <;> exact h) (HX.out.drew) ?_
    repeat (first
      | (refine mix_skip rfl rfl (fun K' hK' => ?_); go_simp; refine hK' _ ?_; clear hK' K')
      | (refine mix_do (v := ?_) rfl rfl (fun w1 hb => ?_) (fun K' hK' => ?_); rotate_left
         · go_simp
           rfl
         go_simp; refine hK' _ ?_; clear hK' K'))
    refine mix_call rfl rfl (fun K' hK' => ?_)
    go_simp
    refine (l01DrawOrder_c g code cc _ HS.out.drew (by omega)).mono ?_
    rintro e wo ⟨v, ps, rfl, hOp, hpl, hpi, S, G⟩
    have HXo := Lib.hid (HX.out.drew.kept1 G (by have := HSz8.out; have := HSz9.out; have := HL.out; intro e; injection e with e; omega))
    have HZo := Lib.hid (HZ0.out.drew.kept1 G (by have := HL.out; intro e; injection e with e; omega))
    have HSo := Lib.hid S
    have HGo := Lib.hid ((grown_drw HG.out).trans G)
    have HOto := Lib.hid ((show OwnT wt.drew w8.heap.size (.slice A tt.length cx) tt from HOt.out).grew G (by have := HSz8.out; have := HL.out; omega))
    obtain ⟨P, cp, rfl, hPc, -⟩ := hOp.shape
    have HPc := Lib.hid hPc
    have HPl : Hid ((ps.length : Int) = cc) := by show _ = _; omega
    have HPi := Lib.hid hpi
    clear S G hOp hPc hpl hpi
    refine hK' _ _ (HXo.out) ?_; clear hK' K'
    refine mix_call rfl rfl (fun K' hK' => ?_)
    go_simp
    refine (l01Renamed_c cc tt A cx ps P cp wo HOto.out.cells (by omega) HPc.out (by rw [HPl.out]; exact HK.out)).mono ?_
    rintro e wr ⟨A', cx', rfl, hOr, hbr⟩
    have HXr := Lib.hid (HXo.out.under hbr)
    have HZr := Lib.hid (HZo.out.under hbr)
    have HSr := Lib.hid (HSo.out.below hbr)
    have HGr := Lib.hid (HGo.out.trans (grown_below hbr (some g)))
    have HFk : Hid (SmallK cc (setT (tt.map (renT ps)))) := ⟨fun t ht => by
        obtain ⟨t0, h0, rfl⟩ := List.mem_map.1 ((setT_mem _ t).1 ht)
        exact renT_in HPi.out (by rw [HPl.out]; exact HK.out t0 h0), k2, k3, by have := setT_take_len (tt.map (renT ps)); rw [List.length_map] at this; omega⟩
    generalize setT (tt.map (renT ps)) = ss at *
    have HOr := Lib.hid (hOr.lower (show w.heap.size + 1 ≤ wo.heap.size by have := HGo.out.size; rw [World.size_alloc] at this; exact this))
    clear hOr hbr e0 e1
    refine hK' _ _ (HXr.out) ?_; clear hK' K'
    refine mix_call rfl rfl (fun K' hK' => ?_)
    have y0 := HZr.out.cell 0 (by simp)
    have y1 := HZr.out.cell 1 (by simp)
    have g0 := HZr.out.frozen 0
    have g1 := HZr.out.frozen 1
    simp only [List.getElem_cons_zero, List.getElem_cons_succ] at y0 y1
    go_simp
    have HXf := Lib.hid ((HXr.out.other (a := ⟨w.heap.size, 0, none⟩) (by have := HSz8.out; have := HSz9.out; show w9.heap.size ≠ w.heap.size; omega) (.int .i64 cc)).other (a := ⟨w.heap.size, 1, none⟩) (by have := HSz8.out; have := HSz9.out; show w9.heap.size ≠ w.heap.size; omega) (.slice A' ss.length cx'))
    refine hK' _ _ (HXf.out) ?_; clear hK' K'
    refine mix_nil ?_
    clear y0 y1 g0 g1
    go_wp2
    refine bodyPost_ret (v := .agg #[.int .i64 cc, .slice A' ss.length cx']) (by
      have x0 := ((HZr.out.set 0 (.int .i64 cc)).set 1 (.slice A' ss.length cx')).cell 0 (by simp)
      have x1 := ((HZr.out.set 0 (.int .i64 cc)).set 1 (.slice A' ss.length cx')).cell 1 (by simp)
      simp only [List.set_cons_zero, List.set_cons_succ, List.getElem_cons_zero, List.getElem_cons_succ] at x0 x1
      simp [results, Tryz.results81, go_sem, x0, x1]) rfl ?_
    refine ⟨cc, ss, A', cx', rfl, ?_, HFk.out, ?_, ?_⟩
    · exact OwnT.lower ((HOr.out.other w.heap.size 0 (by omega) _).other w.heap.size 1 (by omega) _) (by omega)
    · have := HL.out
      exact (HSr.out.store (by dsimp only; omega)).store (by dsimp only; omega)
    · exact grown_store (grown_store ((World.grownBy_alloc w _ _).trans HGr.out) (Nat.le_refl _)) (Nat.le_refl _)
  · replace h0 : (r7 == 0) = false := by simp [h0]
    go_wp2_with fail
    refine (pick_new g code _ HS.out _ _ [1, 2, 2, 2, 3] _ rfl rfl (by simp)).mono ?_
    rintro e w1 ⟨r1, rfl, m1, S, G⟩
    have M1 := Lib.hid m1
    replace HG := Lib.hid (HG.out.trans G)
    replace HS := Lib.hid S
    clear S G m1
    go_wp2_with fail
    refine (pick_new g code _ HS.out _ _ [3, 6, 9] _ rfl rfl (by simp)).mono ?_
    rintro e w2 ⟨r2, rfl, m2, S, G⟩
    have M2 := Lib.hid m2
    replace HG := Lib.hid (HG.out.trans G)
    replace HS := Lib.hid S
    clear S G m2
    go_wp2_with fail
    refine (l01Next_c g code _ _ HS.out).mono ?_
    rintro e w3 ⟨r3, rfl, a, b, c, S, G⟩
    have M3 := Lib.hid (And.intro a (And.intro b c))
    replace HG := Lib.hid (HG.out.trans G)
    replace HS := Lib.hid S
    clear S G a b c
    have H1 : 1 ≤ r1 ∧ r1 ≤ 3 := by have := M1.out; simp at this; omega
    have H2 : 1 ≤ r2 ∧ r2 ≤ 9 := by have := M2.out; simp at this; omega
    have H3 : r3 < 9 := by have := M3.out.2.2 H2.1; omega
    go_wp2_with fail
    refine (l01DrawOf_c g code r1 r3 _ HS.out H1.1 (by omega)).mono ?_
    rintro e w4 ⟨c, ss, A', cx', rfl, hO, ⟨rfl, hK, hKl⟩, S, G⟩
    have HZr : Hid (Blk w4 w.heap.size [.int .i64 0, .slice none 0 0] 26) := ((Blk.newA w _ _).kept1 HG.out (by have := HL.out; intro e; injection e with e; omega)).kept1 G (by have := HL.out; intro e; injection e with e; omega)
    have HSr := Lib.hid S
    have HGr := Lib.hid (HG.out.trans G)
    have HFk : Hid (SmallK c ss) := ⟨hK, by omega, by omega, by omega⟩
    have HOr := Lib.hid (hO.lower (show w.heap.size + 1 ≤ _ by have := HG.out.size; rw [World.size_alloc] at this; omega))
    clear S G hO hK hKl
    have y0 := HZr.out.cell 0 (by simp)
    have y1 := HZr.out.cell 1 (by simp)
    have g0 := HZr.out.frozen 0
    have g1 := HZr.out.frozen 1
    simp only [List.getElem_cons_zero, List.getElem_cons_succ] at y0 y1
    go_wp2
    refine bodyPost_ret (v := .agg #[.int .i64 c, .slice A' ss.length cx']) (by
      have x0 := ((HZr.out.set 0 (.int .i64 c)).set 1 (.slice A' ss.length cx')).cell 0 (by simp)
      have x1 := ((HZr.out.set 0 (.int .i64 c)).set 1 (.slice A' ss.length cx')).cell 1 (by simp)
      simp only [List.set_cons_zero, List.set_cons_succ, List.getElem_cons_zero, List.getElem_cons_succ] at x0 x1
      simp [results, Tryz.results81, go_sem, x0, x1]) rfl ?_
    refine ⟨c, ss, A', cx', rfl, ?_, HFk.out, ?_, ?_⟩
    · exact OwnT.lower ((HOr.out.other w.heap.size 0 (by omega) _).other w.heap.size 1 (by omega) _) (by omega)
    · have := HL.out
      exact (HSr.out.store (by dsimp only; omega)).store (by dsimp only; omega)
    · exact grown_store (grown_store ((World.grownBy_alloc w _ _).trans HGr.out) (Nat.le_refl _)) (Nat.le_refl _)

end Go.Proofs.YtkgnejhflnekaaaGreat
