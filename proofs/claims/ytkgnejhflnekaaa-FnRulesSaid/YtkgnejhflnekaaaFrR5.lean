/- Contracts and lemmas for the statements of this seat, written for this claim; each theorem states its own conditions. -/
import Derived.Test.YtkgnejhflnekaaaFrR4
import Derived.Test.YtkgnejhflnekaaaFrZ1
import Derived.Test.YtkgnejhflnekaaaFrGw
set_option linter.unusedVariables false
set_option linter.unusedSimpArgs false
namespace Go.Proofs.Ytkgnejhflnekaaa
open Go.RowKit
/-- what l09DrawRows hands out: a set, blocks and rows, in new memory -/
def DRows9 (w : World) (e : Ending) (w' : World) : Prop :=
  ∃ c ts S cs L P cp M R cr, e = .returned (.tuple #[.agg #[.int .i64 c, .slice S ts.length cs], .slice P L.length cp, .slice R M.length cr]) ∧ OwnT w' w.heap.size (.slice S ts.length cs) ts ∧ ts.length ≤ 101 ∧
    RowsN w' w.heap.size P L ∧ L.length ≤ 101 ∧ Short 4 L ∧ RowsN w' w.heap.size R M ∧ M.length ≤ 10 ∧ Short 8 M ∧ Below w.heap.size w w'
theorem W9.fin9 {w wr : World} {g : Nat} {code : List Int} {c : Int} {ts : List T4} {A : Option Addr} {cx gT : Nat} {L : List (List Int)} {P : Option Addr} {bc : List Value} (h : W9 w wr g code c ts A cx gT L P bc) {M : List (List Int)} {R : Option Addr} (hR : RowsN wr (g + 1) R M) (x y : Value) :
    OwnT ((wr.setCell ⟨w.heap.size, 0, none⟩ x).setCell ⟨w.heap.size, 1, none⟩ y) w.heap.size (.slice A ts.length cx) ts ∧ RowsN ((wr.setCell ⟨w.heap.size, 0, none⟩ x).setCell ⟨w.heap.size, 1, none⟩ y) w.heap.size P L ∧
    RowsN ((wr.setCell ⟨w.heap.size, 0, none⟩ x).setCell ⟨w.heap.size, 1, none⟩ y) w.heap.size R M ∧ Below w.heap.size w ((wr.setCell ⟨w.heap.size, 0, none⟩ x).setCell ⟨w.heap.size, 1, none⟩ y) := by
  have hg := h.hg
  have h1 := (h.own.other w.heap.size 0 (by omega) x).other w.heap.size 1 (by omega) y
  have h2 := (h.rws.store (b := w.heap.size) (o := 0) (v := x) (by omega)).store (b := w.heap.size) (o := 1) (v := y) (by omega)
  have h3 := (hR.store (b := w.heap.size) (o := 0) (v := x) (by omega)).store (b := w.heap.size) (o := 1) (v := y) (by omega)
  exact ⟨h1.lower (by omega), h2.lower (by omega), h3.lower (by omega), (h.sub.setCell (Nat.le_refl _) _).setCell (Nat.le_refl _) _⟩
set_option maxRecDepth 100000 in
set_option maxHeartbeats 4000000 in
theorem l09DrawRows_c (A : Option Addr) (cx : Nat) (code : List Int) (b : Bool) (w : World) (h : BytesC w A code) (hok : BytesOk code) :
    Calls Try.prog 24 #[.slice A code.length cx, .bool b] w (DRows9 w) := by
  have HF := Lib.hid (fun (W : World) (hW : Below w.heap.size w W) => l01From_c A cx code W (h.below hW) hok)
  clear h hok
  go_enter Try.func24, Try.ntmps24
  go_wp2_with fail
  obtain ⟨w0, hw0⟩ : ∃ w0, w0 = w.alloc (.cells #[.int .i64 0, .slice none 0 0] 26) := ⟨_, rfl⟩
  have Hw0 := Lib.hid hw0
  have HBw : Hid (Below w.heap.size w w0) := by rw [hw0]; exact below_al (Below.refl _ _)
  rw [← hw0]
  clear hw0
  refine (HF.out _ HBw.out).mono ?_
  rintro e w1 ⟨g, rfl, hlt, S, hb⟩
  have Hb := Lib.hid hb
  have Hlt := Lib.hid hlt
  have HS := Lib.hid S
  clear hb hlt S
  go_wp2_with fail
  refine (l09Draw_c g code _ HS.out).mono ?_
  rintro e w2 ⟨c, ts, S, cs, v, L, rfl, hO, hV, hK, hB, hS, hG⟩
  obtain ⟨P, cp, rfl, -⟩ := hV.rows
  have hLn : L.length ≤ 16 := by rw [hB.1]; exact hK.2.2.2
  have H4 : Hid (∀ r ∈ L, r.length = 4) := fun r hr => by
    obtain ⟨k, hk, rfl⟩ := List.getElem_of_mem hr
    exact (hB.2 k hk).1
  have hg1 := HS.out.lt
  have HQ := Lib.hid (W9.start (c := c) Hw0.out Hb.out Hlt.out (hO.lower (by omega)) (hV.rowsN.lower (by omega)) hS hG (by have := hK.2.2.2; omega) (by omega) (fun j hj => Nat.le_of_eq (H4.out _ (List.getElem_mem hj))))
  have hts := hK.2.2.2
  have HBk := Lib.hid hB
  clear hO hV hK hB hS hG hg1
  by_cases hz : L.length = 0
  · have hz' : ((L.length : Int) == 0) = true := by simp [hz]
    clear hz
    go_wp2_with fail
    obtain ⟨gT, hgT⟩ : ∃ gT, gT = w2.heap.size := ⟨_, rfl⟩
    obtain ⟨wt, hwt⟩ : ∃ wt, wt = w2.alloc (.cells #[.int .i64 c, .slice S ts.length cs] 26) := ⟨_, rfl⟩
    rw [← hwt, ← hgT] at HQ
    rw [← hwt, ← hgT]
    clear hwt hgT
    clear hz'
    refine (l01Bad_c g code c ts S cs (g + 1) _ HQ.out.src HQ.out.own (by omega) HQ.out.src.lt (by omega)).mono ?_
    rintro e w3 ⟨c3, t3, A3, cx3, rfl, hO3, hK3, S3, G3⟩
    replace HQ := Lib.hid (HQ.out.grow S3 G3)
    replace HQ := Lib.hid (HQ.out.turn (c' := c3) hO3 HQ.out.rws hK3 HQ.out.ll HQ.out.sh)
    have HQ5 := Lib.hid (HQ.out.below (below_al (o := .cells #[.slice (some ⟨w3.heap.size, 0, none⟩) 1 1] 40) (below_al (o := .cells #[.int .i64 0] 2) (Below.refl w3.heap.size w3))))
    have HR5 : Hid (RowsN ((w3.alloc (.cells #[.int .i64 0] 2)).alloc (.cells #[.slice (some ⟨w3.heap.size, 0, none⟩) 1 1] 40)) (g + 1) (some ⟨w3.heap.size + 1, 0, none⟩) [[0]]) := (OwnII.one 0 rfl (show g + 1 ≤ w3.heap.size from S3.lt)).rowsN
    clear S3 G3 hO3 hK3
    have y0 := HQ5.out.res.cell 0 (by simp)
    have y1 := HQ5.out.res.cell 1 (by simp)
    have g0 := HQ5.out.res.frozen 0
    have g1 := HQ5.out.res.frozen 1
    simp only [List.getElem_cons_zero, List.getElem_cons_succ] at y0 y1
    go_wp2_with fail
    refine bodyPost_ret (v := .tuple #[.agg #[.int .i64 c3, .slice A3 t3.length cx3], .slice P L.length cp, .slice (some ⟨w3.heap.size + 1, 0, none⟩) 1 1]) (by
      have x0 := ((HQ5.out.res.set 0 (.int .i64 c3)).set 1 (.slice A3 t3.length cx3)).cell 0 (by simp)
      have x1 := ((HQ5.out.res.set 0 (.int .i64 c3)).set 1 (.slice A3 t3.length cx3)).cell 1 (by simp)
      simp only [List.set_cons_zero, List.set_cons_succ, List.getElem_cons_zero, List.getElem_cons_succ] at x0 x1
      simp [results, Try.results24, go_sem, x0, x1]) rfl ?_
    obtain ⟨f1, f2, f3, f4⟩ := HQ5.out.fin9 HR5.out (.int .i64 c3) (.slice A3 t3.length cx3)
    exact ⟨c3, t3, A3, cx3, L, P, cp, [[0]], _, _, rfl, f1, HQ5.out.lt, f2, HQ5.out.ll, HQ5.out.sh, f3, by simp, fun k hk => by simp at hk; subst hk; simp, f4⟩
  · have hz' : ((L.length : Int) == 0) = false := beq_eq_false_iff_ne.2 (by omega)
    have h5 : L.length = ts.length := HBk.out.1
    have h0 : 0 < ts.length := by omega
    clear h5
    clear hz
    go_wp2_with fail
    obtain ⟨gT, hgT⟩ : ∃ gT, gT = w2.heap.size := ⟨_, rfl⟩
    obtain ⟨wt, hwt⟩ : ∃ wt, wt = w2.alloc (.cells #[.int .i64 c, .slice S ts.length cs] 26) := ⟨_, rfl⟩
    rw [← hwt, ← hgT] at HQ
    rw [← hwt, ← hgT]
    clear hwt hgT
    clear hz'
    refine (l01DrawRows_c g code c ts S cs (g + 1) _ HQ.out.src HQ.out.own (by omega) h0 (by omega)).mono ?_
    rintro e w3 ⟨v3, M, rfl, hM, hM5, hM4, S3, G3⟩
    obtain ⟨R, cM, rfl, -⟩ := hM.rows
    have HR := Lib.hid (hM.rowsN.lower (show g + 1 ≤ wt.heap.size + 1 by have := HQ.out.src.lt; omega))
    replace HQ := Lib.hid (HQ.out.grow S3 G3)
    have HM : Hid (M.length ≤ 10 ∧ Short 8 M) := ⟨by omega, fun k hk => by have := hM4 k hk; omega⟩
    have hM5' := hM5
    have HM4 := Lib.hid hM4
    clear hM S3 G3 hM4
    have HC := Lib.hid (fun (W : World) (hq : Below w3.heap.size w3 W) => l01Rows_c c ts S cs M R cM W (HQ.out.own.cells.below hq) (by omega) (HR.out.rows.below hq) (by omega) (fun k hk => by have := HM4.out k hk; omega))
    have HD := Lib.hid (fun h => (rowsB_ok (codeB_zer (s := isSetB c ts) (b := rowsB ts.length M) h).2))
    generalize codeB (isSetB c ts) (rowsB ts.length M) = d at *
    have b0 := HQ.out.box.cell 0 (by simp)
    have b1 := HQ.out.box.cell 1 (by simp)
    simp only [List.getElem_cons_zero, List.getElem_cons_succ] at b0 b1
    go_wp2_with fail
    clear b0 b1
    refine (HC.out _ (Below.refl _ _)).mono ?_
    rintro e w4 ⟨rfl, hb4⟩
    replace HQ := Lib.hid (HQ.out.below hb4)
    replace HR := Lib.hid (HR.out.below hb4)
    clear hb4 HC
    by_cases hd : d = 0
    · have hd' : (d == 0) = true := by simp [hd]
      obtain ⟨-, hIn⟩ := HD.out hd
      have HIn := Lib.hid hIn
      clear hd hIn
      cases b
      · have b0 := HQ.out.box.cell 0 (by simp)
        have b1 := HQ.out.box.cell 1 (by simp)
        simp only [List.getElem_cons_zero, List.getElem_cons_succ] at b0 b1
        go_wp2_with fail
        clear b0 b1
        refine (l01Bad_c g code c ts S cs (g + 1) _ HQ.out.src HQ.out.own (by omega) HQ.out.src.lt (by omega)).mono ?_
        rintro e w8 ⟨c3, t3, A3, cx3, rfl, hO3, hK3, S3, G3⟩
        replace HQ := Lib.hid (HQ.out.grow S3 G3)
        replace HR := Lib.hid (HR.out.grew G3 (by omega))
        have HO3 := Lib.hid hO3
        clear S3 G3 hO3
        go_wp2_with fail
        refine (l09Bad_c g code L P cp (g + 1) _ HQ.out.src HQ.out.rws H4.out (by omega)).mono ?_
        rintro e w9 ⟨P4, L4, cp4, rfl, hN4, ⟨hl4, hS4⟩, S4, G4⟩
        have hN5 := hN4.lower (show g + 1 ≤ w8.heap.size from HQ.out.src.lt)
        replace HQ := Lib.hid (HQ.out.grow S4 G4)
        replace HR := Lib.hid (HR.out.grew G4 (by omega))
        replace HO3 := HO3.out.grew G4 (by omega)
        replace HQ := Lib.hid (HQ.out.turn (c' := c3) HO3 hN5 hK3 hl4 hS4)
        clear S4 G4 hN4 hN5 hS4 HO3 hl4 hK3
        have y0 := HQ.out.res.cell 0 (by simp)
        have y1 := HQ.out.res.cell 1 (by simp)
        have g0 := HQ.out.res.frozen 0
        have g1 := HQ.out.res.frozen 1
        simp only [List.getElem_cons_zero, List.getElem_cons_succ] at y0 y1
        go_wp2
        refine bodyPost_ret (v := .tuple #[.agg #[.int .i64 c3, .slice A3 t3.length cx3], .slice P4 L4.length cp4, .slice R M.length cM]) (by
          have x0 := ((HQ.out.res.set 0 (.int .i64 c3)).set 1 (.slice A3 t3.length cx3)).cell 0 (by simp)
          have x1 := ((HQ.out.res.set 0 (.int .i64 c3)).set 1 (.slice A3 t3.length cx3)).cell 1 (by simp)
          simp only [List.set_cons_zero, List.set_cons_succ, List.getElem_cons_zero, List.getElem_cons_succ] at x0 x1
          simp [results, Try.results24, go_sem, x0, x1]) rfl ?_
        obtain ⟨f1, f2, f3, f4⟩ := HQ.out.fin9 HR.out (.int .i64 c3) (.slice A3 t3.length cx3)
        exact ⟨c3, t3, A3, cx3, L4, P4, cp4, M, R, cM, rfl, f1, HQ.out.lt, f2, HQ.out.ll, HQ.out.sh, f3, HM.out.1, HM.out.2, f4⟩
      · go_wp2_with fail
        refine (l01Next_c g code _ _ HQ.out.src).mono ?_
        rintro e w5 ⟨r, rfl, _, _, _, S5, G5⟩
        replace HQ := Lib.hid (HQ.out.grow S5 G5)
        replace HR := Lib.hid (HR.out.grew G5 (by omega))
        clear S5 G5
        by_cases hr : 0 < r
        · go_wp2_with fail
          refine (l09Grow_c L P cp M R cM ts.length _ HQ.out.rws.rows HBk.out HR.out.rows HIn.out (by omega) (fun k hk => by have := HM4.out k hk; omega)).mono ?_
          rintro e w6 ⟨v6, rfl, hO6, hb6⟩
          obtain ⟨R6, c6, rfl, -⟩ := hO6.rows
          have hw5 := HQ.out.src.lt
          replace HQ := Lib.hid (HQ.out.below hb6)
          have HR6 := Lib.hid (hO6.rowsN.lower (show g + 1 ≤ w5.heap.size from hw5))
          have HM6 : Hid ((grownL L M).length ≤ 10 ∧ Short 8 (grownL L M)) := ⟨by rw [grownL_len]; omega, by
            have := grownL_short (n := 4) HBk.out HIn.out HM4.out
            exact this⟩
          clear HR HM hb6 hO6 hw5
          rename_i HRx
          have HR := HR6
          have HM := HM6
          clear HR6 HM6
          obtain ⟨M6, hM6⟩ : ∃ M6, M6 = grownL L M := ⟨_, rfl⟩
          rw [← hM6] at HR HM ⊢
          clear hM6 HIn HM4 HD
          clear hM5 hM5'
          obtain ⟨M, rfl⟩ : ∃ Mq, Mq = M6 := ⟨_, rfl⟩
          obtain ⟨R, rfl⟩ : ∃ Rq, Rq = R6 := ⟨_, rfl⟩
          obtain ⟨cM, rfl⟩ : ∃ cq, cq = c6 := ⟨_, rfl⟩
          have b0 := HQ.out.box.cell 0 (by simp)
          have b1 := HQ.out.box.cell 1 (by simp)
          simp only [List.getElem_cons_zero, List.getElem_cons_succ] at b0 b1
          go_wp2_with fail
          clear b0 b1
          refine (l01Bad_c g code c ts S cs (g + 1) _ HQ.out.src HQ.out.own (by omega) HQ.out.src.lt (by omega)).mono ?_
          rintro e w8 ⟨c3, t3, A3, cx3, rfl, hO3, hK3, S3, G3⟩
          replace HQ := Lib.hid (HQ.out.grow S3 G3)
          replace HR := Lib.hid (HR.out.grew G3 (by omega))
          have HO3 := Lib.hid hO3
          clear S3 G3 hO3
          go_wp2_with fail
          refine (l09Bad_c g code L P cp (g + 1) _ HQ.out.src HQ.out.rws H4.out (by omega)).mono ?_
          rintro e w9 ⟨P4, L4, cp4, rfl, hN4, ⟨hl4, hS4⟩, S4, G4⟩
          have hN5 := hN4.lower (show g + 1 ≤ w8.heap.size from HQ.out.src.lt)
          replace HQ := Lib.hid (HQ.out.grow S4 G4)
          replace HR := Lib.hid (HR.out.grew G4 (by omega))
          replace HO3 := HO3.out.grew G4 (by omega)
          replace HQ := Lib.hid (HQ.out.turn (c' := c3) HO3 hN5 hK3 hl4 hS4)
          clear S4 G4 hN4 hN5 hS4 HO3 hl4 hK3
          have y0 := HQ.out.res.cell 0 (by simp)
          have y1 := HQ.out.res.cell 1 (by simp)
          have g0 := HQ.out.res.frozen 0
          have g1 := HQ.out.res.frozen 1
          simp only [List.getElem_cons_zero, List.getElem_cons_succ] at y0 y1
          go_wp2
          refine bodyPost_ret (v := .tuple #[.agg #[.int .i64 c3, .slice A3 t3.length cx3], .slice P4 L4.length cp4, .slice R M.length cM]) (by
            have x0 := ((HQ.out.res.set 0 (.int .i64 c3)).set 1 (.slice A3 t3.length cx3)).cell 0 (by simp)
            have x1 := ((HQ.out.res.set 0 (.int .i64 c3)).set 1 (.slice A3 t3.length cx3)).cell 1 (by simp)
            simp only [List.set_cons_zero, List.set_cons_succ, List.getElem_cons_zero, List.getElem_cons_succ] at x0 x1
            simp [results, Try.results24, go_sem, x0, x1]) rfl ?_
          obtain ⟨f1, f2, f3, f4⟩ := HQ.out.fin9 HR.out (.int .i64 c3) (.slice A3 t3.length cx3)
          exact ⟨c3, t3, A3, cx3, L4, P4, cp4, M, R, cM, rfl, f1, HQ.out.lt, f2, HQ.out.ll, HQ.out.sh, f3, HM.out.1, HM.out.2, f4⟩
        · have hr' : ¬ 0 < r := hr
          have b0 := HQ.out.box.cell 0 (by simp)
          have b1 := HQ.out.box.cell 1 (by simp)
          simp only [List.getElem_cons_zero, List.getElem_cons_succ] at b0 b1
          go_wp2_with fail
          clear b0 b1
          refine (l01Bad_c g code c ts S cs (g + 1) _ HQ.out.src HQ.out.own (by omega) HQ.out.src.lt (by omega)).mono ?_
          rintro e w8 ⟨c3, t3, A3, cx3, rfl, hO3, hK3, S3, G3⟩
          replace HQ := Lib.hid (HQ.out.grow S3 G3)
          replace HR := Lib.hid (HR.out.grew G3 (by omega))
          have HO3 := Lib.hid hO3
          clear S3 G3 hO3
          go_wp2_with fail
          refine (l09Bad_c g code L P cp (g + 1) _ HQ.out.src HQ.out.rws H4.out (by omega)).mono ?_
          rintro e w9 ⟨P4, L4, cp4, rfl, hN4, ⟨hl4, hS4⟩, S4, G4⟩
          have hN5 := hN4.lower (show g + 1 ≤ w8.heap.size from HQ.out.src.lt)
          replace HQ := Lib.hid (HQ.out.grow S4 G4)
          replace HR := Lib.hid (HR.out.grew G4 (by omega))
          replace HO3 := HO3.out.grew G4 (by omega)
          replace HQ := Lib.hid (HQ.out.turn (c' := c3) HO3 hN5 hK3 hl4 hS4)
          clear S4 G4 hN4 hN5 hS4 HO3 hl4 hK3
          have y0 := HQ.out.res.cell 0 (by simp)
          have y1 := HQ.out.res.cell 1 (by simp)
          have g0 := HQ.out.res.frozen 0
          have g1 := HQ.out.res.frozen 1
          simp only [List.getElem_cons_zero, List.getElem_cons_succ] at y0 y1
          go_wp2
          refine bodyPost_ret (v := .tuple #[.agg #[.int .i64 c3, .slice A3 t3.length cx3], .slice P4 L4.length cp4, .slice R M.length cM]) (by
            have x0 := ((HQ.out.res.set 0 (.int .i64 c3)).set 1 (.slice A3 t3.length cx3)).cell 0 (by simp)
            have x1 := ((HQ.out.res.set 0 (.int .i64 c3)).set 1 (.slice A3 t3.length cx3)).cell 1 (by simp)
            simp only [List.set_cons_zero, List.set_cons_succ, List.getElem_cons_zero, List.getElem_cons_succ] at x0 x1
            simp [results, Try.results24, go_sem, x0, x1]) rfl ?_
          obtain ⟨f1, f2, f3, f4⟩ := HQ.out.fin9 HR.out (.int .i64 c3) (.slice A3 t3.length cx3)
          exact ⟨c3, t3, A3, cx3, L4, P4, cp4, M, R, cM, rfl, f1, HQ.out.lt, f2, HQ.out.ll, HQ.out.sh, f3, HM.out.1, HM.out.2, f4⟩
    · have hd' : (d == 0) = false := by simp [hd]
      clear hd
      have b0 := HQ.out.box.cell 0 (by simp)
      have b1 := HQ.out.box.cell 1 (by simp)
      simp only [List.getElem_cons_zero, List.getElem_cons_succ] at b0 b1
      go_wp2_with fail
      clear b0 b1
      refine (l01Bad_c g code c ts S cs (g + 1) _ HQ.out.src HQ.out.own (by omega) HQ.out.src.lt (by omega)).mono ?_
      rintro e w8 ⟨c3, t3, A3, cx3, rfl, hO3, hK3, S3, G3⟩
      replace HQ := Lib.hid (HQ.out.grow S3 G3)
      replace HR := Lib.hid (HR.out.grew G3 (by omega))
      have HO3 := Lib.hid hO3
      clear S3 G3 hO3
      go_wp2_with fail
      refine (l09Bad_c g code L P cp (g + 1) _ HQ.out.src HQ.out.rws H4.out (by omega)).mono ?_
      rintro e w9 ⟨P4, L4, cp4, rfl, hN4, ⟨hl4, hS4⟩, S4, G4⟩
      have hN5 := hN4.lower (show g + 1 ≤ w8.heap.size from HQ.out.src.lt)
      replace HQ := Lib.hid (HQ.out.grow S4 G4)
      replace HR := Lib.hid (HR.out.grew G4 (by omega))
      replace HO3 := HO3.out.grew G4 (by omega)
      replace HQ := Lib.hid (HQ.out.turn (c' := c3) HO3 hN5 hK3 hl4 hS4)
      clear S4 G4 hN4 hN5 hS4 HO3 hl4 hK3
      have y0 := HQ.out.res.cell 0 (by simp)
      have y1 := HQ.out.res.cell 1 (by simp)
      have g0 := HQ.out.res.frozen 0
      have g1 := HQ.out.res.frozen 1
      simp only [List.getElem_cons_zero, List.getElem_cons_succ] at y0 y1
      go_wp2
      refine bodyPost_ret (v := .tuple #[.agg #[.int .i64 c3, .slice A3 t3.length cx3], .slice P4 L4.length cp4, .slice R M.length cM]) (by
        have x0 := ((HQ.out.res.set 0 (.int .i64 c3)).set 1 (.slice A3 t3.length cx3)).cell 0 (by simp)
        have x1 := ((HQ.out.res.set 0 (.int .i64 c3)).set 1 (.slice A3 t3.length cx3)).cell 1 (by simp)
        simp only [List.set_cons_zero, List.set_cons_succ, List.getElem_cons_zero, List.getElem_cons_succ] at x0 x1
        simp [results, Try.results24, go_sem, x0, x1]) rfl ?_
      obtain ⟨f1, f2, f3, f4⟩ := HQ.out.fin9 HR.out (.int .i64 c3) (.slice A3 t3.length cx3)
      exact ⟨c3, t3, A3, cx3, L4, P4, cp4, M, R, cM, rfl, f1, HQ.out.lt, f2, HQ.out.ll, HQ.out.sh, f3, HM.out.1, HM.out.2, f4⟩
set_option maxRecDepth 100000 in
set_option maxHeartbeats 1000000 in
theorem DrawGrowRows_c (A : Option Addr) (cx : Nat) (code : List Int) (w : World) (h : BytesC w A code) (hok : BytesOk code) :
    Calls Try.prog 5 #[.slice A code.length cx] w fun e w' => ∃ c ts S cs L P cp M R cr, e = .returned (.tuple #[.agg #[.int .i64 c, .slice S ts.length cs], .slice P L.length cp, .slice R M.length cr]) ∧ SetRows w w' ts S L P ∧ RowsC w' R M ∧ M.length ≤ 10 ∧ Short 8 M := by
  have HF := Lib.hid (fun (W : World) (hW : Below w.heap.size w W) => l09DrawRows_c A cx code false W (h.below hW) hok)
  clear h hok
  go_enter Try.func5, Try.ntmps5
  go_wp2_with fail
  obtain ⟨w0, hw0⟩ : ∃ w0, w0 = w.alloc (.cells #[.int .i64 0, .slice none 0 0] 26) := ⟨_, rfl⟩
  have HBw : Hid (Below w.heap.size w w0) := by rw [hw0]; exact below_al (Below.refl _ _)
  have HSz : Hid (w0.heap.size = w.heap.size + 1) := by rw [hw0]; simp [Hid]
  have HRes : Hid (Blk w0 w.heap.size [.int .i64 0, .slice none 0 0] 26) := by rw [hw0]; exact Blk.newA _ _ _
  rw [← hw0]
  clear hw0
  refine (HF.out _ HBw.out).mono ?_
  rintro e w1 ⟨c, ts, S, cs, L, P, cp, M, R, cr, rfl, hO, hts, hP, hL, hSh, hR, hM, hMs, hb⟩
  have HO := Lib.hid hO
  have HP := Lib.hid hP
  have HR := Lib.hid hR
  have HL := Lib.hid (And.intro hL (And.intro hSh (And.intro hM (And.intro hMs hts))))
  have Hb := Lib.hid hb
  replace HRes := Lib.hid (HRes.out.under hb)
  clear hO hP hR hL hSh hM hMs hb hts
  go_upto_region 2 with (fail)
  obtain ⟨gT, hgT⟩ : ∃ gT, gT = w1.heap.size := ⟨_, rfl⟩
  obtain ⟨wt, hwt⟩ : ∃ wt, wt = w1.alloc (.cells #[.int .i64 c, .slice S ts.length cs] 26) := ⟨_, rfl⟩
  have HBx : Hid (Blk wt gT [.int .i64 c, .slice S ts.length cs] 26) := by rw [hwt, hgT]; exact Blk.newA _ _ _
  have Hbt : Hid (Below w1.heap.size w1 wt) := by rw [hwt]; exact below_al (Below.refl _ _)
  rw [← hwt, ← hgT]
  clear hwt hgT
  have HOt := Lib.hid (HO.out.below Hbt.out)
  have HPt := Lib.hid (HP.out.below Hbt.out)
  have HRt := Lib.hid (HR.out.below Hbt.out)
  have HRest := Lib.hid (HRes.out.under Hbt.out)
  have Hbw : Hid (Below w.heap.size w wt) := HBw.out.trans ((Hb.out.trans (Hbt.out.mono Hb.out.size)).mono HBw.out.size)
  have e0 := HBx.out.cell 0 (by simp)
  have e1 := HBx.out.cell 1 (by simp)
  simp only [List.getElem_cons_zero, List.getElem_cons_succ] at e0 e1
  have y0 := HRest.out.cell 0 (by simp)
  have y1 := HRest.out.cell 1 (by simp)
  have g0 := HRest.out.frozen 0
  have g1 := HRest.out.frozen 1
  simp only [List.getElem_cons_zero, List.getElem_cons_succ] at y0 y1
  go_wp2
  refine bodyPost_ret (v := .tuple #[.agg #[.int .i64 c, .slice S ts.length cs], .slice P L.length cp, .slice R M.length cr]) (by
    have x0 := ((HRest.out.set 0 (.int .i64 c)).set 1 (.slice S ts.length cs)).cell 0 (by simp)
    have x1 := ((HRest.out.set 0 (.int .i64 c)).set 1 (.slice S ts.length cs)).cell 1 (by simp)
    simp only [List.set_cons_zero, List.set_cons_succ, List.getElem_cons_zero, List.getElem_cons_succ] at x0 x1
    simp [results, Try.results5, go_sem, x0, x1]) rfl ?_
  have hz := HSz.out
  have h1 := (HOt.out.other w.heap.size 0 (by omega) (.int .i64 c)).other w.heap.size 1 (by omega) (.slice S ts.length cs)
  have h2 := (HPt.out.store (b := w.heap.size) (o := 0) (v := .int .i64 c) (by omega)).store (b := w.heap.size) (o := 1) (v := .slice S ts.length cs) (by omega)
  have h3 := (HRt.out.store (b := w.heap.size) (o := 0) (v := .int .i64 c) (by omega)).store (b := w.heap.size) (o := 1) (v := .slice S ts.length cs) (by omega)
  obtain ⟨l1, l2, l3, l4, l5⟩ := HL.out
  exact ⟨c, ts, S, cs, L, P, cp, M, R, cr, rfl, ⟨OwnT.cells h1, l5, h2.rows, h2.caps, l1, l2, (Hbw.out.setCell (Nat.le_refl _) _).setCell (Nat.le_refl _) _⟩, h3.rows, l3, l4⟩
set_option maxRecDepth 100000 in
set_option maxHeartbeats 1000000 in
theorem DrawShrinkRows_c (A : Option Addr) (cx : Nat) (code : List Int) (w : World) (h : BytesC w A code) (hok : BytesOk code) :
    Calls Try.prog 17 #[.slice A code.length cx] w fun e w' => ∃ c ts S cs L P cp M R cr, e = .returned (.tuple #[.agg #[.int .i64 c, .slice S ts.length cs], .slice P L.length cp, .slice R M.length cr]) ∧ SetRows w w' ts S L P ∧ RowsC w' R M ∧ M.length ≤ 10 ∧ Short 8 M := by
  have HF := Lib.hid (fun (W : World) (hW : Below w.heap.size w W) => l09DrawRows_c A cx code true W (h.below hW) hok)
  clear h hok
  go_enter Try.func17, Try.ntmps17
  go_wp2_with fail
  obtain ⟨w0, hw0⟩ : ∃ w0, w0 = w.alloc (.cells #[.int .i64 0, .slice none 0 0] 26) := ⟨_, rfl⟩
  have HBw : Hid (Below w.heap.size w w0) := by rw [hw0]; exact below_al (Below.refl _ _)
  have HSz : Hid (w0.heap.size = w.heap.size + 1) := by rw [hw0]; simp [Hid]
  have HRes : Hid (Blk w0 w.heap.size [.int .i64 0, .slice none 0 0] 26) := by rw [hw0]; exact Blk.newA _ _ _
  rw [← hw0]
  clear hw0
  refine (HF.out _ HBw.out).mono ?_
  rintro e w1 ⟨c, ts, S, cs, L, P, cp, M, R, cr, rfl, hO, hts, hP, hL, hSh, hR, hM, hMs, hb⟩
  have HO := Lib.hid hO
  have HP := Lib.hid hP
  have HR := Lib.hid hR
  have HL := Lib.hid (And.intro hL (And.intro hSh (And.intro hM (And.intro hMs hts))))
  have Hb := Lib.hid hb
  replace HRes := Lib.hid (HRes.out.under hb)
  clear hO hP hR hL hSh hM hMs hb hts
  go_upto_region 2 with (fail)
  obtain ⟨gT, hgT⟩ : ∃ gT, gT = w1.heap.size := ⟨_, rfl⟩
  obtain ⟨wt, hwt⟩ : ∃ wt, wt = w1.alloc (.cells #[.int .i64 c, .slice S ts.length cs] 26) := ⟨_, rfl⟩
  have HBx : Hid (Blk wt gT [.int .i64 c, .slice S ts.length cs] 26) := by rw [hwt, hgT]; exact Blk.newA _ _ _
  have Hbt : Hid (Below w1.heap.size w1 wt) := by rw [hwt]; exact below_al (Below.refl _ _)
  rw [← hwt, ← hgT]
  clear hwt hgT
  have HOt := Lib.hid (HO.out.below Hbt.out)
  have HPt := Lib.hid (HP.out.below Hbt.out)
  have HRt := Lib.hid (HR.out.below Hbt.out)
  have HRest := Lib.hid (HRes.out.under Hbt.out)
  have Hbw : Hid (Below w.heap.size w wt) := HBw.out.trans ((Hb.out.trans (Hbt.out.mono Hb.out.size)).mono HBw.out.size)
  have e0 := HBx.out.cell 0 (by simp)
  have e1 := HBx.out.cell 1 (by simp)
  simp only [List.getElem_cons_zero, List.getElem_cons_succ] at e0 e1
  have y0 := HRest.out.cell 0 (by simp)
  have y1 := HRest.out.cell 1 (by simp)
  have g0 := HRest.out.frozen 0
  have g1 := HRest.out.frozen 1
  simp only [List.getElem_cons_zero, List.getElem_cons_succ] at y0 y1
  go_wp2
  refine bodyPost_ret (v := .tuple #[.agg #[.int .i64 c, .slice S ts.length cs], .slice P L.length cp, .slice R M.length cr]) (by
    have x0 := ((HRest.out.set 0 (.int .i64 c)).set 1 (.slice S ts.length cs)).cell 0 (by simp)
    have x1 := ((HRest.out.set 0 (.int .i64 c)).set 1 (.slice S ts.length cs)).cell 1 (by simp)
    simp only [List.set_cons_zero, List.set_cons_succ, List.getElem_cons_zero, List.getElem_cons_succ] at x0 x1
    simp [results, Try.results17, go_sem, x0, x1]) rfl ?_
  have hz := HSz.out
  have h1 := (HOt.out.other w.heap.size 0 (by omega) (.int .i64 c)).other w.heap.size 1 (by omega) (.slice S ts.length cs)
  have h2 := (HPt.out.store (b := w.heap.size) (o := 0) (v := .int .i64 c) (by omega)).store (b := w.heap.size) (o := 1) (v := .slice S ts.length cs) (by omega)
  have h3 := (HRt.out.store (b := w.heap.size) (o := 0) (v := .int .i64 c) (by omega)).store (b := w.heap.size) (o := 1) (v := .slice S ts.length cs) (by omega)
  obtain ⟨l1, l2, l3, l4, l5⟩ := HL.out
  exact ⟨c, ts, S, cs, L, P, cp, M, R, cr, rfl, ⟨OwnT.cells h1, l5, h2.rows, h2.caps, l1, l2, (Hbw.out.setCell (Nat.le_refl _) _).setCell (Nat.le_refl _) _⟩, h3.rows, l3, l4⟩

end Go.Proofs.Ytkgnejhflnekaaa
