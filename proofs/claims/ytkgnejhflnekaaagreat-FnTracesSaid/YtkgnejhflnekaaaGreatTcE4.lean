/- Contracts and lemmas for the statements of this seat, written for this claim; each theorem states its own conditions. -/
import Derived.Deep.Cut
import Derived.Test.YtkgnejhflnekaaaGreatTcE3
set_option linter.unusedVariables false
set_option linter.unusedSimpArgs false
namespace Go.Proofs.YtkgnejhflnekaaaGreat
open Go.RowKit
set_option maxRecDepth 100000 in
set_option maxHeartbeats 1000000 in
theorem DrawIsTrace_c (A : Option Addr) (cx : Nat) (code : List Int) (w : World) (h : BytesC w A code) (hok : BytesOk code) :
    Calls Tryz.prog 13 #[.slice A code.length cx] w fun e w' => ∃ c ts S cs R cr, ∃ (word : List Int) (hh : Int), e = .returned (.tuple #[.agg #[.int .i64 c, .slice S ts.length cs], .int .i64 hh, .slice R word.length cr]) ∧ SetRes w w' ts S ∧ Cells w' R (ints word) ∧ word.length ≤ 30 := by
  have HF := Lib.hid (fun (W : World) (hW : Below w.heap.size w W) => l01From_c A cx code W (h.below hW) hok)
  have HD := Lib.hid (fun (W : World) (hW : Below w.heap.size w W) => l02DrawWord_c A cx code W (h.below hW) hok)
  clear h hok
  go_enter Tryz.func13, Tryz.ntmps13
  go_wp2_with fail
  obtain ⟨w0, hw0⟩ : ∃ w0, w0 = w.alloc (.cells #[.int .i64 0, .slice none 0 0] 26) := ⟨_, rfl⟩
  have Hw0 := Lib.hid hw0
  have HBw : Hid (Below w.heap.size w w0) := by rw [hw0]; exact below_al (Below.refl _ _)
  rw [← hw0]
  clear hw0
  refine (HF.out _ HBw.out).mono ?_
  rintro e w1 ⟨g, rfl, hlt, S, hb⟩
  have Hb := Lib.hid hb
  have Hlt := Lib.hid hlt
  have HS := Lib.hid S
  have HB1 := Lib.hid (HBw.out.trans (hb.mono HBw.out.size))
  clear hb hlt S
  go_wp2_with fail
  refine (HD.out _ HB1.out).mono ?_
  rintro e w2 ⟨c, ts, S, cs, R, cr, word, rfl, hO, hl, hR, hwl, hb2⟩
  have HQ := Lib.hid (LX.start (c := c) Hw0.out Hb.out Hlt.out HS.out.lt hO (HS.out.below hb2) (grown_below hb2 _))
  have HR := Lib.hid (hR.weaken (show g + 1 ≤ w1.heap.size from HS.out.lt))
  clear hO hR hb2
  go_upto_region 3 with (fail)
  obtain ⟨gT, hgT⟩ : ∃ gT, gT = w2.heap.size := ⟨_, rfl⟩
  obtain ⟨wt, hwt⟩ : ∃ wt, wt = w2.alloc (.cells #[.int .i64 c, .slice S ts.length cs] 26) := ⟨_, rfl⟩
  replace HR := Lib.hid (HR.out.alloc (.cells #[.int .i64 c, .slice S ts.length cs] 26))
  rw [← hwt, ← hgT] at HQ
  rw [← hwt] at HR
  rw [← hwt, ← hgT]
  clear hwt hgT
  have e0 := fun w1 (h : Blk w1 gT [.int .i64 c, .slice S ts.length cs] 26) => h.cell 0 (by simp)
  have e1 := fun w1 (h : Blk w1 gT [.int .i64 c, .slice S ts.length cs] 26) => h.cell 1 (by simp)
  simp only [List.getElem_cons_zero, List.getElem_cons_succ] at e0 e1
  refine wp_region_mix [(0, true), (1, true), (2, true), (6, true), (3, false), (4, false), (5, false), (7, false), (8, true), (9, true)] (fun w' => Blk w' gT [.int .i64 c, .slice S ts.length cs] 26) (by kernel_rfl) (by kernel_rfl) (fun _ _ d _ _ h => by cases d <;> exact h) (HQ.out.box.drew) ?_
  repeat (first
    | (refine mix_skip rfl rfl (fun K' hK' => ?_); go_simp; refine hK' _ ?_; clear hK' K')
    | (refine mix_do (v := ?_) rfl rfl (fun w1 hb => ?_) (fun K' hK' => ?_); rotate_left
       · go_simp
         rfl
       go_simp; refine hK' _ ?_; clear hK' K'))
  replace HQ := Lib.hid (HQ.out.below (Below.refl _ _).drew)
  replace HR := Lib.hid (HR.out.below (Below.refl _ _).drew)
  refine mix_call rfl rfl (fun K' hK' => ?_)
  go_simp
  refine (l01Next_c g code _ _ HQ.out.src).mono ?_
  rintro e w3 ⟨n0, rfl, _, _, _, S3, G3⟩
  replace HQ := Lib.hid (HQ.out.grow S3 G3)
  replace HR := Lib.hid (HR.out.grew G3 (by omega))
  clear S3 G3
  refine hK' _ _ (HQ.out.box) ?_; clear hK' K'
  refine mix_call rfl rfl (fun K' hK' => ?_)
  go_simp
  refine hK' _ _ (HQ.out.box.alloc _) ?_; clear hK' K'
  refine mix_call rfl rfl (fun K' hK' => ?_)
  go_simp
  refine (pick_new g code _ HQ.out.src _ _ [1, 2, 2, 3, n0] _ rfl rfl (by simp)).mono ?_
  rintro e w4 ⟨n, rfl, m4, S4, G4⟩
  replace HQ := Lib.hid (HQ.out.grow S4 G4)
  replace HR := Lib.hid (HR.out.grew G4 (by omega))
  clear S4 G4 m4
  refine hK' _ _ (HQ.out.box) ?_; clear hK' K'
  refine mix_call rfl rfl (fun K' hK' => ?_)
  have y0 := HQ.out.res.cell 0 (by simp)
  have y1 := HQ.out.res.cell 1 (by simp)
  have g0 := HQ.out.res.frozen 0
  have g1 := HQ.out.res.frozen 1
  simp only [List.getElem_cons_zero, List.getElem_cons_succ] at y0 y1
  go_simp
  have hne : gT ≠ w.heap.size := by have := HQ.out.hg; have := HQ.out.hgT; omega
  refine hK' _ _ ((HQ.out.box.other (a := ⟨w.heap.size, 0, none⟩) hne _).other (a := ⟨w.heap.size, 1, none⟩) hne _) ?_; clear hK' K'
  repeat (first
    | (refine mix_skip rfl rfl (fun K' hK' => ?_); go_simp; refine hK' _ ?_; clear hK' K')
    | (refine mix_do (v := ?_) rfl rfl (fun w1 hb => ?_) (fun K' hK' => ?_); rotate_left
       · go_simp
         rfl
       go_simp; refine hK' _ ?_; clear hK' K'))
  refine mix_nil ?_
  clear e0 e1 y0 y1 g0 g1
  go_wp2
  refine bodyPost_ret (v := .tuple #[.agg #[.int .i64 c, .slice S ts.length cs], .int .i64 n, .slice R word.length cr]) (by
    have x0 := ((HQ.out.res.set 0 (.int .i64 c)).set 1 (.slice S ts.length cs)).cell 0 (by simp)
    have x1 := ((HQ.out.res.set 0 (.int .i64 c)).set 1 (.slice S ts.length cs)).cell 1 (by simp)
    simp only [List.set_cons_zero, List.set_cons_succ, List.getElem_cons_zero, List.getElem_cons_succ] at x0 x1
    simp [results, Tryz.results13, go_sem, x0, x1]) rfl ?_
  have hg := HQ.out.hg
  exact ⟨c, ts, S, cs, R, cr, word, n, rfl, HQ.out.fin hl _ _, ((HR.out.other w.heap.size 0 (by omega) _).other w.heap.size 1 (by omega) _).cells, hwl⟩
theorem OwnT.addr0 {w : World} {B n cx : Nat} {A : Option Addr} {ts : List T4} (h : OwnT w B (.slice A n cx) ts) (h0 : 0 < ts.length) : ∃ g, A = some ⟨g, 0, none⟩ ∧ ts.length ≤ cx ∧ cx ≤ maxLen := by
  obtain ⟨h1, ⟨e, h2⟩ | ⟨g, cap, cur, e, e2, e3, e4, e5, e6, e7⟩⟩ := h
  · omega
  · injection e with a1 a2 a3
    subst a3
    exact ⟨g, a1, e4, e5⟩
/-- where the draw of two sets stands -/
structure LZ (w wr : World) (g : Nat) (code : List Int) (c : Int) (ts : List T4) (A : Option Addr) (cx gT : Nat) : Prop where
  res : Blk wr w.heap.size [.int .i64 0, .slice none 0 0] 26
  rez : Blk wr (w.heap.size + 1) [.int .i64 0, .slice none 0 0] 26
  box : Blk wr gT [.int .i64 c, .slice A ts.length cx] 26
  own : OwnT wr (g + 1) (.slice A ts.length cx) ts
  src : Src wr g code
  sub : Below w.heap.size w wr
  hgT : g < gT
  hg : w.heap.size + 1 < g
theorem LZ.grow {w wr W : World} {g : Nat} {code : List Int} {c : Int} {ts : List T4} {A : Option Addr} {cx gT : Nat} (h : LZ w wr g code c ts A cx gT) (hS : Src W g code) (hG : wr.grownBy W (some g)) : LZ w W g code c ts A cx gT :=
  ⟨h.res.kept1 hG (by have := h.hg; intro e; injection e with e; omega), h.rez.kept1 hG (by have := h.hg; intro e; injection e with e; omega), h.box.kept1 hG (by have := h.hgT; intro e; injection e with e; omega), h.own.grew hG (by omega), hS, below_src h.sub hG (by have := h.hg; omega), h.hgT, h.hg⟩
theorem LZ.below {w wr W : World} {g : Nat} {code : List Int} {c : Int} {ts : List T4} {A : Option Addr} {cx gT : Nat} (h : LZ w wr g code c ts A cx gT) (hb : Below wr.heap.size wr W) : LZ w W g code c ts A cx gT :=
  h.grow (h.src.below hb) (grown_below hb _)
theorem LZ.app {w wr W : World} {g : Nat} {code : List Int} {c : Int} {ts us : List T4} {A : Option Addr} {cx gT B : Nat} {v : Value} (h : LZ w wr g code c ts A cx gT) (hO : OwnT wr B v us) (hB : g < B) (hA : ∀ k, (Value.slice A ts.length cx).ownBlock = some k → k < B) (hG : wr.grownBy W v.ownBlock) : LZ w W g code c ts A cx gT := by
  have hr := World.ownsRow.lt hO
  have hgg := h.hg
  refine ⟨h.res.kept1 hG (own_ne hO h.res (by decide)), h.rez.kept1 hG (own_ne hO h.rez (by decide)), h.box.kept1 hG (own_ne hO h.box (by decide)), World.ownsRow.kept h.own hG ?_, h.src.app hG (fun k hk => by have := (hr k hk).1; omega), h.sub.grown hG h.sub.size (fun k hk => by have := (hr k hk).1; omega), h.hgT, h.hg⟩
  cases e : (Value.slice A ts.length cx).ownBlock with
  | none => exact .inl rfl
  | some k => exact .inr (fun e2 => by have := hA k e; have := (hr k e2.symm).1; omega)
/-- two sets and two numbers -/
def Sets2 (w w' : World) (ts us : List T4) (S U : Option Addr) : Prop := TileCells w' S ts ∧ ts.length ≤ 101 ∧ TileCells w' U us ∧ us.length ≤ 101 ∧ Below w.heap.size w w'
theorem LZ.fin {w wr : World} {g : Nat} {code : List Int} {c : Int} {ts : List T4} {A : Option Addr} {cx gT : Nat} (h : LZ w wr g code c ts A cx gT) (hl : ts.length ≤ 101) {us : List T4} {U : Option Addr} {n cu : Nat} (hU : OwnT wr (g + 1) (.slice U n cu) us) (hn : n = us.length) (hul : us.length ≤ 101) (x y z u : Value) :
    Sets2 w ((((wr.setCell ⟨w.heap.size, 0, none⟩ x).setCell ⟨w.heap.size, 1, none⟩ y).setCell ⟨w.heap.size + 1, 0, none⟩ z).setCell ⟨w.heap.size + 1, 1, none⟩ u) ts us A U := by
  have hg := h.hg
  subst hn
  exact ⟨OwnT.cells ((((h.own.other w.heap.size 0 (by omega) x).other w.heap.size 1 (by omega) y).other (w.heap.size + 1) 0 (by omega) z).other (w.heap.size + 1) 1 (by omega) u), hl,
    OwnT.cells ((((hU.other w.heap.size 0 (by omega) x).other w.heap.size 1 (by omega) y).other (w.heap.size + 1) 0 (by omega) z).other (w.heap.size + 1) 1 (by omega) u), hul,
    (((h.sub.setCell (Nat.le_refl _) _).setCell (Nat.le_refl _) _).setCell (by dsimp only; omega) _).setCell (by dsimp only; omega) _⟩
theorem LZ.start {w w0 w1 w2 : World} {g : Nat} {code : List Int} {c : Int} {ts : List T4} {A : Option Addr} {cx : Nat} (hw0 : w0 = (w.alloc (.cells #[.int .i64 0, .slice none 0 0] 26)).alloc (.cells #[.int .i64 0, .slice none 0 0] 26)) (hb : Below w0.heap.size w0 w1) (hg : w0.heap.size ≤ g)
    (hS1 : Src w1 g code) (hO : OwnT w2 w1.heap.size (.slice A ts.length cx) ts) (hb2 : Below w1.heap.size w1 w2) : LZ w (w2.alloc (.cells #[.int .i64 c, .slice A ts.length cx] 26)) g code c ts A cx w2.heap.size := by
  have hz : w0.heap.size = w.heap.size + 2 := by rw [hw0]; simp
  have hr : Blk w0 w.heap.size [.int .i64 0, .slice none 0 0] 26 := by rw [hw0]; exact (Blk.newA _ _ _).alloc _
  have hr2 : Blk w0 (w.heap.size + 1) [.int .i64 0, .slice none 0 0] 26 := by
    rw [hw0]
    have := Blk.newA (w.alloc (.cells #[.int .i64 0, .slice none 0 0] 26)) #[.int .i64 0, .slice none 0 0] 26
    rwa [World.size_alloc] at this
  have hbw : Below w.heap.size w w0 := by rw [hw0]; exact below_al (below_al (Below.refl _ _))
  have hlt := hS1.lt
  have hz2 := hb2.size
  exact ⟨((hr.under hb).under hb2).alloc _, ((hr2.under hb).under hb2).alloc _, Blk.newA _ _ _, (hO.lower (by omega)).alloc _, (hS1.below hb2).alloc _, below_al (hbw.trans ((hb.trans (hb2.mono (by omega))).mono (by omega))), by omega, by omega⟩
set_option maxRecDepth 100000 in
set_option maxHeartbeats 8000000 in
theorem DrawSameTraces_c (A : Option Addr) (cx : Nat) (code : List Int) (w : World) (h : BytesC w A code) (hok : BytesOk code) :
    Calls Tryz.prog 16 #[.slice A code.length cx] w fun e w' => ∃ c ts S cs c2 us U cu, ∃ h n : Int, e = .returned (.tuple #[.agg #[.int .i64 c, .slice S ts.length cs], .agg #[.int .i64 c2, .slice U us.length cu], .int .i64 h, .int .i64 n]) ∧ Sets2 w w' ts us S U := by
  have HF := Lib.hid (fun (W : World) (hW : Below w.heap.size w W) => l01From_c A cx code W (h.below hW) hok)
  have HD := Lib.hid (fun (W : World) (hW : Below w.heap.size w W) => l10Draw_c A cx code W (h.below hW) hok)
  clear h hok
  go_enter Tryz.func16, Tryz.ntmps16
  go_wp2_with fail
  obtain ⟨w0, hw0⟩ : ∃ w0, w0 = (w.alloc (.cells #[.int .i64 0, .slice none 0 0] 26)).alloc (.cells #[.int .i64 0, .slice none 0 0] 26) := ⟨_, rfl⟩
  have Hw0 := Lib.hid hw0
  have HBw : Hid (Below w.heap.size w w0) := by rw [hw0]; exact below_al (below_al (Below.refl _ _))
  rw [← hw0]
  clear hw0
  refine (HF.out _ HBw.out).mono ?_
  rintro e w1 ⟨g, rfl, hlt, S, hb⟩
  have Hb := Lib.hid hb
  have Hlt := Lib.hid hlt
  have HS := Lib.hid S
  have HB1 := Lib.hid (HBw.out.trans (hb.mono HBw.out.size))
  clear hb hlt S
  go_wp2_with fail
  refine (HD.out _ HB1.out).mono ?_
  rintro e w2 ⟨c, ts, S, cs, hh, n, rfl, hO, hl, hb2⟩
  have HQ := Lib.hid (LZ.start (c := c) Hw0.out Hb.out Hlt.out HS.out hO hb2)
  clear hO hb2
  go_upto_region 3 with (fail)
  obtain ⟨gT, hgT⟩ : ∃ gT, gT = w2.heap.size := ⟨_, rfl⟩
  obtain ⟨wt, hwt⟩ : ∃ wt, wt = w2.alloc (.cells #[.int .i64 c, .slice S ts.length cs] 26) := ⟨_, rfl⟩
  rw [← hwt, ← hgT] at HQ
  rw [← hwt, ← hgT]
  clear hwt hgT HF HD Hw0 HBw Hb Hlt HS HB1
  have HI := Lib.hid (l01Is_c c ts S cs wt HQ.out.own.cells (by omega))
  have HC16 := Lib.hid (fun h => (isSetB_small (c := c) (ts := ts) h).2)
  cases hs : isSetB c ts
  · rw [hs] at HI
    clear hs HC16
    have e0 := HQ.out.box.cell 0 (by simp)
    have e1 := HQ.out.box.cell 1 (by simp)
    simp only [List.getElem_cons_zero, List.getElem_cons_succ] at e0 e1
    go_wp2_with fail
    clear e0 e1
    refine HI.out.mono ?_
    rintro e w4 ⟨rfl, hb⟩
    replace HQ := Lib.hid (HQ.out.below hb)
    clear hb HI
    go_wp2_with fail
    have e0 := fun w1 (h : Blk w1 gT [.int .i64 c, .slice S ts.length cs] 26) => h.cell 0 (by simp)
    have e1 := fun w1 (h : Blk w1 gT [.int .i64 c, .slice S ts.length cs] 26) => h.cell 1 (by simp)
    simp only [List.getElem_cons_zero, List.getElem_cons_succ] at e0 e1
    refine wp_region_mix [(0, true), (1, true), (3, true), (4, true), (2, false), (5, false), (6, false), (7, true), (8, true)] (fun w' => Blk w' gT [.int .i64 c, .slice S ts.length cs] 26) (by kernel_rfl) (by kernel_rfl) (fun _ _ d _ _ h => by cases d <;> exact h) (HQ.out.box.drew) ?_
    repeat (first
      | (refine mix_skip rfl rfl (fun K' hK' => ?_); go_simp; refine hK' _ ?_; clear hK' K')
      | (refine mix_do (v := ?_) rfl rfl (fun w1 hb => ?_) (fun K' hK' => ?_); rotate_left
         · go_simp
           rfl
         go_simp; refine hK' _ ?_; clear hK' K'))
    replace HQ := Lib.hid (HQ.out.below (Below.refl _ _).drew)
    refine mix_call rfl rfl (fun K' hK' => ?_)
    go_simp
    have hgl := HQ.out.src.lt
    refine (l01Small_c g code _ HQ.out.src).mono ?_
    rintro e wq ⟨c2, us, U, cu, rfl, hU, ⟨_, _, _, hul0⟩, S5, G5⟩
    replace HQ := Lib.hid (HQ.out.grow S5 G5)
    have HU := Lib.hid (hU.lower hgl)
    have hul : us.length ≤ 101 := by omega
    clear S5 G5 hU
    refine hK' _ _ (HQ.out.box) ?_; clear hK' K'
    refine mix_call rfl rfl (fun K' hK' => ?_)
    have y0 := HQ.out.res.cell 0 (by simp)
    have y1 := HQ.out.res.cell 1 (by simp)
    have g0 := HQ.out.res.frozen 0
    have g1 := HQ.out.res.frozen 1
    simp only [List.getElem_cons_zero, List.getElem_cons_succ] at y0 y1
    go_simp
    have hne : gT ≠ w.heap.size := by have := HQ.out.hg; have := HQ.out.hgT; omega
    have hne2 : gT ≠ w.heap.size + 1 := by have := HQ.out.hg; have := HQ.out.hgT; omega
    clear y0 y1 g0 g1
    refine hK' _ _ ((HQ.out.box.other (a := ⟨w.heap.size, 0, none⟩) hne _).other (a := ⟨w.heap.size, 1, none⟩) hne _) ?_; clear hK' K'
    have hR1 := ((HQ.out.rez.other (a := ⟨w.heap.size, 0, none⟩) (by show w.heap.size + 1 ≠ w.heap.size; omega) (.int .i64 c)).other (a := ⟨w.heap.size, 1, none⟩) (by show w.heap.size + 1 ≠ w.heap.size; omega) (.slice S ts.length cs))
    have hS1 := (HQ.out.res.set 0 (.int .i64 c)).set 1 (.slice S ts.length cs)
    obtain ⟨w8, hw8⟩ : ∃ w8, w8 = (wq.setCell ⟨w.heap.size, 0, none⟩ (.int .i64 c)).setCell ⟨w.heap.size, 1, none⟩ (.slice S ts.length cs) := ⟨_, rfl⟩
    rw [← hw8] at hR1 hS1
    have HX8 : Hid (Blk w8 gT [.int .i64 c, .slice S ts.length cs] 26) := by rw [hw8]; exact (HQ.out.box.other (a := ⟨w.heap.size, 0, none⟩) hne _).other (a := ⟨w.heap.size, 1, none⟩) hne _
    have HF8 : Hid (∀ z u, Sets2 w ((w8.setCell ⟨w.heap.size + 1, 0, none⟩ z).setCell ⟨w.heap.size + 1, 1, none⟩ u) ts us S U) := fun z u => by rw [hw8]; exact HQ.out.fin hl HU.out rfl hul _ _ z u
    have HR1 := Lib.hid hR1
    have HS1 := Lib.hid hS1
    rw [← hw8]
    clear hR1 hS1 hw8
    refine mix_call rfl rfl (fun K' hK' => ?_)
    have y0 := HR1.out.cell 0 (by simp)
    have y1 := HR1.out.cell 1 (by simp)
    have g0 := HR1.out.frozen 0
    have g1 := HR1.out.frozen 1
    simp only [List.getElem_cons_zero, List.getElem_cons_succ] at y0 y1
    go_simp
    clear y0 y1 g0 g1
    refine hK' _ _ ((HX8.out.other (a := ⟨w.heap.size + 1, 0, none⟩) hne2 _).other (a := ⟨w.heap.size + 1, 1, none⟩) hne2 _) ?_; clear hK' K'
    repeat (first
      | (refine mix_skip rfl rfl (fun K' hK' => ?_); go_simp; refine hK' _ ?_; clear hK' K')
      | (refine mix_do (v := ?_) rfl rfl (fun w1 hb => ?_) (fun K' hK' => ?_); rotate_left
         · go_simp
           rfl
         go_simp; refine hK' _ ?_; clear hK' K'))
    refine mix_nil ?_
    clear e0 e1
    go_wp2
    refine bodyPost_ret (v := .tuple #[.agg #[.int .i64 c, .slice S ts.length cs], .agg #[.int .i64 c2, .slice U us.length cu], .int .i64 hh, .int .i64 n]) (by
      have hy := (HR1.out.set 0 (.int .i64 c2)).set 1 (.slice U us.length cu)
      have hz := (HS1.out.other (a := ⟨w.heap.size + 1, 0, none⟩) (by show w.heap.size ≠ w.heap.size + 1; omega) (.int .i64 c2)).other (a := ⟨w.heap.size + 1, 1, none⟩) (by show w.heap.size ≠ w.heap.size + 1; omega) (.slice U us.length cu)
      have x0 := hz.cell 0 (by simp)
      have x1 := hz.cell 1 (by simp)
      have x2 := hy.cell 0 (by simp)
      have x3 := hy.cell 1 (by simp)
      simp only [List.set_cons_zero, List.set_cons_succ, List.getElem_cons_zero, List.getElem_cons_succ] at x0 x1 x2 x3
      simp [results, Tryz.results16, go_sem, x0, x1, x2, x3]) rfl ?_
    exact ⟨c, ts, S, cs, c2, us, U, cu, hh, n, rfl, HF8.out _ _⟩
  · rw [hs] at HI
    have h16 := HC16.out hs
    clear hs HC16
    have e0 := HQ.out.box.cell 0 (by simp)
    have e1 := HQ.out.box.cell 1 (by simp)
    simp only [List.getElem_cons_zero, List.getElem_cons_succ] at e0 e1
    go_wp2_with fail
    clear e0 e1
    refine HI.out.mono ?_
    rintro e w4 ⟨rfl, hb⟩
    replace HQ := Lib.hid (HQ.out.below hb)
    clear hb HI
    go_wp2_with fail
    refine (l01Next_c g code _ _ HQ.out.src).mono ?_
    rintro e w5 ⟨r, rfl, _, _, _, S5, G5⟩
    replace HQ := Lib.hid (HQ.out.grow S5 G5)
    clear S5 G5
    by_cases hr : r = 0
    · have hr' : (r == 0) = true := by simp [hr]
      clear hr
      go_wp2_with fail
      refine (l01Next_c g code _ _ HQ.out.src).mono ?_
      rintro e w6 ⟨r6, rfl, _, _, _, S6, G6⟩
      replace HQ := Lib.hid (HQ.out.grow S6 G6)
      clear S6 G6
      by_cases h6 : r6 = 0
      · have h6' : (r6 == 0) = true := by simp [h6]
        clear h6
        go_wp2_with fail
        have e0 := fun w1 (h : Blk w1 gT [.int .i64 c, .slice S ts.length cs] 26) => h.cell 0 (by simp)
        have e1 := fun w1 (h : Blk w1 gT [.int .i64 c, .slice S ts.length cs] 26) => h.cell 1 (by simp)
        simp only [List.getElem_cons_zero, List.getElem_cons_succ] at e0 e1
        refine wp_region_mix [(0, true), (1, true), (3, true), (4, true), (2, false), (5, false), (6, false), (7, true), (8, true)] (fun w' => Blk w' gT [.int .i64 c, .slice S ts.length cs] 26) (by kernel_rfl) (by kernel_rfl) (fun _ _ d _ _ h => by cases d <;> exact h) (HQ.out.box.drew) ?_
        repeat (first
          | (refine mix_skip rfl rfl (fun K' hK' => ?_); go_simp; refine hK' _ ?_; clear hK' K')
          | (refine mix_do (v := ?_) rfl rfl (fun w1 hb => ?_) (fun K' hK' => ?_); rotate_left
             · go_simp
               rfl
             go_simp; refine hK' _ ?_; clear hK' K'))
        replace HQ := Lib.hid (HQ.out.below (Below.refl _ _).drew)
        refine mix_call rfl rfl (fun K' hK' => ?_)
        go_simp
        have hgl := HQ.out.src.lt
        refine (l01Mirrored_c c ts S cs _ HQ.out.own.cells (by omega)).mono ?_
        rintro e wq ⟨U, cu, rfl, hU, hb⟩
        have hul : (setT (ts.map mirT9)).length ≤ 101 := by have := setT_take_len (ts.map mirT9); rw [List.length_map] at this; omega
        obtain ⟨us, hus⟩ : ∃ us, us = setT (ts.map mirT9) := ⟨_, rfl⟩
        rw [← hus] at hU hul ⊢
        clear hus
        have HU := Lib.hid (hU.lower hgl)
        replace HQ := Lib.hid (HQ.out.below hb)
        clear hU hb
        refine hK' _ _ (HQ.out.box) ?_; clear hK' K'
        refine mix_call rfl rfl (fun K' hK' => ?_)
        have y0 := HQ.out.res.cell 0 (by simp)
        have y1 := HQ.out.res.cell 1 (by simp)
        have g0 := HQ.out.res.frozen 0
        have g1 := HQ.out.res.frozen 1
        simp only [List.getElem_cons_zero, List.getElem_cons_succ] at y0 y1
        go_simp
        have hne : gT ≠ w.heap.size := by have := HQ.out.hg; have := HQ.out.hgT; omega
        have hne2 : gT ≠ w.heap.size + 1 := by have := HQ.out.hg; have := HQ.out.hgT; omega
        clear y0 y1 g0 g1
        refine hK' _ _ ((HQ.out.box.other (a := ⟨w.heap.size, 0, none⟩) hne _).other (a := ⟨w.heap.size, 1, none⟩) hne _) ?_; clear hK' K'
        have hR1 := ((HQ.out.rez.other (a := ⟨w.heap.size, 0, none⟩) (by show w.heap.size + 1 ≠ w.heap.size; omega) (.int .i64 c)).other (a := ⟨w.heap.size, 1, none⟩) (by show w.heap.size + 1 ≠ w.heap.size; omega) (.slice S ts.length cs))
        have hS1 := (HQ.out.res.set 0 (.int .i64 c)).set 1 (.slice S ts.length cs)
        obtain ⟨w8, hw8⟩ : ∃ w8, w8 = (wq.setCell ⟨w.heap.size, 0, none⟩ (.int .i64 c)).setCell ⟨w.heap.size, 1, none⟩ (.slice S ts.length cs) := ⟨_, rfl⟩
        rw [← hw8] at hR1 hS1
        have HX8 : Hid (Blk w8 gT [.int .i64 c, .slice S ts.length cs] 26) := by rw [hw8]; exact (HQ.out.box.other (a := ⟨w.heap.size, 0, none⟩) hne _).other (a := ⟨w.heap.size, 1, none⟩) hne _
        have HF8 : Hid (∀ z u, Sets2 w ((w8.setCell ⟨w.heap.size + 1, 0, none⟩ z).setCell ⟨w.heap.size + 1, 1, none⟩ u) ts us S U) := fun z u => by rw [hw8]; exact HQ.out.fin hl HU.out rfl hul _ _ z u
        have HR1 := Lib.hid hR1
        have HS1 := Lib.hid hS1
        rw [← hw8]
        clear hR1 hS1 hw8
        refine mix_call rfl rfl (fun K' hK' => ?_)
        have y0 := HR1.out.cell 0 (by simp)
        have y1 := HR1.out.cell 1 (by simp)
        have g0 := HR1.out.frozen 0
        have g1 := HR1.out.frozen 1
        simp only [List.getElem_cons_zero, List.getElem_cons_succ] at y0 y1
        go_simp
        clear y0 y1 g0 g1
        refine hK' _ _ ((HX8.out.other (a := ⟨w.heap.size + 1, 0, none⟩) hne2 _).other (a := ⟨w.heap.size + 1, 1, none⟩) hne2 _) ?_; clear hK' K'
        repeat (first
          | (refine mix_skip rfl rfl (fun K' hK' => ?_); go_simp; refine hK' _ ?_; clear hK' K')
          | (refine mix_do (v := ?_) rfl rfl (fun w1 hb => ?_) (fun K' hK' => ?_); rotate_left
             · go_simp
               rfl
             go_simp; refine hK' _ ?_; clear hK' K'))
        refine mix_nil ?_
        clear e0 e1
        go_wp2
        refine bodyPost_ret (v := .tuple #[.agg #[.int .i64 c, .slice S ts.length cs], .agg #[.int .i64 c, .slice U us.length cu], .int .i64 hh, .int .i64 n]) (by
          have hy := (HR1.out.set 0 (.int .i64 c)).set 1 (.slice U us.length cu)
          have hz := (HS1.out.other (a := ⟨w.heap.size + 1, 0, none⟩) (by show w.heap.size ≠ w.heap.size + 1; omega) (.int .i64 c)).other (a := ⟨w.heap.size + 1, 1, none⟩) (by show w.heap.size ≠ w.heap.size + 1; omega) (.slice U us.length cu)
          have x0 := hz.cell 0 (by simp)
          have x1 := hz.cell 1 (by simp)
          have x2 := hy.cell 0 (by simp)
          have x3 := hy.cell 1 (by simp)
          simp only [List.set_cons_zero, List.set_cons_succ, List.getElem_cons_zero, List.getElem_cons_succ] at x0 x1 x2 x3
          simp [results, Tryz.results16, go_sem, x0, x1, x2, x3]) rfl ?_
        exact ⟨c, ts, S, cs, c, us, U, cu, hh, n, rfl, HF8.out _ _⟩
      · have h6' : (r6 == 0) = false := by simp [h6]
        clear h6
        by_cases hz : ts.length = 0
        · have hz' : ((ts.length : Int) == 0) = true := by simp [hz]
          clear hz
          have e0 := HQ.out.box.cell 0 (by simp)
          have e1 := HQ.out.box.cell 1 (by simp)
          simp only [List.getElem_cons_zero, List.getElem_cons_succ] at e0 e1
          go_wp2_with fail
          clear e0 e1
          have e0 := fun w1 (h : Blk w1 gT [.int .i64 c, .slice S ts.length cs] 26) => h.cell 0 (by simp)
          have e1 := fun w1 (h : Blk w1 gT [.int .i64 c, .slice S ts.length cs] 26) => h.cell 1 (by simp)
          simp only [List.getElem_cons_zero, List.getElem_cons_succ] at e0 e1
          refine wp_region_mix [(0, true), (1, true), (3, true), (4, true), (2, false), (5, false), (6, false), (7, true), (8, true)] (fun w' => Blk w' gT [.int .i64 c, .slice S ts.length cs] 26) (by kernel_rfl) (by kernel_rfl) (fun _ _ d _ _ h => by cases d <;> exact h) (HQ.out.box.drew) ?_
          repeat (first
            | (refine mix_skip rfl rfl (fun K' hK' => ?_); go_simp; refine hK' _ ?_; clear hK' K')
            | (refine mix_do (v := ?_) rfl rfl (fun w1 hb => ?_) (fun K' hK' => ?_); rotate_left
               · go_simp
                 rfl
               go_simp; refine hK' _ ?_; clear hK' K'))
          replace HQ := Lib.hid (HQ.out.below (Below.refl _ _).drew)
          refine mix_call rfl rfl (fun K' hK' => ?_)
          go_simp
          have hgl := HQ.out.src.lt
          refine (l01Mirrored_c c ts S cs _ HQ.out.own.cells (by omega)).mono ?_
          rintro e wq ⟨U, cu, rfl, hU, hb⟩
          have hul : (setT (ts.map mirT9)).length ≤ 101 := by have := setT_take_len (ts.map mirT9); rw [List.length_map] at this; omega
          obtain ⟨us, hus⟩ : ∃ us, us = setT (ts.map mirT9) := ⟨_, rfl⟩
          rw [← hus] at hU hul ⊢
          clear hus
          have HU := Lib.hid (hU.lower hgl)
          replace HQ := Lib.hid (HQ.out.below hb)
          clear hU hb
          refine hK' _ _ (HQ.out.box) ?_; clear hK' K'
          refine mix_call rfl rfl (fun K' hK' => ?_)
          have y0 := HQ.out.res.cell 0 (by simp)
          have y1 := HQ.out.res.cell 1 (by simp)
          have g0 := HQ.out.res.frozen 0
          have g1 := HQ.out.res.frozen 1
          simp only [List.getElem_cons_zero, List.getElem_cons_succ] at y0 y1
          go_simp
          have hne : gT ≠ w.heap.size := by have := HQ.out.hg; have := HQ.out.hgT; omega
          have hne2 : gT ≠ w.heap.size + 1 := by have := HQ.out.hg; have := HQ.out.hgT; omega
          clear y0 y1 g0 g1
          refine hK' _ _ ((HQ.out.box.other (a := ⟨w.heap.size, 0, none⟩) hne _).other (a := ⟨w.heap.size, 1, none⟩) hne _) ?_; clear hK' K'
          have hR1 := ((HQ.out.rez.other (a := ⟨w.heap.size, 0, none⟩) (by show w.heap.size + 1 ≠ w.heap.size; omega) (.int .i64 c)).other (a := ⟨w.heap.size, 1, none⟩) (by show w.heap.size + 1 ≠ w.heap.size; omega) (.slice S ts.length cs))
          have hS1 := (HQ.out.res.set 0 (.int .i64 c)).set 1 (.slice S ts.length cs)
          obtain ⟨w8, hw8⟩ : ∃ w8, w8 = (wq.setCell ⟨w.heap.size, 0, none⟩ (.int .i64 c)).setCell ⟨w.heap.size, 1, none⟩ (.slice S ts.length cs) := ⟨_, rfl⟩
          rw [← hw8] at hR1 hS1
          have HX8 : Hid (Blk w8 gT [.int .i64 c, .slice S ts.length cs] 26) := by rw [hw8]; exact (HQ.out.box.other (a := ⟨w.heap.size, 0, none⟩) hne _).other (a := ⟨w.heap.size, 1, none⟩) hne _
          have HF8 : Hid (∀ z u, Sets2 w ((w8.setCell ⟨w.heap.size + 1, 0, none⟩ z).setCell ⟨w.heap.size + 1, 1, none⟩ u) ts us S U) := fun z u => by rw [hw8]; exact HQ.out.fin hl HU.out rfl hul _ _ z u
          have HR1 := Lib.hid hR1
          have HS1 := Lib.hid hS1
          rw [← hw8]
          clear hR1 hS1 hw8
          refine mix_call rfl rfl (fun K' hK' => ?_)
          have y0 := HR1.out.cell 0 (by simp)
          have y1 := HR1.out.cell 1 (by simp)
          have g0 := HR1.out.frozen 0
          have g1 := HR1.out.frozen 1
          simp only [List.getElem_cons_zero, List.getElem_cons_succ] at y0 y1
          go_simp
          clear y0 y1 g0 g1
          refine hK' _ _ ((HX8.out.other (a := ⟨w.heap.size + 1, 0, none⟩) hne2 _).other (a := ⟨w.heap.size + 1, 1, none⟩) hne2 _) ?_; clear hK' K'
          repeat (first
            | (refine mix_skip rfl rfl (fun K' hK' => ?_); go_simp; refine hK' _ ?_; clear hK' K')
            | (refine mix_do (v := ?_) rfl rfl (fun w1 hb => ?_) (fun K' hK' => ?_); rotate_left
               · go_simp
                 rfl
               go_simp; refine hK' _ ?_; clear hK' K'))
          refine mix_nil ?_
          clear e0 e1
          go_wp2
          refine bodyPost_ret (v := .tuple #[.agg #[.int .i64 c, .slice S ts.length cs], .agg #[.int .i64 c, .slice U us.length cu], .int .i64 hh, .int .i64 n]) (by
            have hy := (HR1.out.set 0 (.int .i64 c)).set 1 (.slice U us.length cu)
            have hz := (HS1.out.other (a := ⟨w.heap.size + 1, 0, none⟩) (by show w.heap.size ≠ w.heap.size + 1; omega) (.int .i64 c)).other (a := ⟨w.heap.size + 1, 1, none⟩) (by show w.heap.size ≠ w.heap.size + 1; omega) (.slice U us.length cu)
            have x0 := hz.cell 0 (by simp)
            have x1 := hz.cell 1 (by simp)
            have x2 := hy.cell 0 (by simp)
            have x3 := hy.cell 1 (by simp)
            simp only [List.set_cons_zero, List.set_cons_succ, List.getElem_cons_zero, List.getElem_cons_succ] at x0 x1 x2 x3
            simp [results, Tryz.results16, go_sem, x0, x1, x2, x3]) rfl ?_
          exact ⟨c, ts, S, cs, c, us, U, cu, hh, n, rfl, HF8.out _ _⟩
        · have hz' : ((ts.length : Int) == 0) = false := beq_eq_false_iff_ne.2 (by omega)
          have hz0 : 1 ≤ ts.length := by omega
          clear hz
          have e0 := HQ.out.box.cell 0 (by simp)
          have e1 := HQ.out.box.cell 1 (by simp)
          simp only [List.getElem_cons_zero, List.getElem_cons_succ] at e0 e1
          go_wp2_with fail
          clear e0 e1
          obtain ⟨g9, rfl, hcap, hmax⟩ := HQ.out.own.addr0 (by omega)
          have HAD : Hid (∀ j u, (tcells (ts.drop 1))[j]? = some u → ∀ W, LZ w W g code c ts (some ⟨g9, 0, none⟩) cs gT → (W.alloc (.cells #[] 127)).cell? ((if cs = 1 then (⟨g9, 0, none⟩ : Addr) else ⟨g9, 4, none⟩).add j) = some u) := fun j u hj W hW => by
            by_cases hmc : cs = 1
            · rw [List.drop_eq_nil_of_le (by omega)] at hj; simp [tcells] at hj
            · have := (hW.own.alloc (.cells #[] 127)).cellsFrom 1 j u hj
              rw [if_neg hmc]
              exact this
          unfold maxLen at hmax
          have hz1 : (1 : Int) ≤ (ts.length : Int) := by omega
          have e0 := fun w1 (h : Blk w1 gT [.int .i64 c, .slice (some ⟨g9, 0, none⟩) ts.length cs] 26) => h.cell 0 (by simp)
          have e1 := fun w1 (h : Blk w1 gT [.int .i64 c, .slice (some ⟨g9, 0, none⟩) ts.length cs] 26) => h.cell 1 (by simp)
          simp only [List.getElem_cons_zero, List.getElem_cons_succ] at e0 e1
          refine wp_region_mix [(0, true), (1, true), (2, true), (4, true), (5, true), (6, true), (9, true), (10, true), (3, false), (7, false), (8, false), (11, false), (12, false), (13, true), (14, true)] (fun w' => Blk w' gT [.int .i64 c, .slice (some ⟨g9, 0, none⟩) ts.length cs] 26) (by kernel_rfl) (by kernel_rfl) (fun _ _ d _ _ h => by cases d <;> exact h) (HQ.out.box.drew) ?_
          repeat (first
            | (refine mix_skip rfl rfl (fun K' hK' => ?_); go_simp; refine hK' _ ?_; clear hK' K')
            | (refine mix_do (v := ?_) rfl rfl (fun w1 hb => ?_) (fun K' hK' => ?_); rotate_left
               · go_simp
                 rfl
               go_simp; refine hK' _ ?_; clear hK' K'))
          generalize hwd : ({ w6 with drawn := w6.drawn + 1 } : World) = wd
          replace HQ : Hid (LZ w wd g code c ts (some ⟨g9, 0, none⟩) cs gT) := by rw [← hwd]; exact HQ.out.below (Below.refl _ _).drew
          clear hwd
          refine mix_call rfl rfl (fun K' hK' => ?_)
          go_simp
          refine hK' _ _ (HQ.out.box.alloc _) ?_; clear hK' K'
          have hgl := HQ.out.src.lt
          have hgN : g9 < wd.heap.size := (World.ownsRow.lt HQ.out.own g9 rfl).2
          refine mix_call rfl rfl (fun K' hK' => ?_)
          refine app_tiles (.tmp 42) (.tmp 45) rfl wd.heap.size _ [] (ts.drop 1) rfl (OwnT.empty wd wd.heap.size (Nat.le_refl _)) (if cs = 1 then (⟨g9, 0, none⟩ : Addr) else ⟨g9, 4, none⟩) (cs - 1) (by rw [List.length_drop]; go_simp; split <;> rfl) (fun j u hj => HAD.out j u hj _ HQ.out) (by rw [List.length_drop]; show 0 + (ts.length - 1) ≤ _; omega) (by simp) (fun v' w' a1 a2 a3 => ?_)
          have HQ7 := Lib.hid ((HQ.out.below (below_al (o := .cells #[] 127) (Below.refl _ _))).app (OwnT.empty wd wd.heap.size (Nat.le_refl _)) (by omega) (fun k hk => by have hk2 : g9 = k := Option.some.inj hk; rw [← hk2]; exact hgN) a2)
          obtain ⟨us, hus⟩ : ∃ us, us = ts.drop 1 := ⟨_, rfl⟩
          rw [List.nil_append, ← hus] at a1
          have hul : us.length ≤ 101 := by rw [hus, List.length_drop]; omega
          obtain ⟨Av, cv, rfl, hTv⟩ := a1.tiles
          have HTv := Lib.hid hTv
          clear hus a1 a2 a3 hTv HQ
          refine hK' _ _ (HQ7.out.box) ?_; clear hK' K'
          refine mix_call rfl rfl (fun K' hK' => ?_)
          go_simp
          have hgl7 := HQ7.out.src.lt
          refine (l01Made_c c us Av cv _ HTv.out (by omega)).mono ?_
          rintro e wq ⟨U, cu, rfl, hU, hb⟩
          have hul2 : (setT us).length ≤ 101 := by have := setT_take_len us; omega
          obtain ⟨vs, hvs⟩ : ∃ vs, vs = setT us := ⟨_, rfl⟩
          rw [← hvs] at hU hul2 ⊢
          clear hvs
          have HQ := Lib.hid (HQ7.out.below hb)
          have HU := Lib.hid (hU.lower hgl7)
          clear hU hb HQ7 HTv hul
          refine hK' _ _ (HQ.out.box) ?_; clear hK' K'
          obtain ⟨us, hus⟩ : ∃ q, q = vs := ⟨_, rfl⟩
          subst hus
          have hul := hul2
          refine mix_call rfl rfl (fun K' hK' => ?_)
          have y0 := HQ.out.res.cell 0 (by simp)
          have y1 := HQ.out.res.cell 1 (by simp)
          have g0 := HQ.out.res.frozen 0
          have g1 := HQ.out.res.frozen 1
          simp only [List.getElem_cons_zero, List.getElem_cons_succ] at y0 y1
          go_simp
          have hne : gT ≠ w.heap.size := by have := HQ.out.hg; have := HQ.out.hgT; omega
          have hne2 : gT ≠ w.heap.size + 1 := by have := HQ.out.hg; have := HQ.out.hgT; omega
          clear y0 y1 g0 g1
          refine hK' _ _ ((HQ.out.box.other (a := ⟨w.heap.size, 0, none⟩) hne _).other (a := ⟨w.heap.size, 1, none⟩) hne _) ?_; clear hK' K'
          have hR1 := ((HQ.out.rez.other (a := ⟨w.heap.size, 0, none⟩) (by show w.heap.size + 1 ≠ w.heap.size; omega) (.int .i64 c)).other (a := ⟨w.heap.size, 1, none⟩) (by show w.heap.size + 1 ≠ w.heap.size; omega) (.slice (some ⟨g9, 0, none⟩) ts.length cs))
          have hS1 := (HQ.out.res.set 0 (.int .i64 c)).set 1 (.slice (some ⟨g9, 0, none⟩) ts.length cs)
          obtain ⟨w8, hw8⟩ : ∃ w8, w8 = (wq.setCell ⟨w.heap.size, 0, none⟩ (.int .i64 c)).setCell ⟨w.heap.size, 1, none⟩ (.slice (some ⟨g9, 0, none⟩) ts.length cs) := ⟨_, rfl⟩
          rw [← hw8] at hR1 hS1
          have HX8 : Hid (Blk w8 gT [.int .i64 c, .slice (some ⟨g9, 0, none⟩) ts.length cs] 26) := by rw [hw8]; exact (HQ.out.box.other (a := ⟨w.heap.size, 0, none⟩) hne _).other (a := ⟨w.heap.size, 1, none⟩) hne _
          have HF8 : Hid (∀ z u, Sets2 w ((w8.setCell ⟨w.heap.size + 1, 0, none⟩ z).setCell ⟨w.heap.size + 1, 1, none⟩ u) ts us (some ⟨g9, 0, none⟩) U) := fun z u => by rw [hw8]; exact HQ.out.fin hl HU.out rfl hul _ _ z u
          have HR1 := Lib.hid hR1
          have HS1 := Lib.hid hS1
          rw [← hw8]
          clear hR1 hS1 hw8
          refine mix_call rfl rfl (fun K' hK' => ?_)
          have y0 := HR1.out.cell 0 (by simp)
          have y1 := HR1.out.cell 1 (by simp)
          have g0 := HR1.out.frozen 0
          have g1 := HR1.out.frozen 1
          simp only [List.getElem_cons_zero, List.getElem_cons_succ] at y0 y1
          go_simp
          clear y0 y1 g0 g1
          refine hK' _ _ ((HX8.out.other (a := ⟨w.heap.size + 1, 0, none⟩) hne2 _).other (a := ⟨w.heap.size + 1, 1, none⟩) hne2 _) ?_; clear hK' K'
          repeat (first
            | (refine mix_skip rfl rfl (fun K' hK' => ?_); go_simp; refine hK' _ ?_; clear hK' K')
            | (refine mix_do (v := ?_) rfl rfl (fun w1 hb => ?_) (fun K' hK' => ?_); rotate_left
               · go_simp
                 rfl
               go_simp; refine hK' _ ?_; clear hK' K'))
          refine mix_nil ?_
          clear e0 e1
          go_wp2
          all_goals (
            refine bodyPost_ret (v := .tuple #[.agg #[.int .i64 c, .slice (some ⟨g9, 0, none⟩) ts.length cs], .agg #[.int .i64 c, .slice U us.length cu], .int .i64 hh, .int .i64 n]) (by
              have hy := (HR1.out.set 0 (.int .i64 c)).set 1 (.slice U us.length cu)
              have hz := (HS1.out.other (a := ⟨w.heap.size + 1, 0, none⟩) (by show w.heap.size ≠ w.heap.size + 1; omega) (.int .i64 c)).other (a := ⟨w.heap.size + 1, 1, none⟩) (by show w.heap.size ≠ w.heap.size + 1; omega) (.slice U us.length cu)
              have x0 := hz.cell 0 (by simp)
              have x1 := hz.cell 1 (by simp)
              have x2 := hy.cell 0 (by simp)
              have x3 := hy.cell 1 (by simp)
              simp only [List.set_cons_zero, List.set_cons_succ, List.getElem_cons_zero, List.getElem_cons_succ] at x0 x1 x2 x3
              simp [results, Tryz.results16, go_sem, x0, x1, x2, x3]) rfl ?_
            exact ⟨c, ts, some ⟨g9, 0, none⟩, cs, c, us, U, ⟨cu, hh, n, rfl⟩, HF8.out _ _⟩)
    · have hr' : (r == 0) = false := by simp [hr]
      clear hr
      go_wp2_with fail
      have e0 := fun w1 (h : Blk w1 gT [.int .i64 c, .slice S ts.length cs] 26) => h.cell 0 (by simp)
      have e1 := fun w1 (h : Blk w1 gT [.int .i64 c, .slice S ts.length cs] 26) => h.cell 1 (by simp)
      simp only [List.getElem_cons_zero, List.getElem_cons_succ] at e0 e1
      refine wp_region_mix [(0, true), (1, true), (3, true), (4, true), (2, false), (5, false), (6, false), (7, true), (8, true)] (fun w' => Blk w' gT [.int .i64 c, .slice S ts.length cs] 26) (by kernel_rfl) (by kernel_rfl) (fun _ _ d _ _ h => by cases d <;> exact h) (HQ.out.box.drew) ?_
      repeat (first
        | (refine mix_skip rfl rfl (fun K' hK' => ?_); go_simp; refine hK' _ ?_; clear hK' K')
        | (refine mix_do (v := ?_) rfl rfl (fun w1 hb => ?_) (fun K' hK' => ?_); rotate_left
           · go_simp
             rfl
           go_simp; refine hK' _ ?_; clear hK' K'))
      replace HQ := Lib.hid (HQ.out.below (Below.refl _ _).drew)
      refine mix_call rfl rfl (fun K' hK' => ?_)
      go_simp
      have hgl := HQ.out.src.lt
      refine (l01Small_c g code _ HQ.out.src).mono ?_
      rintro e wq ⟨c2, us, U, cu, rfl, hU, ⟨_, _, _, hul0⟩, S5, G5⟩
      replace HQ := Lib.hid (HQ.out.grow S5 G5)
      have HU := Lib.hid (hU.lower hgl)
      have hul : us.length ≤ 101 := by omega
      clear S5 G5 hU
      refine hK' _ _ (HQ.out.box) ?_; clear hK' K'
      refine mix_call rfl rfl (fun K' hK' => ?_)
      have y0 := HQ.out.res.cell 0 (by simp)
      have y1 := HQ.out.res.cell 1 (by simp)
      have g0 := HQ.out.res.frozen 0
      have g1 := HQ.out.res.frozen 1
      simp only [List.getElem_cons_zero, List.getElem_cons_succ] at y0 y1
      go_simp
      have hne : gT ≠ w.heap.size := by have := HQ.out.hg; have := HQ.out.hgT; omega
      have hne2 : gT ≠ w.heap.size + 1 := by have := HQ.out.hg; have := HQ.out.hgT; omega
      clear y0 y1 g0 g1
      refine hK' _ _ ((HQ.out.box.other (a := ⟨w.heap.size, 0, none⟩) hne _).other (a := ⟨w.heap.size, 1, none⟩) hne _) ?_; clear hK' K'
      have hR1 := ((HQ.out.rez.other (a := ⟨w.heap.size, 0, none⟩) (by show w.heap.size + 1 ≠ w.heap.size; omega) (.int .i64 c)).other (a := ⟨w.heap.size, 1, none⟩) (by show w.heap.size + 1 ≠ w.heap.size; omega) (.slice S ts.length cs))
      have hS1 := (HQ.out.res.set 0 (.int .i64 c)).set 1 (.slice S ts.length cs)
      obtain ⟨w8, hw8⟩ : ∃ w8, w8 = (wq.setCell ⟨w.heap.size, 0, none⟩ (.int .i64 c)).setCell ⟨w.heap.size, 1, none⟩ (.slice S ts.length cs) := ⟨_, rfl⟩
      rw [← hw8] at hR1 hS1
      have HX8 : Hid (Blk w8 gT [.int .i64 c, .slice S ts.length cs] 26) := by rw [hw8]; exact (HQ.out.box.other (a := ⟨w.heap.size, 0, none⟩) hne _).other (a := ⟨w.heap.size, 1, none⟩) hne _
      have HF8 : Hid (∀ z u, Sets2 w ((w8.setCell ⟨w.heap.size + 1, 0, none⟩ z).setCell ⟨w.heap.size + 1, 1, none⟩ u) ts us S U) := fun z u => by rw [hw8]; exact HQ.out.fin hl HU.out rfl hul _ _ z u
      have HR1 := Lib.hid hR1
      have HS1 := Lib.hid hS1
      rw [← hw8]
      clear hR1 hS1 hw8
      refine mix_call rfl rfl (fun K' hK' => ?_)
      have y0 := HR1.out.cell 0 (by simp)
      have y1 := HR1.out.cell 1 (by simp)
      have g0 := HR1.out.frozen 0
      have g1 := HR1.out.frozen 1
      simp only [List.getElem_cons_zero, List.getElem_cons_succ] at y0 y1
      go_simp
      clear y0 y1 g0 g1
      refine hK' _ _ ((HX8.out.other (a := ⟨w.heap.size + 1, 0, none⟩) hne2 _).other (a := ⟨w.heap.size + 1, 1, none⟩) hne2 _) ?_; clear hK' K'
      repeat (first
        | (refine mix_skip rfl rfl (fun K' hK' => ?_); go_simp; refine hK' _ ?_; clear hK' K')
        | (refine mix_do (v := ?_) rfl rfl (fun w1 hb => ?_) (fun K' hK' => ?_); rotate_left
           · go_simp
             rfl
           go_simp; refine hK' _ ?_; clear hK' K'))
      refine mix_nil ?_
      clear e0 e1
      go_wp2
      refine bodyPost_ret (v := .tuple #[.agg #[.int .i64 c, .slice S ts.length cs], .agg #[.int .i64 c2, .slice U us.length cu], .int .i64 hh, .int .i64 n]) (by
        have hy := (HR1.out.set 0 (.int .i64 c2)).set 1 (.slice U us.length cu)
        have hz := (HS1.out.other (a := ⟨w.heap.size + 1, 0, none⟩) (by show w.heap.size ≠ w.heap.size + 1; omega) (.int .i64 c2)).other (a := ⟨w.heap.size + 1, 1, none⟩) (by show w.heap.size ≠ w.heap.size + 1; omega) (.slice U us.length cu)
        have x0 := hz.cell 0 (by simp)
        have x1 := hz.cell 1 (by simp)
        have x2 := hy.cell 0 (by simp)
        have x3 := hy.cell 1 (by simp)
        simp only [List.set_cons_zero, List.set_cons_succ, List.getElem_cons_zero, List.getElem_cons_succ] at x0 x1 x2 x3
        simp [results, Tryz.results16, go_sem, x0, x1, x2, x3]) rfl ?_
      exact ⟨c, ts, S, cs, c2, us, U, cu, hh, n, rfl, HF8.out _ _⟩

end Go.Proofs.YtkgnejhflnekaaaGreat
