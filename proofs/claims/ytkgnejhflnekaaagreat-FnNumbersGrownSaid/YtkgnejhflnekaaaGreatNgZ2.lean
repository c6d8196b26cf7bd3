/- Contracts and lemmas for the statements of this seat, written for this claim; each theorem states its own conditions. -/
import Derived.Test.YtkgnejhflnekaaaGreatNgZ1
set_option linter.unusedVariables false
set_option linter.unusedSimpArgs false
namespace Go.Proofs.YtkgnejhflnekaaaGreat
open Go.RowKit
/-- a set and a list of lists that a draw hands out -/
def SetRows (w w' : World) (ts : List T4) (S : Option Addr) (L : List (List Int)) (P : Option Addr) : Prop :=
  TileCells w' S ts ∧ ts.length ≤ 101 ∧ RowsC w' P L ∧ CapsC w' P L ∧ L.length ≤ 101 ∧ Short 4 L ∧ Below w.heap.size w w'
/-- where a draw of a set and a list of blocks stands, behind l09With -/
structure W9 (w wr : World) (g : Nat) (code : List Int) (c : Int) (ts : List T4) (A : Option Addr) (cx gT : Nat) (L : List (List Int)) (P : Option Addr) (bc : List Value) : Prop where
  res : Blk wr w.heap.size [.int .i64 0, .slice none 0 0] 26
  box : Blk wr gT bc 26
  own : OwnT wr (g + 1) (.slice A ts.length cx) ts
  rws : RowsN wr (g + 1) P L
  src : Src wr g code
  sub : Below w.heap.size w wr
  hgT : g < gT
  hg : w.heap.size < g
  lt : ts.length ≤ 101
  ll : L.length ≤ 101
  sh : Short 4 L
theorem W9.grow {w wr W : World} {g : Nat} {code : List Int} {c : Int} {ts : List T4} {A : Option Addr} {cx gT : Nat} {L : List (List Int)} {P : Option Addr} {bc : List Value} (h : W9 w wr g code c ts A cx gT L P bc) (hS : Src W g code) (hG : wr.grownBy W (some g)) : W9 w W g code c ts A cx gT L P bc :=
  ⟨h.res.kept1 hG (by have := h.hg; intro e; injection e with e; omega), h.box.kept1 hG (by have := h.hgT; intro e; injection e with e; omega), h.own.grew hG (by omega), h.rws.grew hG (by omega), hS, below_src h.sub hG (by have := h.hg; omega), h.hgT, h.hg, h.lt, h.ll, h.sh⟩
theorem W9.below {w wr W : World} {g : Nat} {code : List Int} {c : Int} {ts : List T4} {A : Option Addr} {cx gT : Nat} {L : List (List Int)} {P : Option Addr} {bc : List Value} (h : W9 w wr g code c ts A cx gT L P bc) (hb : Below wr.heap.size wr W) : W9 w W g code c ts A cx gT L P bc :=
  h.grow (h.src.below hb) (grown_below hb _)
theorem W9.fin {w wr : World} {g : Nat} {code : List Int} {c : Int} {ts : List T4} {A : Option Addr} {cx gT : Nat} {L : List (List Int)} {P : Option Addr} {bc : List Value} (h : W9 w wr g code c ts A cx gT L P bc) (x y : Value) :
    SetRows w ((wr.setCell ⟨w.heap.size, 0, none⟩ x).setCell ⟨w.heap.size, 1, none⟩ y) ts A L P := by
  have hg := h.hg
  have h1 := (h.own.other w.heap.size 0 (by omega) x).other w.heap.size 1 (by omega) y
  have h2 := (h.rws.store (b := w.heap.size) (o := 0) (v := x) (by omega)).store (b := w.heap.size) (o := 1) (v := y) (by omega)
  exact ⟨OwnT.cells h1, h.lt, h2.rows, h2.caps, h.ll, h.sh, (h.sub.setCell (Nat.le_refl _) _).setCell (Nat.le_refl _) _⟩
theorem W9.turn {w wr : World} {g : Nat} {code : List Int} {c c' : Int} {ts ts' : List T4} {A A' : Option Addr} {cx cx' gT : Nat} {L L' : List (List Int)} {P P' : Option Addr} {bc : List Value} (h : W9 w wr g code c ts A cx gT L P bc) (hO : OwnT wr (g + 1) (.slice A' ts'.length cx') ts') (hR : RowsN wr (g + 1) P' L') (h1 : ts'.length ≤ 101) (h2 : L'.length ≤ 101) (h3 : Short 4 L') : W9 w wr g code c' ts' A' cx' gT L' P' bc :=
  ⟨h.res, h.box, hO, hR, h.src, h.sub, h.hgT, h.hg, h1, h2, h3⟩
theorem W9.start {w w0 w1 w2 : World} {g : Nat} {code : List Int} {c : Int} {ts : List T4} {A : Option Addr} {cx : Nat} {L : List (List Int)} {P : Option Addr} (hw0 : w0 = w.alloc (.cells #[.int .i64 0, .slice none 0 0] 26))
    (hb : Below w0.heap.size w0 w1) (hg : w0.heap.size ≤ g) (hO : OwnT w2 (g + 1) (.slice A ts.length cx) ts) (hR : RowsN w2 (g + 1) P L) (hS : Src w2 g code) (hG : w1.grownBy w2 (some g)) (h1 : ts.length ≤ 101) (h2 : L.length ≤ 101) (h3 : Short 4 L) :
    W9 w (w2.alloc (.cells #[.int .i64 c, .slice A ts.length cx] 26)) g code c ts A cx w2.heap.size L P [.int .i64 c, .slice A ts.length cx] := by
  have hz : w0.heap.size = w.heap.size + 1 := by rw [hw0]; simp
  have hr : Blk w0 w.heap.size [.int .i64 0, .slice none 0 0] 26 := by rw [hw0]; exact Blk.newA _ _ _
  have hbw : Below w.heap.size w w0 := by rw [hw0]; exact below_al (Below.refl _ _)
  have h4 : Below w.heap.size w w2 := below_src (hbw.trans (hb.mono (by omega))) hG (by omega)
  exact ⟨((hr.under hb).kept1 hG (by intro e; injection e with e; omega)).alloc _, Blk.newA _ _ _, hO.alloc _, hR.below (below_al (Below.refl _ _)), hS.alloc _, below_al h4, hS.lt, by omega, h1, h2, h3⟩
set_option maxRecDepth 100000 in
set_option maxHeartbeats 1000000 in
theorem DrawCornersOf_c (A : Option Addr) (cx : Nat) (code : List Int) (w : World) (h : BytesC w A code) (hok : BytesOk code) :
    Calls Tryz.prog 27 #[.slice A code.length cx] w fun e w' => ∃ c ts S cs L P cp, ∃ i n : Int, e = .returned (.tuple #[.agg #[.int .i64 c, .slice S ts.length cs], .slice P L.length cp, .int .i64 i, .int .i64 n]) ∧ SetRows w w' ts S L P := by
  have HF := Lib.hid (fun (W : World) (hW : Below w.heap.size w W) => l01From_c A cx code W (h.below hW) hok)
  clear h hok
  go_enter Tryz.func27, Tryz.ntmps27
  go_wp2_with fail
  obtain ⟨w0, hw0⟩ : ∃ w0, w0 = w.alloc (.cells #[.int .i64 0, .slice none 0 0] 26) := ⟨_, rfl⟩
  have Hw0 := Lib.hid hw0
  have HBw : Hid (Below w.heap.size w w0) := by rw [hw0]; exact below_al (Below.refl _ _)
  rw [← hw0]
  clear hw0
  refine (HF.out _ HBw.out).mono ?_
  rintro e w1 ⟨g, rfl, hlt, S, hb⟩
  have Hb := Lib.hid hb
  have Hlt := Lib.hid hlt
  have HS := Lib.hid S
  clear hb hlt S
  go_wp2_with fail
  refine (l09With_c g code _ HS.out).mono ?_
  rintro e w2 ⟨c, ts, S, cs, L, P, cp, i, rfl, hO, hts, hR, hL, hSh, hS, hG⟩
  have HQ := Lib.hid (W9.start (c := c) Hw0.out Hb.out Hlt.out hO hR hS hG hts hL hSh)
  clear hO hts hR hL hSh hS hG
  go_wp2_with fail
  obtain ⟨gT, hgT⟩ : ∃ gT, gT = w2.heap.size := ⟨_, rfl⟩
  obtain ⟨wt, hwt⟩ : ∃ wt, wt = w2.alloc (.cells #[.int .i64 c, .slice S ts.length cs] 26) := ⟨_, rfl⟩
  rw [← hwt, ← hgT] at HQ
  rw [← hwt, ← hgT]
  clear hwt hgT
  have e0 := fun w1 (h : Blk w1 gT [.int .i64 c, .slice S ts.length cs] 26) => h.cell 0 (by simp)
  have e1 := fun w1 (h : Blk w1 gT [.int .i64 c, .slice S ts.length cs] 26) => h.cell 1 (by simp)
  simp only [List.getElem_cons_zero, List.getElem_cons_succ] at e0 e1
  refine wp_region_mix [(0, true), (1, true), (2, true), (3, true), (4, false), (5, false), (6, true), (7, true), (8, true)] (fun w' => Blk w' gT [.int .i64 c, .slice S ts.length cs] 26) (by kernel_rfl) (by kernel_rfl) (fun _ _ d _ _ h => by cases d <;> exact h) (HQ.out.box.drew) ?_
  repeat (first
    | (refine mix_skip rfl rfl (fun K' hK' => ?_); go_simp; refine hK' _ ?_; clear hK' K')
    | (refine mix_do (v := ?_) rfl rfl (fun w1 hb => ?_) (fun K' hK' => ?_); rotate_left
       · go_simp
         rfl
       go_simp; refine hK' _ ?_; clear hK' K'))
  replace HQ := Lib.hid (HQ.out.below (Below.refl _ _).drew)
  refine mix_call rfl rfl (fun K' hK' => ?_)
  go_simp
  refine (l01Near_c g code 20 _ HQ.out.src (by omega) (by omega)).mono ?_
  rintro e w3 ⟨n, rfl, S3, G3⟩
  replace HQ := Lib.hid (HQ.out.grow S3 G3)
  clear S3 G3
  refine hK' _ _ (HQ.out.box) ?_; clear hK' K'
  refine mix_call rfl rfl (fun K' hK' => ?_)
  have y0 := HQ.out.res.cell 0 (by simp)
  have y1 := HQ.out.res.cell 1 (by simp)
  have g0 := HQ.out.res.frozen 0
  have g1 := HQ.out.res.frozen 1
  simp only [List.getElem_cons_zero, List.getElem_cons_succ] at y0 y1
  go_simp
  have hne : gT ≠ w.heap.size := by have := HQ.out.hg; have := HQ.out.hgT; omega
  refine hK' _ _ ((HQ.out.box.other (a := ⟨w.heap.size, 0, none⟩) hne _).other (a := ⟨w.heap.size, 1, none⟩) hne _) ?_; clear hK' K'
  repeat (first
    | (refine mix_skip rfl rfl (fun K' hK' => ?_); go_simp; refine hK' _ ?_; clear hK' K')
    | (refine mix_do (v := ?_) rfl rfl (fun w1 hb => ?_) (fun K' hK' => ?_); rotate_left
       · go_simp
         rfl
       go_simp; refine hK' _ ?_; clear hK' K'))
  refine mix_nil ?_
  clear e0 e1 y0 y1 g0 g1
  go_wp2
  refine bodyPost_ret (v := .tuple #[.agg #[.int .i64 c, .slice S ts.length cs], .slice P L.length cp, .int .i64 i, .int .i64 n]) (by
    have x0 := ((HQ.out.res.set 0 (.int .i64 c)).set 1 (.slice S ts.length cs)).cell 0 (by simp)
    have x1 := ((HQ.out.res.set 0 (.int .i64 c)).set 1 (.slice S ts.length cs)).cell 1 (by simp)
    simp only [List.set_cons_zero, List.set_cons_succ, List.getElem_cons_zero, List.getElem_cons_succ] at x0 x1
    simp [results, Tryz.results27, go_sem, x0, x1]) rfl ?_
  exact ⟨c, ts, S, cs, L, P, cp, i, n, rfl, HQ.out.fin _ _⟩
set_option maxRecDepth 100000 in
set_option maxHeartbeats 1000000 in
theorem DrawNumbersAfter_c (A : Option Addr) (cx : Nat) (code : List Int) (w : World) (h : BytesC w A code) (hok : BytesOk code) :
    Calls Tryz.prog 20 #[.slice A code.length cx] w fun e w' => ∃ c ts S cs L P cp, ∃ i n : Int, e = .returned (.tuple #[.agg #[.int .i64 c, .slice S ts.length cs], .slice P L.length cp, .int .i64 i, .int .i64 n]) ∧ SetRows w w' ts S L P := by
  have HF := Lib.hid (fun (W : World) (hW : Below w.heap.size w W) => l01From_c A cx code W (h.below hW) hok)
  clear h hok
  go_enter Tryz.func20, Tryz.ntmps20
  go_wp2_with fail
  obtain ⟨w0, hw0⟩ : ∃ w0, w0 = w.alloc (.cells #[.int .i64 0, .slice none 0 0] 26) := ⟨_, rfl⟩
  have Hw0 := Lib.hid hw0
  have HBw : Hid (Below w.heap.size w w0) := by rw [hw0]; exact below_al (Below.refl _ _)
  rw [← hw0]
  clear hw0
  refine (HF.out _ HBw.out).mono ?_
  rintro e w1 ⟨g, rfl, hlt, S, hb⟩
  have Hb := Lib.hid hb
  have Hlt := Lib.hid hlt
  have HS := Lib.hid S
  clear hb hlt S
  go_wp2_with fail
  refine (l09With_c g code _ HS.out).mono ?_
  rintro e w2 ⟨c, ts, S, cs, L, P, cp, i, rfl, hO, hts, hR, hL, hSh, hS, hG⟩
  have HQ := Lib.hid (W9.start (c := c) Hw0.out Hb.out Hlt.out hO hR hS hG hts hL hSh)
  clear hO hts hR hL hSh hS hG
  go_wp2_with fail
  obtain ⟨gT, hgT⟩ : ∃ gT, gT = w2.heap.size := ⟨_, rfl⟩
  obtain ⟨wt, hwt⟩ : ∃ wt, wt = w2.alloc (.cells #[.int .i64 c, .slice S ts.length cs] 26) := ⟨_, rfl⟩
  rw [← hwt, ← hgT] at HQ
  rw [← hwt, ← hgT]
  clear hwt hgT
  have e0 := fun w1 (h : Blk w1 gT [.int .i64 c, .slice S ts.length cs] 26) => h.cell 0 (by simp)
  have e1 := fun w1 (h : Blk w1 gT [.int .i64 c, .slice S ts.length cs] 26) => h.cell 1 (by simp)
  simp only [List.getElem_cons_zero, List.getElem_cons_succ] at e0 e1
  refine wp_region_mix [(0, true), (1, true), (2, true), (3, true), (4, true), (5, false), (6, false), (7, false), (8, false), (9, true), (10, true), (11, true)] (fun w' => Blk w' gT [.int .i64 c, .slice S ts.length cs] 26) (by kernel_rfl) (by kernel_rfl) (fun _ _ d _ _ h => by cases d <;> exact h) (HQ.out.box.drew) ?_
  repeat (first
    | (refine mix_skip rfl rfl (fun K' hK' => ?_); go_simp; refine hK' _ ?_; clear hK' K')
    | (refine mix_do (v := ?_) rfl rfl (fun w1 hb => ?_) (fun K' hK' => ?_); rotate_left
       · go_simp
         rfl
       go_simp; refine hK' _ ?_; clear hK' K'))
  replace HQ := Lib.hid (HQ.out.below (Below.refl _ _).drew)
  refine mix_call rfl rfl (fun K' hK' => ?_)
  go_simp
  refine (l01Near_c g code 20 _ HQ.out.src (by omega) (by omega)).mono ?_
  rintro e w3 ⟨n0, rfl, S3, G3⟩
  replace HQ := Lib.hid (HQ.out.grow S3 G3)
  clear S3 G3
  refine hK' _ _ (HQ.out.box) ?_; clear hK' K'
  refine mix_call rfl rfl (fun K' hK' => ?_)
  go_simp
  refine hK' _ _ (HQ.out.box.alloc _) ?_; clear hK' K'
  refine mix_call rfl rfl (fun K' hK' => ?_)
  go_simp
  refine (pick_new g code _ HQ.out.src _ _ [0, 1, 2, 3, 7, n0] _ rfl rfl (by simp)).mono ?_
  rintro e w4 ⟨n, rfl, m4, S4, G4⟩
  replace HQ := Lib.hid (HQ.out.grow S4 G4)
  clear S4 G4 m4
  refine hK' _ _ (HQ.out.box) ?_; clear hK' K'
  refine mix_call rfl rfl (fun K' hK' => ?_)
  have y0 := HQ.out.res.cell 0 (by simp)
  have y1 := HQ.out.res.cell 1 (by simp)
  have g0 := HQ.out.res.frozen 0
  have g1 := HQ.out.res.frozen 1
  simp only [List.getElem_cons_zero, List.getElem_cons_succ] at y0 y1
  go_simp
  have hne : gT ≠ w.heap.size := by have := HQ.out.hg; have := HQ.out.hgT; omega
  refine hK' _ _ ((HQ.out.box.other (a := ⟨w.heap.size, 0, none⟩) hne _).other (a := ⟨w.heap.size, 1, none⟩) hne _) ?_; clear hK' K'
  repeat (first
    | (refine mix_skip rfl rfl (fun K' hK' => ?_); go_simp; refine hK' _ ?_; clear hK' K')
    | (refine mix_do (v := ?_) rfl rfl (fun w1 hb => ?_) (fun K' hK' => ?_); rotate_left
       · go_simp
         rfl
       go_simp; refine hK' _ ?_; clear hK' K'))
  refine mix_nil ?_
  clear e0 e1 y0 y1 g0 g1
  go_wp2
  refine bodyPost_ret (v := .tuple #[.agg #[.int .i64 c, .slice S ts.length cs], .slice P L.length cp, .int .i64 i, .int .i64 n]) (by
    have x0 := ((HQ.out.res.set 0 (.int .i64 c)).set 1 (.slice S ts.length cs)).cell 0 (by simp)
    have x1 := ((HQ.out.res.set 0 (.int .i64 c)).set 1 (.slice S ts.length cs)).cell 1 (by simp)
    simp only [List.set_cons_zero, List.set_cons_succ, List.getElem_cons_zero, List.getElem_cons_succ] at x0 x1
    simp [results, Tryz.results20, go_sem, x0, x1]) rfl ?_
  exact ⟨c, ts, S, cs, L, P, cp, i, n, rfl, HQ.out.fin _ _⟩
set_option maxRecDepth 100000 in
set_option maxHeartbeats 1000000 in
theorem DrawPairsGrown_c (A : Option Addr) (cx : Nat) (code : List Int) (w : World) (h : BytesC w A code) (hok : BytesOk code) :
    Calls Tryz.prog 31 #[.slice A code.length cx] w fun e w' => ∃ c ts S cs L P cp, ∃ i : Int, e = .returned (.tuple #[.agg #[.int .i64 c, .slice S ts.length cs], .slice P L.length cp, .int .i64 i]) ∧ SetRows w w' ts S L P := by
  have HF := Lib.hid (fun (W : World) (hW : Below w.heap.size w W) => l01From_c A cx code W (h.below hW) hok)
  clear h hok
  go_enter Tryz.func31, Tryz.ntmps31
  go_wp2_with fail
  obtain ⟨w0, hw0⟩ : ∃ w0, w0 = w.alloc (.cells #[.int .i64 0, .slice none 0 0] 26) := ⟨_, rfl⟩
  have Hw0 := Lib.hid hw0
  have HBw : Hid (Below w.heap.size w w0) := by rw [hw0]; exact below_al (Below.refl _ _)
  rw [← hw0]
  clear hw0
  refine (HF.out _ HBw.out).mono ?_
  rintro e w1 ⟨g, rfl, hlt, S, hb⟩
  have Hb := Lib.hid hb
  have Hlt := Lib.hid hlt
  have HS := Lib.hid S
  clear hb hlt S
  go_wp2_with fail
  refine (l09With_c g code _ HS.out).mono ?_
  rintro e w2 ⟨c, ts, S, cs, L, P, cp, i, rfl, hO, hts, hR, hL, hSh, hS, hG⟩
  have HQ := Lib.hid (W9.start (c := c) Hw0.out Hb.out Hlt.out hO hR hS hG hts hL hSh)
  clear hO hts hR hL hSh hS hG
  go_upto_region 2 with (fail)
  obtain ⟨gT, hgT⟩ : ∃ gT, gT = w2.heap.size := ⟨_, rfl⟩
  obtain ⟨wt, hwt⟩ : ∃ wt, wt = w2.alloc (.cells #[.int .i64 c, .slice S ts.length cs] 26) := ⟨_, rfl⟩
  rw [← hwt, ← hgT] at HQ
  rw [← hwt, ← hgT]
  clear hwt hgT
  have e0 := HQ.out.box.cell 0 (by simp)
  have e1 := HQ.out.box.cell 1 (by simp)
  simp only [List.getElem_cons_zero, List.getElem_cons_succ] at e0 e1
  have y0 := HQ.out.res.cell 0 (by simp)
  have y1 := HQ.out.res.cell 1 (by simp)
  have g0 := HQ.out.res.frozen 0
  have g1 := HQ.out.res.frozen 1
  simp only [List.getElem_cons_zero, List.getElem_cons_succ] at y0 y1
  go_wp2
  refine bodyPost_ret (v := .tuple #[.agg #[.int .i64 c, .slice S ts.length cs], .slice P L.length cp, .int .i64 i]) (by
    have x0 := ((HQ.out.res.set 0 (.int .i64 c)).set 1 (.slice S ts.length cs)).cell 0 (by simp)
    have x1 := ((HQ.out.res.set 0 (.int .i64 c)).set 1 (.slice S ts.length cs)).cell 1 (by simp)
    simp only [List.set_cons_zero, List.set_cons_succ, List.getElem_cons_zero, List.getElem_cons_succ] at x0 x1
    simp [results, Tryz.results31, go_sem, x0, x1]) rfl ?_
  exact ⟨c, ts, S, cs, L, P, cp, i, rfl, HQ.out.fin _ _⟩
set_option maxRecDepth 100000 in
set_option maxHeartbeats 1000000 in
theorem DrawTilesGrown_c (A : Option Addr) (cx : Nat) (code : List Int) (w : World) (h : BytesC w A code) (hok : BytesOk code) :
    Calls Tryz.prog 36 #[.slice A code.length cx] w fun e w' => ∃ c ts S cs L P cp, ∃ i : Int, e = .returned (.tuple #[.agg #[.int .i64 c, .slice S ts.length cs], .slice P L.length cp, .int .i64 i]) ∧ SetRows w w' ts S L P := by
  have HF := Lib.hid (fun (W : World) (hW : Below w.heap.size w W) => l01From_c A cx code W (h.below hW) hok)
  clear h hok
  go_enter Tryz.func36, Tryz.ntmps36
  go_wp2_with fail
  obtain ⟨w0, hw0⟩ : ∃ w0, w0 = w.alloc (.cells #[.int .i64 0, .slice none 0 0] 26) := ⟨_, rfl⟩
  have Hw0 := Lib.hid hw0
  have HBw : Hid (Below w.heap.size w w0) := by rw [hw0]; exact below_al (Below.refl _ _)
  rw [← hw0]
  clear hw0
  refine (HF.out _ HBw.out).mono ?_
  rintro e w1 ⟨g, rfl, hlt, S, hb⟩
  have Hb := Lib.hid hb
  have Hlt := Lib.hid hlt
  have HS := Lib.hid S
  clear hb hlt S
  go_wp2_with fail
  refine (l09With_c g code _ HS.out).mono ?_
  rintro e w2 ⟨c, ts, S, cs, L, P, cp, i, rfl, hO, hts, hR, hL, hSh, hS, hG⟩
  have HQ := Lib.hid (W9.start (c := c) Hw0.out Hb.out Hlt.out hO hR hS hG hts hL hSh)
  clear hO hts hR hL hSh hS hG
  go_upto_region 2 with (fail)
  obtain ⟨gT, hgT⟩ : ∃ gT, gT = w2.heap.size := ⟨_, rfl⟩
  obtain ⟨wt, hwt⟩ : ∃ wt, wt = w2.alloc (.cells #[.int .i64 c, .slice S ts.length cs] 26) := ⟨_, rfl⟩
  rw [← hwt, ← hgT] at HQ
  rw [← hwt, ← hgT]
  clear hwt hgT
  have e0 := HQ.out.box.cell 0 (by simp)
  have e1 := HQ.out.box.cell 1 (by simp)
  simp only [List.getElem_cons_zero, List.getElem_cons_succ] at e0 e1
  have y0 := HQ.out.res.cell 0 (by simp)
  have y1 := HQ.out.res.cell 1 (by simp)
  have g0 := HQ.out.res.frozen 0
  have g1 := HQ.out.res.frozen 1
  simp only [List.getElem_cons_zero, List.getElem_cons_succ] at y0 y1
  go_wp2
  refine bodyPost_ret (v := .tuple #[.agg #[.int .i64 c, .slice S ts.length cs], .slice P L.length cp, .int .i64 i]) (by
    have x0 := ((HQ.out.res.set 0 (.int .i64 c)).set 1 (.slice S ts.length cs)).cell 0 (by simp)
    have x1 := ((HQ.out.res.set 0 (.int .i64 c)).set 1 (.slice S ts.length cs)).cell 1 (by simp)
    simp only [List.set_cons_zero, List.set_cons_succ, List.getElem_cons_zero, List.getElem_cons_succ] at x0 x1
    simp [results, Tryz.results36, go_sem, x0, x1]) rfl ?_
  exact ⟨c, ts, S, cs, L, P, cp, i, rfl, HQ.out.fin _ _⟩
set_option maxRecDepth 100000 in
set_option maxHeartbeats 1000000 in
theorem DrawCornerPeriod_c (A : Option Addr) (cx : Nat) (code : List Int) (w : World) (h : BytesC w A code) (hok : BytesOk code) :
    Calls Tryz.prog 38 #[.slice A code.length cx] w fun e w' => ∃ c ts S cs L P cp, ∃ i : Int, e = .returned (.tuple #[.agg #[.int .i64 c, .slice S ts.length cs], .slice P L.length cp, .int .i64 i]) ∧ SetRows w w' ts S L P := by
  have HF := Lib.hid (fun (W : World) (hW : Below w.heap.size w W) => l01From_c A cx code W (h.below hW) hok)
  clear h hok
  go_enter Tryz.func38, Tryz.ntmps38
  go_wp2_with fail
  obtain ⟨w0, hw0⟩ : ∃ w0, w0 = w.alloc (.cells #[.int .i64 0, .slice none 0 0] 26) := ⟨_, rfl⟩
  have Hw0 := Lib.hid hw0
  have HBw : Hid (Below w.heap.size w w0) := by rw [hw0]; exact below_al (Below.refl _ _)
  rw [← hw0]
  clear hw0
  refine (HF.out _ HBw.out).mono ?_
  rintro e w1 ⟨g, rfl, hlt, S, hb⟩
  have Hb := Lib.hid hb
  have Hlt := Lib.hid hlt
  have HS := Lib.hid S
  clear hb hlt S
  go_wp2_with fail
  refine (l09With_c g code _ HS.out).mono ?_
  rintro e w2 ⟨c, ts, S, cs, L, P, cp, i, rfl, hO, hts, hR, hL, hSh, hS, hG⟩
  have HQ := Lib.hid (W9.start (c := c) Hw0.out Hb.out Hlt.out hO hR hS hG hts hL hSh)
  clear hO hts hR hL hSh hS hG
  go_upto_region 2 with (fail)
  obtain ⟨gT, hgT⟩ : ∃ gT, gT = w2.heap.size := ⟨_, rfl⟩
  obtain ⟨wt, hwt⟩ : ∃ wt, wt = w2.alloc (.cells #[.int .i64 c, .slice S ts.length cs] 26) := ⟨_, rfl⟩
  rw [← hwt, ← hgT] at HQ
  rw [← hwt, ← hgT]
  clear hwt hgT
  have e0 := HQ.out.box.cell 0 (by simp)
  have e1 := HQ.out.box.cell 1 (by simp)
  simp only [List.getElem_cons_zero, List.getElem_cons_succ] at e0 e1
  have y0 := HQ.out.res.cell 0 (by simp)
  have y1 := HQ.out.res.cell 1 (by simp)
  have g0 := HQ.out.res.frozen 0
  have g1 := HQ.out.res.frozen 1
  simp only [List.getElem_cons_zero, List.getElem_cons_succ] at y0 y1
  go_wp2
  refine bodyPost_ret (v := .tuple #[.agg #[.int .i64 c, .slice S ts.length cs], .slice P L.length cp, .int .i64 i]) (by
    have x0 := ((HQ.out.res.set 0 (.int .i64 c)).set 1 (.slice S ts.length cs)).cell 0 (by simp)
    have x1 := ((HQ.out.res.set 0 (.int .i64 c)).set 1 (.slice S ts.length cs)).cell 1 (by simp)
    simp only [List.set_cons_zero, List.set_cons_succ, List.getElem_cons_zero, List.getElem_cons_succ] at x0 x1
    simp [results, Tryz.results38, go_sem, x0, x1]) rfl ?_
  exact ⟨c, ts, S, cs, L, P, cp, i, rfl, HQ.out.fin _ _⟩
set_option maxRecDepth 100000 in
set_option maxHeartbeats 1000000 in
theorem DrawIsPrimitive_c (A : Option Addr) (cx : Nat) (code : List Int) (w : World) (h : BytesC w A code) (hok : BytesOk code) :
    Calls Tryz.prog 40 #[.slice A code.length cx] w fun e w' => ∃ c ts S cs L P cp, e = .returned (.tuple #[.agg #[.int .i64 c, .slice S ts.length cs], .slice P L.length cp]) ∧ SetRows w w' ts S L P := by
  have HF := Lib.hid (fun (W : World) (hW : Below w.heap.size w W) => l01From_c A cx code W (h.below hW) hok)
  clear h hok
  go_enter Tryz.func40, Tryz.ntmps40
  go_wp2_with fail
  obtain ⟨w0, hw0⟩ : ∃ w0, w0 = w.alloc (.cells #[.int .i64 0, .slice none 0 0] 26) := ⟨_, rfl⟩
  have Hw0 := Lib.hid hw0
  have HBw : Hid (Below w.heap.size w w0) := by rw [hw0]; exact below_al (Below.refl _ _)
  rw [← hw0]
  clear hw0
  refine (HF.out _ HBw.out).mono ?_
  rintro e w1 ⟨g, rfl, hlt, S, hb⟩
  have Hb := Lib.hid hb
  have Hlt := Lib.hid hlt
  have HS := Lib.hid S
  clear hb hlt S
  go_wp2_with fail
  refine (l09Draw_c g code _ HS.out).mono ?_
  rintro e w2 ⟨c, ts, S, cs, v, L, rfl, hO, hV, hK, hB, hS, hG⟩
  obtain ⟨P, cp, rfl, -⟩ := hV.rows
  have hLn : L.length ≤ 16 := by rw [hB.1]; exact hK.2.2.2
  have H4 : Hid (∀ r ∈ L, r.length = 4) := fun r hr => by
    obtain ⟨k, hk, rfl⟩ := List.getElem_of_mem hr
    exact (hB.2 k hk).1
  have hg1 := HS.out.lt
  have HQ := Lib.hid (W9.start (c := c) Hw0.out Hb.out Hlt.out (hO.lower (by omega)) (hV.rowsN.lower (by omega)) hS hG (by have := hK.2.2.2; omega) (by omega) (fun j hj => Nat.le_of_eq (H4.out _ (List.getElem_mem hj))))
  have hts := hK.2.2.2
  clear hO hV hK hB hS hG hg1
  go_wp2_with fail
  obtain ⟨gT, hgT⟩ : ∃ gT, gT = w2.heap.size := ⟨_, rfl⟩
  obtain ⟨wt, hwt⟩ : ∃ wt, wt = w2.alloc (.cells #[.int .i64 c, .slice S ts.length cs] 26) := ⟨_, rfl⟩
  rw [← hwt, ← hgT] at HQ
  rw [← hwt, ← hgT]
  clear hwt hgT
  refine (l01Bad_c g code c ts S cs (g + 1) _ HQ.out.src HQ.out.own (by omega) HQ.out.src.lt (by omega)).mono ?_
  rintro e w3 ⟨c3, t3, A3, cx3, rfl, hO3, hK3, S3, G3⟩
  replace HQ := Lib.hid (HQ.out.grow S3 G3)
  have HO3 := Lib.hid hO3
  clear S3 G3 hO3
  go_wp2_with fail
  refine (l09Bad_c g code L P cp (g + 1) _ HQ.out.src HQ.out.rws H4.out (by omega)).mono ?_
  rintro e w4 ⟨P4, L4, cp4, rfl, hN4, ⟨hl4, hS4⟩, S4, G4⟩
  have hN5 := hN4.lower (show g + 1 ≤ w3.heap.size from HQ.out.src.lt)
  replace HQ := Lib.hid (HQ.out.grow S4 G4)
  replace HO3 := HO3.out.grew G4 (by omega)
  replace HQ := Lib.hid (HQ.out.turn (c' := c3) HO3 hN5 hK3 hl4 hS4)
  clear S4 G4 hN4 hN5 hS4 HO3 hl4 hK3
  have y0 := HQ.out.res.cell 0 (by simp)
  have y1 := HQ.out.res.cell 1 (by simp)
  have g0 := HQ.out.res.frozen 0
  have g1 := HQ.out.res.frozen 1
  simp only [List.getElem_cons_zero, List.getElem_cons_succ] at y0 y1
  go_wp2
  refine bodyPost_ret (v := .tuple #[.agg #[.int .i64 c3, .slice A3 t3.length cx3], .slice P4 L4.length cp4]) (by
    have x0 := ((HQ.out.res.set 0 (.int .i64 c3)).set 1 (.slice A3 t3.length cx3)).cell 0 (by simp)
    have x1 := ((HQ.out.res.set 0 (.int .i64 c3)).set 1 (.slice A3 t3.length cx3)).cell 1 (by simp)
    simp only [List.set_cons_zero, List.set_cons_succ, List.getElem_cons_zero, List.getElem_cons_succ] at x0 x1
    simp [results, Tryz.results40, go_sem, x0, x1]) rfl ?_
  exact ⟨c3, t3, A3, cx3, L4, P4, cp4, rfl, HQ.out.fin _ _⟩
end Go.Proofs.YtkgnejhflnekaaaGreat
