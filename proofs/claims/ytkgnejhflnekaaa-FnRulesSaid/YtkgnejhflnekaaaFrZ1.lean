/- Contracts and lemmas for the statements of this seat, written for this claim; each theorem states its own conditions. -/
import Derived.Deep.Cut
import Derived.Test.YtkgnejhflnekaaaFrY9
import Derived.Test.YtkgnejhflnekaaaFrJ4
import Derived.Test.YtkgnejhflnekaaaFrCp
import Derived.Test.YtkgnejhflnekaaaFrOs
import Derived.Test.YtkgnejhflnekaaaFrNu
import Derived.Test.YtkgnejhflnekaaaFrGt
import Derived.Test.YtkgnejhflnekaaaFrB
import Derived.Test.YtkgnejhflnekaaaFrDr
set_option linter.unusedVariables false
set_option linter.unusedSimpArgs false
namespace Go.Proofs.Ytkgnejhflnekaaa
open Go.RowKit
def With9 (w : World) (g : Nat) (code : List Int) (e : Ending) (w' : World) : Prop :=
  ∃ c ts A cx L P cp, ∃ i : Int, e = .returned (.tuple #[.agg #[.int .i64 c, .slice A ts.length cx], .slice P L.length cp, .int .i64 i]) ∧ OwnT w' (g + 1) (.slice A ts.length cx) ts ∧ ts.length ≤ 101 ∧ RowsN w' (g + 1) P L ∧ L.length ≤ 101 ∧ Short 4 L ∧ Src w' g code ∧ w.grownBy w' (some g)
set_option maxRecDepth 100000 in
set_option maxHeartbeats 4000000 in
theorem l09With_c (g : Nat) (code : List Int) (w : World) (h : Src w g code) :
    Calls Try.prog 45 #[.pointer (some ⟨g, 0, none⟩)] w (With9 w g code) := by
  have HL := Lib.hid h.lt
  have HS := Lib.hid h
  clear h
  go_enter Try.func45, Try.ntmps45
  go_wp2_with fail
  refine (l09Draw_c g code _ (HS.out.alloc _)).mono ?_
  rintro e w1 ⟨c, ts, A, cx, v, L, rfl, hO, hV, hK, hB, S, G⟩
  obtain ⟨P, cp, rfl, -⟩ := hV.rows
  rw [World.size_alloc] at hO hV
  have hts := hK.2.2.2
  have hLn : L.length ≤ 16 := by rw [hB.1]; exact hts
  have H4 : Hid (∀ r ∈ L, r.length = 4) := fun r hr => by
    obtain ⟨k, hk, rfl⟩ := List.getElem_of_mem hr
    exact (hB.2 k hk).1
  have HSz : Hid (w.heap.size + 1 ≤ w1.heap.size) := by have := G.size; rw [World.size_alloc] at this; exact this
  have HQ : Hid (D9 w (w1.alloc (.cells #[.int .i64 c, .slice A ts.length cx] 26)) g code c ts A cx w1.heap.size) :=
    ⟨((Blk.newA w _ _).kept1 G (by have := HL.out; intro e; injection e with e; omega)).alloc _, Blk.newA _ _ _, ((hO.lower (by omega)).alloc _), S.alloc _, (World.grownBy_alloc w _ _).trans (G.trans (World.grownBy_alloc _ _ _)), (by have := HSz.out; omega), HL.out, by rw [World.size_alloc]; have := HSz.out; omega⟩
  have HN : Hid (RowsN (w1.alloc (.cells #[.int .i64 c, .slice A ts.length cx] 26)) (w.heap.size + 1) P L) := ((hV.rowsN).below (below_al (Below.refl _ _))).lower (by omega)
  clear hO hV hK hB S G HS
  go_wp2_with fail
  refine (l01Near_c g code _ _ HQ.out.src (by omega) (by omega)).mono ?_
  rintro e w2 ⟨i, rfl, S, G⟩
  replace HQ := Lib.hid (HQ.out.grow S G)
  replace HN := Lib.hid (HN.out.grew G (by have := HL.out; omega))
  clear S G
  have a0 := HQ.out.box.cell 0 (by simp)
  have a1 := HQ.out.box.cell 1 (by simp)
  simp only [List.getElem_cons_zero, List.getElem_cons_succ] at a0 a1
  go_wp2_with fail
  refine (l01Bad_c g code c ts A cx (w.heap.size + 1) _ HQ.out.src HQ.out.own (by have := HL.out; omega) HQ.out.sz (by omega)).mono ?_
  rintro e w3 ⟨c3, t3, A3, cx3, rfl, hO3, hK3, S, G⟩
  replace HQ := Lib.hid (HQ.out.grow S G)
  replace HN := Lib.hid (HN.out.grew G (by have := HL.out; omega))
  have HO3 := Lib.hid hO3
  clear S G hO3 a0 a1
  go_wp2_with fail
  refine (l09Bad_c g code L P cp (w.heap.size + 1) _ HQ.out.src HN.out H4.out (by omega)).mono ?_
  rintro e w4 ⟨P4, L4, cp4, rfl, hN4, ⟨hl4, hS4⟩, S, G⟩
  have HN4 := Lib.hid (hN4.lower HQ.out.sz)
  replace HQ := Lib.hid (HQ.out.grow S G)
  replace HO3 := Lib.hid (HO3.out.grew G (by have := HL.out; omega))
  have HS4 := Lib.hid hS4
  clear S G hN4 hS4 HN
  have y0 := HQ.out.res.cell 0 (by simp)
  have y1 := HQ.out.res.cell 1 (by simp)
  have g0 := HQ.out.res.frozen 0
  have g1 := HQ.out.res.frozen 1
  simp only [List.getElem_cons_zero, List.getElem_cons_succ] at y0 y1
  go_wp2
  refine bodyPost_ret (v := .tuple #[.agg #[.int .i64 c3, .slice A3 t3.length cx3], .slice P4 L4.length cp4, .int .i64 i]) (by
    have x0 := ((HQ.out.res.set 0 (.int .i64 c3)).set 1 (.slice A3 t3.length cx3)).cell 0 (by simp)
    have x1 := ((HQ.out.res.set 0 (.int .i64 c3)).set 1 (.slice A3 t3.length cx3)).cell 1 (by simp)
    simp only [List.set_cons_zero, List.set_cons_succ, List.getElem_cons_zero, List.getElem_cons_succ] at x0 x1
    simp [results, Try.results45, go_sem, x0, x1]) rfl ?_
  have hg0 := HL.out
  exact ⟨c3, t3, A3, cx3, L4, P4, cp4, i, rfl, ((HO3.out.other w.heap.size 0 (by omega) _).other w.heap.size 1 (by omega) _).lower (by omega), hK3, ((HN4.out.store (by omega)).store (by omega)).lower (by omega), hl4, HS4.out, (HQ.out.src.store (by dsimp only; omega)).store (by dsimp only; omega), grown_store (grown_store HQ.out.sub (Nat.le_refl _)) (Nat.le_refl _)⟩

end Go.Proofs.Ytkgnejhflnekaaa
namespace Go.Proofs.Ytkgnejhflnekaaa
open Go.RowKit
/-- a set and a list of lists that a draw hands out -/
def SetRows (w w' : World) (ts : List T4) (S : Option Addr) (L : List (List Int)) (P : Option Addr) : Prop :=
  TileCells w' S ts ∧ ts.length ≤ 101 ∧ RowsC w' P L ∧ CapsC w' P L ∧ L.length ≤ 101 ∧ Short 4 L ∧ Below w.heap.size w w'
/-- where a draw of a set and a list of blocks stands, behind l09With -/
structure W9 (w wr : World) (g : Nat) (code : List Int) (c : Int) (ts : List T4) (A : Option Addr) (cx gT : Nat) (L : List (List Int)) (P : Option Addr) (bc : List Value) : Prop where
  res : Blk wr w.heap.size [.int .i64 0, .slice none 0 0] 26
  box : Blk wr gT bc 26
  own : OwnT wr (g + 1) (.slice A ts.length cx) ts
  rws : RowsN wr (g + 1) P L
  src : Src wr g code
  sub : Below w.heap.size w wr
  hgT : g < gT
  hg : w.heap.size < g
  lt : ts.length ≤ 101
  ll : L.length ≤ 101
  sh : Short 4 L
theorem W9.grow {w wr W : World} {g : Nat} {code : List Int} {c : Int} {ts : List T4} {A : Option Addr} {cx gT : Nat} {L : List (List Int)} {P : Option Addr} {bc : List Value} (h : W9 w wr g code c ts A cx gT L P bc) (hS : Src W g code) (hG : wr.grownBy W (some g)) : W9 w W g code c ts A cx gT L P bc :=
  ⟨h.res.kept1 hG (by have := h.hg; intro e; injection e with e; omega), h.box.kept1 hG (by have := h.hgT; intro e; injection e with e; omega), h.own.grew hG (by omega), h.rws.grew hG (by omega), hS, below_src h.sub hG (by have := h.hg; omega), h.hgT, h.hg, h.lt, h.ll, h.sh⟩
theorem W9.below {w wr W : World} {g : Nat} {code : List Int} {c : Int} {ts : List T4} {A : Option Addr} {cx gT : Nat} {L : List (List Int)} {P : Option Addr} {bc : List Value} (h : W9 w wr g code c ts A cx gT L P bc) (hb : Below wr.heap.size wr W) : W9 w W g code c ts A cx gT L P bc :=
  h.grow (h.src.below hb) (grown_below hb _)
theorem W9.fin {w wr : World} {g : Nat} {code : List Int} {c : Int} {ts : List T4} {A : Option Addr} {cx gT : Nat} {L : List (List Int)} {P : Option Addr} {bc : List Value} (h : W9 w wr g code c ts A cx gT L P bc) (x y : Value) :
    SetRows w ((wr.setCell ⟨w.heap.size, 0, none⟩ x).setCell ⟨w.heap.size, 1, none⟩ y) ts A L P := by
  have hg := h.hg
  have h1 := (h.own.other w.heap.size 0 (by omega) x).other w.heap.size 1 (by omega) y
  have h2 := (h.rws.store (b := w.heap.size) (o := 0) (v := x) (by omega)).store (b := w.heap.size) (o := 1) (v := y) (by omega)
  exact ⟨OwnT.cells h1, h.lt, h2.rows, h2.caps, h.ll, h.sh, (h.sub.setCell (Nat.le_refl _) _).setCell (Nat.le_refl _) _⟩
theorem W9.turn {w wr : World} {g : Nat} {code : List Int} {c c' : Int} {ts ts' : List T4} {A A' : Option Addr} {cx cx' gT : Nat} {L L' : List (List Int)} {P P' : Option Addr} {bc : List Value} (h : W9 w wr g code c ts A cx gT L P bc) (hO : OwnT wr (g + 1) (.slice A' ts'.length cx') ts') (hR : RowsN wr (g + 1) P' L') (h1 : ts'.length ≤ 101) (h2 : L'.length ≤ 101) (h3 : Short 4 L') : W9 w wr g code c' ts' A' cx' gT L' P' bc :=
  ⟨h.res, h.box, hO, hR, h.src, h.sub, h.hgT, h.hg, h1, h2, h3⟩
theorem W9.start {w w0 w1 w2 : World} {g : Nat} {code : List Int} {c : Int} {ts : List T4} {A : Option Addr} {cx : Nat} {L : List (List Int)} {P : Option Addr} (hw0 : w0 = w.alloc (.cells #[.int .i64 0, .slice none 0 0] 26))
    (hb : Below w0.heap.size w0 w1) (hg : w0.heap.size ≤ g) (hO : OwnT w2 (g + 1) (.slice A ts.length cx) ts) (hR : RowsN w2 (g + 1) P L) (hS : Src w2 g code) (hG : w1.grownBy w2 (some g)) (h1 : ts.length ≤ 101) (h2 : L.length ≤ 101) (h3 : Short 4 L) :
    W9 w (w2.alloc (.cells #[.int .i64 c, .slice A ts.length cx] 26)) g code c ts A cx w2.heap.size L P [.int .i64 c, .slice A ts.length cx] := by
  have hz : w0.heap.size = w.heap.size + 1 := by rw [hw0]; simp
  have hr : Blk w0 w.heap.size [.int .i64 0, .slice none 0 0] 26 := by rw [hw0]; exact Blk.newA _ _ _
  have hbw : Below w.heap.size w w0 := by rw [hw0]; exact below_al (Below.refl _ _)
  have h4 : Below w.heap.size w w2 := below_src (hbw.trans (hb.mono (by omega))) hG (by omega)
  exact ⟨((hr.under hb).kept1 hG (by intro e; injection e with e; omega)).alloc _, Blk.newA _ _ _, hO.alloc _, hR.below (below_al (Below.refl _ _)), hS.alloc _, below_al h4, hS.lt, by omega, h1, h2, h3⟩
set_option maxRecDepth 100000 in
set_option maxHeartbeats 1000000 in
theorem DrawGrowTile_c (A : Option Addr) (cx : Nat) (code : List Int) (w : World) (h : BytesC w A code) (hok : BytesOk code) :
    Calls Try.prog 19 #[.slice A code.length cx] w fun e w' => ∃ c ts S cs L P cp, ∃ i n : Int, e = .returned (.tuple #[.agg #[.int .i64 c, .slice S ts.length cs], .slice P L.length cp, .int .i64 i, .int .i64 n]) ∧ SetRows w w' ts S L P := by
  have HF := Lib.hid (fun (W : World) (hW : Below w.heap.size w W) => l01From_c A cx code W (h.below hW) hok)
  clear h hok
  go_enter Try.func19, Try.ntmps19
  go_wp2_with fail
  obtain ⟨w0, hw0⟩ : ∃ w0, w0 = w.alloc (.cells #[.int .i64 0, .slice none 0 0] 26) := ⟨_, rfl⟩
  have Hw0 := Lib.hid hw0
  have HBw : Hid (Below w.heap.size w w0) := by rw [hw0]; exact below_al (Below.refl _ _)
  rw [← hw0]
  clear hw0
  refine (HF.out _ HBw.out).mono ?_
  rintro e w1 ⟨g, rfl, hlt, S, hb⟩
  have Hb := Lib.hid hb
  have Hlt := Lib.hid hlt
  have HS := Lib.hid S
  clear hb hlt S
  go_wp2_with fail
  refine (l09With_c g code _ HS.out).mono ?_
  rintro e w2 ⟨c, ts, S, cs, L, P, cp, i, rfl, hO, hts, hR, hL, hSh, hS, hG⟩
  have HQ := Lib.hid (W9.start (c := c) Hw0.out Hb.out Hlt.out hO hR hS hG hts hL hSh)
  clear hO hts hR hL hSh hS hG
  go_wp2_with fail
  obtain ⟨gT, hgT⟩ : ∃ gT, gT = w2.heap.size := ⟨_, rfl⟩
  obtain ⟨wt, hwt⟩ : ∃ wt, wt = w2.alloc (.cells #[.int .i64 c, .slice S ts.length cs] 26) := ⟨_, rfl⟩
  rw [← hwt, ← hgT] at HQ
  rw [← hwt, ← hgT]
  clear hwt hgT
  have e0 := fun w1 (h : Blk w1 gT [.int .i64 c, .slice S ts.length cs] 26) => h.cell 0 (by simp)
  have e1 := fun w1 (h : Blk w1 gT [.int .i64 c, .slice S ts.length cs] 26) => h.cell 1 (by simp)
  simp only [List.getElem_cons_zero, List.getElem_cons_succ] at e0 e1
  refine wp_region_mix [(0, true), (1, true), (2, true), (3, true), (4, false), (5, false), (6, true), (7, true), (8, true)] (fun w' => Blk w' gT [.int .i64 c, .slice S ts.length cs] 26) (by kernel_rfl) (by kernel_rfl) (fun _ _ d _ _ h => by cases d <;> exact h) (HQ.out.box.drew) ?_
  repeat (first
    | (refine mix_skip rfl rfl (fun K' hK' => ?_); go_simp; refine hK' _ ?_; clear hK' K')
    | (refine mix_do (v := ?_) rfl rfl (fun w1 hb => ?_) (fun K' hK' => ?_); rotate_left
       · go_simp
         rfl
       go_simp; refine hK' _ ?_; clear hK' K'))
  replace HQ := Lib.hid (HQ.out.below (Below.refl _ _).drew)
  refine mix_call rfl rfl (fun K' hK' => ?_)
  go_simp
  refine (l01Near_c g code 3 _ HQ.out.src (by omega) (by omega)).mono ?_
  rintro e w3 ⟨n, rfl, S3, G3⟩
  replace HQ := Lib.hid (HQ.out.grow S3 G3)
  clear S3 G3
  refine hK' _ _ (HQ.out.box) ?_; clear hK' K'
  refine mix_call rfl rfl (fun K' hK' => ?_)
  have y0 := HQ.out.res.cell 0 (by simp)
  have y1 := HQ.out.res.cell 1 (by simp)
  have g0 := HQ.out.res.frozen 0
  have g1 := HQ.out.res.frozen 1
  simp only [List.getElem_cons_zero, List.getElem_cons_succ] at y0 y1
  go_simp
  have hne : gT ≠ w.heap.size := by have := HQ.out.hg; have := HQ.out.hgT; omega
  refine hK' _ _ ((HQ.out.box.other (a := ⟨w.heap.size, 0, none⟩) hne _).other (a := ⟨w.heap.size, 1, none⟩) hne _) ?_; clear hK' K'
  repeat (first
    | (refine mix_skip rfl rfl (fun K' hK' => ?_); go_simp; refine hK' _ ?_; clear hK' K')
    | (refine mix_do (v := ?_) rfl rfl (fun w1 hb => ?_) (fun K' hK' => ?_); rotate_left
       · go_simp
         rfl
       go_simp; refine hK' _ ?_; clear hK' K'))
  refine mix_nil ?_
  clear e0 e1 y0 y1 g0 g1
  go_wp2
  refine bodyPost_ret (v := .tuple #[.agg #[.int .i64 c, .slice S ts.length cs], .slice P L.length cp, .int .i64 i, .int .i64 n]) (by
    have x0 := ((HQ.out.res.set 0 (.int .i64 c)).set 1 (.slice S ts.length cs)).cell 0 (by simp)
    have x1 := ((HQ.out.res.set 0 (.int .i64 c)).set 1 (.slice S ts.length cs)).cell 1 (by simp)
    simp only [List.set_cons_zero, List.set_cons_succ, List.getElem_cons_zero, List.getElem_cons_succ] at x0 x1
    simp [results, Try.results19, go_sem, x0, x1]) rfl ?_
  exact ⟨c, ts, S, cs, L, P, cp, i, n, rfl, HQ.out.fin _ _⟩
set_option maxRecDepth 100000 in
set_option maxHeartbeats 1000000 in
theorem DrawIsRule_c (A : Option Addr) (cx : Nat) (code : List Int) (w : World) (h : BytesC w A code) (hok : BytesOk code) :
    Calls Try.prog 13 #[.slice A code.length cx] w fun e w' => ∃ c ts S cs L P cp, e = .returned (.tuple #[.agg #[.int .i64 c, .slice S ts.length cs], .slice P L.length cp]) ∧ SetRows w w' ts S L P := by
  have HF := Lib.hid (fun (W : World) (hW : Below w.heap.size w W) => l01From_c A cx code W (h.below hW) hok)
  clear h hok
  go_enter Try.func13, Try.ntmps13
  go_wp2_with fail
  obtain ⟨w0, hw0⟩ : ∃ w0, w0 = w.alloc (.cells #[.int .i64 0, .slice none 0 0] 26) := ⟨_, rfl⟩
  have Hw0 := Lib.hid hw0
  have HBw : Hid (Below w.heap.size w w0) := by rw [hw0]; exact below_al (Below.refl _ _)
  rw [← hw0]
  clear hw0
  refine (HF.out _ HBw.out).mono ?_
  rintro e w1 ⟨g, rfl, hlt, S, hb⟩
  have Hb := Lib.hid hb
  have Hlt := Lib.hid hlt
  have HS := Lib.hid S
  clear hb hlt S
  go_wp2_with fail
  refine (l09Draw_c g code _ HS.out).mono ?_
  rintro e w2 ⟨c, ts, S, cs, v, L, rfl, hO, hV, hK, hB, hS, hG⟩
  obtain ⟨P, cp, rfl, -⟩ := hV.rows
  have hLn : L.length ≤ 16 := by rw [hB.1]; exact hK.2.2.2
  have H4 : Hid (∀ r ∈ L, r.length = 4) := fun r hr => by
    obtain ⟨k, hk, rfl⟩ := List.getElem_of_mem hr
    exact (hB.2 k hk).1
  have hg1 := HS.out.lt
  have HQ := Lib.hid (W9.start (c := c) Hw0.out Hb.out Hlt.out (hO.lower (by omega)) (hV.rowsN.lower (by omega)) hS hG (by have := hK.2.2.2; omega) (by omega) (fun j hj => Nat.le_of_eq (H4.out _ (List.getElem_mem hj))))
  have hts := hK.2.2.2
  clear hO hV hK hB hS hG hg1
  go_wp2_with fail
  obtain ⟨gT, hgT⟩ : ∃ gT, gT = w2.heap.size := ⟨_, rfl⟩
  obtain ⟨wt, hwt⟩ : ∃ wt, wt = w2.alloc (.cells #[.int .i64 c, .slice S ts.length cs] 26) := ⟨_, rfl⟩
  rw [← hwt, ← hgT] at HQ
  rw [← hwt, ← hgT]
  clear hwt hgT
  refine (l01Bad_c g code c ts S cs (g + 1) _ HQ.out.src HQ.out.own (by omega) HQ.out.src.lt (by omega)).mono ?_
  rintro e w3 ⟨c3, t3, A3, cx3, rfl, hO3, hK3, S3, G3⟩
  replace HQ := Lib.hid (HQ.out.grow S3 G3)
  have HO3 := Lib.hid hO3
  clear S3 G3 hO3
  go_wp2_with fail
  refine (l09Bad_c g code L P cp (g + 1) _ HQ.out.src HQ.out.rws H4.out (by omega)).mono ?_
  rintro e w4 ⟨P4, L4, cp4, rfl, hN4, ⟨hl4, hS4⟩, S4, G4⟩
  have hN5 := hN4.lower (show g + 1 ≤ w3.heap.size from HQ.out.src.lt)
  replace HQ := Lib.hid (HQ.out.grow S4 G4)
  replace HO3 := HO3.out.grew G4 (by omega)
  replace HQ := Lib.hid (HQ.out.turn (c' := c3) HO3 hN5 hK3 hl4 hS4)
  clear S4 G4 hN4 hN5 hS4 HO3 hl4 hK3
  have y0 := HQ.out.res.cell 0 (by simp)
  have y1 := HQ.out.res.cell 1 (by simp)
  have g0 := HQ.out.res.frozen 0
  have g1 := HQ.out.res.frozen 1
  simp only [List.getElem_cons_zero, List.getElem_cons_succ] at y0 y1
  go_wp2
  refine bodyPost_ret (v := .tuple #[.agg #[.int .i64 c3, .slice A3 t3.length cx3], .slice P4 L4.length cp4]) (by
    have x0 := ((HQ.out.res.set 0 (.int .i64 c3)).set 1 (.slice A3 t3.length cx3)).cell 0 (by simp)
    have x1 := ((HQ.out.res.set 0 (.int .i64 c3)).set 1 (.slice A3 t3.length cx3)).cell 1 (by simp)
    simp only [List.set_cons_zero, List.set_cons_succ, List.getElem_cons_zero, List.getElem_cons_succ] at x0 x1
    simp [results, Try.results13, go_sem, x0, x1]) rfl ?_
  exact ⟨c3, t3, A3, cx3, L4, P4, cp4, rfl, HQ.out.fin _ _⟩
set_option maxRecDepth 100000 in
set_option maxHeartbeats 1000000 in
theorem DrawIsOneToOne_c (A : Option Addr) (cx : Nat) (code : List Int) (w : World) (h : BytesC w A code) (hok : BytesOk code) :
    Calls Try.prog 15 #[.slice A code.length cx] w fun e w' => ∃ c ts S cs L P cp, e = .returned (.tuple #[.agg #[.int .i64 c, .slice S ts.length cs], .slice P L.length cp]) ∧ SetRows w w' ts S L P := by
  have HF := Lib.hid (fun (W : World) (hW : Below w.heap.size w W) => l01From_c A cx code W (h.below hW) hok)
  clear h hok
  go_enter Try.func15, Try.ntmps15
  go_wp2_with fail
  obtain ⟨w0, hw0⟩ : ∃ w0, w0 = w.alloc (.cells #[.int .i64 0, .slice none 0 0] 26) := ⟨_, rfl⟩
  have Hw0 := Lib.hid hw0
  have HBw : Hid (Below w.heap.size w w0) := by rw [hw0]; exact below_al (Below.refl _ _)
  rw [← hw0]
  clear hw0
  refine (HF.out _ HBw.out).mono ?_
  rintro e w1 ⟨g, rfl, hlt, S, hb⟩
  have Hb := Lib.hid hb
  have Hlt := Lib.hid hlt
  have HS := Lib.hid S
  clear hb hlt S
  go_wp2_with fail
  refine (l09Draw_c g code _ HS.out).mono ?_
  rintro e w2 ⟨c, ts, S, cs, v, L, rfl, hO, hV, hK, hB, hS, hG⟩
  obtain ⟨P, cp, rfl, -⟩ := hV.rows
  have hLn : L.length ≤ 16 := by rw [hB.1]; exact hK.2.2.2
  have H4 : Hid (∀ r ∈ L, r.length = 4) := fun r hr => by
    obtain ⟨k, hk, rfl⟩ := List.getElem_of_mem hr
    exact (hB.2 k hk).1
  have hg1 := HS.out.lt
  have HQ := Lib.hid (W9.start (c := c) Hw0.out Hb.out Hlt.out (hO.lower (by omega)) (hV.rowsN.lower (by omega)) hS hG (by have := hK.2.2.2; omega) (by omega) (fun j hj => Nat.le_of_eq (H4.out _ (List.getElem_mem hj))))
  have hts := hK.2.2.2
  clear hO hV hK hB hS hG hg1
  go_wp2_with fail
  obtain ⟨gT, hgT⟩ : ∃ gT, gT = w2.heap.size := ⟨_, rfl⟩
  obtain ⟨wt, hwt⟩ : ∃ wt, wt = w2.alloc (.cells #[.int .i64 c, .slice S ts.length cs] 26) := ⟨_, rfl⟩
  rw [← hwt, ← hgT] at HQ
  rw [← hwt, ← hgT]
  clear hwt hgT
  refine (l01Bad_c g code c ts S cs (g + 1) _ HQ.out.src HQ.out.own (by omega) HQ.out.src.lt (by omega)).mono ?_
  rintro e w3 ⟨c3, t3, A3, cx3, rfl, hO3, hK3, S3, G3⟩
  replace HQ := Lib.hid (HQ.out.grow S3 G3)
  have HO3 := Lib.hid hO3
  clear S3 G3 hO3
  go_wp2_with fail
  refine (l09Bad_c g code L P cp (g + 1) _ HQ.out.src HQ.out.rws H4.out (by omega)).mono ?_
  rintro e w4 ⟨P4, L4, cp4, rfl, hN4, ⟨hl4, hS4⟩, S4, G4⟩
  have hN5 := hN4.lower (show g + 1 ≤ w3.heap.size from HQ.out.src.lt)
  replace HQ := Lib.hid (HQ.out.grow S4 G4)
  replace HO3 := HO3.out.grew G4 (by omega)
  replace HQ := Lib.hid (HQ.out.turn (c' := c3) HO3 hN5 hK3 hl4 hS4)
  clear S4 G4 hN4 hN5 hS4 HO3 hl4 hK3
  have y0 := HQ.out.res.cell 0 (by simp)
  have y1 := HQ.out.res.cell 1 (by simp)
  have g0 := HQ.out.res.frozen 0
  have g1 := HQ.out.res.frozen 1
  simp only [List.getElem_cons_zero, List.getElem_cons_succ] at y0 y1
  go_wp2
  refine bodyPost_ret (v := .tuple #[.agg #[.int .i64 c3, .slice A3 t3.length cx3], .slice P4 L4.length cp4]) (by
    have x0 := ((HQ.out.res.set 0 (.int .i64 c3)).set 1 (.slice A3 t3.length cx3)).cell 0 (by simp)
    have x1 := ((HQ.out.res.set 0 (.int .i64 c3)).set 1 (.slice A3 t3.length cx3)).cell 1 (by simp)
    simp only [List.set_cons_zero, List.set_cons_succ, List.getElem_cons_zero, List.getElem_cons_succ] at x0 x1
    simp [results, Try.results15, go_sem, x0, x1]) rfl ?_
  exact ⟨c3, t3, A3, cx3, L4, P4, cp4, rfl, HQ.out.fin _ _⟩

end Go.Proofs.Ytkgnejhflnekaaa
namespace Go.Proofs.Ytkgnejhflnekaaa
open Go.RowKit
/-! plain laws of what is grown from a tile: sums -/
def isum : List Int → Int
  | [] => 0
  | x :: xs => x + isum xs
theorem isum_nonneg : ∀ {xs : List Int}, (∀ x ∈ xs, 0 ≤ x) → 0 ≤ isum xs
  | [], _ => Int.le_refl _
  | x :: xs, h => by
    have h1 := h x (by simp)
    have h2 := isum_nonneg (xs := xs) (fun y hy => h y (by simp [hy]))
    simp only [isum]; omega
theorem isum_set : ∀ (xs : List Int) (k : Nat) (v : Int), k < xs.length → isum (xs.set k v) = isum xs - xs.getD k 0 + v
  | [], k, v, h => by simp at h
  | x :: xs, 0, v, _ => by simp [isum]; omega
  | x :: xs, k + 1, v, h => by
    have := isum_set xs k v (by simpa using h)
    simp only [List.set_cons_succ, isum, List.getD_cons_succ]; omega
theorem isum_mem : ∀ {xs : List Int}, (∀ x ∈ xs, 0 ≤ x) → ∀ x ∈ xs, x ≤ isum xs
  | y :: ys, h, x, hx => by
    have h1 := h y (by simp)
    have h2 := isum_nonneg (xs := ys) (fun z hz => h z (by simp [hz]))
    rcases List.mem_cons.1 hx with rfl | hx
    · simp only [isum]; omega
    · have := isum_mem (xs := ys) (fun z hz => h z (by simp [hz])) x hx
      simp only [isum]; omega
theorem isum_take_succ (xs : List Int) (k : Nat) (h : k < xs.length) : isum (xs.take (k + 1)) = isum (xs.take k) + xs[k] := by
  induction xs generalizing k with
  | nil => simp at h
  | cons x xs ih =>
    cases k with
    | zero => simp [isum]
    | succ k => simp only [List.take_succ_cons, isum, List.getElem_cons_succ]; rw [ih k (by simpa using h)]; omega
theorem isum_rep : ∀ n, isum (List.replicate n 0) = 0
  | 0 => rfl
  | n + 1 => by simp [List.replicate_succ, isum, isum_rep n]
def NonNeg (xs : List Int) : Prop := ∀ x ∈ xs, 0 ≤ x
theorem addAt_sum {xs : List Int} {j y : Int} (h0 : 0 ≤ j) (h1 : j < xs.length) (hp : NonNeg xs) (hy : 0 ≤ y) (hs : isum xs + y ≤ 4611686018427387904) : isum (addAt xs j y) = isum xs + y ∧ NonNeg (addAt xs j y) := by
  obtain ⟨m, rfl⟩ := Int.eq_ofNat_of_zero_le h0
  have hm : m < xs.length := by omega
  have hx := hp _ (List.getElem_mem hm)
  have hle := isum_mem hp _ (List.getElem_mem hm)
  have hw : wrap64 (xs[m] + y) = xs[m] + y := by unfold wrap64; omega
  rw [addAt_at hm, hw]
  refine ⟨?_, fun z hz => ?_⟩
  · rw [isum_set _ _ _ hm, show xs.getD m 0 = xs[m] by simp [hm]]; omega
  · rcases List.mem_or_eq_of_mem_set hz with hz | rfl
    · exact hp z hz
    · omega
theorem addRow_sum {N : Nat} {row : List Int} (hr : ∀ x ∈ row, 0 ≤ x ∧ x < (N : Int)) {y : Int} (hy : 0 ≤ y) {xs : List Int} (hl : xs.length = N) (hp : NonNeg xs) : ∀ m, m ≤ row.length → isum xs + m * y ≤ 4611686018427387904 →
    isum (addRow row y xs m) = isum xs + m * y ∧ NonNeg (addRow row y xs m)
  | 0, _, _ => by rw [addRow_zero]; exact ⟨by simp, hp⟩
  | m + 1, hm, hs => by
    have e : ((m + 1 : Nat) : Int) * y = (m : Int) * y + y := by rw [Int.natCast_add, Int.add_mul]; simp
    rw [e] at hs ⊢
    obtain ⟨h1, h2⟩ := addRow_sum hr hy hl hp m (by omega) (by omega)
    have hx := hr _ (List.getElem_mem (show m < row.length by omega))
    rw [addRow_succ (by omega)]
    obtain ⟨h3, h4⟩ := addAt_sum (xs := addRow row y xs m) hx.1 (by rw [addRow_len, hl]; exact hx.2) h2 hy (by omega)
    exact ⟨by omega, h4⟩
theorem blocks_row {N : Nat} {L : List (List Int)} (hB : Blocks N L) {k : Nat} (hk : k < L.length) : L[k].length = 4 ∧ ∀ x ∈ L[k], 0 ≤ x ∧ x < (N : Int) := by
  obtain ⟨h4, hr⟩ := hB.2 k hk
  refine ⟨h4, fun x hx => ?_⟩
  obtain ⟨j, hj, rfl⟩ := List.getElem_of_mem hx
  exact hr j hj
theorem addAll_sum {N : Nat} {L : List (List Int)} (hB : Blocks N L) {now : List Int} (hn : now.length = L.length) (hp : NonNeg now) (hs : 4 * isum now ≤ 4611686018427387904) : ∀ m, m ≤ L.length →
    isum (addAll L now m) = 4 * isum (now.take m) ∧ NonNeg (addAll L now m)
  | 0, _ => by
    refine ⟨by simp [addAll, isum_rep, isum], fun x hx => ?_⟩
    simp [addAll] at hx; omega
  | m + 1, hm => by
    have hmL : m < L.length := by omega
    have hmn : m < now.length := by omega
    obtain ⟨h1, h2⟩ := addAll_sum hB hn hp hs m (by omega)
    obtain ⟨h4, hr⟩ := blocks_row hB hmL
    have hy := hp _ (List.getElem_mem hmn)
    have ht := isum_take_succ now m hmn
    have hle : isum (now.take (m + 1)) ≤ isum now := by
      have := isum_nonneg (xs := now.drop (m + 1)) (fun x hx => hp x (List.mem_of_mem_drop hx))
      have e : isum now = isum (now.take (m + 1)) + isum (now.drop (m + 1)) := by
        have app : ∀ a b : List Int, isum (a ++ b) = isum a + isum b := fun a b => by
          induction a with
          | nil => simp [isum]
          | cons x a ih => simp only [List.cons_append, isum, ih]; omega
        rw [← app, List.take_append_drop]
      omega
    rw [addAll_succ hmL hmn]
    obtain ⟨h5, h6⟩ := addRow_sum (N := N) hr hy (xs := addAll L now m) (by rw [addAll_len]; exact hB.1) h2 4 (by omega) (by rw [h1, show ((4 : Nat) : Int) = 4 from rfl]; omega)
    rw [show ((4 : Nat) : Int) = 4 from rfl] at h5
    exact ⟨by omega, h6⟩
theorem pow4_le {k : Nat} (h : k ≤ 20) : (4 : Int) ^ k ≤ 1099511627776 := by
  have := Nat.pow_le_pow_right (n := 4) (by omega) h
  have e : ((4 ^ k : Nat) : Int) = (4 : Int) ^ k := by simp
  rw [← e]; omega
/-- after k steps the numbers add up to 4^k -/
theorem numsAt_sum {N : Nat} {L : List (List Int)} (hB : Blocks N L) {i : Int} (h0 : 0 ≤ i) (h1 : i < N) : ∀ k, k ≤ 20 → isum (numsAt L i k) = 4 ^ k ∧ NonNeg (numsAt L i k)
  | 0, _ => by
    obtain ⟨m, rfl⟩ := Int.eq_ofNat_of_zero_le h0
    have hm : m < (List.replicate L.length (0 : Int)).length := by simp [hB.1]; omega
    refine ⟨?_, fun x hx => ?_⟩
    · simp only [numsAt, Int.toNat_natCast]
      rw [isum_set _ _ _ hm, isum_rep, show (List.replicate L.length (0 : Int)).getD m 0 = 0 by simp [List.getD_eq_getElem?_getD, List.getElem?_replicate]; split <;> rfl]
      simp
    · simp only [numsAt] at hx
      rcases List.mem_or_eq_of_mem_set hx with hx | rfl
      · simp at hx; omega
      · omega
  | k + 1, hk => by
    obtain ⟨h2, h3⟩ := numsAt_sum hB h0 h1 k (by omega)
    have hp := pow4_le (k := k) (by omega)
    obtain ⟨h4, h5⟩ := addAll_sum hB (numsAt_len L i k) h3 (by omega) L.length (Nat.le_refl _)
    refine ⟨?_, h5⟩
    show isum (addAll L (numsAt L i k) L.length) = _
    rw [h4, List.take_of_length_le (by rw [numsAt_len]; exact Nat.le_refl _), h2, Int.pow_succ]
    omega
end Go.Proofs.Ytkgnejhflnekaaa
namespace Go.Proofs.Ytkgnejhflnekaaa
open Go.RowKit
attribute [local go_sem] addUpon_value addUpon_skip addUpon_enter
set_option maxRecDepth 100000 in
set_option maxHeartbeats 1000000 in
theorem rows5_c (L : List (List Int)) (A B : Option Addr) (cx cy : Nat) (w : World) (hA : RowsC w A L) (hB : RowsC w B L) (hl : L.length ≤ 1000000) (hS : Short 1000000 L) :
    Calls Try.prog 8 #[.slice A L.length cx, .slice B L.length cy] w fun e w' => e = .returned (.bool true) ∧ Below w.heap.size w w' := by
  have HA := Lib.hid hA
  have HB := Lib.hid hB
  have HS := Lib.hid hS
  clear hA hB hS
  go_enter Try.func8, Try.ntmps8
  go_wp2_with fail
  go_loopw [5] (fun i wr => ∃ k : Nat, k ≤ L.length ∧ i = .int .i64 (k : Nat) ∧ Hid (Below w.heap.size w wr)) (fun i _ => L.length - (intOf i).toNat)
  case atStart => exact ⟨0, by omega, rfl, Below.refl _ _⟩
  case round =>
    obtain ⟨k, hk, rfl, HW⟩ := hrel
    by_cases h1 : k < L.length
    · obtain ⟨b, off, A', c1, rfl, hlt, hc, hr⟩ := (HA.out.below HW.out) k h1
      obtain ⟨b2, off2, B', c2, rfl, hlt2, hd, hr2⟩ := (HB.out.below HW.out) k h1
      have hs := HS.out k h1
      have HQ := Lib.hid (fun (W : World) (h : Below wr.heap.size wr W) => likeInts_c L[k] L[k] A' B' c1 c2 W (hr.below h) (hr2.below h) (by omega) (by omega))
      have hq : eqL L[k] L[k] = true := by simp [eqL]
      rw [hq] at HQ
      have e0 := keepC hc
      have f0 := keepC hd
      clear hc hd hr hr2 hq hs
      generalize L[k] = row at *
      go_wp2_with fail
      refine wp_region_add (fun w' => Below (wr).heap.size (wr) w') (by kernel_rfl) (by kernel_rfl) ((Below.refl _ _).drew) ?_
      repeat (first
        | (refine add_skip rfl (fun K' hK' => ?_); go_simp; refine hK' _ ?_; clear hK' K')
        | (refine add_do (v := ?_) rfl (fun w1 hb => ?_) (fun K' hK' => ?_); rotate_left
           · go_simp
             first
             | (with_reducible exact rfl)
             | (with_reducible exact ⟨rfl, hb⟩)
             | (with_reducible exact (addCall (HQ.out w1 hb) hb).2)
             | exact (addCall (HQ.out w1 hb) hb).2
             | exact rfl
             | exact ⟨rfl, hb⟩
           go_simp; refine hK' _ ?_; clear hK' K'))
      refine add_nil ?_
      intro wa hba
      have HW2 := Lib.hid (HW.out.trans (hba.mono HW.out.size))
      clear hba e0 f0
      go_wp2_with fail
      go_roundw
      case rel => exact ⟨k + 1, by omega, by go_num, HW2⟩
      case measure => simp [intOf]; omega
    · go_wp2_with fail
      go_ret
      exact ⟨rfl, HW.out⟩

end Go.Proofs.Ytkgnejhflnekaaa
