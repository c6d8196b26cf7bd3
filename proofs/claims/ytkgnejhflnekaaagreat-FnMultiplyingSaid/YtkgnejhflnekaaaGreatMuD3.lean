/- Contracts and lemmas for the statements of this seat, written for this claim; each theorem states its own conditions. -/
import Derived.Deep.Cut
import Derived.Test.YtkgnejhflnekaaaGreatMuD2
import Derived.Test.YtkgnejhflnekaaaGreatMuSr
import Derived.Test.YtkgnejhflnekaaaGreatMuJ5
import Derived.Test.YtkgnejhflnekaaaGreatMuK1
set_option linter.unusedVariables false
set_option linter.unusedSimpArgs false
namespace Go.Proofs.YtkgnejhflnekaaaGreat
open Go.RowKit
set_option maxRecDepth 100000 in
set_option maxHeartbeats 1000000 in
theorem DrawMultiplyingSet_c (A : Option Addr) (cx : Nat) (code : List Int) (w : World) (h : BytesC w A code) (hok : BytesOk code) :
    Calls Tryz.prog 43 #[.slice A code.length cx] w fun e w' => ∃ p q m n u v : Int, e = .returned (.tuple #[.int .i64 p, .int .i64 q, .int .i64 m, .int .i64 n, .int .i64 u, .int .i64 v]) ∧ Below w.heap.size w w' := by
  have HF := Lib.hid (l01From_c A cx code w h hok)
  clear h hok
  go_enter Tryz.func43, Tryz.ntmps43
  go_wp2_with fail
  refine HF.out.mono ?_
  rintro e w1 ⟨g, rfl, hlt, hS, hb⟩
  have HS := Lib.hid hS
  have HL := Lib.hid hlt
  have HB := Lib.hid hb
  have HG := Lib.hid (World.grownBy.refl w1 (some g))
  clear hS hlt hb
  go_wp2_with fail
  refine (l08DrawFactor_c g code _ HS.out).mono ?_
  rintro e w2 ⟨p, q, rfl, hS, hg⟩
  replace HS := Lib.hid hS
  replace HG := Lib.hid (HG.out.trans hg)
  clear hS hg
  go_wp2_with fail
  refine (l01Next_c g code _ _ HS.out).mono ?_
  rintro e w3 ⟨m, rfl, a3, _, b3, hS, hg⟩
  have h3 : 0 ≤ m ∧ m < 5 := ⟨a3, b3 (by omega)⟩
  replace HS := Lib.hid hS
  replace HG := Lib.hid (HG.out.trans hg)
  clear hS hg a3 b3
  go_wp2_with fail
  refine (l01Next_c g code _ _ HS.out).mono ?_
  rintro e w4 ⟨u, rfl, a4, _, b4, hS, hg⟩
  have h4 : 0 ≤ u ∧ u < 5 := ⟨a4, b4 (by omega)⟩
  replace HS := Lib.hid hS
  replace HG := Lib.hid (HG.out.trans hg)
  clear hS hg a4 b4
  go_wp2_with fail
  refine (pick_new g code _ HS.out _ _ [0, 1, 1, 2, 5 - m, -1] _ rfl rfl (by simp)).mono ?_
  rintro e w5 ⟨n, rfl, mn, hS, hg⟩
  have h5 : -1 ≤ n ∧ n ≤ 5 := by simp at mn; omega
  replace HS := Lib.hid hS
  replace HG := Lib.hid (HG.out.trans hg)
  clear hS hg mn
  go_wp2_with fail
  refine (pick_new g code _ HS.out _ _ [0, 1, 1, 2, 5 - u, 6 - u] _ rfl rfl (by simp)).mono ?_
  rintro e w6 ⟨v, rfl, mv, hS, hg⟩
  have h6 : 0 ≤ v ∧ v ≤ 6 := by simp at mv; omega
  replace HS := Lib.hid hS
  replace HG := Lib.hid (HG.out.trans hg)
  clear hS hg mv
  go_wp2_with fail
  (try simp only [Exit.inBlock, Exit.then]); refine bodyPost_ret (results_tmp6 rfl _ _ _) rfl ?_
  exact ⟨_, _, _, _, _, _, rfl, below_src HB.out HG.out HL.out⟩
set_option maxRecDepth 100000 in
set_option maxHeartbeats 1000000 in
theorem DrawNumberRow_c (A : Option Addr) (cx : Nat) (code : List Int) (w : World) (h : BytesC w A code) (hok : BytesOk code) :
    Calls Tryz.prog 47 #[.slice A code.length cx] w fun e w' => ∃ p q a b s n : Int, e = .returned (.tuple #[.int .i64 p, .int .i64 q, .int .i64 a, .int .i64 b, .int .i64 s, .int .i64 n]) ∧ Below w.heap.size w w' := by
  have HF := Lib.hid (DrawCarriesOf_c A cx code w h hok)
  clear h hok
  go_enter Tryz.func47, Tryz.ntmps47
  go_wp2_with fail
  refine HF.out.mono ?_
  rintro e w1 ⟨p, q, a, b, s, n, rfl, hb⟩
  have HB := Lib.hid hb
  clear hb
  go_wp2_with fail
  (try simp only [Exit.inBlock, Exit.then]); refine bodyPost_ret (results_tmp6 rfl _ _ _) rfl ?_
  exact ⟨_, _, _, _, _, _, rfl, HB.out⟩
theorem msSet_le (p q m n u v : Int) : (msSet p q m n u v).length ≤ 16 := by
  unfold msSet
  split
  · exact mSet_len _ _ _ _ _ _
  · simp
/-- a set with a factor -/
def SetPQ (w : World) (g : Nat) (code : List Int) (e : Ending) (w' : World) : Prop :=
  ∃ c ts A cx, ∃ p q : Int, e = .returned (.tuple #[.agg #[.int .i64 c, .slice A ts.length cx], .int .i64 p, .int .i64 q]) ∧ OwnT w' w.heap.size (.slice A ts.length cx) ts ∧ ts.length ≤ 101 ∧ Src w' g code ∧ w.grownBy w' (some g)
set_option maxRecDepth 100000 in
set_option maxHeartbeats 1000000 in
theorem l08Draw_c (g : Nat) (code : List Int) (w : World) (h : Src w g code) :
    Calls Tryz.prog 131 #[.pointer (some ⟨g, 0, none⟩)] w (SetPQ w g code) := by
  have HL := Lib.hid h.lt
  have HQ0 := Lib.hid (LD.start h)
  clear h
  go_enter Tryz.func131, Tryz.ntmps131
  go_upto_region 1 with (fail)
  obtain ⟨wb, hwb⟩ : ∃ wb, wb = w.alloc (.cells #[.int .i64 0, .slice none 0 0] 26) := ⟨_, rfl⟩
  rw [← hwb] at HQ0
  have HQ := HQ0
  rw [← hwb]
  clear hwb HQ0
  go_wp2_with fail
  refine (l08DrawFactor_c g code _ HQ.out.src).mono ?_
  rintro e w2 ⟨p, q, rfl, S, G⟩
  replace HQ := Lib.hid (HQ.out.grow S G)
  clear S G
  go_wp2_with fail
  refine (l01Next_c g code _ _ HQ.out.src).mono ?_
  rintro e w3 ⟨m, rfl, a3, _, b3, S, G⟩
  have h3 : 0 ≤ m ∧ m < 3 := ⟨a3, b3 (by omega)⟩
  replace HQ := Lib.hid (HQ.out.grow S G)
  clear S G a3 b3
  go_wp2_with fail
  refine (l01Next_c g code _ _ HQ.out.src).mono ?_
  rintro e w4 ⟨u, rfl, a3, _, b3, S, G⟩
  have h4 : 0 ≤ u ∧ u < 3 := ⟨a3, b3 (by omega)⟩
  replace HQ := Lib.hid (HQ.out.grow S G)
  clear S G a3 b3
  go_wp2_with fail
  refine (l01Next_c g code _ _ HQ.out.src).mono ?_
  rintro e w5 ⟨n, rfl, a3, _, b3, S, G⟩
  have h5 : 0 ≤ n ∧ n < 2 := ⟨a3, b3 (by omega)⟩
  replace HQ := Lib.hid (HQ.out.grow S G)
  clear S G a3 b3
  go_wp2_with fail
  refine (l01Next_c g code _ _ HQ.out.src).mono ?_
  rintro e w6 ⟨v, rfl, a3, _, b3, S, G⟩
  have h6 : 0 ≤ v ∧ v < 2 := ⟨a3, b3 (by omega)⟩
  replace HQ := Lib.hid (HQ.out.grow S G)
  clear S G a3 b3
  go_wp2_with fail
  refine (specMultiplyingSet_c _ _ _ _ _ _ _).mono ?_
  rintro e w7 ⟨A, cx, rfl, hO, hb⟩
  have hz := HQ.out.sz
  replace HQ := Lib.hid (HQ.out.below hb)
  have hl := msSet_le p q m (m + n) u (u + v)
  generalize msSet p q m (m + n) u (u + v) = ts at *
  generalize msCol p q m (m + n) u (u + v) = c at *
  generalize msCode p q m (m + n) u (u + v) = d at *
  have HO := Lib.hid (hO.lower hz)
  clear hO hb
  by_cases hd : d = 0
  · have hd' : (d == 0) = true := by simp [hd]
    clear hd
    go_upto_region 4 with (fail)
    obtain ⟨gT, hgT⟩ : ∃ gT, gT = w7.heap.size := ⟨_, rfl⟩
    obtain ⟨wt, hwt⟩ : ∃ wt, wt = w7.alloc (.cells #[.int .i64 c, .slice A ts.length cx] 26) := ⟨_, rfl⟩
    have HX : Hid (Blk wt gT [.int .i64 c, .slice A ts.length cx] 26) := by rw [hwt, hgT]; exact Blk.newA _ _ _
    have HgT : Hid (w.heap.size < gT) := by rw [hgT]; exact HQ.out.sz
    replace HQ := Lib.hid (HQ.out.below (below_al (o := .cells #[.int .i64 c, .slice A ts.length cx] 26) (Below.refl w7.heap.size w7)))
    replace HO := Lib.hid (HO.out.alloc (.cells #[.int .i64 c, .slice A ts.length cx] 26))
    rw [← hwt] at HQ HO
    rw [← hwt, ← hgT]
    clear hwt hgT
    go_wp2_with fail
    refine (l01Next_c g code _ _ HQ.out.src).mono ?_
    rintro e w8 ⟨r, rfl, _, _, _, S, G⟩
    replace HQ := Lib.hid (HQ.out.grow S G)
    replace HO := Lib.hid (HO.out.grew G (by have := HL.out; omega))
    replace HX := Lib.hid (HX.out.kept1 G (by have := HL.out; have := HgT.out; intro e; injection e with e; omega))
    clear S G
    by_cases hr : 0 < r
    · have e0 := HX.out.cell 0 (by simp)
      have e1 := HX.out.cell 1 (by simp)
      simp only [List.getElem_cons_zero, List.getElem_cons_succ] at e0 e1
      have y0 := HQ.out.res.cell 0 (by simp)
      have y1 := HQ.out.res.cell 1 (by simp)
      have g0 := HQ.out.res.frozen 0
      have g1 := HQ.out.res.frozen 1
      simp only [List.getElem_cons_zero, List.getElem_cons_succ] at y0 y1
      go_wp2
      refine bodyPost_ret (v := .tuple #[.agg #[.int .i64 c, .slice A ts.length cx], .int .i64 p, .int .i64 q]) (by
        have x0 := ((HQ.out.res.set 0 (.int .i64 c)).set 1 (.slice A ts.length cx)).cell 0 (by simp)
        have x1 := ((HQ.out.res.set 0 (.int .i64 c)).set 1 (.slice A ts.length cx)).cell 1 (by simp)
        simp only [List.set_cons_zero, List.set_cons_succ, List.getElem_cons_zero, List.getElem_cons_succ] at x0 x1
        simp [results, Tryz.results131, go_sem, x0, x1]) rfl ?_
      obtain ⟨f1, f2, f3⟩ := HQ.out.fin HO.out (Nat.le_refl _) (.int .i64 c) (.slice A ts.length cx)
      exact ⟨c, ts, A, cx, p, q, rfl, f1, by omega, f2, f3⟩
    · have hr' : ¬ 0 < r := hr
      go_wp2_with fail
      have hz8 := HQ.out.sz
      refine (l01Spoil_c g code _ HQ.out.src).mono ?_
      rintro e w9 ⟨c3, us, A3, cx3, rfl, hO3, hl3, S, G⟩
      replace HQ := Lib.hid (HQ.out.grow S G)
      have HO3 := Lib.hid (hO3.lower hz8)
      clear S G hO3
      have y0 := HQ.out.res.cell 0 (by simp)
      have y1 := HQ.out.res.cell 1 (by simp)
      have g0 := HQ.out.res.frozen 0
      have g1 := HQ.out.res.frozen 1
      simp only [List.getElem_cons_zero, List.getElem_cons_succ] at y0 y1
      go_wp2
      refine bodyPost_ret (v := .tuple #[.agg #[.int .i64 c3, .slice A3 us.length cx3], .int .i64 p, .int .i64 q]) (by
        have x0 := ((HQ.out.res.set 0 (.int .i64 c3)).set 1 (.slice A3 us.length cx3)).cell 0 (by simp)
        have x1 := ((HQ.out.res.set 0 (.int .i64 c3)).set 1 (.slice A3 us.length cx3)).cell 1 (by simp)
        simp only [List.set_cons_zero, List.set_cons_succ, List.getElem_cons_zero, List.getElem_cons_succ] at x0 x1
        simp [results, Tryz.results131, go_sem, x0, x1]) rfl ?_
      obtain ⟨f1, f2, f3⟩ := HQ.out.fin HO3.out (Nat.le_refl _) (.int .i64 c3) (.slice A3 us.length cx3)
      exact ⟨c3, us, A3, cx3, p, q, rfl, f1, hl3, f2, f3⟩
  · have hd' : (d == 0) = false := by simp [hd]
    clear hd
    go_upto_region 4 with (fail)
    obtain ⟨gT, hgT⟩ : ∃ gT, gT = w7.heap.size := ⟨_, rfl⟩
    obtain ⟨wt, hwt⟩ : ∃ wt, wt = w7.alloc (.cells #[.int .i64 c, .slice A ts.length cx] 26) := ⟨_, rfl⟩
    have HX : Hid (Blk wt gT [.int .i64 c, .slice A ts.length cx] 26) := by rw [hwt, hgT]; exact Blk.newA _ _ _
    have HgT : Hid (w.heap.size < gT) := by rw [hgT]; exact HQ.out.sz
    replace HQ := Lib.hid (HQ.out.below (below_al (o := .cells #[.int .i64 c, .slice A ts.length cx] 26) (Below.refl w7.heap.size w7)))
    replace HO := Lib.hid (HO.out.alloc (.cells #[.int .i64 c, .slice A ts.length cx] 26))
    rw [← hwt] at HQ HO
    rw [← hwt, ← hgT]
    clear hwt hgT
    go_wp2_with fail
    have hz8 := HQ.out.sz
    refine (l01Spoil_c g code _ HQ.out.src).mono ?_
    rintro e w9 ⟨c3, us, A3, cx3, rfl, hO3, hl3, S, G⟩
    replace HQ := Lib.hid (HQ.out.grow S G)
    have HO3 := Lib.hid (hO3.lower hz8)
    clear S G hO3
    have y0 := HQ.out.res.cell 0 (by simp)
    have y1 := HQ.out.res.cell 1 (by simp)
    have g0 := HQ.out.res.frozen 0
    have g1 := HQ.out.res.frozen 1
    simp only [List.getElem_cons_zero, List.getElem_cons_succ] at y0 y1
    go_wp2
    refine bodyPost_ret (v := .tuple #[.agg #[.int .i64 c3, .slice A3 us.length cx3], .int .i64 p, .int .i64 q]) (by
      have x0 := ((HQ.out.res.set 0 (.int .i64 c3)).set 1 (.slice A3 us.length cx3)).cell 0 (by simp)
      have x1 := ((HQ.out.res.set 0 (.int .i64 c3)).set 1 (.slice A3 us.length cx3)).cell 1 (by simp)
      simp only [List.set_cons_zero, List.set_cons_succ, List.getElem_cons_zero, List.getElem_cons_succ] at x0 x1
      simp [results, Tryz.results131, go_sem, x0, x1]) rfl ?_
    obtain ⟨f1, f2, f3⟩ := HQ.out.fin HO3.out (Nat.le_refl _) (.int .i64 c3) (.slice A3 us.length cx3)
    exact ⟨c3, us, A3, cx3, p, q, rfl, f1, hl3, f2, f3⟩
def SetRes (w w' : World) (ts : List T4) (S : Option Addr) : Prop := TileCells w' S ts ∧ ts.length ≤ 101 ∧ Below w.heap.size w w'
/-- where an exported draw of a set stands, behind the first draw; its own box of the set lies at gT -/
structure LX (w wr : World) (g : Nat) (code : List Int) (c : Int) (ts : List T4) (A : Option Addr) (cx gT : Nat) : Prop where
  res : Blk wr w.heap.size [.int .i64 0, .slice none 0 0] 26
  box : Blk wr gT [.int .i64 c, .slice A ts.length cx] 26
  own : OwnT wr (g + 1) (.slice A ts.length cx) ts
  src : Src wr g code
  sub : Below w.heap.size w wr
  hgT : g < gT
  hg : w.heap.size < g
theorem LX.grow {w wr W : World} {g : Nat} {code : List Int} {c : Int} {ts : List T4} {A : Option Addr} {cx gT : Nat} (h : LX w wr g code c ts A cx gT) (hS : Src W g code) (hG : wr.grownBy W (some g)) : LX w W g code c ts A cx gT :=
  ⟨h.res.kept1 hG (by have := h.hg; intro e; injection e with e; omega), h.box.kept1 hG (by have := h.hgT; intro e; injection e with e; omega), h.own.grew hG (by omega), hS, below_src h.sub hG (by have := h.hg; omega), h.hgT, h.hg⟩
theorem LX.below {w wr W : World} {g : Nat} {code : List Int} {c : Int} {ts : List T4} {A : Option Addr} {cx gT : Nat} (h : LX w wr g code c ts A cx gT) (hb : Below wr.heap.size wr W) : LX w W g code c ts A cx gT :=
  h.grow (h.src.below hb) (grown_below hb _)
theorem LX.start {w w0 w1 w2 : World} {g : Nat} {code : List Int} {c : Int} {ts : List T4} {A : Option Addr} {cx : Nat} (hw0 : w0 = w.alloc (.cells #[.int .i64 0, .slice none 0 0] 26)) (hb : Below w0.heap.size w0 w1) (hg : w0.heap.size ≤ g)
    (hS1 : g < w1.heap.size) (hO : OwnT w2 w1.heap.size (.slice A ts.length cx) ts) (hS : Src w2 g code) (hG : w1.grownBy w2 (some g)) : LX w (w2.alloc (.cells #[.int .i64 c, .slice A ts.length cx] 26)) g code c ts A cx w2.heap.size := by
  have hz : w0.heap.size = w.heap.size + 1 := by rw [hw0]; simp
  have hr : Blk w0 w.heap.size [.int .i64 0, .slice none 0 0] 26 := by rw [hw0]; exact Blk.newA _ _ _
  have hbw : Below w.heap.size w w0 := by rw [hw0]; exact below_al (Below.refl _ _)
  exact ⟨((hr.under hb).kept1 hG (by intro e; injection e with e; omega)).alloc _, Blk.newA _ _ _, (hO.lower (by omega)).alloc _, hS.alloc _, below_al (below_src (hbw.trans (hb.mono (by omega))) hG (by omega)), hS.lt, by omega⟩
theorem LX.fin {w wr : World} {g : Nat} {code : List Int} {c : Int} {ts : List T4} {A : Option Addr} {cx gT : Nat} (h : LX w wr g code c ts A cx gT) (hl : ts.length ≤ 101) (x y : Value) : SetRes w ((wr.setCell ⟨w.heap.size, 0, none⟩ x).setCell ⟨w.heap.size, 1, none⟩ y) ts A := by
  have hg := h.hg
  exact ⟨OwnT.cells ((h.own.other w.heap.size 0 (by omega) x).other w.heap.size 1 (by omega) y), hl, (h.sub.setCell (Nat.le_refl _) _).setCell (Nat.le_refl _) _⟩
set_option maxRecDepth 100000 in
set_option maxHeartbeats 1000000 in
theorem DrawIsBalanced_c (A : Option Addr) (cx : Nat) (code : List Int) (w : World) (h : BytesC w A code) (hok : BytesOk code) :
    Calls Tryz.prog 53 #[.slice A code.length cx] w fun e w' => ∃ c ts S cs, SetRes w w' ts S ∧ ∃ p q : Int, e = .returned (.tuple #[.agg #[.int .i64 c, .slice S ts.length cs], .int .i64 p, .int .i64 q]) := by
  have HF := Lib.hid (fun (W : World) (hW : Below w.heap.size w W) => l01From_c A cx code W (h.below hW) hok)
  clear h hok
  go_enter Tryz.func53, Tryz.ntmps53
  go_wp2_with fail
  obtain ⟨w0, hw0⟩ : ∃ w0, w0 = w.alloc (.cells #[.int .i64 0, .slice none 0 0] 26) := ⟨_, rfl⟩
  have Hw0 := Lib.hid hw0
  have HBw : Hid (Below w.heap.size w w0) := by rw [hw0]; exact below_al (Below.refl _ _)
  rw [← hw0]
  clear hw0
  refine (HF.out _ HBw.out).mono ?_
  rintro e w1 ⟨g, rfl, hlt, S, hb⟩
  have Hb := Lib.hid hb
  have Hlt := Lib.hid hlt
  have HS := Lib.hid S
  clear hb hlt S
  go_wp2_with fail
  refine (l08Draw_c g code _ HS.out).mono ?_
  rintro e w2 ⟨c, ts, S, cs, p, q, rfl, hO, hl, hS, hG⟩
  have HQ := Lib.hid (LX.start (c := c) Hw0.out Hb.out Hlt.out HS.out.lt hO hS hG)
  clear hO hS hG
  go_upto_region 2 with (fail)
  obtain ⟨gT, hgT⟩ : ∃ gT, gT = w2.heap.size := ⟨_, rfl⟩
  obtain ⟨wt, hwt⟩ : ∃ wt, wt = w2.alloc (.cells #[.int .i64 c, .slice S ts.length cs] 26) := ⟨_, rfl⟩
  rw [← hwt, ← hgT] at HQ
  rw [← hwt, ← hgT]
  clear hwt hgT
  have e0 := HQ.out.box.cell 0 (by simp)
  have e1 := HQ.out.box.cell 1 (by simp)
  simp only [List.getElem_cons_zero, List.getElem_cons_succ] at e0 e1
  have y0 := HQ.out.res.cell 0 (by simp)
  have y1 := HQ.out.res.cell 1 (by simp)
  have g0 := HQ.out.res.frozen 0
  have g1 := HQ.out.res.frozen 1
  simp only [List.getElem_cons_zero, List.getElem_cons_succ] at y0 y1
  go_wp2
  refine bodyPost_ret (v := .tuple #[.agg #[.int .i64 c, .slice S ts.length cs], .int .i64 p, .int .i64 q]) (by
    have x0 := ((HQ.out.res.set 0 (.int .i64 c)).set 1 (.slice S ts.length cs)).cell 0 (by simp)
    have x1 := ((HQ.out.res.set 0 (.int .i64 c)).set 1 (.slice S ts.length cs)).cell 1 (by simp)
    simp only [List.set_cons_zero, List.set_cons_succ, List.getElem_cons_zero, List.getElem_cons_succ] at x0 x1
    simp [results, Tryz.results53, go_sem, x0, x1]) rfl ?_
  exact ⟨c, ts, S, cs, HQ.out.fin hl _ _, p, q, rfl⟩
set_option maxRecDepth 100000 in
set_option maxHeartbeats 1000000 in
theorem DrawFactorsOf_c (A : Option Addr) (cx : Nat) (code : List Int) (w : World) (h : BytesC w A code) (hok : BytesOk code) :
    Calls Tryz.prog 56 #[.slice A code.length cx] w fun e w' => ∃ c ts S cs, SetRes w w' ts S ∧ e = .returned (.agg #[.int .i64 c, .slice S ts.length cs]) := by
  have HF := Lib.hid (fun (W : World) (hW : Below w.heap.size w W) => l01From_c A cx code W (h.below hW) hok)
  clear h hok
  go_enter Tryz.func56, Tryz.ntmps56
  go_wp2_with fail
  obtain ⟨w0, hw0⟩ : ∃ w0, w0 = w.alloc (.cells #[.int .i64 0, .slice none 0 0] 26) := ⟨_, rfl⟩
  have Hw0 := Lib.hid hw0
  have HBw : Hid (Below w.heap.size w w0) := by rw [hw0]; exact below_al (Below.refl _ _)
  rw [← hw0]
  clear hw0
  refine (HF.out _ HBw.out).mono ?_
  rintro e w1 ⟨g, rfl, hlt, S, hb⟩
  have Hb := Lib.hid hb
  have Hlt := Lib.hid hlt
  have HS := Lib.hid S
  clear hb hlt S
  go_wp2_with fail
  refine (l08Draw_c g code _ HS.out).mono ?_
  rintro e w2 ⟨c, ts, S, cs, p, q, rfl, hO, hl, hS, hG⟩
  have HQ := Lib.hid (LX.start (c := c) Hw0.out Hb.out Hlt.out HS.out.lt hO hS hG)
  clear hO hS hG
  go_upto_region 2 with (fail)
  obtain ⟨gT, hgT⟩ : ∃ gT, gT = w2.heap.size := ⟨_, rfl⟩
  obtain ⟨wt, hwt⟩ : ∃ wt, wt = w2.alloc (.cells #[.int .i64 c, .slice S ts.length cs] 26) := ⟨_, rfl⟩
  rw [← hwt, ← hgT] at HQ
  rw [← hwt, ← hgT]
  clear hwt hgT
  have e0 := HQ.out.box.cell 0 (by simp)
  have e1 := HQ.out.box.cell 1 (by simp)
  simp only [List.getElem_cons_zero, List.getElem_cons_succ] at e0 e1
  have y0 := HQ.out.res.cell 0 (by simp)
  have y1 := HQ.out.res.cell 1 (by simp)
  have g0 := HQ.out.res.frozen 0
  have g1 := HQ.out.res.frozen 1
  simp only [List.getElem_cons_zero, List.getElem_cons_succ] at y0 y1
  go_wp2
  refine bodyPost_ret (v := .agg #[.int .i64 c, .slice S ts.length cs]) (by
    have x0 := ((HQ.out.res.set 0 (.int .i64 c)).set 1 (.slice S ts.length cs)).cell 0 (by simp)
    have x1 := ((HQ.out.res.set 0 (.int .i64 c)).set 1 (.slice S ts.length cs)).cell 1 (by simp)
    simp only [List.set_cons_zero, List.set_cons_succ, List.getElem_cons_zero, List.getElem_cons_succ] at x0 x1
    simp [results, Tryz.results56, go_sem, x0, x1]) rfl ?_
  exact ⟨c, ts, S, cs, HQ.out.fin hl _ _, rfl⟩
set_option maxRecDepth 100000 in
set_option maxHeartbeats 1000000 in
theorem DrawBalanceOfRow_c (A : Option Addr) (cx : Nat) (code : List Int) (w : World) (h : BytesC w A code) (hok : BytesOk code) :
    Calls Tryz.prog 50 #[.slice A code.length cx] w fun e w' => ∃ c ts S cs row R cr, ∃ p q : Int, e = .returned (.tuple #[.agg #[.int .i64 c, .slice S ts.length cs], .slice R row.length cr, .int .i64 p, .int .i64 q]) ∧ SetRes w w' ts S ∧ Cells w' R (ints row) ∧ row.length ≤ 10 := by
  have HF := Lib.hid (fun (W : World) (hW : Below w.heap.size w W) => l01From_c A cx code W (h.below hW) hok)
  clear h hok
  go_enter Tryz.func50, Tryz.ntmps50
  go_wp2_with fail
  obtain ⟨w0, hw0⟩ : ∃ w0, w0 = w.alloc (.cells #[.int .i64 0, .slice none 0 0] 26) := ⟨_, rfl⟩
  have Hw0 := Lib.hid hw0
  have HBw : Hid (Below w.heap.size w w0) := by rw [hw0]; exact below_al (Below.refl _ _)
  rw [← hw0]
  clear hw0
  refine (HF.out _ HBw.out).mono ?_
  rintro e w1 ⟨g, rfl, hlt, S, hb⟩
  have Hb := Lib.hid hb
  have Hlt := Lib.hid hlt
  have HS := Lib.hid S
  clear hb hlt S
  go_wp2_with fail
  refine (l08Draw_c g code _ HS.out).mono ?_
  rintro e w2 ⟨c, ts, S, cs, p, q, rfl, hO, hl, hS, hG⟩
  have HQ := Lib.hid (LX.start (c := c) Hw0.out Hb.out Hlt.out HS.out.lt hO hS hG)
  clear hO hS hG
  go_upto_region 3 with (fail)
  obtain ⟨gT, hgT⟩ : ∃ gT, gT = w2.heap.size := ⟨_, rfl⟩
  obtain ⟨wt, hwt⟩ : ∃ wt, wt = w2.alloc (.cells #[.int .i64 c, .slice S ts.length cs] 26) := ⟨_, rfl⟩
  rw [← hwt, ← hgT] at HQ
  rw [← hwt, ← hgT]
  clear hwt hgT
  have e0 := fun w1 (h : Blk w1 gT [.int .i64 c, .slice S ts.length cs] 26) => h.cell 0 (by simp)
  have e1 := fun w1 (h : Blk w1 gT [.int .i64 c, .slice S ts.length cs] 26) => h.cell 1 (by simp)
  simp only [List.getElem_cons_zero, List.getElem_cons_succ] at e0 e1
  refine wp_region_mix [(0, true), (1, true), (2, true), (4, true), (5, true), (3, false), (6, false), (7, true), (8, true), (9, true)] (fun w' => Blk w' gT [.int .i64 c, .slice S ts.length cs] 26) (by kernel_rfl) (by kernel_rfl) (fun _ _ d _ _ h => by cases d <;> exact h) (HQ.out.box.drew) ?_
  repeat (first
    | (refine mix_skip rfl rfl (fun K' hK' => ?_); go_simp; refine hK' _ ?_; clear hK' K')
    | (refine mix_do (v := ?_) rfl rfl (fun w1 hb => ?_) (fun K' hK' => ?_); rotate_left
       · go_simp
         rfl
       go_simp; refine hK' _ ?_; clear hK' K'))
  replace HQ := Lib.hid (HQ.out.below (Below.refl _ _).drew)
  refine mix_call rfl rfl (fun K' hK' => ?_)
  go_simp
  refine (l02DrawRow_c g code c ts S cs (g + 1) _ HQ.out.src HQ.out.own (by omega) hl).mono ?_
  rintro e w3 ⟨v, row, rfl, hR, hrl, S3, G3⟩
  obtain ⟨R, cr, rfl, -, -⟩ := hR.shape
  have HR := Lib.hid (hR.weaken (show g + 1 ≤ wt.heap.size + 1 by have := HQ.out.src.lt; simp at this; omega))
  replace HQ := Lib.hid (HQ.out.grow S3 G3)
  clear S3 G3 hR
  refine hK' _ _ (HQ.out.box) ?_; clear hK' K'
  refine mix_call rfl rfl (fun K' hK' => ?_)
  have y0 := HQ.out.res.cell 0 (by simp)
  have y1 := HQ.out.res.cell 1 (by simp)
  have g0 := HQ.out.res.frozen 0
  have g1 := HQ.out.res.frozen 1
  simp only [List.getElem_cons_zero, List.getElem_cons_succ] at y0 y1
  go_simp
  have hne : gT ≠ w.heap.size := by have := HQ.out.hg; have := HQ.out.hgT; omega
  refine hK' _ _ ((HQ.out.box.other (a := ⟨w.heap.size, 0, none⟩) hne _).other (a := ⟨w.heap.size, 1, none⟩) hne _) ?_; clear hK' K'
  repeat (first
    | (refine mix_skip rfl rfl (fun K' hK' => ?_); go_simp; refine hK' _ ?_; clear hK' K')
    | (refine mix_do (v := ?_) rfl rfl (fun w1 hb => ?_) (fun K' hK' => ?_); rotate_left
       · go_simp
         rfl
       go_simp; refine hK' _ ?_; clear hK' K'))
  refine mix_nil ?_
  clear e0 e1 y0 y1 g0 g1
  go_wp2
  refine bodyPost_ret (v := .tuple #[.agg #[.int .i64 c, .slice S ts.length cs], .slice R row.length cr, .int .i64 p, .int .i64 q]) (by
    have x0 := ((HQ.out.res.set 0 (.int .i64 c)).set 1 (.slice S ts.length cs)).cell 0 (by simp)
    have x1 := ((HQ.out.res.set 0 (.int .i64 c)).set 1 (.slice S ts.length cs)).cell 1 (by simp)
    simp only [List.set_cons_zero, List.set_cons_succ, List.getElem_cons_zero, List.getElem_cons_succ] at x0 x1
    simp [results, Tryz.results50, go_sem, x0, x1]) rfl ?_
  have hg := HQ.out.hg
  exact ⟨c, ts, S, cs, row, R, cr, p, q, rfl, HQ.out.fin hl _ _, ((HR.out.other w.heap.size 0 (by omega) _).other w.heap.size 1 (by omega) _).cells, hrl⟩

end Go.Proofs.YtkgnejhflnekaaaGreat
