/- Contracts and lemmas for the statements of this seat, written for this claim; each theorem states its own conditions. -/
import Derived.Deep.Cut
import Derived.Test.YtkgnejhflnekaaaGreatTcD4
set_option linter.unusedVariables false
set_option linter.unusedSimpArgs false
namespace Go.Proofs.YtkgnejhflnekaaaGreat
open Go.RowKit
set_option maxRecDepth 100000 in
set_option maxHeartbeats 1000000 in
theorem specWordsOfRow_c (c : Int) (ts : List T4) (A : Option Addr) (cx : Nat) (row : List Int) (B : Option Addr) (cr : Nat) (w : World) (hT : TileCells w A ts) (hl : ts.length ≤ 1000000000) (hR : Cells w B (ints row)) (hn : row.length ≤ 1000000000) :
    Calls Tryz.prog 156 #[.agg #[.int .i64 c, .slice A ts.length cx], .slice B row.length cr] w (RetWor w (worN c ts row) (worS c ts row) (worCode c ts row)) := by
  have HI := Lib.hid (fun W (h : Below w.heap.size w W) => l01Is_c c ts A cx W (hT.below h) hl)
  have HW := Lib.hid (fun (hs : isSetB c ts = true) W (h : Below w.heap.size w W) => l02Row_c c ts A cx row B cr W (hT.below h) (hR.below h) (by have := (isSetB_small hs).2; omega) hn)
  have HN := Lib.hid (fun (hs : isSetB c ts = true) (hr : isRowB ts row = true) W (h : Below w.heap.size w W) => l02Words_c c ts A cx row B cr W (hT.below h) (hR.below h) (by have := (isSetB_small hs).2; omega) (isRowB_in hr).1 (by have := (isRowB_in hr).2; omega))
  have HV : Hid (worN c ts row = if worCode c ts row = 0 then norths ts row else []) := rfl
  have HV1 : Hid (worS c ts row = if worCode c ts row = 0 then souths ts row else []) := rfl
  have HV2 : Hid (worCode c ts row = codeB (isSetB c ts) (isRowB ts row)) := rfl
  clear hT hR
  cases hs : isSetB c ts
  · have HD : Hid (worCode c ts row = 1) := by rw [Hid, HV2.out, hs]; rfl
    rw [hs] at HI
    clear hs HW HN
    generalize worCode c ts row = d at *
    obtain rfl := HD.out
    go_enter Tryz.func156, Tryz.ntmps156
    go_wp2_with fail
    refine (HI.out _ (by (repeat (first | (with_reducible exact Below.refl _ _) | (with_reducible assumption) | (with_reducible refine below_al ?_) | (with_reducible refine below_dr ?_) | (with_reducible refine below_drN ?_) | (with_reducible refine below_set ?_ (by first | exact Nat.le_refl _ | (dsimp only; omega) | omega)) | (with_reducible refine below_tr (by with_reducible assumption) ?_))))).mono ?_
    rintro e w1 ⟨rfl, hb1⟩
    have Hw1 : Hid (Below w.heap.size w w1) := by (show Below _ _ _); (repeat (first | (with_reducible exact Below.refl _ _) | (with_reducible assumption) | (with_reducible refine below_al ?_) | (with_reducible refine below_dr ?_) | (with_reducible refine below_drN ?_) | (with_reducible refine below_set ?_ (by first | exact Nat.le_refl _ | (dsimp only; omega) | omega)) | (with_reducible refine below_tr (by with_reducible assumption) ?_)))
    have x0 : w1.cell? ⟨w.heap.size, 0, none⟩ = some (.int .i64 c) := by
      rw [(bcell hb1).1 _ _ (by simp)]
      (repeat (first | (exact cell_al _ _ _ _ _ _ (by simp) rfl) | (refine cell_alloc_old _ _ _ _ _ ?_)))
    have x1 : w1.cell? ⟨w.heap.size, 1, none⟩ = some (.slice A ts.length cx) := by
      rw [(bcell hb1).1 _ _ (by simp)]
      (repeat (first | (exact cell_al _ _ _ _ _ _ (by simp) rfl) | (refine cell_alloc_old _ _ _ _ _ ?_)))
    have X0 := Lib.hid (keepC x0)
    have X1 := Lib.hid (keepC x1)
    clear hb1
    clear x0 x1
    go_wp2_with fail
    go_ret3
    exact ⟨_, _, rfl, by rw [HV.out, if_neg (by decide)]; exact OwnI.nil _ _, by rw [HV1.out, if_neg (by decide)]; exact OwnI.nil _ _, Hw1.out⟩
  · have HW2 := Lib.hid (HW.out hs)
    have HN2 := Lib.hid (HN.out hs)
    rw [hs] at HI HV2
    clear hs HW HN
    cases hr : isRowB ts row
    · have HD : Hid (worCode c ts row = 2) := by rw [Hid, HV2.out, hr]; rfl
      rw [hr] at HW2
      clear hr HN2 HV2
      generalize worCode c ts row = d at *
      obtain rfl := HD.out
      go_enter Tryz.func156, Tryz.ntmps156
      go_wp2_with fail
      refine (HI.out _ (by (repeat (first | (with_reducible exact Below.refl _ _) | (with_reducible assumption) | (with_reducible refine below_al ?_) | (with_reducible refine below_dr ?_) | (with_reducible refine below_drN ?_) | (with_reducible refine below_set ?_ (by first | exact Nat.le_refl _ | (dsimp only; omega) | omega)) | (with_reducible refine below_tr (by with_reducible assumption) ?_))))).mono ?_
      rintro e w1 ⟨rfl, hb1⟩
      have Hw1 : Hid (Below w.heap.size w w1) := by (show Below _ _ _); (repeat (first | (with_reducible exact Below.refl _ _) | (with_reducible assumption) | (with_reducible refine below_al ?_) | (with_reducible refine below_dr ?_) | (with_reducible refine below_drN ?_) | (with_reducible refine below_set ?_ (by first | exact Nat.le_refl _ | (dsimp only; omega) | omega)) | (with_reducible refine below_tr (by with_reducible assumption) ?_)))
      have x0 : w1.cell? ⟨w.heap.size, 0, none⟩ = some (.int .i64 c) := by
        rw [(bcell hb1).1 _ _ (by simp)]
        (repeat (first | (exact cell_al _ _ _ _ _ _ (by simp) rfl) | (refine cell_alloc_old _ _ _ _ _ ?_)))
      have x1 : w1.cell? ⟨w.heap.size, 1, none⟩ = some (.slice A ts.length cx) := by
        rw [(bcell hb1).1 _ _ (by simp)]
        (repeat (first | (exact cell_al _ _ _ _ _ _ (by simp) rfl) | (refine cell_alloc_old _ _ _ _ _ ?_)))
      have X0 := Lib.hid (keepC x0)
      have X1 := Lib.hid (keepC x1)
      clear hb1
      go_wp2_with fail
      clear x0 x1
      refine (HW2.out _ Hw1.out).mono ?_
      rintro e w2 ⟨rfl, hb⟩
      replace Hw1 := Lib.hid (Hw1.out.trans (hb.mono Hw1.out.size))
      clear hb
      go_wp2_with fail
      go_ret3
      exact ⟨_, _, rfl, by rw [HV.out, if_neg (by decide)]; exact OwnI.nil _ _, by rw [HV1.out, if_neg (by decide)]; exact OwnI.nil _ _, Hw1.out⟩
    · have HD : Hid (worCode c ts row = 0) := by rw [Hid, HV2.out, hr]; rfl
      have HN3 := Lib.hid (HN2.out hr)
      rw [hr] at HW2
      clear hr HN2 HV2
      generalize worCode c ts row = d at *
      obtain rfl := HD.out
      rw [if_pos rfl] at HV HV1
      go_enter Tryz.func156, Tryz.ntmps156
      go_wp2_with fail
      refine (HI.out _ (by (repeat (first | (with_reducible exact Below.refl _ _) | (with_reducible assumption) | (with_reducible refine below_al ?_) | (with_reducible refine below_dr ?_) | (with_reducible refine below_drN ?_) | (with_reducible refine below_set ?_ (by first | exact Nat.le_refl _ | (dsimp only; omega) | omega)) | (with_reducible refine below_tr (by with_reducible assumption) ?_))))).mono ?_
      rintro e w1 ⟨rfl, hb1⟩
      have Hw1 : Hid (Below w.heap.size w w1) := by (show Below _ _ _); (repeat (first | (with_reducible exact Below.refl _ _) | (with_reducible assumption) | (with_reducible refine below_al ?_) | (with_reducible refine below_dr ?_) | (with_reducible refine below_drN ?_) | (with_reducible refine below_set ?_ (by first | exact Nat.le_refl _ | (dsimp only; omega) | omega)) | (with_reducible refine below_tr (by with_reducible assumption) ?_)))
      have x0 : w1.cell? ⟨w.heap.size, 0, none⟩ = some (.int .i64 c) := by
        rw [(bcell hb1).1 _ _ (by simp)]
        (repeat (first | (exact cell_al _ _ _ _ _ _ (by simp) rfl) | (refine cell_alloc_old _ _ _ _ _ ?_)))
      have x1 : w1.cell? ⟨w.heap.size, 1, none⟩ = some (.slice A ts.length cx) := by
        rw [(bcell hb1).1 _ _ (by simp)]
        (repeat (first | (exact cell_al _ _ _ _ _ _ (by simp) rfl) | (refine cell_alloc_old _ _ _ _ _ ?_)))
      have X0 := Lib.hid (keepC x0)
      have X1 := Lib.hid (keepC x1)
      clear hb1
      go_wp2_with fail
      clear x0 x1
      refine (HW2.out _ Hw1.out).mono ?_
      rintro e w2 ⟨rfl, hb⟩
      have x0 := X0.out _ hb
      have x1 := X1.out _ hb
      replace Hw1 := Lib.hid (Hw1.out.trans (hb.mono Hw1.out.size))
      clear hb
      go_wp2_with fail
      clear x0 x1
      refine (HN3.out _ Hw1.out).mono ?_
      rintro e w3 ⟨v, u, rfl, hO, hU, -, hb⟩
      have HO := Lib.hid (hO.weaken Hw1.out.size)
      have HU := Lib.hid (hU.weaken Hw1.out.size)
      replace Hw1 := Lib.hid (Hw1.out.trans (hb.mono Hw1.out.size))
      clear hO hU hb
      go_wp2_with fail
      go_ret3
      exact ⟨v, u, rfl, by rw [HV.out]; exact HO.out, by rw [HV1.out]; exact HU.out, Hw1.out⟩
/-- a set and a word, in new memory -/
def SetWord (w : World) (e : Ending) (w' : World) : Prop :=
  ∃ c ts S cs R cr, ∃ word : List Int, e = .returned (.tuple #[.agg #[.int .i64 c, .slice S ts.length cs], .slice R word.length cr]) ∧ OwnT w' w.heap.size (.slice S ts.length cs) ts ∧ ts.length ≤ 101 ∧ OwnI w' w.heap.size (.slice R word.length cr) word ∧ word.length ≤ 30 ∧ Below w.heap.size w w'
theorem LX.finW {w wr : World} {g : Nat} {code : List Int} {c : Int} {ts : List T4} {A : Option Addr} {cx gT : Nat} (h : LX w wr g code c ts A cx gT) {v : Value} {word : List Int} (hR : OwnI wr (g + 1) v word) (x y : Value) :
    OwnT ((wr.setCell ⟨w.heap.size, 0, none⟩ x).setCell ⟨w.heap.size, 1, none⟩ y) w.heap.size (.slice A ts.length cx) ts ∧ OwnI ((wr.setCell ⟨w.heap.size, 0, none⟩ x).setCell ⟨w.heap.size, 1, none⟩ y) w.heap.size v word ∧ Below w.heap.size w ((wr.setCell ⟨w.heap.size, 0, none⟩ x).setCell ⟨w.heap.size, 1, none⟩ y) := by
  have hg := h.hg
  exact ⟨((h.own.other w.heap.size 0 (by omega) x).other w.heap.size 1 (by omega) y).lower (by omega), ((hR.other w.heap.size 0 (by omega) x).other w.heap.size 1 (by omega) y).weaken (by omega), (h.sub.setCell (Nat.le_refl _) _).setCell (Nat.le_refl _) _⟩
theorem LX.app {w wr W : World} {g : Nat} {code : List Int} {c : Int} {ts : List T4} {A : Option Addr} {cx gT B : Nat} {v : Value} {xs : List Int} (h : LX w wr g code c ts A cx gT) (hO : OwnI wr B v xs) (hB : g < B) (hG : wr.grownBy W v.ownBlock) : LX w W g code c ts A cx gT := by
  have hr := World.ownsRow.lt hO
  have hgg := h.hg
  exact ⟨h.res.kept1 hG (own_ne hO h.res (by decide)), h.box.kept1 hG (own_ne hO h.box (by decide)), World.ownsRow.kept h.own hG (owns_apart h.own hO (by decide)), h.src.app hG (fun k hk => by have := (hr k hk).1; omega), h.sub.grown hG h.sub.size (fun k hk => by have := (hr k hk).1; omega), h.hgT, h.hg⟩
set_option maxRecDepth 100000 in
set_option maxHeartbeats 8000000 in
theorem l02DrawWord_c (A : Option Addr) (cx : Nat) (code : List Int) (w : World) (h : BytesC w A code) (hok : BytesOk code) :
    Calls Tryz.prog 69 #[.slice A code.length cx] w (SetWord w) := by
  have HF := Lib.hid (fun (W : World) (hW : Below w.heap.size w W) => l01From_c A cx code W (h.below hW) hok)
  clear h hok
  go_enter Tryz.func69, Tryz.ntmps69
  go_wp2_with fail
  obtain ⟨w0, hw0⟩ : ∃ w0, w0 = w.alloc (.cells #[.int .i64 0, .slice none 0 0] 26) := ⟨_, rfl⟩
  have Hw0 := Lib.hid hw0
  have HBw : Hid (Below w.heap.size w w0) := by rw [hw0]; exact below_al (Below.refl _ _)
  rw [← hw0]
  clear hw0
  refine (HF.out _ HBw.out).mono ?_
  rintro e w1 ⟨g, rfl, hlt, S, hb⟩
  have Hb := Lib.hid hb
  have Hlt := Lib.hid hlt
  have HS := Lib.hid S
  clear hb hlt S
  go_wp2_with fail
  refine (l01Spoil_c g code _ HS.out).mono ?_
  rintro e w2 ⟨c, ts, S, cs, rfl, hO, hl, hS, hG⟩
  have HQ := Lib.hid (LX.start (c := c) Hw0.out Hb.out Hlt.out HS.out.lt hO hS hG)
  clear hO hS hG HF Hb Hlt HS Hw0 HBw
  go_upto_region 3 with (fail)
  obtain ⟨gT, hgT⟩ : ∃ gT, gT = w2.heap.size := ⟨_, rfl⟩
  obtain ⟨wt, hwt⟩ : ∃ wt, wt = w2.alloc (.cells #[.int .i64 c, .slice S ts.length cs] 26) := ⟨_, rfl⟩
  rw [← hwt, ← hgT] at HQ
  rw [← hwt, ← hgT]
  clear hwt hgT
  have e0 := HQ.out.box.cell 0 (by simp)
  have e1 := HQ.out.box.cell 1 (by simp)
  simp only [List.getElem_cons_zero, List.getElem_cons_succ] at e0 e1
  go_wp2_with fail
  clear e0 e1
  refine (l02DrawRow_c g code c ts S cs (g + 1) _ HQ.out.src HQ.out.own (by omega) hl).mono ?_
  rintro e w3 ⟨v, row, rfl, hR, hrl, S3, G3⟩
  obtain ⟨R, cr, rfl, hCr, -⟩ := hR.shape
  replace HQ := Lib.hid (HQ.out.grow S3 G3)
  have HWr := Lib.hid (specWordsOfRow_c c ts S cs row R cr w3 HQ.out.own.cells (by omega) hR.cells (by omega))
  have hnl : (worN c ts row).length ≤ 30 := by
    unfold worN
    split
    · simp [norths]; omega
    · simp
  have hg3 := HQ.out.src.lt
  clear S3 G3 hR hCr
  generalize worN c ts row = nw at *
  generalize worS c ts row = sw at *
  generalize worCode c ts row = d at *
  have e0 := HQ.out.box.cell 0 (by simp)
  have e1 := HQ.out.box.cell 1 (by simp)
  simp only [List.getElem_cons_zero, List.getElem_cons_succ] at e0 e1
  go_wp2_with fail
  clear e0 e1
  refine HWr.out.mono ?_
  rintro e w4 ⟨v7, v8, rfl, hO7, hO8, hb⟩
  replace HQ := Lib.hid (HQ.out.below hb)
  obtain ⟨R7, c7, rfl, -, -⟩ := hO7.shape
  have HN := Lib.hid (hO7.weaken (show g + 1 ≤ w3.heap.size by omega))
  clear hO7 hO8 hb HWr hg3
  by_cases hd : d = 0
  · have hd' : (d == 0) = true := by simp [hd]
    clear hd
    go_wp2_with fail
    refine (l01Next_c g code _ _ HQ.out.src).mono ?_
    rintro e wz ⟨r, rfl, _, _, _, S5, G5⟩
    replace HQ := Lib.hid (HQ.out.grow S5 G5)
    replace HN := Lib.hid (HN.out.grew G5 (by omega))
    clear S5 G5
    by_cases hr : 0 < r
    · have e0 := HQ.out.box.cell 0 (by simp)
      have e1 := HQ.out.box.cell 1 (by simp)
      simp only [List.getElem_cons_zero, List.getElem_cons_succ] at e0 e1
      have y0 := HQ.out.res.cell 0 (by simp)
      have y1 := HQ.out.res.cell 1 (by simp)
      have g0 := HQ.out.res.frozen 0
      have g1 := HQ.out.res.frozen 1
      simp only [List.getElem_cons_zero, List.getElem_cons_succ] at y0 y1
      go_wp2
      refine bodyPost_ret (v := .tuple #[.agg #[.int .i64 c, .slice S ts.length cs], .slice R7 nw.length c7]) (by
        have x0 := ((HQ.out.res.set 0 (.int .i64 c)).set 1 (.slice S ts.length cs)).cell 0 (by simp)
        have x1 := ((HQ.out.res.set 0 (.int .i64 c)).set 1 (.slice S ts.length cs)).cell 1 (by simp)
        simp only [List.set_cons_zero, List.set_cons_succ, List.getElem_cons_zero, List.getElem_cons_succ] at x0 x1
        simp [results, Tryz.results69, go_sem, x0, x1]) rfl ?_
      obtain ⟨f1, f2, f3⟩ := HQ.out.finW HN.out (.int .i64 c) (.slice S ts.length cs)
      exact ⟨c, ts, S, cs, R7, c7, nw, rfl, f1, hl, f2, hnl, f3⟩
    · have hr' : ¬ 0 < r := hr
      have hgl := HQ.out.src.lt
      have HV0 : Hid (OwnI (wz.alloc (.cells #[] 2)) (g + 1) (.slice (some ⟨wz.heap.size, 0, none⟩) 0 0) []) := OwnI.emptyAt rfl (by omega)
      go_upto_region 8 with (fail)
      replace HQ := Lib.hid (HQ.out.below (below_al (o := .cells #[] 2) (Below.refl wz.heap.size wz)))
      obtain ⟨gv, hgv⟩ : ∃ gv, gv = wz.heap.size := ⟨_, rfl⟩
      obtain ⟨wy, hwy⟩ : ∃ wy, wy = wz.alloc (.cells #[] 2) := ⟨_, rfl⟩
      rw [← hwy] at HQ HV0
      rw [← hgv] at HV0
      rw [← hwy, ← hgv]
      clear hwy hgv hgl
      go_wp2_with fail
      refine (l01Next_c g code _ _ HQ.out.src).mono ?_
      rintro e wx ⟨r1, rfl, a1, _, b1, S1, G1⟩
      have h1 : 0 ≤ r1 ∧ r1 < 6 := ⟨a1, b1 (by omega)⟩
      replace HQ := Lib.hid (HQ.out.grow S1 G1)
      replace HV0 := Lib.hid (HV0.out.grew G1 (by omega))
      clear S1 G1 a1 b1
      go_wp2_with fail
      refine (l01Next_c g code _ _ HQ.out.src).mono ?_
      rintro e wv ⟨r2, rfl, a2, _, b2, S2, G2⟩
      have h2 : 0 ≤ r2 ∧ r2 < 24 := ⟨a2, b2 (by omega)⟩
      replace HQ := Lib.hid (HQ.out.grow S2 G2)
      replace HV0 := Lib.hid (HV0.out.grew G2 (by omega))
      clear S2 G2 a2 b2
      obtain ⟨q, hq0, hq1, hqa, hqb⟩ : ∃ q : Int, 0 ≤ q ∧ q ≤ 1 ∧ r2 / 23 = q ∧ r2.tdiv 23 = q := ⟨r2 / 23, by omega, by omega, rfl, by rw [Int.tdiv_eq_ediv_of_nonneg h2.1]⟩
      obtain ⟨m0, hm0⟩ : ∃ m0 : Nat, 1 + r1 + q * 20 = (m0 : Int) := ⟨(1 + r1 + q * 20).toNat, by omega⟩
      have hm1 : 1 ≤ m0 := by omega
      have hm2 : m0 ≤ 26 := by omega
      go_wp2_with fail
      clear hqa hqb hm0
      go_loopw [10, 11] (fun v i wr => ∃ (m : Nat) (word : List Int), 1 ≤ word.length + m ∧ word.length + m ≤ 26 ∧ i = .int .i64 (m : Nat) ∧ Hid (OwnI wr (g + 1) v word) ∧ Hid (LX w wr g code c ts S cs gT)) (fun _ i _ => (intOf i).toNat)
      case atStart => exact ⟨m0, [], by simp; omega, by simp; omega, by first | rfl | go_num, HV0, HQ⟩
      case round =>
        clear HQ HV0
        obtain ⟨m, word, hw1, hw2, rfl, HV, HQ⟩ := hrel
        obtain ⟨Av, cv, rfl, -, -⟩ := HV.out.shape
        by_cases hm : 0 < m
        · have hm' : (0 : Int) < (m : Int) := by omega
          have e0 := HQ.out.box.cell 0 (by simp)
          have e1 := HQ.out.box.cell 1 (by simp)
          simp only [List.getElem_cons_zero, List.getElem_cons_succ] at e0 e1
          go_wp2_with fail
          clear e0 e1
          refine (l01Next_c g code _ _ HQ.out.src).mono ?_
          rintro e wq ⟨x, rfl, _, _, _, S5, G5⟩
          replace HQ := Lib.hid (HQ.out.grow S5 G5)
          replace HV := Lib.hid (HV.out.grew G5 (by omega))
          have hgl := HQ.out.src.lt
          clear S5 G5
          go_wp2_with (at_builtin; refine Hold.of ?_)
          refine Hold.to ?_
          refine wpl_app_int rfl (.tmp 48) (.tmp 55) rfl (g + 1) _ word x rfl (HV.out.alloc _) wq.heap.size 0 rfl (cell_alloc_at _ _ _ _ _ rfl) (by omega) (by simp; omega) (fun v' w' a1 a2 a3 => ?_)
          have HQ2 := Lib.hid ((HQ.out.below (below_al (Below.refl _ _))).app (HV.out.alloc _) (by omega) a2)
          have HV2 := Lib.hid a1
          clear a1 a2 a3
          go_wp2_with fail
          go_roundw
          case rel => exact ⟨m - 1, word ++ [x], by simp; omega, by simp; omega, by go_num, HV2, HQ2⟩
          case measure => simp [intOf]; omega
        · have hm' : ¬ (0 : Int) < (m : Int) := by omega
          have hwl : 1 ≤ word.length ∧ word.length ≤ 26 := by omega
          go_wp2_with fail
          refine (l01Next_c g code _ _ HQ.out.src).mono ?_
          rintro e wq ⟨x, rfl, _, _, _, S5, G5⟩
          replace HQ := Lib.hid (HQ.out.grow S5 G5)
          replace HV := Lib.hid (HV.out.grew G5 (by omega))
          clear S5 G5
          by_cases hx : x = 0
          · have hx' : (x == 0) = true := by simp [hx]
            clear hx
            obtain ⟨gr, rfl, k1, k2, -, -⟩ := HV.out.at_ 0 (by omega)
            go_wp2_with fail
            refine (pick_new g code _ HQ.out.src _ _ [-1, 6, 5] _ rfl rfl (by simp)).mono ?_
            rintro e wp ⟨r6, rfl, -, S6, G6⟩
            replace HQ := Lib.hid (HQ.out.grow S6 G6)
            replace HV := Lib.hid (HV.out.grew G6 (by omega))
            clear S6 G6
            obtain ⟨gr', e1', k3, k4, c1, z1⟩ := HV.out.at_ 0 (by omega)
            injection e1' with e1'
            injection e1' with e1' _
            subst e1'
            obtain ⟨HO9, HG9⟩ := HV.out.set 0 r6
            have HV9 := Lib.hid HO9
            have HQ9 := Lib.hid (HQ.out.app HV.out (by omega) HG9)
            have hlr : 0 < word.length := by omega
            have hl9 : (word.set 0 r6).length = word.length := by simp
            clear HO9 HG9
            go_upto_region 14 with (fail)
            obtain ⟨w9, hw9⟩ : ∃ w9, w9 = wp.setCell ⟨gr, 0, none⟩ (.int .i64 r6) := ⟨_, rfl⟩
            rw [← hw9] at HQ9 HV9
            rw [← hw9]
            clear hw9 c1 z1 HQ HV
            have e0 := HQ9.out.box.cell 0 (by simp)
            have e1 := HQ9.out.box.cell 1 (by simp)
            simp only [List.getElem_cons_zero, List.getElem_cons_succ] at e0 e1
            have y0 := HQ9.out.res.cell 0 (by simp)
            have y1 := HQ9.out.res.cell 1 (by simp)
            have g0 := HQ9.out.res.frozen 0
            have g1 := HQ9.out.res.frozen 1
            simp only [List.getElem_cons_zero, List.getElem_cons_succ] at y0 y1
            go_wp2
            refine bodyPost_ret (v := .tuple #[.agg #[.int .i64 c, .slice S ts.length cs], .slice (some ⟨gr, 0, none⟩) word.length cv]) (by
              have x0 := ((HQ9.out.res.set 0 (.int .i64 c)).set 1 (.slice S ts.length cs)).cell 0 (by simp)
              have x1 := ((HQ9.out.res.set 0 (.int .i64 c)).set 1 (.slice S ts.length cs)).cell 1 (by simp)
              simp only [List.set_cons_zero, List.set_cons_succ, List.getElem_cons_zero, List.getElem_cons_succ] at x0 x1
              simp [results, Tryz.results69, go_sem, x0, x1]) rfl ?_
            obtain ⟨f1, f2, f3⟩ := HQ9.out.finW HV9.out (.int .i64 c) (.slice S ts.length cs)
            exact ⟨c, ts, S, cs, some ⟨gr, 0, none⟩, cv, word.set 0 r6, by rw [hl9], f1, hl, by rw [hl9]; exact f2, by omega, f3⟩
          · have hx' : (x == 0) = false := by simp [hx]
            clear hx
            have e0 := HQ.out.box.cell 0 (by simp)
            have e1 := HQ.out.box.cell 1 (by simp)
            simp only [List.getElem_cons_zero, List.getElem_cons_succ] at e0 e1
            have y0 := HQ.out.res.cell 0 (by simp)
            have y1 := HQ.out.res.cell 1 (by simp)
            have g0 := HQ.out.res.frozen 0
            have g1 := HQ.out.res.frozen 1
            simp only [List.getElem_cons_zero, List.getElem_cons_succ] at y0 y1
            go_wp2
            refine bodyPost_ret (v := .tuple #[.agg #[.int .i64 c, .slice S ts.length cs], .slice Av word.length cv]) (by
              have x0 := ((HQ.out.res.set 0 (.int .i64 c)).set 1 (.slice S ts.length cs)).cell 0 (by simp)
              have x1 := ((HQ.out.res.set 0 (.int .i64 c)).set 1 (.slice S ts.length cs)).cell 1 (by simp)
              simp only [List.set_cons_zero, List.set_cons_succ, List.getElem_cons_zero, List.getElem_cons_succ] at x0 x1
              simp [results, Tryz.results69, go_sem, x0, x1]) rfl ?_
            obtain ⟨f1, f2, f3⟩ := HQ.out.finW HV.out (.int .i64 c) (.slice S ts.length cs)
            exact ⟨c, ts, S, cs, Av, cv, word, rfl, f1, hl, f2, by omega, f3⟩
  · have hd' : (d == 0) = false := by simp [hd]
    clear hd
    obtain ⟨wz, rfl⟩ : ∃ wz, wz = w4 := ⟨_, rfl⟩
    have hgl := HQ.out.src.lt
    have HV0 : Hid (OwnI (wz.alloc (.cells #[] 2)) (g + 1) (.slice (some ⟨wz.heap.size, 0, none⟩) 0 0) []) := OwnI.emptyAt rfl (by omega)
    go_upto_region 8 with (fail)
    replace HQ := Lib.hid (HQ.out.below (below_al (o := .cells #[] 2) (Below.refl wz.heap.size wz)))
    obtain ⟨gv, hgv⟩ : ∃ gv, gv = wz.heap.size := ⟨_, rfl⟩
    obtain ⟨wy, hwy⟩ : ∃ wy, wy = wz.alloc (.cells #[] 2) := ⟨_, rfl⟩
    rw [← hwy] at HQ HV0
    rw [← hgv] at HV0
    rw [← hwy, ← hgv]
    clear hwy hgv hgl
    go_wp2_with fail
    refine (l01Next_c g code _ _ HQ.out.src).mono ?_
    rintro e wx ⟨r1, rfl, a1, _, b1, S1, G1⟩
    have h1 : 0 ≤ r1 ∧ r1 < 6 := ⟨a1, b1 (by omega)⟩
    replace HQ := Lib.hid (HQ.out.grow S1 G1)
    replace HV0 := Lib.hid (HV0.out.grew G1 (by omega))
    clear S1 G1 a1 b1
    go_wp2_with fail
    refine (l01Next_c g code _ _ HQ.out.src).mono ?_
    rintro e wv ⟨r2, rfl, a2, _, b2, S2, G2⟩
    have h2 : 0 ≤ r2 ∧ r2 < 24 := ⟨a2, b2 (by omega)⟩
    replace HQ := Lib.hid (HQ.out.grow S2 G2)
    replace HV0 := Lib.hid (HV0.out.grew G2 (by omega))
    clear S2 G2 a2 b2
    obtain ⟨q, hq0, hq1, hqa, hqb⟩ : ∃ q : Int, 0 ≤ q ∧ q ≤ 1 ∧ r2 / 23 = q ∧ r2.tdiv 23 = q := ⟨r2 / 23, by omega, by omega, rfl, by rw [Int.tdiv_eq_ediv_of_nonneg h2.1]⟩
    obtain ⟨m0, hm0⟩ : ∃ m0 : Nat, 1 + r1 + q * 20 = (m0 : Int) := ⟨(1 + r1 + q * 20).toNat, by omega⟩
    have hm1 : 1 ≤ m0 := by omega
    have hm2 : m0 ≤ 26 := by omega
    go_wp2_with fail
    clear hqa hqb hm0
    go_loopw [10, 11] (fun v i wr => ∃ (m : Nat) (word : List Int), 1 ≤ word.length + m ∧ word.length + m ≤ 26 ∧ i = .int .i64 (m : Nat) ∧ Hid (OwnI wr (g + 1) v word) ∧ Hid (LX w wr g code c ts S cs gT)) (fun _ i _ => (intOf i).toNat)
    case atStart => exact ⟨m0, [], by simp; omega, by simp; omega, by first | rfl | go_num, HV0, HQ⟩
    case round =>
      clear HQ HV0
      obtain ⟨m, word, hw1, hw2, rfl, HV, HQ⟩ := hrel
      obtain ⟨Av, cv, rfl, -, -⟩ := HV.out.shape
      by_cases hm : 0 < m
      · have hm' : (0 : Int) < (m : Int) := by omega
        have e0 := HQ.out.box.cell 0 (by simp)
        have e1 := HQ.out.box.cell 1 (by simp)
        simp only [List.getElem_cons_zero, List.getElem_cons_succ] at e0 e1
        go_wp2_with fail
        clear e0 e1
        refine (l01Next_c g code _ _ HQ.out.src).mono ?_
        rintro e wq ⟨x, rfl, _, _, _, S5, G5⟩
        replace HQ := Lib.hid (HQ.out.grow S5 G5)
        replace HV := Lib.hid (HV.out.grew G5 (by omega))
        have hgl := HQ.out.src.lt
        clear S5 G5
        go_wp2_with (at_builtin; refine Hold.of ?_)
        refine Hold.to ?_
        refine wpl_app_int rfl (.tmp 48) (.tmp 55) rfl (g + 1) _ word x rfl (HV.out.alloc _) wq.heap.size 0 rfl (cell_alloc_at _ _ _ _ _ rfl) (by omega) (by simp; omega) (fun v' w' a1 a2 a3 => ?_)
        have HQ2 := Lib.hid ((HQ.out.below (below_al (Below.refl _ _))).app (HV.out.alloc _) (by omega) a2)
        have HV2 := Lib.hid a1
        clear a1 a2 a3
        go_wp2_with fail
        go_roundw
        case rel => exact ⟨m - 1, word ++ [x], by simp; omega, by simp; omega, by go_num, HV2, HQ2⟩
        case measure => simp [intOf]; omega
      · have hm' : ¬ (0 : Int) < (m : Int) := by omega
        have hwl : 1 ≤ word.length ∧ word.length ≤ 26 := by omega
        go_wp2_with fail
        refine (l01Next_c g code _ _ HQ.out.src).mono ?_
        rintro e wq ⟨x, rfl, _, _, _, S5, G5⟩
        replace HQ := Lib.hid (HQ.out.grow S5 G5)
        replace HV := Lib.hid (HV.out.grew G5 (by omega))
        clear S5 G5
        by_cases hx : x = 0
        · have hx' : (x == 0) = true := by simp [hx]
          clear hx
          obtain ⟨gr, rfl, k1, k2, -, -⟩ := HV.out.at_ 0 (by omega)
          go_wp2_with fail
          refine (pick_new g code _ HQ.out.src _ _ [-1, 6, 5] _ rfl rfl (by simp)).mono ?_
          rintro e wp ⟨r6, rfl, -, S6, G6⟩
          replace HQ := Lib.hid (HQ.out.grow S6 G6)
          replace HV := Lib.hid (HV.out.grew G6 (by omega))
          clear S6 G6
          obtain ⟨gr', e1', k3, k4, c1, z1⟩ := HV.out.at_ 0 (by omega)
          injection e1' with e1'
          injection e1' with e1' _
          subst e1'
          obtain ⟨HO9, HG9⟩ := HV.out.set 0 r6
          have HV9 := Lib.hid HO9
          have HQ9 := Lib.hid (HQ.out.app HV.out (by omega) HG9)
          have hlr : 0 < word.length := by omega
          have hl9 : (word.set 0 r6).length = word.length := by simp
          clear HO9 HG9
          go_upto_region 14 with (fail)
          obtain ⟨w9, hw9⟩ : ∃ w9, w9 = wp.setCell ⟨gr, 0, none⟩ (.int .i64 r6) := ⟨_, rfl⟩
          rw [← hw9] at HQ9 HV9
          rw [← hw9]
          clear hw9 c1 z1 HQ HV
          have e0 := HQ9.out.box.cell 0 (by simp)
          have e1 := HQ9.out.box.cell 1 (by simp)
          simp only [List.getElem_cons_zero, List.getElem_cons_succ] at e0 e1
          have y0 := HQ9.out.res.cell 0 (by simp)
          have y1 := HQ9.out.res.cell 1 (by simp)
          have g0 := HQ9.out.res.frozen 0
          have g1 := HQ9.out.res.frozen 1
          simp only [List.getElem_cons_zero, List.getElem_cons_succ] at y0 y1
          go_wp2
          refine bodyPost_ret (v := .tuple #[.agg #[.int .i64 c, .slice S ts.length cs], .slice (some ⟨gr, 0, none⟩) word.length cv]) (by
            have x0 := ((HQ9.out.res.set 0 (.int .i64 c)).set 1 (.slice S ts.length cs)).cell 0 (by simp)
            have x1 := ((HQ9.out.res.set 0 (.int .i64 c)).set 1 (.slice S ts.length cs)).cell 1 (by simp)
            simp only [List.set_cons_zero, List.set_cons_succ, List.getElem_cons_zero, List.getElem_cons_succ] at x0 x1
            simp [results, Tryz.results69, go_sem, x0, x1]) rfl ?_
          obtain ⟨f1, f2, f3⟩ := HQ9.out.finW HV9.out (.int .i64 c) (.slice S ts.length cs)
          exact ⟨c, ts, S, cs, some ⟨gr, 0, none⟩, cv, word.set 0 r6, by rw [hl9], f1, hl, by rw [hl9]; exact f2, by omega, f3⟩
        · have hx' : (x == 0) = false := by simp [hx]
          clear hx
          have e0 := HQ.out.box.cell 0 (by simp)
          have e1 := HQ.out.box.cell 1 (by simp)
          simp only [List.getElem_cons_zero, List.getElem_cons_succ] at e0 e1
          have y0 := HQ.out.res.cell 0 (by simp)
          have y1 := HQ.out.res.cell 1 (by simp)
          have g0 := HQ.out.res.frozen 0
          have g1 := HQ.out.res.frozen 1
          simp only [List.getElem_cons_zero, List.getElem_cons_succ] at y0 y1
          go_wp2
          refine bodyPost_ret (v := .tuple #[.agg #[.int .i64 c, .slice S ts.length cs], .slice Av word.length cv]) (by
            have x0 := ((HQ.out.res.set 0 (.int .i64 c)).set 1 (.slice S ts.length cs)).cell 0 (by simp)
            have x1 := ((HQ.out.res.set 0 (.int .i64 c)).set 1 (.slice S ts.length cs)).cell 1 (by simp)
            simp only [List.set_cons_zero, List.set_cons_succ, List.getElem_cons_zero, List.getElem_cons_succ] at x0 x1
            simp [results, Tryz.results69, go_sem, x0, x1]) rfl ?_
          obtain ⟨f1, f2, f3⟩ := HQ.out.finW HV.out (.int .i64 c) (.slice S ts.length cs)
          exact ⟨c, ts, S, cs, Av, cv, word, rfl, f1, hl, f2, by omega, f3⟩

end Go.Proofs.YtkgnejhflnekaaaGreat
