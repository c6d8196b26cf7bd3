/- Contracts and lemmas for the statements of this seat, written for this claim; each theorem states its own conditions. -/
import Derived.Test.YtkgnejhflnekaaaFrGt
import Derived.Test.YtkgnejhflnekaaaFrBy
set_option linter.unusedVariables false
set_option linter.unusedSimpArgs false
namespace Go.Proofs.Ytkgnejhflnekaaa
open Go.RowKit
attribute [local go_sem] addUpon_value addUpon_skip addUpon_enter
def len0 (rows : List (List Int)) : Nat := (rows.getD 0 []).length
def TableOk (rows : List (List Int)) : Prop := (1 ≤ rows.length ∧ rows.length ≤ 8) ∧ ∀ k (h : k < rows.length), rows[k].length = len0 rows ∧ 1 ≤ rows[k].length ∧ rows[k].length ≤ 8
noncomputable def tableB (rows : List (List Int)) : Bool := open Classical in decide (TableOk rows)
noncomputable def rowsB (N : Nat) (rows : List (List Int)) : Bool := open Classical in decide (TableOk rows ∧ NumsIn N rows)
theorem tableB_yes {rows : List (List Int)} (h : TableOk rows) : tableB rows = true := by simp [tableB, h]
theorem tableB_no {rows : List (List Int)} (h : ¬ TableOk rows) : tableB rows = false := by simp [tableB, h]
theorem rowsB_yes {N : Nat} {rows : List (List Int)} (h : TableOk rows) (h' : NumsIn N rows) : rowsB N rows = true := by simp [rowsB, h, h']
theorem rowsB_no {N : Nat} {rows : List (List Int)} (h : ¬ (TableOk rows ∧ NumsIn N rows)) : rowsB N rows = false := by simp only [rowsB, decide_eq_false_iff_not]; exact h
theorem rowsB_ok {N : Nat} {rows : List (List Int)} (h : rowsB N rows = true) : TableOk rows ∧ NumsIn N rows := by simpa [rowsB] using h
theorem rowsB_table {N : Nat} {rows : List (List Int)} (h : NumsIn N rows) : rowsB N rows = tableB rows := by
  by_cases ht : TableOk rows
  · rw [rowsB_yes ht h, tableB_yes ht]
  · rw [rowsB_no (fun x => ht x.1), tableB_no ht]
theorem codeB_zer {s b : Bool} (h : codeB s b = 0) : s = true ∧ b = true := by cases s <;> cases b <;> simp [codeB] at *
theorem ret_vcJ {v : Value} {a b : Int} (h : a = b) : Ending.returned (.tuple #[v, .int .i64 a]) = .returned (.tuple #[v, .int .i64 b]) := by rw [h]
theorem len0_eq {rows : List (List Int)} (h : 0 < rows.length) : len0 rows = rows[0].length := by simp [len0, h]
set_option maxRecDepth 100000 in
set_option maxHeartbeats 1000000 in
theorem isTable_c (rows : List (List Int)) (R : Option Addr) (cR : Nat) (w : World) (hM : RowsC w R rows) (hl : rows.length ≤ 1000000000) (hs : Short 1000000000 rows) :
    Calls Try.prog 55 #[.slice R rows.length cR, .int .i64 8] w fun e w' => e = .returned (.bool (tableB rows)) ∧ w = w' := by
  by_cases n1 : rows.length < 1
  · have HF := Lib.hid (tableB_no (rows := rows) (fun h => by have := h.1.1; omega))
    clear hM
    go_enter Try.func55, Try.ntmps55
    go_wp2
    go_ret
    exact ⟨ret_bool HF.out.symm, rfl⟩
  by_cases n2 : 8 < rows.length
  · have HF := Lib.hid (tableB_no (rows := rows) (fun h => by have := h.1.2; omega))
    clear hM
    go_enter Try.func55, Try.ntmps55
    go_wp2
    go_ret
    exact ⟨ret_bool HF.out.symm, rfl⟩
  have h00 : 0 < rows.length := by omega
  obtain ⟨b, off, A0, c0, rfl, hlt, f0, -⟩ := hM 0 h00
  rw [Nat.add_zero, ← len0_eq h00] at f0
  have HTab := Lib.hid (fun (h : ∀ k (h : k < rows.length), rows[k].length = len0 rows ∧ 1 ≤ rows[k].length ∧ rows[k].length ≤ 8) => tableB_yes (rows := rows) ⟨⟨by omega, by omega⟩, h⟩)
  go_enter Try.func55, Try.ntmps55
  go_wp2
  go_loop [18] (fun i => ∃ k : Nat, k ≤ rows.length ∧ i = .int .i64 k ∧ Hid (∀ j (h : j < rows.length), j < k → rows[j].length = len0 rows ∧ 1 ≤ rows[j].length ∧ rows[j].length ≤ 8)) (fun i => rows.length - (intOf i).toNat)
  case atStart => exact ⟨0, by omega, rfl, fun j _ hj => by omega⟩
  case round =>
    obtain ⟨k, hk, rfl, Hn⟩ := hrel
    by_cases h1 : k < rows.length
    · obtain ⟨A1, c1, f1, -⟩ := hM.pair k h1
      have hsk := hs k h1
      have HBad : Hid (¬ (rows[k].length = len0 rows ∧ 1 ≤ rows[k].length ∧ rows[k].length ≤ 8) → tableB rows = false) := fun h => tableB_no (fun x => h (x.2 k h1))
      have HGood : Hid ((rows[k].length = len0 rows ∧ 1 ≤ rows[k].length ∧ rows[k].length ≤ 8) → ∀ j (h : j < rows.length), j < k + 1 → rows[j].length = len0 rows ∧ 1 ≤ rows[j].length ∧ rows[j].length ≤ 8) := fun hE j h hj => by
        by_cases e : j = k
        · subst e; exact hE
        · exact Hn.out j h (by omega)
      generalize rows[k].length = n at *
      generalize len0 rows = m at *
      clear hM hs
      by_cases q1 : n = m
      · have q1' : ((n : Int) != (m : Int)) = false := by simp; omega
        by_cases q2 : n < 1
        · have HF := Lib.hid (HBad.out (by omega))
          clear q1
          go_wp2
          go_ret
          exact ⟨ret_bool HF.out.symm, rfl⟩
        · by_cases q3 : 8 < n
          · have HF := Lib.hid (HBad.out (by omega))
            clear q1
            go_wp2
            go_ret
            exact ⟨ret_bool HF.out.symm, rfl⟩
          · have HF := Lib.hid (HGood.out ⟨q1, by omega, by omega⟩)
            clear q1
            go_wp2
            go_round
            case rel => exact ⟨k + 1, by omega, by go_num, HF⟩
            case measure => simp [intOf]; omega
      · have q1' : ((n : Int) != (m : Int)) = true := by simp; omega
        have HF := Lib.hid (HBad.out (fun h => q1 h.1))
        clear q1
        go_wp2
        go_ret
        exact ⟨ret_bool HF.out.symm, rfl⟩
    · have HF := Lib.hid (HTab.out (fun j h => Hn.out j h (by omega)))
      clear hM hs
      go_wp2
      go_ret
      exact ⟨ret_bool HF.out.symm, rfl⟩
set_option maxRecDepth 100000 in
set_option maxHeartbeats 1000000 in
theorem areNumbers_c (c : Int) (A : Option Addr) (n cx : Nat) (rows : List (List Int)) (R : Option Addr) (cR : Nat) (w : World) (hM : RowsC w R rows) (hn : n ≤ 1000000) (hl : rows.length ≤ 1000000000) (hs : Short 1000000000 rows) :
    Calls Try.prog 27 #[.agg #[.int .i64 c, .slice A n cx], .slice R rows.length cR] w fun e w' => e = .returned (.bool (rowsB n rows)) ∧ Below w.heap.size w w' := by
  go_enter Try.func27, Try.ntmps27
  go_wp2
  go_loopw [11] (fun i wr => ∃ k : Nat, k ≤ rows.length ∧ i = .int .i64 k ∧ Hid (∀ j (h : j < rows.length), j < k → ∀ q (hq : q < rows[j].length), 0 ≤ rows[j][q] ∧ rows[j][q] < n) ∧ Below (w.heap.size + 1) (w.alloc (.cells #[.int .i64 c, .slice A n cx] 26)) wr) (fun i _ => rows.length - (intOf i).toNat)
  case atStart => exact ⟨0, by omega, rfl, fun j _ hj => by omega, Below.refl _ _⟩
  case round =>
    obtain ⟨k, hk, rfl, Hn, hb⟩ := hrel
    obtain ⟨w0, rfl⟩ : ∃ w0, w0 = wr := ⟨wr, rfl⟩
    have hbw : Below w.heap.size w w0 := (((Below.refl w.heap.size w).alloc (Nat.le_refl _) _).trans (hb.mono (by omega)))
    have Hbw := Lib.hid hbw
    have Hb3 := Lib.hid hb
    have d0 : w0.cell? ⟨w.heap.size, 0, none⟩ = some (.int .i64 c) := (hb.cell (p := ⟨w.heap.size, 0, none⟩) (by simp)).trans (by simp)
    have d1 : w0.cell? ⟨w.heap.size, 1, none⟩ = some (.slice A n cx) := (hb.cell (p := ⟨w.heap.size, 1, none⟩) (by simp)).trans (by simp)
    have D0 := Lib.hid (keepC d0)
    have D1 := Lib.hid (keepC d1)
    have hN : w.heap.size < w0.heap.size := by have := hb.size; simp at this; omega
    clear d0 d1
    by_cases h1 : k < rows.length
    · obtain ⟨b, off, A1, c1, eR, hlt, f0, r1⟩ := (hM.below hbw) k h1
      have hsk := hs k h1
      have HBad : Hid (∀ q (hq : q < rows[k].length), ¬ (0 ≤ rows[k][q] ∧ rows[k][q] < n) → rowsB n rows = false) := fun q hq h => rowsB_no (fun x => h (x.2 k h1 q hq))
      have HGood : Hid ((∀ q (hq : q < rows[k].length), 0 ≤ rows[k][q] ∧ rows[k][q] < n) → ∀ j (h : j < rows.length), j < k + 1 → ∀ q (hq : q < rows[j].length), 0 ≤ rows[j][q] ∧ rows[j][q] < n) := fun hE j h hj => by
        by_cases e : j = k
        · subst e; exact hE
        · exact Hn.out j h (by omega)
      have R1 := Lib.hid r1
      subst eR
      generalize rows[k] = row at *
      clear hM hs hbw hb r1
      go_wp2_with fail
      go_loopw [17] (fun i wz => ∃ q : Nat, q ≤ row.length ∧ i = .int .i64 q ∧ Hid (∀ p (hp : p < row.length), p < q → 0 ≤ row[p] ∧ row[p] < n) ∧ Below w0.heap.size w0 wz) (fun i _ => row.length - (intOf i).toNat)
      case atStart => exact ⟨0, by omega, rfl, fun j _ hj => by omega, Below.refl _ _⟩
      case round =>
        obtain ⟨q, hq, rfl, Hq, hb2⟩ := hrel
        have Hb2 := Lib.hid hb2
        have d0 := D0.out _ hb2
        have d1 := D1.out _ hb2
        have hN2 : w.heap.size < wr.heap.size := by have := hb2.size; omega
        by_cases hqr : q < row.length
        · obtain ⟨b3, off3, e3, hlt3, g0⟩ := (R1.out.below hb2).int q hqr
          have HX := Lib.hid (fun w => isNumber_c c A n cx row[q] w (by omega))
          have HB := Lib.hid (HBad.out q hqr)
          have HQ : Hid ((0 ≤ row[q] ∧ row[q] < n) → ∀ p (hp : p < row.length), p < q + 1 → 0 ≤ row[p] ∧ row[p] < n) := fun hE p hp hpq => by
            by_cases e : p = q
            · subst e; exact hE
            · exact Hq.out p hp (by omega)
          subst e3
          generalize row[q] = x at *
          clear hb2
          cases hx : inR 0 ((n : Int) - 1) x
          · have HF := Lib.hid (HB.out (fun h => by rw [inR_iff.2 ⟨h.1, by omega⟩] at hx; cases hx))
            rw [hx] at HX
            clear hx
            go_wp2_with fail
            refine (HX.out _).mono ?_
            rintro e w2 ⟨rfl, hb5⟩
            clear d0 d1 g0
            go_wp2
            go_ret
            exact ⟨ret_bool HF.out.symm, by have h1 := Hbw.out; have h2 := Hb2.out; (repeat (first | (with_reducible exact Below.refl _ _) | (with_reducible assumption) | (with_reducible refine below_al ?_) | (with_reducible refine below_dr ?_) | (with_reducible refine below_drN ?_) | (with_reducible refine below_set ?_ (by first | exact Nat.le_refl _ | (dsimp only; omega) | omega)) | (with_reducible refine below_tr (by with_reducible assumption) ?_)))⟩
          · have HF := Lib.hid (HQ.out (by have := inR_iff.1 hx; omega))
            rw [hx] at HX
            clear hx
            go_wp2_with fail
            refine (HX.out _).mono ?_
            rintro e w2 ⟨rfl, hb5⟩
            have Hb6 : Hid (Below w0.heap.size w0 w2) := Hb2.out.trans (hb5.mono Hb2.out.size)
            clear d0 d1 g0 hb5
            go_wp2
            go_roundw
            case rel => exact ⟨q + 1, by omega, by go_num, HF, Hb6.out⟩
            case measure => simp [intOf]; omega
        · have HF := Lib.hid (HGood.out (fun p hp => Hq.out p hp (by omega)))
          clear d0 d1 hb2
          go_wp2_with fail
          go_roundw
          case rel => exact ⟨k + 1, by omega, by go_num, HF, Hb3.out.trans (Hb2.out.mono (by omega))⟩
          case measure => simp [intOf]; omega
    · have HV := Lib.hid (rowsB_table (N := n) (rows := rows) (fun j hj q hq => Hn.out j hj (by omega) q hq))
      have HT := Lib.hid (isTable_c rows R cR w0 (hM.below hbw) hl hs)
      clear hM hs hbw hb
      go_wp2_with fail
      refine HT.out.mono ?_
      rintro e w2 ⟨rfl, rfl⟩
      go_wp2
      go_ret
      exact ⟨ret_bool HV.out.symm, Hbw.out⟩
set_option maxRecDepth 100000 in
set_option maxHeartbeats 1000000 in
theorem l01Rows_c (c : Int) (ts : List T4) (A : Option Addr) (cx : Nat) (rows : List (List Int)) (R : Option Addr) (cR : Nat) (w : World) (hT : TileCells w A ts) (hts : ts.length ≤ 1000000000) (hM : RowsC w R rows) (hl : rows.length ≤ 1000000000) (hs : Short 1000000000 rows) :
    Calls Try.prog 50 #[.agg #[.int .i64 c, .slice A ts.length cx], .slice R rows.length cR] w fun e w' => e = .returned (.int .i64 (codeB (isSetB c ts) (rowsB ts.length rows))) ∧ Below w.heap.size w w' := by
  have H1 := Lib.hid (fun w h => l01Is_c c ts A cx w h hts)
  have HT := Lib.hid hT
  clear hT
  cases hss : isSetB c ts
  · rw [hss] at H1
    clear hM hss hs
    go_enter Try.func50, Try.ntmps50
    go_wp2_with fail
    refine (H1.out _ (HT.out.below (by (repeat (first | (with_reducible exact Below.refl _ _) | (with_reducible assumption) | (with_reducible refine below_al ?_) | (with_reducible refine below_dr ?_) | (with_reducible refine below_drN ?_) | (with_reducible refine below_set ?_ (by first | exact Nat.le_refl _ | (dsimp only; omega) | omega)) | (with_reducible refine below_tr (by with_reducible assumption) ?_)))))).mono ?_
    rintro e w1 ⟨rfl, hb1⟩
    have Hw1 : Hid (Below w.heap.size w w1) := by (show Below _ _ _); (repeat (first | (with_reducible exact Below.refl _ _) | (with_reducible assumption) | (with_reducible refine below_al ?_) | (with_reducible refine below_dr ?_) | (with_reducible refine below_drN ?_) | (with_reducible refine below_set ?_ (by first | exact Nat.le_refl _ | (dsimp only; omega) | omega)) | (with_reducible refine below_tr (by with_reducible assumption) ?_)))
    have d1 : w1.cell? ⟨w.heap.size, 1, none⟩ = some (.slice A ts.length cx) := by rw [(bcell hb1).1 _ _ (by simp)]; simp
    have D1 := Lib.hid (keepC d1)
    have hN : w.heap.size < w1.heap.size := by have := hb1.size; simp at this; omega
    clear hb1 d1
    go_wp2
    go_ret
    exact ⟨rfl, Hw1.out⟩
  · rw [hss] at H1
    have h16 := (isSetB_small hss).2
    clear hss
    by_cases n1 : rows.length < 1
    · have HF := Lib.hid (rowsB_no (N := ts.length) (rows := rows) (fun h => by have := h.1.1.1; omega))
      clear hM hs
      go_enter Try.func50, Try.ntmps50
      go_wp2_with fail
      refine (H1.out _ (HT.out.below (by (repeat (first | (with_reducible exact Below.refl _ _) | (with_reducible assumption) | (with_reducible refine below_al ?_) | (with_reducible refine below_dr ?_) | (with_reducible refine below_drN ?_) | (with_reducible refine below_set ?_ (by first | exact Nat.le_refl _ | (dsimp only; omega) | omega)) | (with_reducible refine below_tr (by with_reducible assumption) ?_)))))).mono ?_
      rintro e w1 ⟨rfl, hb1⟩
      have Hw1 : Hid (Below w.heap.size w w1) := by (show Below _ _ _); (repeat (first | (with_reducible exact Below.refl _ _) | (with_reducible assumption) | (with_reducible refine below_al ?_) | (with_reducible refine below_dr ?_) | (with_reducible refine below_drN ?_) | (with_reducible refine below_set ?_ (by first | exact Nat.le_refl _ | (dsimp only; omega) | omega)) | (with_reducible refine below_tr (by with_reducible assumption) ?_)))
      have d1 : w1.cell? ⟨w.heap.size, 1, none⟩ = some (.slice A ts.length cx) := by rw [(bcell hb1).1 _ _ (by simp)]; simp
      have D1 := Lib.hid (keepC d1)
      have hN : w.heap.size < w1.heap.size := by have := hb1.size; simp at this; omega
      clear hb1 d1
      go_wp2
      go_ret
      exact ⟨by rw [HF.out]; rfl, Hw1.out⟩
    by_cases n2 : 8 < rows.length
    · have HF := Lib.hid (rowsB_no (N := ts.length) (rows := rows) (fun h => by have := h.1.1.2; omega))
      clear hM hs
      go_enter Try.func50, Try.ntmps50
      go_wp2_with fail
      refine (H1.out _ (HT.out.below (by (repeat (first | (with_reducible exact Below.refl _ _) | (with_reducible assumption) | (with_reducible refine below_al ?_) | (with_reducible refine below_dr ?_) | (with_reducible refine below_drN ?_) | (with_reducible refine below_set ?_ (by first | exact Nat.le_refl _ | (dsimp only; omega) | omega)) | (with_reducible refine below_tr (by with_reducible assumption) ?_)))))).mono ?_
      rintro e w1 ⟨rfl, hb1⟩
      have Hw1 : Hid (Below w.heap.size w w1) := by (show Below _ _ _); (repeat (first | (with_reducible exact Below.refl _ _) | (with_reducible assumption) | (with_reducible refine below_al ?_) | (with_reducible refine below_dr ?_) | (with_reducible refine below_drN ?_) | (with_reducible refine below_set ?_ (by first | exact Nat.le_refl _ | (dsimp only; omega) | omega)) | (with_reducible refine below_tr (by with_reducible assumption) ?_)))
      have d1 : w1.cell? ⟨w.heap.size, 1, none⟩ = some (.slice A ts.length cx) := by rw [(bcell hb1).1 _ _ (by simp)]; simp
      have D1 := Lib.hid (keepC d1)
      have hN : w.heap.size < w1.heap.size := by have := hb1.size; simp at this; omega
      clear hb1 d1
      go_wp2
      go_ret
      exact ⟨by rw [HF.out]; rfl, Hw1.out⟩
    have h00 : 0 < rows.length := by omega
    obtain ⟨b, off, A0, c0, rfl, hlt, f0, -⟩ := hM 0 h00
    rw [Nat.add_zero, ← len0_eq h00] at f0
    have F0 := Lib.hid (keepC f0)
    have hT0 : TableOk rows → 1 ≤ len0 rows ∧ len0 rows ≤ 8 := fun h => by have := h.2 0 h00; omega
    by_cases m1 : len0 rows < 1
    · have HF := Lib.hid (rowsB_no (N := ts.length) (rows := rows) (fun h => by have := hT0 h.1; omega))
      clear hM hT0 hs f0
      generalize len0 rows = m at *
      go_enter Try.func50, Try.ntmps50
      go_wp2_with fail
      refine (H1.out _ (HT.out.below (by (repeat (first | (with_reducible exact Below.refl _ _) | (with_reducible assumption) | (with_reducible refine below_al ?_) | (with_reducible refine below_dr ?_) | (with_reducible refine below_drN ?_) | (with_reducible refine below_set ?_ (by first | exact Nat.le_refl _ | (dsimp only; omega) | omega)) | (with_reducible refine below_tr (by with_reducible assumption) ?_)))))).mono ?_
      rintro e w1 ⟨rfl, hb1⟩
      have Hw1 : Hid (Below w.heap.size w w1) := by (show Below _ _ _); (repeat (first | (with_reducible exact Below.refl _ _) | (with_reducible assumption) | (with_reducible refine below_al ?_) | (with_reducible refine below_dr ?_) | (with_reducible refine below_drN ?_) | (with_reducible refine below_set ?_ (by first | exact Nat.le_refl _ | (dsimp only; omega) | omega)) | (with_reducible refine below_tr (by with_reducible assumption) ?_)))
      have d1 : w1.cell? ⟨w.heap.size, 1, none⟩ = some (.slice A ts.length cx) := by rw [(bcell hb1).1 _ _ (by simp)]; simp
      have D1 := Lib.hid (keepC d1)
      have hN : w.heap.size < w1.heap.size := by have := hb1.size; simp at this; omega
      clear hb1 d1
      have f0 := F0.out _ Hw1.out
      go_wp2
      go_ret
      exact ⟨by rw [HF.out]; rfl, Hw1.out⟩
    by_cases m2 : 8 < len0 rows
    · have HF := Lib.hid (rowsB_no (N := ts.length) (rows := rows) (fun h => by have := hT0 h.1; omega))
      clear hM hT0 hs f0
      generalize len0 rows = m at *
      go_enter Try.func50, Try.ntmps50
      go_wp2_with fail
      refine (H1.out _ (HT.out.below (by (repeat (first | (with_reducible exact Below.refl _ _) | (with_reducible assumption) | (with_reducible refine below_al ?_) | (with_reducible refine below_dr ?_) | (with_reducible refine below_drN ?_) | (with_reducible refine below_set ?_ (by first | exact Nat.le_refl _ | (dsimp only; omega) | omega)) | (with_reducible refine below_tr (by with_reducible assumption) ?_)))))).mono ?_
      rintro e w1 ⟨rfl, hb1⟩
      have Hw1 : Hid (Below w.heap.size w w1) := by (show Below _ _ _); (repeat (first | (with_reducible exact Below.refl _ _) | (with_reducible assumption) | (with_reducible refine below_al ?_) | (with_reducible refine below_dr ?_) | (with_reducible refine below_drN ?_) | (with_reducible refine below_set ?_ (by first | exact Nat.le_refl _ | (dsimp only; omega) | omega)) | (with_reducible refine below_tr (by with_reducible assumption) ?_)))
      have d1 : w1.cell? ⟨w.heap.size, 1, none⟩ = some (.slice A ts.length cx) := by rw [(bcell hb1).1 _ _ (by simp)]; simp
      have D1 := Lib.hid (keepC d1)
      have hN : w.heap.size < w1.heap.size := by have := hb1.size; simp at this; omega
      clear hb1 d1
      have f0 := F0.out _ Hw1.out
      go_wp2
      go_ret
      exact ⟨by rw [HF.out]; rfl, Hw1.out⟩
    have HYes := Lib.hid (fun (h : ∀ k (h : k < rows.length), rows[k].length = len0 rows) (h' : NumsIn ts.length rows) => rowsB_yes (N := ts.length) (rows := rows) ⟨⟨by omega, by omega⟩, fun k hk => by have := h k hk; omega⟩ h')
    have HM := Lib.hid hM
    clear hT0 f0 hM
    go_enter Try.func50, Try.ntmps50
    go_wp2_with fail
    refine (H1.out _ (HT.out.below (by (repeat (first | (with_reducible exact Below.refl _ _) | (with_reducible assumption) | (with_reducible refine below_al ?_) | (with_reducible refine below_dr ?_) | (with_reducible refine below_drN ?_) | (with_reducible refine below_set ?_ (by first | exact Nat.le_refl _ | (dsimp only; omega) | omega)) | (with_reducible refine below_tr (by with_reducible assumption) ?_)))))).mono ?_
    rintro e w1 ⟨rfl, hb1⟩
    have Hw1 : Hid (Below w.heap.size w w1) := by (show Below _ _ _); (repeat (first | (with_reducible exact Below.refl _ _) | (with_reducible assumption) | (with_reducible refine below_al ?_) | (with_reducible refine below_dr ?_) | (with_reducible refine below_drN ?_) | (with_reducible refine below_set ?_ (by first | exact Nat.le_refl _ | (dsimp only; omega) | omega)) | (with_reducible refine below_tr (by with_reducible assumption) ?_)))
    have d1 : w1.cell? ⟨w.heap.size, 1, none⟩ = some (.slice A ts.length cx) := by rw [(bcell hb1).1 _ _ (by simp)]; simp
    have D1 := Lib.hid (keepC d1)
    have hN : w.heap.size < w1.heap.size := by have := hb1.size; simp at this; omega
    clear hb1 d1
    have f0 := F0.out _ Hw1.out
    go_wp2_with fail
    clear f0
    go_loopw [5] (fun i wr => ∃ k : Nat, k ≤ rows.length ∧ i = .int .i64 k ∧ Hid (∀ j (h : j < rows.length), j < k → rows[j].length = len0 rows ∧ ∀ q (hq : q < rows[j].length), 0 ≤ rows[j][q] ∧ rows[j][q] < ts.length) ∧ Below w1.heap.size w1 wr) (fun i _ => rows.length - (intOf i).toNat)
    case atStart => exact ⟨0, by omega, rfl, fun j _ hj => by omega, Below.refl _ _⟩
    case round =>
      obtain ⟨k, hk, rfl, Hn, hbr⟩ := hrel
      obtain ⟨w0, rfl⟩ : ∃ w0, w0 = wr := ⟨wr, rfl⟩
      have Hbr := Lib.hid hbr
      have Hww : Hid (Below w.heap.size w w0) := Hw1.out.trans (hbr.mono Hw1.out.size)
      by_cases h1 : k < rows.length
      · obtain ⟨A1, c1, f1, r1⟩ := (HM.out.below Hww.out).pair k h1
        have hsk := hs k h1
        have HBadL : Hid (¬ rows[k].length = len0 rows → rowsB ts.length rows = false) := fun h => rowsB_no (fun x => h (x.1.2 k h1).1)
        have HBadN : Hid (∀ q (hq : q < rows[k].length), ¬ (0 ≤ rows[k][q] ∧ rows[k][q] < ts.length) → rowsB ts.length rows = false) := fun q hq h => rowsB_no (fun x => h (x.2 k h1 q hq))
        have HGood : Hid (rows[k].length = len0 rows → (∀ q (hq : q < rows[k].length), 0 ≤ rows[k][q] ∧ rows[k][q] < ts.length) → ∀ j (h : j < rows.length), j < k + 1 → rows[j].length = len0 rows ∧ ∀ q (hq : q < rows[j].length), 0 ≤ rows[j][q] ∧ rows[j][q] < ts.length) := fun h1 h2 j h hj => by
          by_cases e : j = k
          · subst e; exact ⟨h1, h2⟩
          · exact Hn.out j h (by omega)
        have R1 := Lib.hid r1
        have g0 := keepC (F0.out _ Hww.out)
        have g1 := keepC f1
        have G1 := Lib.hid g1
        have D2 := Lib.hid (fun w2 (h : Below w0.heap.size w0 w2) => D1.out w2 (Hbr.out.trans (h.mono Hbr.out.size)))
        generalize rows[k] = row at *
        clear f1 r1 hbr hs
        by_cases q1 : row.length = len0 rows
        · have q1' : ((row.length : Int) != (len0 rows : Int)) = false := by simp; omega
          have HG2 := Lib.hid (HGood.out q1)
          generalize len0 rows = m at *
          clear q1
          go_wp2_with fail
          refine wp_region_add (fun w' => Below (w0).heap.size (w0) w') (by kernel_rfl) (by kernel_rfl) ((Below.refl _ _).drew) ?_
          repeat (first
            | (refine add_skip rfl (fun K' hK' => ?_); go_simp; refine hK' _ ?_; clear hK' K')
            | (refine add_do (v := ?_) rfl (fun w1 hb => ?_) (fun K' hK' => ?_); rotate_left
               · go_simp
                 first
                 | (with_reducible exact rfl)
                 | (with_reducible exact ⟨rfl, hb⟩)
                 | exact rfl
                 | exact ⟨rfl, hb⟩
               go_simp; refine hK' _ ?_; clear hK' K'))
          refine add_nil ?_
          intro wa hba
          have Hba := Lib.hid hba
          clear hba g0 g1
          go_wp2_with fail
          go_loopw [6] (fun i wz => ∃ q : Nat, q ≤ row.length ∧ i = .int .i64 q ∧ Hid (∀ p (hp : p < row.length), p < q → 0 ≤ row[p] ∧ row[p] < ts.length) ∧ Below w0.heap.size w0 wz) (fun i _ => row.length - (intOf i).toNat)
          case atStart => exact ⟨0, by omega, rfl, fun j _ hj => by omega, Hba.out⟩
          case round =>
            obtain ⟨q, hq, rfl, Hq, hb2⟩ := hrel
            have Hb2 := Lib.hid hb2
            have f1 := G1.out _ hb2
            by_cases hqr : q < row.length
            · obtain ⟨b3, off3, e3, hlt3, x0⟩ := (R1.out.below hb2).int q hqr
              have qL : IntKind.i64.wrap ((ts.length : Int) - 1) = (ts.length : Int) - 1 := IntWalk.i64_in _ (by omega)
              have HX := Lib.hid (fun w => l01In_c row[q] 0 ((ts.length : Int) - 1) w)
              have HB := Lib.hid (HBadN.out q hqr)
              have HQ : Hid ((0 ≤ row[q] ∧ row[q] < ts.length) → ∀ p (hp : p < row.length), p < q + 1 → 0 ≤ row[p] ∧ row[p] < ts.length) := fun hE p hp hpq => by
                by_cases e : p = q
                · subst e; exact hE
                · exact Hq.out p hp (by omega)
              have g0 := keepC f1
              have g1 := keepC x0
              have g2 := keepC (D2.out _ hb2)
              subst e3
              generalize row[q] = x at *
              clear hb2 x0
              cases hx : inR 0 ((ts.length : Int) - 1) x
              · have HF := Lib.hid (HB.out (fun h => by rw [inR_iff.2 ⟨h.1, by omega⟩] at hx; cases hx))
                rw [hx] at HX
                clear hx
                go_wp2_with fail
                clear f1
                refine wp_region_add (fun w' => Below (wr).heap.size (wr) w') (by kernel_rfl) (by kernel_rfl) ((Below.refl _ _).drew) ?_
                repeat (first
                  | (refine add_skip rfl (fun K' hK' => ?_); go_simp; refine hK' _ ?_; clear hK' K')
                  | (refine add_do (v := ?_) rfl (fun w1 hb => ?_) (fun K' hK' => ?_); rotate_left
                     · go_simp
                       first
                       | (with_reducible exact rfl)
                       | (with_reducible exact ⟨rfl, hb⟩)
                       | (with_reducible exact (addCall (((HX.out w1).mono fun e w' ⟨a, b⟩ => ⟨a, by subst b; exact Below.refl _ _⟩)) hb).2)
                       | exact (addCall (((HX.out w1).mono fun e w' ⟨a, b⟩ => ⟨a, by subst b; exact Below.refl _ _⟩)) hb).2
                       | exact rfl
                       | exact ⟨rfl, hb⟩
                     go_simp; refine hK' _ ?_; clear hK' K'))
                refine add_nil ?_
                intro wa hba
                go_wp2
                go_ret
                exact ⟨by rw [HF.out]; rfl, by have h1 := Hww.out; have h2 := Hb2.out; (repeat (first | (with_reducible exact Below.refl _ _) | (with_reducible assumption) | (with_reducible refine below_al ?_) | (with_reducible refine below_dr ?_) | (with_reducible refine below_drN ?_) | (with_reducible refine below_set ?_ (by first | exact Nat.le_refl _ | (dsimp only; omega) | omega)) | (with_reducible refine below_tr (by with_reducible assumption) ?_)))⟩
              · have HF := Lib.hid (HQ.out (by have := inR_iff.1 hx; omega))
                rw [hx] at HX
                clear hx
                go_wp2_with fail
                clear f1
                refine wp_region_add (fun w' => Below (wr).heap.size (wr) w') (by kernel_rfl) (by kernel_rfl) ((Below.refl _ _).drew) ?_
                repeat (first
                  | (refine add_skip rfl (fun K' hK' => ?_); go_simp; refine hK' _ ?_; clear hK' K')
                  | (refine add_do (v := ?_) rfl (fun w1 hb => ?_) (fun K' hK' => ?_); rotate_left
                     · go_simp
                       first
                       | (with_reducible exact rfl)
                       | (with_reducible exact ⟨rfl, hb⟩)
                       | (with_reducible exact (addCall (((HX.out w1).mono fun e w' ⟨a, b⟩ => ⟨a, by subst b; exact Below.refl _ _⟩)) hb).2)
                       | exact (addCall (((HX.out w1).mono fun e w' ⟨a, b⟩ => ⟨a, by subst b; exact Below.refl _ _⟩)) hb).2
                       | exact rfl
                       | exact ⟨rfl, hb⟩
                     go_simp; refine hK' _ ?_; clear hK' K'))
                refine add_nil ?_
                intro wa hba
                go_wp2
                go_roundw
                case rel => exact ⟨q + 1, by omega, by go_num, HF, Hb2.out.trans (hba.mono Hb2.out.size)⟩
                case measure => simp [intOf]; omega
            · have HF := Lib.hid (HG2.out (fun p hp => Hq.out p hp (by omega)))
              clear hb2
              go_wp2_with fail
              go_roundw
              case rel => exact ⟨k + 1, by omega, by go_num, HF, Hbr.out.trans (Hb2.out.mono Hbr.out.size)⟩
              case measure => simp [intOf]; omega
        · have q1' : ((row.length : Int) != (len0 rows : Int)) = true := by simp; omega
          have HF := Lib.hid (HBadL.out q1)
          generalize len0 rows = m at *
          clear q1
          go_wp2_with fail
          refine wp_region_add (fun w' => Below (w0).heap.size (w0) w') (by kernel_rfl) (by kernel_rfl) ((Below.refl _ _).drew) ?_
          repeat (first
            | (refine add_skip rfl (fun K' hK' => ?_); go_simp; refine hK' _ ?_; clear hK' K')
            | (refine add_do (v := ?_) rfl (fun w1 hb => ?_) (fun K' hK' => ?_); rotate_left
               · go_simp
                 first
                 | (with_reducible exact rfl)
                 | (with_reducible exact ⟨rfl, hb⟩)
                 | exact rfl
                 | exact ⟨rfl, hb⟩
               go_simp; refine hK' _ ?_; clear hK' K'))
          refine add_nil ?_
          intro wa hba
          go_wp2
          go_ret
          exact ⟨by rw [HF.out]; rfl, Hww.out.trans (hba.mono Hww.out.size)⟩
      · have HF := Lib.hid (HYes.out (fun j hj => (Hn.out j hj (by omega)).1) (fun j hj => (Hn.out j hj (by omega)).2))
        clear hbr
        go_wp2
        go_ret
        exact ⟨by rw [HF.out]; rfl, Hww.out⟩

end Go.Proofs.Ytkgnejhflnekaaa
