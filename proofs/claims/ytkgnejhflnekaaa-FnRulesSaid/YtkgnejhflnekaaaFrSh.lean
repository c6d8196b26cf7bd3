/- Contracts and lemmas for the statements of this seat, written for this claim; each theorem states its own conditions. -/
import Derived.Test.YtkgnejhflnekaaaFrGw
import Derived.Test.YtkgnejhflnekaaaFrOo
import Derived.Test.YtkgnejhflnekaaaFrOs
set_option linter.unusedVariables false
set_option linter.unusedSimpArgs false
namespace Go.Proofs.Ytkgnejhflnekaaa
open Go.RowKit
def blkAt (rows : List (List Int)) (y x : Nat) : List Int := [(rows.getD y []).getD x 0, (rows.getD y []).getD (x + 1) 0, (rows.getD (y + 1) []).getD x 0, (rows.getD (y + 1) []).getD (x + 1) 0]
def shIdx (L rows : List (List Int)) (y x : Nat) : Int := idxR (fun r => eqI r (blkAt rows y x)) L
def shRow (L rows : List (List Int)) (y k : Nat) : List Int := (List.range k).map fun j => shIdx L rows y (2 * j)
def shRows (L rows : List (List Int)) (m k : Nat) : List (List Int) := (List.range m).map fun j => shRow L rows (2 * j) k
theorem shRow_succ (L rows : List (List Int)) (y k : Nat) : shRow L rows y (k + 1) = shRow L rows y k ++ [shIdx L rows y (2 * k)] := by simp [shRow, List.range_succ]
theorem shRows_succ (L rows : List (List Int)) (m k : Nat) : shRows L rows (m + 1) k = shRows L rows m k ++ [shRow L rows (2 * m) k] := by simp [shRows, List.range_succ]
theorem shRow_len (L rows : List (List Int)) (y k : Nat) : (shRow L rows y k).length = k := by simp [shRow]
theorem shRows_len (L rows : List (List Int)) (m k : Nat) : (shRows L rows m k).length = m := by simp [shRows]
def ShAll (L rows : List (List Int)) (m k : Nat) : Prop := ∀ j, j < m → ∀ q, q < k → 0 ≤ shIdx L rows (2 * j) (2 * q)
def shOdd (rows : List (List Int)) : Bool := decide (rows.length % 2 = 1) || decide (len0 rows % 2 = 1)
noncomputable def shC (c : Int) (ts : List T4) (L rows : List (List Int)) : Int := open Classical in if grBase c ts L rows = 0 then (if shOdd rows = false ∧ ShAll L rows (rows.length / 2) (len0 rows / 2) then 0 else 4) else grBase c ts L rows
noncomputable def shV (c : Int) (ts : List T4) (L rows : List (List Int)) : List (List Int) := open Classical in if grBase c ts L rows = 0 ∧ shOdd rows = false ∧ ShAll L rows (rows.length / 2) (len0 rows / 2) then shRows L rows (rows.length / 2) (len0 rows / 2) else []
theorem sh_base {c : Int} {ts : List T4} {L rows : List (List Int)} (h : ¬ grBase c ts L rows = 0) : shC c ts L rows = grBase c ts L rows ∧ shV c ts L rows = [] := by
  constructor
  · unfold shC; rw [if_neg h]
  · unfold shV; rw [if_neg (fun x => h x.1)]
theorem sh_none {c : Int} {ts : List T4} {L rows : List (List Int)} (h : grBase c ts L rows = 0) (h' : ¬ (shOdd rows = false ∧ ShAll L rows (rows.length / 2) (len0 rows / 2))) : shC c ts L rows = 4 ∧ shV c ts L rows = [] := by
  constructor
  · unfold shC; rw [if_pos h, if_neg h']
  · unfold shV; rw [if_neg (fun x => h' x.2)]
theorem sh_all {c : Int} {ts : List T4} {L rows : List (List Int)} (h : grBase c ts L rows = 0) (h' : shOdd rows = false ∧ ShAll L rows (rows.length / 2) (len0 rows / 2)) : shC c ts L rows = 0 ∧ shV c ts L rows = shRows L rows (rows.length / 2) (len0 rows / 2) := by
  constructor
  · unfold shC; rw [if_pos h, if_pos h']
  · unfold shV; rw [if_pos ⟨h, h'⟩]
theorem shV_len (c : Int) (ts : List T4) (L rows : List (List Int)) : (shV c ts L rows).length ≤ 16 ∧ Short 1000000000 (shV c ts L rows) ∧ tot (shV c ts L rows) ≤ 256 := by
  unfold shV
  split
  · rename_i h
    obtain ⟨_, _, ⟨⟨_, r8⟩, hk⟩, _⟩ := grBase_ok h.1
    have m8 : len0 rows ≤ 8 := by
      by_cases h00 : 0 < rows.length
      · rw [len0_eq h00]; exact (hk 0 h00).2.2
      · have : len0 rows = 0 := by unfold len0; simp [List.eq_nil_of_length_eq_zero (show rows.length = 0 by omega)]
        omega
    have hg : ∀ r ∈ shRows L rows (rows.length / 2) (len0 rows / 2), r.length ≤ 4 := fun r hr => by
      unfold shRows at hr
      obtain ⟨j, _, rfl⟩ := List.mem_map.1 hr
      rw [shRow_len]; omega
    have ht := tot_le hg
    rw [shRows_len] at ht ⊢
    exact ⟨by omega, Short_iff.2 (fun r hr => by have := hg r hr; omega), by omega⟩
  · exact ⟨by simp, fun k hk => by simp at hk, by simp [tot]⟩
/-- the four numbers of a block in rows -/
theorem rows_cells {w : World} {R : Option Addr} {rows : List (List Int)} (hM : RowsC w R rows) {b off : Nat} (eR : R = some ⟨b, off, none⟩) {y x n : Nat} (hy : y < rows.length) (hn : rows[y].length = n) (hx : x < n) :
    ∃ b1 off1 c1, w.cell? ⟨b, off + y, none⟩ = some (.slice (some ⟨b1, off1, none⟩) n c1) ∧ w.cell? ⟨b1, off1 + x, none⟩ = some (.int .i64 ((rows.getD y []).getD x 0)) ∧ (x + 1 < n → w.cell? ⟨b1, off1 + (x + 1), none⟩ = some (.int .i64 ((rows.getD y []).getD (x + 1) 0))) := by
  subst eR hn
  obtain ⟨A1, c1, hc, hr⟩ := hM.pair y hy
  obtain ⟨b1, off1, rfl, _, h1⟩ := hr.int x hx
  refine ⟨b1, off1, c1, hc, ?_, fun hx1 => ?_⟩
  · rw [h1]; simp [hy, hx]
  · obtain ⟨b2, off2, e2, _, h2⟩ := hr.int (x + 1) hx1
    injection e2 with e2
    injection e2 with e3 e4
    subst e3 e4
    rw [h2]; simp [hy, hx1]
set_option maxRecDepth 100000 in
set_option maxHeartbeats 1000000 in
theorem implShrinkRows_c (c : Int) (ts : List T4) (A : Option Addr) (cx : Nat) (L : List (List Int)) (B : Option Addr) (cr : Nat) (rows : List (List Int)) (R : Option Addr) (cR : Nat) (w : World) (hT : TileCells w A ts) (hl : ts.length ≤ 1000000000) (hR : RowsC w B L) (hn : L.length ≤ 1000000000) (hS : Short 1000000000 L)
    (hM : RowsC w R rows) (hlm : rows.length ≤ 1000000000) (hsm : Short 1000000000 rows) :
    Calls Try.prog 12 #[.agg #[.int .i64 c, .slice A ts.length cx], .slice B L.length cr, .slice R rows.length cR] w (RetIIC3 w (shV c ts L rows) (shC c ts L rows)) := by
  have HC : Hid (∀ (wq : World) (hq : Below w.heap.size w wq) (b1 b2 : Nat) (h0 : wq.cell? ⟨b1, 0, none⟩ = some (.int .i64 c)) (h1 : wq.cell? ⟨b1, 1, none⟩ = some (.slice A ts.length cx)) (h2 : wq.cell? ⟨b2, 0, none⟩ = some (.slice R rows.length cR)),
      Calls Try.prog 25 #[.agg #[.int .i64 c, .slice A ts.length cx], .slice B L.length cr, .func (.func 37) #[] #[.pointer (some ⟨b1, 0, none⟩), .pointer (some ⟨b2, 0, none⟩)]] wq fun e w' => e = .returned (.int .i64 (grBase c ts L rows)) ∧ Below wq.heap.size wq w') :=
    fun wq hq b1 b2 h0 h1 h2 => blocksCode_c c ts A cx L B cr 37 #[.pointer (some ⟨b1, 0, none⟩), .pointer (some ⟨b2, 0, none⟩)] (rowsB ts.length rows) wq (fun _ _ => rfl) (hT.below hq) hl (hR.below hq) hn hS
      (fun hs _ w1 hb => shrinkRows1_c c A ts.length cx rows R cR b1 b2 w1 ((hM.below hq).below hb) (by have := (isSetB_small hs).2; omega) hlm hsm (keepC h0 _ hb) (keepC h1 _ hb) (keepC h2 _ hb))
  have HBI := Lib.hid (fun (blk : List Int) (Bq : Option Addr) (cq : Nat) (wq : World) (hq : Below w.heap.size w wq) (hy : Cells wq Bq (ints blk)) (hb : blk.length ≤ 1000000000) => blockIndex_c L blk B Bq cr cq wq (hR.below hq) hy hn hS hb)
  have H0 := Lib.hid (sh_base (c := c) (ts := ts) (L := L) (rows := rows))
  have H4 := Lib.hid (sh_none (c := c) (ts := ts) (L := L) (rows := rows))
  have HA := Lib.hid (sh_all (c := c) (ts := ts) (L := L) (rows := rows))
  have HOK := Lib.hid (grBase_ok (c := c) (ts := ts) (L := L) (rows := rows))
  have HM := Lib.hid hM
  clear hT hR hS hsm hM
  generalize grBase c ts L rows = d at *
  by_cases h0 : d = 0
  · subst h0
    obtain ⟨⟨_, h16⟩, hB, hTab, hI⟩ := HOK.out rfl
    have h00 : 0 < rows.length := hTab.1.1
    have r8 := hTab.1.2
    obtain ⟨b, off, A0, c0, eR, hlt, f0, -⟩ := HM.out 0 h00
    rw [Nat.add_zero, ← len0_eq h00] at f0
    have F0 := Lib.hid (keepC f0)
    have ER := Lib.hid eR
    clear eR
    have m8 : len0 rows ≤ 8 := by have := (hTab.2 0 h00).2.2; rw [len0_eq h00]; exact this
    have HLen : Hid (∀ k (h : k < rows.length), rows[k].length = len0 rows) := fun k h => (hTab.2 k h).1
    clear f0 hTab hI HOK
    by_cases p1 : rows.length % 2 = 1
    · have e1 : (rows.length : Int).tmod 2 = 1 := by rw [Int.tmod_eq_emod_of_nonneg (by omega)]; omega
      have HF := Lib.hid (H4.out rfl (fun h => by have := h.1; simp [shOdd, p1] at this))
      clear p1
      generalize len0 rows = m at *
      go_enter Try.func12, Try.ntmps12
      go_wp2_with fail
      refine (HC.out _ (by (repeat (first | (with_reducible exact Below.refl _ _) | (with_reducible assumption) | (with_reducible refine below_al ?_) | (with_reducible refine below_dr ?_) | (with_reducible refine below_drN ?_) | (with_reducible refine below_set ?_ (by first | exact Nat.le_refl _ | (dsimp only; omega) | omega)) | (with_reducible refine below_tr (by with_reducible assumption) ?_)))) _ _ ?_ ?_ ?_).mono ?_
      · (repeat (first | (exact cell_al _ _ _ _ _ _ (by simp) rfl) | (refine cell_alloc_old _ _ _ _ _ ?_)))
      · (repeat (first | (exact cell_al _ _ _ _ _ _ (by simp) rfl) | (refine cell_alloc_old _ _ _ _ _ ?_)))
      · (repeat (first | (exact cell_al _ _ _ _ _ _ (by simp) rfl) | (refine cell_alloc_old _ _ _ _ _ ?_)))
      rintro e w1 ⟨rfl, hb1⟩
      have Hw1 : Hid (Below w.heap.size w w1) := by (show Below _ _ _); (repeat (first | (with_reducible exact Below.refl _ _) | (with_reducible assumption) | (with_reducible refine below_al ?_) | (with_reducible refine below_dr ?_) | (with_reducible refine below_drN ?_) | (with_reducible refine below_set ?_ (by first | exact Nat.le_refl _ | (dsimp only; omega) | omega)) | (with_reducible refine below_tr (by with_reducible assumption) ?_)))
      have x5 : w1.cell? ⟨w.heap.size + 1, 0, none⟩ = some (.slice R rows.length cR) := by
        rw [(bcell hb1).1 _ _ (by simp)]
        (repeat (first | (exact cell_al _ _ _ _ _ _ (by simp) rfl) | (refine cell_alloc_old _ _ _ _ _ ?_)))
      have hN5 : w.heap.size + 1 < w1.heap.size := by have := hb1.size; simp at this; omega
      clear hb1
      obtain rfl := ER.out
      go_wp2
      go_ret2
      exact ⟨_, by first | rfl | exact ret_vcJ HF.out.1.symm, by rw [HF.out.2]; exact OwnII.nil _ _, Hw1.out⟩
    · have e1 : (rows.length : Int).tmod 2 = 0 := by rw [Int.tmod_eq_emod_of_nonneg (by omega)]; omega
      by_cases p2 : len0 rows % 2 = 1
      · have e2 : (len0 rows : Int).tmod 2 = 1 := by rw [Int.tmod_eq_emod_of_nonneg (by omega)]; omega
        have HF := Lib.hid (H4.out rfl (fun h => by have := h.1; simp [shOdd, p2] at this))
        clear p1 p2
        generalize len0 rows = m at *
        go_enter Try.func12, Try.ntmps12
        go_wp2_with fail
        refine (HC.out _ (by (repeat (first | (with_reducible exact Below.refl _ _) | (with_reducible assumption) | (with_reducible refine below_al ?_) | (with_reducible refine below_dr ?_) | (with_reducible refine below_drN ?_) | (with_reducible refine below_set ?_ (by first | exact Nat.le_refl _ | (dsimp only; omega) | omega)) | (with_reducible refine below_tr (by with_reducible assumption) ?_)))) _ _ ?_ ?_ ?_).mono ?_
        · (repeat (first | (exact cell_al _ _ _ _ _ _ (by simp) rfl) | (refine cell_alloc_old _ _ _ _ _ ?_)))
        · (repeat (first | (exact cell_al _ _ _ _ _ _ (by simp) rfl) | (refine cell_alloc_old _ _ _ _ _ ?_)))
        · (repeat (first | (exact cell_al _ _ _ _ _ _ (by simp) rfl) | (refine cell_alloc_old _ _ _ _ _ ?_)))
        rintro e w1 ⟨rfl, hb1⟩
        have Hw1 : Hid (Below w.heap.size w w1) := by (show Below _ _ _); (repeat (first | (with_reducible exact Below.refl _ _) | (with_reducible assumption) | (with_reducible refine below_al ?_) | (with_reducible refine below_dr ?_) | (with_reducible refine below_drN ?_) | (with_reducible refine below_set ?_ (by first | exact Nat.le_refl _ | (dsimp only; omega) | omega)) | (with_reducible refine below_tr (by with_reducible assumption) ?_)))
        have x5 : w1.cell? ⟨w.heap.size + 1, 0, none⟩ = some (.slice R rows.length cR) := by
          rw [(bcell hb1).1 _ _ (by simp)]
          (repeat (first | (exact cell_al _ _ _ _ _ _ (by simp) rfl) | (refine cell_alloc_old _ _ _ _ _ ?_)))
        have hN5 : w.heap.size + 1 < w1.heap.size := by have := hb1.size; simp at this; omega
        clear hb1
        obtain rfl := ER.out
        have f0 := F0.out _ Hw1.out
        go_wp2
        go_ret2
        exact ⟨_, by first | rfl | exact ret_vcJ HF.out.1.symm, by rw [HF.out.2]; exact OwnII.nil _ _, Hw1.out⟩
      · have e2 : (len0 rows : Int).tmod 2 = 0 := by rw [Int.tmod_eq_emod_of_nonneg (by omega)]; omega
        have HFb : Hid (∀ j q, j < rows.length / 2 → q < len0 rows / 2 → shIdx L rows (2 * j) (2 * q) < 0 → shC c ts L rows = 4 ∧ shV c ts L rows = []) := fun j q hj hq h => H4.out rfl (fun x => by have := x.2 j hj q hq; omega)
        have HFg : Hid (ShAll L rows (rows.length / 2) (len0 rows / 2) → shC c ts L rows = 0 ∧ shV c ts L rows = shRows L rows (rows.length / 2) (len0 rows / 2)) := fun h => HA.out rfl ⟨by simp [shOdd, p1, p2], h⟩
        have hp1 : Hid (rows.length % 2 = 0) := by show _ = _; omega
        have hp2 : Hid (len0 rows % 2 = 0) := by show _ = _; omega
        clear p1 p2 H0 H4 HA
        generalize len0 rows = m at *
        go_enter Try.func12, Try.ntmps12
        go_wp2_with fail
        refine (HC.out _ (by (repeat (first | (with_reducible exact Below.refl _ _) | (with_reducible assumption) | (with_reducible refine below_al ?_) | (with_reducible refine below_dr ?_) | (with_reducible refine below_drN ?_) | (with_reducible refine below_set ?_ (by first | exact Nat.le_refl _ | (dsimp only; omega) | omega)) | (with_reducible refine below_tr (by with_reducible assumption) ?_)))) _ _ ?_ ?_ ?_).mono ?_
        · (repeat (first | (exact cell_al _ _ _ _ _ _ (by simp) rfl) | (refine cell_alloc_old _ _ _ _ _ ?_)))
        · (repeat (first | (exact cell_al _ _ _ _ _ _ (by simp) rfl) | (refine cell_alloc_old _ _ _ _ _ ?_)))
        · (repeat (first | (exact cell_al _ _ _ _ _ _ (by simp) rfl) | (refine cell_alloc_old _ _ _ _ _ ?_)))
        rintro e w1 ⟨rfl, hb1⟩
        have Hw1 : Hid (Below w.heap.size w w1) := by (show Below _ _ _); (repeat (first | (with_reducible exact Below.refl _ _) | (with_reducible assumption) | (with_reducible refine below_al ?_) | (with_reducible refine below_dr ?_) | (with_reducible refine below_drN ?_) | (with_reducible refine below_set ?_ (by first | exact Nat.le_refl _ | (dsimp only; omega) | omega)) | (with_reducible refine below_tr (by with_reducible assumption) ?_)))
        have x5 : w1.cell? ⟨w.heap.size + 1, 0, none⟩ = some (.slice R rows.length cR) := by
          rw [(bcell hb1).1 _ _ (by simp)]
          (repeat (first | (exact cell_al _ _ _ _ _ _ (by simp) rfl) | (refine cell_alloc_old _ _ _ _ _ ?_)))
        have hN5 : w.heap.size + 1 < w1.heap.size := by have := hb1.size; simp at this; omega
        clear hb1
        obtain rfl := ER.out
        have f0 := F0.out _ Hw1.out
        have X5 := Lib.hid (keepC x5)
        have F1 := Lib.hid (keepC f0)
        go_wp2_with fail
        clear x5 f0 e1 e2
        go_loopw [9, 10] (fun v yv wr => ∃ y : Nat, y ≤ rows.length ∧ yv = .int .i64 y ∧ Hid (y % 2 = 0) ∧ OwnII wr w1.heap.size v (shRows L rows (y / 2) (m / 2)) ∧ Hid (∀ j, j < y / 2 → ∀ q, q < m / 2 → 0 ≤ shIdx L rows (2 * j) (2 * q)) ∧ Below w1.heap.size w1 wr) (fun _ yv _ => rows.length - (intOf yv).toNat)
        case atStart => exact ⟨0, by omega, rfl, rfl, by simpa [shRows] using OwnII.empty rfl (Nat.le_refl _), fun j hj => by simp at hj, by (repeat (first | (with_reducible exact Below.refl _ _) | (with_reducible assumption) | (with_reducible refine below_al ?_) | (with_reducible refine below_dr ?_) | (with_reducible refine below_drN ?_) | (with_reducible refine below_set ?_ (by first | exact Nat.le_refl _ | (dsimp only; omega) | omega)) | (with_reducible refine below_tr (by with_reducible assumption) ?_)))⟩
        case round =>
          obtain ⟨y, hy, rfl, Hy, hO, Hall, hb⟩ := hrel
          obtain ⟨w0, rfl⟩ : ∃ w0, w0 = wr := ⟨wr, rfl⟩
          have HO := Lib.hid hO
          have Hb := Lib.hid hb
          have x5 := X5.out _ hb
          have hN6 : w.heap.size + 1 < w0.heap.size := by have := hb.size; omega
          clear hO hb
          by_cases hyl : y < rows.length
          · have hy1 : y + 1 < rows.length := by have h1 := Hy.out; have h2 := hp1.out; omega
            go_wp2_with fail
            clear x5
            go_loopw [11, 12] (fun v xv wz => ∃ x : Nat, x ≤ m ∧ xv = .int .i64 x ∧ Hid (x % 2 = 0) ∧ OwnI wz w0.heap.size v (shRow L rows y (x / 2)) ∧ Hid (∀ q, q < x / 2 → 0 ≤ shIdx L rows y (2 * q)) ∧ Below w0.heap.size w0 wz) (fun _ xv _ => m - (intOf xv).toNat)
            case atStart => exact ⟨0, by omega, rfl, rfl, OwnI.emptyAt rfl (Nat.le_refl _), fun q hq => by simp at hq, by (repeat (first | (with_reducible exact Below.refl _ _) | (with_reducible assumption) | (with_reducible refine below_al ?_) | (with_reducible refine below_dr ?_) | (with_reducible refine below_drN ?_) | (with_reducible refine below_set ?_ (by first | exact Nat.le_refl _ | (dsimp only; omega) | omega)) | (with_reducible refine below_tr (by with_reducible assumption) ?_)))⟩
            case round =>
              obtain ⟨x, hx, rfl, Hx, hO1, Hrow, hb2⟩ := hrel
              have HO1 := Lib.hid hO1
              have Hb2 := Lib.hid hb2
              have hb3 : Below w1.heap.size w1 wr := Hb.out.trans (hb2.mono Hb.out.size)
              have Hb3 := Lib.hid hb3
              have hbw : Below w.heap.size w wr := Hw1.out.trans (hb3.mono Hw1.out.size)
              have Hbw := Lib.hid hbw
              have x5 := X5.out _ hb3
              have f0 := F1.out _ hb3
              have hN7 : w.heap.size + 1 < wr.heap.size := by have := hb2.size; omega
              by_cases hxm : x < m
              · have hx1 : x + 1 < m := by have h1 := Hx.out; have h2 := hp2.out; omega
                obtain ⟨b1, off1, c1, a1, a2, a3⟩ := rows_cells (HM.out.below hbw) rfl hyl (HLen.out y hyl) hxm
                obtain ⟨b2, off2, c2, a4, a5, a6⟩ := rows_cells (HM.out.below hbw) rfl hy1 (HLen.out (y + 1) hy1) hxm
                have g1 := keepC a1
                have g2 := keepC a2
                obtain ⟨x1, hx1e⟩ : ∃ x1, x1 = x + 1 := ⟨_, rfl⟩
                obtain ⟨y1, hy1e⟩ : ∃ y1, y1 = y + 1 := ⟨_, rfl⟩
                have hx2 : x1 < m := by omega
                have hy2 : y1 < rows.length := by omega
                have g3 := keepC (a3 hx1)
                have g4 := keepC a4
                have g5 := keepC a5
                have g6 := keepC (a6 hx1)
                have g7 := keepC x5
                have ey : IntKind.i64.wrap ((y : Int) + 1) = (y1 : Int) := by rw [IntWalk.i64_in _ (by omega)]; omega
                have ex : IntKind.i64.wrap ((x : Int) + 1) = (x1 : Int) := by rw [IntWalk.i64_in _ (by omega)]; omega
                have HX : Hid (∀ (Bq : Option Addr) (cq : Nat) (wq : World) (hq : Below w.heap.size w wq) (hy : Cells wq Bq (ints (blkAt rows y x))), Calls Try.prog 33 #[.slice B L.length cr, .slice Bq 4 cq] wq fun e w' => e = .returned (.int .i64 (shIdx L rows y x)) ∧ Below wq.heap.size wq w') :=
                  fun Bq cq wq hq hy => HBI.out (blkAt rows y x) Bq cq wq hq hy (by simp [blkAt])
                have HCl : Hid (∀ wq : World, Cells (wq.alloc (.cells #[.int .i64 ((rows.getD y []).getD x 0), .int .i64 ((rows.getD y []).getD (x + 1) 0), .int .i64 ((rows.getD (y + 1) []).getD x 0), .int .i64 ((rows.getD (y + 1) []).getD (x + 1) 0)] 2)) (some ⟨wq.heap.size, 0, none⟩) (ints (blkAt rows y x))) := fun wq => Blk.cells (Blk.newA wq _ _)
                have HSu := Lib.hid (shRow_succ L rows y (x / 2))
                have hxx : 2 * (x / 2) = x := by have := Hx.out; omega
                have hyy : 2 * (y / 2) = y := by have := Hy.out; omega
                rw [hxx] at HSu
                have hxl : x / 2 < m / 2 := by have h2 := hp2.out; omega
                have HFb2 : Hid (shIdx L rows y x < 0 → shC c ts L rows = 4 ∧ shV c ts L rows = []) := fun h => HFb.out (y / 2) (x / 2) (by have := hp1.out; omega) hxl (by rw [hxx, hyy]; exact h)
                have HRow2 : Hid (0 ≤ shIdx L rows y x → ∀ q, q < x / 2 + 1 → 0 ≤ shIdx L rows y (2 * q)) := fun h q hq => by
                  by_cases e : q = x / 2
                  · rw [e, hxx]; exact h
                  · exact Hrow.out q (by omega)
                have hsl := shRow_len L rows y (x / 2)
                have hsl2 : (shRow L rows y (x / 2)).length ≤ 1000 := by rw [hsl]; omega
                generalize shIdx L rows y x = z at *
                generalize (rows.getD y []).getD x 0 = v0 at *
                generalize (rows.getD y []).getD (x + 1) 0 = v1 at *
                generalize (rows.getD (y + 1) []).getD x 0 = v2 at *
                generalize (rows.getD (y + 1) []).getD (x + 1) 0 = v3 at *
                rw [← hx1e] at g3 g6
                rw [← hy1e] at g4
                have HX1 := Lib.hid hx1
                clear a1 a2 a3 a4 a5 a6 hO1 hb2 hb3 hbw hsl hxx hyy hxl hx1e hy1e hx1
                by_cases hz : z < 0
                · have HF := Lib.hid (HFb2.out hz)
                  go_wp2_with fail
                  clear x5 f0
                  refine wp_region_mix [(0, true), (1, true), (2, true), (3, true), (4, true), (5, true), (6, true), (7, true), (8, true), (9, true), (10, true), (11, true), (12, true), (13, true), (14, true), (15, true), (16, true), (17, true), (18, true), (19, true), (20, true), (21, true), (22, true), (23, true), (24, true), (25, true), (26, true), (27, true), (28, true), (29, true), (30, true), (31, true), (32, true), (33, false), (34, false), (35, true)] (fun w' => Below (wr).heap.size (wr) w') (by kernel_rfl) (by kernel_rfl) (fun _ _ d _ _ h => by cases d <;> exact h) ((Below.refl _ _).drew) ?_
                  repeat (first
                    | (refine mix_skip rfl rfl (fun K' hK' => ?_); go_simp; refine hK' _ ?_; clear hK' K')
                    | (refine mix_do (v := ?_) rfl rfl (fun w1 hb => ?_) (fun K' hK' => ?_); rotate_left
                       · go_simp
                         rfl
                       go_simp; refine hK' _ ?_; clear hK' K'))
                  refine mix_call rfl rfl (fun K' hK' => ?_)
                  go_simp
                  refine hK' _ _ (below_al (Below.refl _ _).drew) ?_; clear hK' K'
                  refine mix_call rfl rfl (fun K' hK' => ?_)
                  go_simp
                  refine (HX.out _ _ _ (below_al Hbw.out.drew) (HCl.out _)).mono ?_
                  rintro e w5 ⟨rfl, hb5⟩
                  have Hb5 : Hid (Below wr.heap.size wr w5) := by (show Below _ _ _); exact (below_al (Below.refl _ _).drew).trans (hb5.mono (by simp))
                  refine hK' _ _ (Hb5.out) ?_; clear hK' K'
                  repeat (first
                    | (refine mix_skip rfl rfl (fun K' hK' => ?_); go_simp; refine hK' _ ?_; clear hK' K')
                    | (refine mix_do (v := ?_) rfl rfl (fun w1 hb => ?_) (fun K' hK' => ?_); rotate_left
                       · go_simp
                         rfl
                       go_simp; refine hK' _ ?_; clear hK' K'))
                  refine mix_nil ?_
                  clear hb5 g1 g2 g3 g4 g5 g6 g7
                  go_wp2
                  go_ret2
                  exact ⟨_, by first | rfl | exact ret_vcJ HF.out.1.symm, by rw [HF.out.2]; exact OwnII.nil _ _, Hbw.out.trans (Hb5.out.mono Hbw.out.size)⟩
                · have HF := Lib.hid (HRow2.out (by omega))
                  go_wp2_with fail
                  clear x5 f0
                  refine wp_region_mix [(0, true), (1, true), (2, true), (3, true), (4, true), (5, true), (6, true), (7, true), (8, true), (9, true), (10, true), (11, true), (12, true), (13, true), (14, true), (15, true), (16, true), (17, true), (18, true), (19, true), (20, true), (21, true), (22, true), (23, true), (24, true), (25, true), (26, true), (27, true), (28, true), (29, true), (30, true), (31, true), (32, true), (33, false), (34, false), (35, true)] (fun w' => Below (wr).heap.size (wr) w') (by kernel_rfl) (by kernel_rfl) (fun _ _ d _ _ h => by cases d <;> exact h) ((Below.refl _ _).drew) ?_
                  repeat (first
                    | (refine mix_skip rfl rfl (fun K' hK' => ?_); go_simp; refine hK' _ ?_; clear hK' K')
                    | (refine mix_do (v := ?_) rfl rfl (fun w1 hb => ?_) (fun K' hK' => ?_); rotate_left
                       · go_simp
                         rfl
                       go_simp; refine hK' _ ?_; clear hK' K'))
                  refine mix_call rfl rfl (fun K' hK' => ?_)
                  go_simp
                  refine hK' _ _ (below_al (Below.refl _ _).drew) ?_; clear hK' K'
                  refine mix_call rfl rfl (fun K' hK' => ?_)
                  go_simp
                  refine (HX.out _ _ _ (below_al Hbw.out.drew) (HCl.out _)).mono ?_
                  rintro e w5 ⟨rfl, hb5⟩
                  have Hb5 : Hid (Below wr.heap.size wr w5) := by (show Below _ _ _); exact (below_al (Below.refl _ _).drew).trans (hb5.mono (by simp))
                  refine hK' _ _ (Hb5.out) ?_; clear hK' K'
                  repeat (first
                    | (refine mix_skip rfl rfl (fun K' hK' => ?_); go_simp; refine hK' _ ?_; clear hK' K')
                    | (refine mix_do (v := ?_) rfl rfl (fun w1 hb => ?_) (fun K' hK' => ?_); rotate_left
                       · go_simp
                         rfl
                       go_simp; refine hK' _ ?_; clear hK' K'))
                  refine mix_nil ?_
                  clear hb5 g1 g2 g3 g4 g5 g6 g7
                  go_wp2_with (at_builtin; refine Hold.of ?_)
                  refine Hold.to ?_
                  refine wpl_app_int rfl (.tmp 86) (.tmp 88) rfl w0.heap.size _ _ z rfl ((HO1.out.below Hb5.out).alloc _) w5.heap.size 0 rfl (cell_alloc_at _ _ _ _ _ rfl) (by omega) (by have h1 := Hb2.out.size; have h2 := Hb5.out.size; simp; omega) (fun v' w' h1 h2 h3 => ?_)
                  rw [← HSu.out] at h1
                  have h4 := below_grown (below_al (Hb2.out.trans (Hb5.out.mono Hb2.out.size))) h2 ((HO1.out.below Hb5.out).alloc _) (Nat.le_refl _)
                  have HO2 := Lib.hid h1
                  have H4 := Lib.hid h4
                  clear h1 h2 h3 h4
                  go_wp2_with fail
                  go_roundw
                  case rel => exact ⟨x + 2, by have := HX1.out; omega, by go_num, by have := Hx.out; show (x + 2) % 2 = 0; omega, by rw [show (x + 2) / 2 = x / 2 + 1 by omega]; exact HO2.out, by rw [show (x + 2) / 2 = x / 2 + 1 by omega]; exact HF.out, H4.out⟩
                  case measure => simp [intOf]; omega
              · obtain rfl : x = m := by omega
                obtain ⟨A6, cx6, rfl, -, -⟩ := hO1.shape
                have HSu := Lib.hid (shRows_succ L rows (y / 2) (x / 2))
                have hyy : 2 * (y / 2) = y := by have := Hy.out; omega
                rw [hyy] at HSu
                have HAll2 : Hid (∀ j, j < y / 2 + 1 → ∀ q, q < x / 2 → 0 ≤ shIdx L rows (2 * j) (2 * q)) := fun j hj q hq => by
                  by_cases e : j = y / 2
                  · rw [e, hyy]; exact Hrow.out q hq
                  · exact Hall.out j (by omega) q hq
                have hsl : (shRows L rows (y / 2) (x / 2)).length ≤ 1000 := by rw [shRows_len]; omega
                clear hyy hO1 hb2 hb3 hbw
                go_wp2_with (at_builtin; refine Hold.of ?_)
                refine Hold.to ?_
                refine wpl_app_row (W0 := w0) rfl (.tmp 90) (.tmp 92) rfl w1.heap.size _ _ _ (shRow L rows y (x / 2)) rfl HO.out (below_al Hb2.out) (HO1.out.alloc _) wr.heap.size 0 rfl (cell_alloc_at _ _ _ _ _ rfl) (by omega) Hb.out.size (fun v' w' h1 h2 h3 => ?_)
                rw [← HSu.out] at h1
                have h4 : Below w1.heap.size w1 w' := Below.grown (below_al Hb3.out) h2 (by have := Hb3.out.size; simp; omega) h3
                have HO4 := Lib.hid h1
                have H4 := Lib.hid h4
                clear h1 h2 h3 h4 x5 f0
                go_wp2_with fail
                go_roundw
                case rel => exact ⟨y + 2, by omega, by go_num, by have := Hy.out; show (y + 2) % 2 = 0; omega, by rw [show (y + 2) / 2 = y / 2 + 1 by omega]; exact HO4.out, by rw [show (y + 2) / 2 = y / 2 + 1 by omega]; exact HAll2.out, H4.out⟩
                case measure => simp [intOf]; omega
          · obtain rfl : y = rows.length := by omega
            have HF := Lib.hid (HFg.out (fun j hj q hq => Hall.out j hj q hq))
            go_wp2
            go_ret2
            exact ⟨_, by first | rfl | exact ret_vcJ HF.out.1.symm, by rw [HF.out.2]; exact HO.out.weaken Hw1.out.size, Hw1.out.trans (Hb.out.mono Hw1.out.size)⟩
  · have HF := Lib.hid (H0.out h0)
    have hne : (d != 0) = true := by simpa using h0
    clear h0 HOK HM
    go_enter Try.func12, Try.ntmps12
    go_wp2_with fail
    refine (HC.out _ (by (repeat (first | (with_reducible exact Below.refl _ _) | (with_reducible assumption) | (with_reducible refine below_al ?_) | (with_reducible refine below_dr ?_) | (with_reducible refine below_drN ?_) | (with_reducible refine below_set ?_ (by first | exact Nat.le_refl _ | (dsimp only; omega) | omega)) | (with_reducible refine below_tr (by with_reducible assumption) ?_)))) _ _ ?_ ?_ ?_).mono ?_
    · (repeat (first | (exact cell_al _ _ _ _ _ _ (by simp) rfl) | (refine cell_alloc_old _ _ _ _ _ ?_)))
    · (repeat (first | (exact cell_al _ _ _ _ _ _ (by simp) rfl) | (refine cell_alloc_old _ _ _ _ _ ?_)))
    · (repeat (first | (exact cell_al _ _ _ _ _ _ (by simp) rfl) | (refine cell_alloc_old _ _ _ _ _ ?_)))
    rintro e w1 ⟨rfl, hb1⟩
    have Hw1 : Hid (Below w.heap.size w w1) := by (show Below _ _ _); (repeat (first | (with_reducible exact Below.refl _ _) | (with_reducible assumption) | (with_reducible refine below_al ?_) | (with_reducible refine below_dr ?_) | (with_reducible refine below_drN ?_) | (with_reducible refine below_set ?_ (by first | exact Nat.le_refl _ | (dsimp only; omega) | omega)) | (with_reducible refine below_tr (by with_reducible assumption) ?_)))
    have x5 : w1.cell? ⟨w.heap.size + 1, 0, none⟩ = some (.slice R rows.length cR) := by
      rw [(bcell hb1).1 _ _ (by simp)]
      (repeat (first | (exact cell_al _ _ _ _ _ _ (by simp) rfl) | (refine cell_alloc_old _ _ _ _ _ ?_)))
    have hN5 : w.heap.size + 1 < w1.heap.size := by have := hb1.size; simp at this; omega
    clear hb1
    go_wp2
    go_ret2
    exact ⟨_, by first | rfl | exact ret_vcJ HF.out.1.symm, by rw [HF.out.2]; exact OwnII.nil _ _, Hw1.out⟩

end Go.Proofs.Ytkgnejhflnekaaa
