/- Contracts and lemmas for the statements of this seat, written for this claim; each theorem states its own conditions. -/
import Derived.Test.YtkgnejhflnekaaaFrSh
set_option linter.unusedVariables false
set_option linter.unusedSimpArgs false
namespace Go.Proofs.Ytkgnejhflnekaaa
open Go.RowKit
def Suf (p : List Int → Bool) (L : List (List Int)) (k : Nat) (f : Int) : Prop :=
  (f = -1 ∧ ∀ j (h : j < L.length), k ≤ j → p L[j] = false) ∨ (∃ j, ∃ h : j < L.length, f = (j : Int) ∧ k ≤ j ∧ p L[j] = true ∧ ∀ q (hq : q < L.length), k ≤ q → q < j → p L[q] = false)
theorem Suf_start (p : List Int → Bool) (L : List (List Int)) : Suf p L L.length (-1) := .inl ⟨rfl, fun j h hj => by omega⟩
theorem Suf_hit {p : List Int → Bool} {L : List (List Int)} {j : Nat} {f : Int} (hj : j < L.length) (h : p L[j] = true) : Suf p L j (j : Int) := .inr ⟨j, hj, rfl, Nat.le_refl _, h, fun q _ h1 h2 => by omega⟩
theorem Suf_miss {p : List Int → Bool} {L : List (List Int)} {j : Nat} {f : Int} (hj : j < L.length) (h : p L[j] = false) (hs : Suf p L (j + 1) f) : Suf p L j f := by
  rcases hs with ⟨e, h1⟩ | ⟨i, hi, e, h1, h2, h3⟩
  · exact .inl ⟨e, fun q hq hjq => by
      by_cases e : q = j
      · subst e; exact h
      · exact h1 q hq (by omega)⟩
  · exact .inr ⟨i, hi, e, by omega, h2, fun q hq hjq hqi => by
      by_cases e : q = j
      · subst e; exact h
      · exact h3 q hq (by omega) hqi⟩
theorem Suf_end {p : List Int → Bool} {L : List (List Int)} {f : Int} (hs : Suf p L 0 f) : f = idxR p L := by
  rcases hs with ⟨e, h1⟩ | ⟨i, hi, e, h1, h2, h3⟩
  · rw [e, idxR_none (fun j h => h1 j h (by omega))]
  · rw [e, idxR_some hi (fun j h hj => h3 j h (by omega) hj) h2]
set_option maxRecDepth 100000 in
set_option maxHeartbeats 1000000 in
theorem specShrinkRows_c (c : Int) (ts : List T4) (A : Option Addr) (cx : Nat) (L : List (List Int)) (B : Option Addr) (cr : Nat) (rows : List (List Int)) (R : Option Addr) (cR : Nat) (w : World) (hT : TileCells w A ts) (hl : ts.length ≤ 1000000000) (hR : RowsC w B L) (hn : L.length ≤ 1000000000) (hS : Short 1000000000 L)
    (hM : RowsC w R rows) (hlm : rows.length ≤ 1000000000) (hsm : Short 1000000000 rows) :
    Calls Try.prog 18 #[.agg #[.int .i64 c, .slice A ts.length cx], .slice B L.length cr, .slice R rows.length cR] w (RetIIC3 w (shV c ts L rows) (shC c ts L rows)) := by
  have HC := Lib.hid (fun (wq : World) (hq : Below w.heap.size w wq) => l09Given_c c ts A cx L B cr rows R cR wq (hT.below hq) hl (hR.below hq) hn hS (hM.below hq) hlm hsm)
  have HRL := Lib.hid hR
  have H0 := Lib.hid (sh_base (c := c) (ts := ts) (L := L) (rows := rows))
  have H4 := Lib.hid (sh_none (c := c) (ts := ts) (L := L) (rows := rows))
  have HA := Lib.hid (sh_all (c := c) (ts := ts) (L := L) (rows := rows))
  have HOK := Lib.hid (grBase_ok (c := c) (ts := ts) (L := L) (rows := rows))
  have HM := Lib.hid hM
  clear hT hR hS hsm hM
  generalize grBase c ts L rows = d at *
  by_cases h0 : d = 0
  · subst h0
    obtain ⟨⟨_, h16⟩, hB, hTab, hI⟩ := HOK.out rfl
    have h00 : 0 < rows.length := hTab.1.1
    have r8 := hTab.1.2
    obtain ⟨b, off, A0, c0, eR, hlt, f0, -⟩ := HM.out 0 h00
    rw [Nat.add_zero, ← len0_eq h00] at f0
    have F0 := Lib.hid (keepC f0)
    have ER := Lib.hid eR
    clear eR
    have m8 : len0 rows ≤ 8 := by have := (hTab.2 0 h00).2.2; rw [len0_eq h00]; exact this
    have HLen : Hid (∀ k (h : k < rows.length), rows[k].length = len0 rows) := fun k h => (hTab.2 k h).1
    have HB4 : Hid (∀ k (h : k < L.length), L[k].length = 4) := fun k h => (hB.2 k h).1
    have hL16 : L.length ≤ 16 := by rw [hB.1]; exact h16
    clear f0 hTab hI HOK hB
    by_cases p1 : rows.length % 2 = 1
    · have e1 : (rows.length : Int).tmod 2 = 1 := by rw [Int.tmod_eq_emod_of_nonneg (by omega)]; omega
      have HF := Lib.hid (H4.out rfl (fun h => by have := h.1; simp [shOdd, p1] at this))
      clear p1
      generalize len0 rows = m at *
      go_enter Try.func18, Try.ntmps18
      go_wp2_with fail
      refine (HC.out _ (by (repeat (first | (with_reducible exact Below.refl _ _) | (with_reducible assumption) | (with_reducible refine below_al ?_) | (with_reducible refine below_dr ?_) | (with_reducible refine below_drN ?_) | (with_reducible refine below_set ?_ (by first | exact Nat.le_refl _ | (dsimp only; omega) | omega)) | (with_reducible refine below_tr (by with_reducible assumption) ?_))))).mono ?_
      rintro e w1 ⟨rfl, hb1⟩
      have Hw1 : Hid (Below w.heap.size w w1) := by (show Below _ _ _); (repeat (first | (with_reducible exact Below.refl _ _) | (with_reducible assumption) | (with_reducible refine below_al ?_) | (with_reducible refine below_dr ?_) | (with_reducible refine below_drN ?_) | (with_reducible refine below_set ?_ (by first | exact Nat.le_refl _ | (dsimp only; omega) | omega)) | (with_reducible refine below_tr (by with_reducible assumption) ?_)))
      clear hb1
      obtain rfl := ER.out
      go_wp2
      go_ret2
      exact ⟨_, by first | rfl | exact ret_vcJ HF.out.1.symm, by rw [HF.out.2]; exact OwnII.nil _ _, Hw1.out⟩
    · have e1 : (rows.length : Int).tmod 2 = 0 := by rw [Int.tmod_eq_emod_of_nonneg (by omega)]; omega
      by_cases p2 : len0 rows % 2 = 1
      · have e2 : (len0 rows : Int).tmod 2 = 1 := by rw [Int.tmod_eq_emod_of_nonneg (by omega)]; omega
        have HF := Lib.hid (H4.out rfl (fun h => by have := h.1; simp [shOdd, p2] at this))
        clear p1 p2
        generalize len0 rows = m at *
        go_enter Try.func18, Try.ntmps18
        go_wp2_with fail
        refine (HC.out _ (by (repeat (first | (with_reducible exact Below.refl _ _) | (with_reducible assumption) | (with_reducible refine below_al ?_) | (with_reducible refine below_dr ?_) | (with_reducible refine below_drN ?_) | (with_reducible refine below_set ?_ (by first | exact Nat.le_refl _ | (dsimp only; omega) | omega)) | (with_reducible refine below_tr (by with_reducible assumption) ?_))))).mono ?_
        rintro e w1 ⟨rfl, hb1⟩
        have Hw1 : Hid (Below w.heap.size w w1) := by (show Below _ _ _); (repeat (first | (with_reducible exact Below.refl _ _) | (with_reducible assumption) | (with_reducible refine below_al ?_) | (with_reducible refine below_dr ?_) | (with_reducible refine below_drN ?_) | (with_reducible refine below_set ?_ (by first | exact Nat.le_refl _ | (dsimp only; omega) | omega)) | (with_reducible refine below_tr (by with_reducible assumption) ?_)))
        clear hb1
        obtain rfl := ER.out
        have f0 := F0.out _ Hw1.out
        go_wp2
        go_ret2
        exact ⟨_, by first | rfl | exact ret_vcJ HF.out.1.symm, by rw [HF.out.2]; exact OwnII.nil _ _, Hw1.out⟩
      · have e2 : (len0 rows : Int).tmod 2 = 0 := by rw [Int.tmod_eq_emod_of_nonneg (by omega)]; omega
        have HFb : Hid (∀ j q, j < rows.length / 2 → q < len0 rows / 2 → shIdx L rows (2 * j) (2 * q) < 0 → shC c ts L rows = 4 ∧ shV c ts L rows = []) := fun j q hj hq h => H4.out rfl (fun x => by have := x.2 j hj q hq; omega)
        have HFg : Hid (ShAll L rows (rows.length / 2) (len0 rows / 2) → shC c ts L rows = 0 ∧ shV c ts L rows = shRows L rows (rows.length / 2) (len0 rows / 2)) := fun h => HA.out rfl ⟨by simp [shOdd, p1, p2], h⟩
        have hp1 : Hid (rows.length % 2 = 0) := by show _ = _; omega
        have hp2 : Hid (len0 rows % 2 = 0) := by show _ = _; omega
        clear p1 p2 H0 H4 HA
        generalize len0 rows = m at *
        go_enter Try.func18, Try.ntmps18
        go_wp2_with fail
        refine (HC.out _ (by (repeat (first | (with_reducible exact Below.refl _ _) | (with_reducible assumption) | (with_reducible refine below_al ?_) | (with_reducible refine below_dr ?_) | (with_reducible refine below_drN ?_) | (with_reducible refine below_set ?_ (by first | exact Nat.le_refl _ | (dsimp only; omega) | omega)) | (with_reducible refine below_tr (by with_reducible assumption) ?_))))).mono ?_
        rintro e w1 ⟨rfl, hb1⟩
        have Hw1 : Hid (Below w.heap.size w w1) := by (show Below _ _ _); (repeat (first | (with_reducible exact Below.refl _ _) | (with_reducible assumption) | (with_reducible refine below_al ?_) | (with_reducible refine below_dr ?_) | (with_reducible refine below_drN ?_) | (with_reducible refine below_set ?_ (by first | exact Nat.le_refl _ | (dsimp only; omega) | omega)) | (with_reducible refine below_tr (by with_reducible assumption) ?_)))
        clear hb1
        obtain rfl := ER.out
        have f0 := F0.out _ Hw1.out
        have F1 := Lib.hid (keepC f0)
        go_wp2_with fail
        clear f0 e1 e2
        go_loopw [9, 10] (fun v yv wr => ∃ y : Nat, y ≤ rows.length ∧ yv = .int .i64 y ∧ Hid (y % 2 = 0) ∧ OwnII wr w1.heap.size v (shRows L rows (y / 2) (m / 2)) ∧ Hid (∀ j, j < y / 2 → ∀ q, q < m / 2 → 0 ≤ shIdx L rows (2 * j) (2 * q)) ∧ Below w1.heap.size w1 wr) (fun _ yv _ => rows.length - (intOf yv).toNat)
        case atStart => exact ⟨0, by omega, rfl, rfl, by simpa [shRows] using OwnII.empty rfl (Nat.le_refl _), fun j hj => by simp at hj, by (repeat (first | (with_reducible exact Below.refl _ _) | (with_reducible assumption) | (with_reducible refine below_al ?_) | (with_reducible refine below_dr ?_) | (with_reducible refine below_drN ?_) | (with_reducible refine below_set ?_ (by first | exact Nat.le_refl _ | (dsimp only; omega) | omega)) | (with_reducible refine below_tr (by with_reducible assumption) ?_)))⟩
        case round =>
          obtain ⟨y, hy, rfl, Hy, hO, Hall, hb⟩ := hrel
          obtain ⟨w0, rfl⟩ : ∃ w0, w0 = wr := ⟨wr, rfl⟩
          have HO := Lib.hid hO
          have Hb := Lib.hid hb
          clear hO hb
          by_cases hyl : y < rows.length
          · have hy1 : y + 1 < rows.length := by have h1 := Hy.out; have h2 := hp1.out; omega
            go_wp2_with fail
            go_loopw [11, 12] (fun v xv wz => ∃ x : Nat, x ≤ m ∧ xv = .int .i64 x ∧ Hid (x % 2 = 0) ∧ OwnI wz w0.heap.size v (shRow L rows y (x / 2)) ∧ Hid (∀ q, q < x / 2 → 0 ≤ shIdx L rows y (2 * q)) ∧ Below w0.heap.size w0 wz) (fun _ xv _ => m - (intOf xv).toNat)
            case atStart => exact ⟨0, by omega, rfl, rfl, OwnI.emptyAt rfl (Nat.le_refl _), fun q hq => by simp at hq, by (repeat (first | (with_reducible exact Below.refl _ _) | (with_reducible assumption) | (with_reducible refine below_al ?_) | (with_reducible refine below_dr ?_) | (with_reducible refine below_drN ?_) | (with_reducible refine below_set ?_ (by first | exact Nat.le_refl _ | (dsimp only; omega) | omega)) | (with_reducible refine below_tr (by with_reducible assumption) ?_)))⟩
            case round =>
              obtain ⟨x, hx, rfl, Hx, hO1, Hrow, hb2⟩ := hrel
              have HO1 := Lib.hid hO1
              have Hb2 := Lib.hid hb2
              have hb3 : Below w1.heap.size w1 wr := Hb.out.trans (hb2.mono Hb.out.size)
              have Hb3 := Lib.hid hb3
              have hbw : Below w.heap.size w wr := Hw1.out.trans (hb3.mono Hw1.out.size)
              have Hbw := Lib.hid hbw
              have f0 := F1.out _ hb3
              by_cases hxm : x < m
              · have hx1 : x + 1 < m := by have h1 := Hx.out; have h2 := hp2.out; omega
                obtain ⟨b1, off1, c1, a1, a2, a3⟩ := rows_cells (HM.out.below hbw) rfl hyl (HLen.out y hyl) hxm
                obtain ⟨b2, off2, c2, a4, a5, a6⟩ := rows_cells (HM.out.below hbw) rfl hy1 (HLen.out (y + 1) hy1) hxm
                have g1 := keepC a1
                have g2 := keepC a2
                obtain ⟨x1, hx1e⟩ : ∃ x1, x1 = x + 1 := ⟨_, rfl⟩
                obtain ⟨y1, hy1e⟩ : ∃ y1, y1 = y + 1 := ⟨_, rfl⟩
                have hx2 : x1 < m := by omega
                have hy2 : y1 < rows.length := by omega
                have g3 := keepC (a3 hx1)
                have g4 := keepC a4
                have g5 := keepC a5
                have g6 := keepC (a6 hx1)
                have ey : IntKind.i64.wrap ((y : Int) + 1) = (y1 : Int) := by rw [IntWalk.i64_in _ (by omega)]; omega
                have ex : IntKind.i64.wrap ((x : Int) + 1) = (x1 : Int) := by rw [IntWalk.i64_in _ (by omega)]; omega
                have HX : Hid (∀ (f : Int), Suf (fun r => eqI r (blkAt rows y x)) L 0 f → f = shIdx L rows y x) := fun f h => Suf_end h
                have HEq : Hid (∀ (j : Nat) (hj : j < L.length) (A1 : Option Addr) (c1 : Nat) (Bq : Option Addr) (cq : Nat) (wq : World) (h1 : Cells wq A1 (ints (L[j]'hj))) (h2 : Cells wq Bq (ints (blkAt rows y x))), Calls Try.prog 44 #[.slice A1 (L[j]'hj).length c1, .slice Bq 4 cq] wq fun e w' => e = .returned (.bool (eqI (L[j]'hj) (blkAt rows y x))) ∧ Below wq.heap.size wq w') :=
                  fun j hj A1 c1 Bq cq wq h1 h2 => l09EqualL_c (L[j]'hj) (blkAt rows y x) A1 Bq c1 cq wq h1 h2 (HB4.out j hj) rfl
                have qL : IntKind.i64.wrap ((L.length : Int) - 1) = (L.length : Int) - 1 := IntWalk.i64_in _ (by omega)
                have HCl : Hid (∀ wq : World, Cells (wq.alloc (.cells #[.int .i64 ((rows.getD y []).getD x 0), .int .i64 ((rows.getD y []).getD (x + 1) 0), .int .i64 ((rows.getD (y + 1) []).getD x 0), .int .i64 ((rows.getD (y + 1) []).getD (x + 1) 0)] 2)) (some ⟨wq.heap.size, 0, none⟩) (ints (blkAt rows y x))) := fun wq => Blk.cells (Blk.newA wq _ _)
                have HSu := Lib.hid (shRow_succ L rows y (x / 2))
                have hxx : 2 * (x / 2) = x := by have := Hx.out; omega
                have hyy : 2 * (y / 2) = y := by have := Hy.out; omega
                rw [hxx] at HSu
                have hxl : x / 2 < m / 2 := by have h2 := hp2.out; omega
                have HFb2 : Hid (shIdx L rows y x < 0 → shC c ts L rows = 4 ∧ shV c ts L rows = []) := fun h => HFb.out (y / 2) (x / 2) (by have := hp1.out; omega) hxl (by rw [hxx, hyy]; exact h)
                have HRow2 : Hid (0 ≤ shIdx L rows y x → ∀ q, q < x / 2 + 1 → 0 ≤ shIdx L rows y (2 * q)) := fun h q hq => by
                  by_cases e : q = x / 2
                  · rw [e, hxx]; exact h
                  · exact Hrow.out q (by omega)
                have hsl := shRow_len L rows y (x / 2)
                have hsl2 : (shRow L rows y (x / 2)).length ≤ 1000 := by rw [hsl]; omega
                generalize shIdx L rows y x = z at *
                generalize (rows.getD y []).getD x 0 = v0 at *
                generalize (rows.getD y []).getD (x + 1) 0 = v1 at *
                generalize (rows.getD (y + 1) []).getD x 0 = v2 at *
                generalize (rows.getD (y + 1) []).getD (x + 1) 0 = v3 at *
                rw [← hx1e] at g3 g6
                rw [← hy1e] at g4
                have HX1 := Lib.hid hx1
                clear a1 a2 a3 a4 a5 a6 hO1 hb2 hb3 hbw hsl hxx hyy hxl hx1e hy1e hx1
                obtain ⟨wz, rfl⟩ : ∃ wz, wz = wr := ⟨wr, rfl⟩
                have HCl2 := Lib.hid (HCl.out wz.drew)
                generalize blkAt rows y x = bk at *
                clear HCl
                go_wp2_with fail
                clear f0
                refine wp_region_mix [(0, true), (1, true), (2, true), (3, true), (4, true), (5, true), (6, true), (7, true), (8, true), (9, true), (10, true), (11, true), (12, true), (13, true), (14, true), (15, true), (16, true), (17, true), (18, true), (19, true), (20, true), (21, true), (22, true), (23, true), (24, true), (25, true), (26, true), (27, true), (28, true), (29, true), (30, true), (31, true), (32, false), (33, true), (34, true)] (fun w' => Below (wz).heap.size (wz) w') (by kernel_rfl) (by kernel_rfl) (fun _ _ d _ _ h => by cases d <;> exact h) ((Below.refl _ _).drew) ?_
                repeat (first
                  | (refine mix_skip rfl rfl (fun K' hK' => ?_); go_simp; refine hK' _ ?_; clear hK' K')
                  | (refine mix_do (v := ?_) rfl rfl (fun w1 hb => ?_) (fun K' hK' => ?_); rotate_left
                     · go_simp
                       rfl
                     go_simp; refine hK' _ ?_; clear hK' K'))
                refine mix_call rfl rfl (fun K' hK' => ?_)
                go_simp
                refine hK' _ _ (below_al (Below.refl _ _).drew) ?_; clear hK' K'
                repeat (first
                  | (refine mix_skip rfl rfl (fun K' hK' => ?_); go_simp; refine hK' _ ?_; clear hK' K')
                  | (refine mix_do (v := ?_) rfl rfl (fun w1 hb => ?_) (fun K' hK' => ?_); rotate_left
                     · go_simp
                       rfl
                     go_simp; refine hK' _ ?_; clear hK' K'))
                refine mix_nil ?_
                clear g1 g2 g3 g4 g5 g6
                go_wp2_with fail
                clear qL
                go_loopw [14, 15] (fun fv iv wq => ∃ k : Nat, ∃ f : Int, k ≤ L.length ∧ iv = .int .i64 ((k : Int) - 1) ∧ fv = .int .i64 f ∧ Hid (Suf (fun r => eqI r bk) L k f) ∧ Below (wz.drew.alloc (.cells #[.int .i64 v0, .int .i64 v1, .int .i64 v2, .int .i64 v3] 2)).heap.size (wz.drew.alloc (.cells #[.int .i64 v0, .int .i64 v1, .int .i64 v2, .int .i64 v3] 2)) wq) (fun _ iv _ => (intOf iv + 1).toNat)
                case atStart => exact ⟨L.length, -1, Nat.le_refl _, rfl, rfl, Suf_start _ _, Below.refl _ _⟩
                case round =>
                  obtain ⟨k, f, hk, rfl, rfl, HSf, hb6⟩ := hrel
                  have Hb5 : Hid (Below wz.heap.size wz wr) := (below_al (Below.refl wz.heap.size wz).drew).trans (hb6.mono (by simp))
                  have Hb6 := Lib.hid hb6
                  clear hb6
                  by_cases hk0 : k = 0
                  · subst hk0
                    rw [show (((0 : Nat) : Int) - 1) = -1 from rfl]
                    have hf := HX.out f HSf.out
                    rw [← hf] at HFb2 HRow2 HSu
                    clear hf
                    by_cases hz : f < 0
                    · have HF := Lib.hid (HFb2.out hz)
                      go_wp2
                      go_ret2
                      exact ⟨_, by first | rfl | exact ret_vcJ HF.out.1.symm, by rw [HF.out.2]; exact OwnII.nil _ _, Hbw.out.trans (Hb5.out.mono Hbw.out.size)⟩
                    · have HF := Lib.hid (HRow2.out (by omega))
                      go_wp2_with (at_builtin; refine Hold.of ?_)
                      refine Hold.to ?_
                      refine wpl_app_int rfl (.tmp 100) (.tmp 102) rfl w0.heap.size _ _ f rfl ((HO1.out.below Hb5.out).alloc _) wr.heap.size 0 rfl (cell_alloc_at _ _ _ _ _ rfl) (by omega) (by have h1 := Hb2.out.size; have h2 := Hb5.out.size; simp; omega) (fun v' w' h1 h2 h3 => ?_)
                      rw [← HSu.out] at h1
                      have h4 := below_grown (below_al (Hb2.out.trans (Hb5.out.mono Hb2.out.size))) h2 ((HO1.out.below Hb5.out).alloc _) (Nat.le_refl _)
                      have HO2 := Lib.hid h1
                      have H4 := Lib.hid h4
                      clear h1 h2 h3 h4
                      go_wp2_with fail
                      go_roundw
                      case rel => exact ⟨x + 2, by have := HX1.out; omega, by go_num, by have := Hx.out; show (x + 2) % 2 = 0; omega, by rw [show (x + 2) / 2 = x / 2 + 1 by omega]; exact HO2.out, by rw [show (x + 2) / 2 = x / 2 + 1 by omega]; exact HF.out, H4.out⟩
                      case measure => simp [intOf]; omega
                  · obtain ⟨j, rfl⟩ : ∃ j, k = j + 1 := ⟨k - 1, by omega⟩
                    have hj : j < L.length := by omega
                    rw [show (((j + 1 : Nat) : Int) - 1) = (j : Int) by omega]
                    have qj : IntKind.i64.wrap ((j : Int) - 1) = (j : Int) - 1 := IntWalk.i64_in _ (by omega)
                    obtain ⟨b6, off6, A6, c6, e6, -, r6, r7⟩ := (HRL.out.below (Hbw.out.trans (Hb5.out.mono Hbw.out.size))) j hj
                    have HEj := Lib.hid (HEq.out j hj A6 c6 (some ⟨wz.heap.size, 0, none⟩) 4 wr r7 (HCl2.out.below Hb6.out))
                    have HHit := Lib.hid (fun h => Suf_hit (p := fun r => eqI r bk) (f := f) hj h)
                    have HMiss := Lib.hid (fun h => Suf_miss (p := fun r => eqI r bk) (f := f) hj h HSf.out)
                    obtain rfl := e6
                    clear r7
                    cases hq : eqI L[j] bk
                    · have HF := Lib.hid (HMiss.out hq)
                      rw [hq] at HEj
                      clear hq
                      go_wp2_with fail
                      refine HEj.out.mono ?_
                      rintro e w6 ⟨rfl, hb8⟩
                      have Hb8 := Lib.hid hb8
                      clear hb8 r6
                      go_wp2_with fail
                      go_roundw
                      case rel => exact ⟨j, f, by omega, by go_num, rfl, HF.out, Hb6.out.trans (Hb8.out.mono Hb6.out.size)⟩
                      case measure => simp [intOf] <;> omega
                    · have HF := Lib.hid (HHit.out hq)
                      rw [hq] at HEj
                      clear hq
                      go_wp2_with fail
                      refine HEj.out.mono ?_
                      rintro e w6 ⟨rfl, hb8⟩
                      have Hb8 := Lib.hid hb8
                      clear hb8 r6
                      go_wp2_with fail
                      go_roundw
                      case rel => exact ⟨j, (j : Int), by omega, by go_num, rfl, HF.out, Hb6.out.trans (Hb8.out.mono Hb6.out.size)⟩
                      case measure => simp [intOf] <;> omega
              · obtain rfl : x = m := by omega
                obtain ⟨A6, cx6, rfl, -, -⟩ := hO1.shape
                have HSu := Lib.hid (shRows_succ L rows (y / 2) (x / 2))
                have hyy : 2 * (y / 2) = y := by have := Hy.out; omega
                rw [hyy] at HSu
                have HAll2 : Hid (∀ j, j < y / 2 + 1 → ∀ q, q < x / 2 → 0 ≤ shIdx L rows (2 * j) (2 * q)) := fun j hj q hq => by
                  by_cases e : j = y / 2
                  · rw [e, hyy]; exact Hrow.out q hq
                  · exact Hall.out j (by omega) q hq
                have hsl : (shRows L rows (y / 2) (x / 2)).length ≤ 1000 := by rw [shRows_len]; omega
                clear hyy hO1 hb2 hb3 hbw
                go_wp2_with (at_builtin; refine Hold.of ?_)
                refine Hold.to ?_
                refine wpl_app_row (W0 := w0) rfl (.tmp 104) (.tmp 106) rfl w1.heap.size _ _ _ (shRow L rows y (x / 2)) rfl HO.out (below_al Hb2.out) (HO1.out.alloc _) wr.heap.size 0 rfl (cell_alloc_at _ _ _ _ _ rfl) (by omega) Hb.out.size (fun v' w' h1 h2 h3 => ?_)
                rw [← HSu.out] at h1
                have h4 : Below w1.heap.size w1 w' := Below.grown (below_al Hb3.out) h2 (by have := Hb3.out.size; simp; omega) h3
                have HO4 := Lib.hid h1
                have H4 := Lib.hid h4
                clear h1 h2 h3 h4 f0
                go_wp2_with fail
                go_roundw
                case rel => exact ⟨y + 2, by omega, by go_num, by have := Hy.out; show (y + 2) % 2 = 0; omega, by rw [show (y + 2) / 2 = y / 2 + 1 by omega]; exact HO4.out, by rw [show (y + 2) / 2 = y / 2 + 1 by omega]; exact HAll2.out, H4.out⟩
                case measure => simp [intOf]; omega
          · obtain rfl : y = rows.length := by omega
            have HF := Lib.hid (HFg.out (fun j hj q hq => Hall.out j hj q hq))
            go_wp2
            go_ret2
            exact ⟨_, by first | rfl | exact ret_vcJ HF.out.1.symm, by rw [HF.out.2]; exact HO.out.weaken Hw1.out.size, Hw1.out.trans (Hb.out.mono Hw1.out.size)⟩
  · have HF := Lib.hid (H0.out h0)
    have hne : (d != 0) = true := by simpa using h0
    clear h0 HOK HM
    go_enter Try.func18, Try.ntmps18
    go_wp2_with fail
    refine (HC.out _ (by (repeat (first | (with_reducible exact Below.refl _ _) | (with_reducible assumption) | (with_reducible refine below_al ?_) | (with_reducible refine below_dr ?_) | (with_reducible refine below_drN ?_) | (with_reducible refine below_set ?_ (by first | exact Nat.le_refl _ | (dsimp only; omega) | omega)) | (with_reducible refine below_tr (by with_reducible assumption) ?_))))).mono ?_
    rintro e w1 ⟨rfl, hb1⟩
    have Hw1 : Hid (Below w.heap.size w w1) := by (show Below _ _ _); (repeat (first | (with_reducible exact Below.refl _ _) | (with_reducible assumption) | (with_reducible refine below_al ?_) | (with_reducible refine below_dr ?_) | (with_reducible refine below_drN ?_) | (with_reducible refine below_set ?_ (by first | exact Nat.le_refl _ | (dsimp only; omega) | omega)) | (with_reducible refine below_tr (by with_reducible assumption) ?_)))
    clear hb1
    go_wp2
    go_ret2
    exact ⟨_, by first | rfl | exact ret_vcJ HF.out.1.symm, by rw [HF.out.2]; exact OwnII.nil _ _, Hw1.out⟩

end Go.Proofs.Ytkgnejhflnekaaa
