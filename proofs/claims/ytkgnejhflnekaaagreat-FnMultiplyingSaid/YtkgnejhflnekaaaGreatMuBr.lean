/- Contracts and lemmas for the statements of this seat, written for this claim; each theorem states its own conditions. -/
import Derived.Deep.RegionHeld3
import Derived.Test.YtkgnejhflnekaaaGreatMuRw
import Derived.Test.YtkgnejhflnekaaaGreatMuSe
import Derived.Test.YtkgnejhflnekaaaGreatMuB
set_option linter.unusedVariables false
set_option linter.unusedSimpArgs false
namespace Go.Proofs.YtkgnejhflnekaaaGreat
open Go.RowKit
set_option maxRecDepth 100000 in
set_option maxHeartbeats 1000000 in
theorem balanceOfRow1_c (c : Int) (ts : List T4) (A : Option Addr) (cx : Nat) (row : List Int) (B : Option Addr) (cr : Nat) (p q : Int) (b1 b2 b3 b4 : Nat) (w : World) (hT : TileCells w A ts) (hR : Cells w B (ints row)) (hl : ts.length ≤ 1000000) (hn : row.length ≤ 1000000000)
    (f0 : w.cell? ⟨b1, 0, none⟩ = some (.int .i64 c)) (f1 : w.cell? ⟨b1, 1, none⟩ = some (.slice A ts.length cx)) (f2 : w.cell? ⟨b2, 0, none⟩ = some (.slice B row.length cr)) (f3 : w.cell? ⟨b3, 0, none⟩ = some (.int .i64 p)) (f4 : w.cell? ⟨b4, 0, none⟩ = some (.int .i64 q)) :
    Calls Tryz.prog 133 #[.pointer (some ⟨b1, 0, none⟩), .pointer (some ⟨b2, 0, none⟩), .pointer (some ⟨b3, 0, none⟩), .pointer (some ⟨b4, 0, none⟩)] w fun e w' => e = .returned (.bool (isRowB ts row && fiveB p q)) ∧ Below w.heap.size w w' := by
  have HR := Lib.hid (isRow_c c ts A cx row B cr w hT hR hl hn)
  have HF := Lib.hid (fun w => areFive_c p q w)
  have g3 := keepC f3
  have g4 := keepC f4
  have G3 := Lib.hid g3
  have G4 := Lib.hid g4
  clear g3 g4 hT hR
  generalize isRowB ts row = r at *
  generalize fiveB p q = s at *
  cases r
  · go_enter Tryz.func133, Tryz.ntmps133
    go_wp2_with fail
    refine HR.out.mono ?_
    rintro e w1 ⟨rfl, hb1⟩
    clear f3 f4
    go_wp2
    go_ret
    exact ⟨rfl, by (repeat (first | (with_reducible exact Below.refl _ _) | (with_reducible assumption) | (with_reducible refine below_al ?_) | (with_reducible refine below_dr ?_) | (with_reducible refine below_drN ?_) | (with_reducible refine below_set ?_ (by first | exact Nat.le_refl _ | (dsimp only; omega) | omega)) | (with_reducible refine below_tr (by with_reducible assumption) ?_)))⟩
  · go_enter Tryz.func133, Tryz.ntmps133
    go_wp2_with fail
    refine HR.out.mono ?_
    rintro e w1 ⟨rfl, hb1⟩
    have f3 := G3.out _ hb1
    have f4 := G4.out _ hb1
    go_wp2_with fail
    refine (HF.out _).mono ?_
    rintro e w2 ⟨rfl, rfl⟩
    go_wp2
    go_ret
    exact ⟨by first | rfl | simp, by (repeat (first | (with_reducible exact Below.refl _ _) | (with_reducible assumption) | (with_reducible refine below_al ?_) | (with_reducible refine below_dr ?_) | (with_reducible refine below_drN ?_) | (with_reducible refine below_set ?_ (by first | exact Nat.le_refl _ | (dsimp only; omega) | omega)) | (with_reducible refine below_tr (by with_reducible assumption) ?_)))⟩
def balRowV (c : Int) (ts : List T4) (row : List Int) (p q : Int) : Int := if (isSetB c ts && (isRowB ts row && fiveB p q)) = true then balV ts row p q else 0
theorem ret_ii {a b : Int} {c d : Int} (h : a = b) (h' : c = d) : Ending.returned (.tuple #[.int .i64 a, .int .i64 c]) = .returned (.tuple #[.int .i64 b, .int .i64 d]) := by rw [h, h']
set_option maxRecDepth 100000 in
set_option maxHeartbeats 1000000 in
theorem implBalanceOfRow_c (c : Int) (ts : List T4) (A : Option Addr) (cx : Nat) (row : List Int) (B : Option Addr) (cr : Nat) (p q : Int) (w : World) (hT : TileCells w A ts) (hR : Cells w B (ints row)) (hl : ts.length ≤ 1000000000) (hn : row.length ≤ 1000000000) :
    Calls Tryz.prog 51 #[.agg #[.int .i64 c, .slice A ts.length cx], .slice B row.length cr, .int .i64 p, .int .i64 q] w fun e w' => e = .returned (.tuple #[.int .i64 (balRowV c ts row p q), .int .i64 (codeB (isSetB c ts) (isRowB ts row && fiveB p q))]) ∧ Below w.heap.size w w' := by
  have HC := Lib.hid (fun (w : World) (b1 b2 b3 b4 : Nat) (h : TileCells w A ts) (h' : Cells w B (ints row)) h0 h1 h2 h3 h4 => setCode_c c ts A cx 133 #[.pointer (some ⟨b1, 0, none⟩), .pointer (some ⟨b2, 0, none⟩), .pointer (some ⟨b3, 0, none⟩), .pointer (some ⟨b4, 0, none⟩)] (isRowB ts row && fiveB p q) w (fun _ _ => rfl) h hl
    (fun hs w1 hb => balanceOfRow1_c c ts A cx row B cr p q b1 b2 b3 b4 w1 (h.below hb) (h'.below hb) (by have := (isSetB_small hs).2; omega) hn (keepC h0 _ hb) (keepC h1 _ hb) (keepC h2 _ hb) (keepC h3 _ hb) (keepC h4 _ hb)))
  have HS := Lib.hid (isSetB_small (c := c) (ts := ts))
  have HW := Lib.hid (isRowB_in (ts := ts) (row := row))
  have HF := Lib.hid (fiveB_iff (p := p) (q := q)).1
  have HB := Lib.hid (fun hl hS a0 a1 a2 a b d e w h h' => balance_c c ts A cx row B cr p q w h h' hl hS a0 a1 a2 a b d e)
  have HV : Hid (balRowV c ts row p q = if (isSetB c ts && (isRowB ts row && fiveB p q)) = true then balV ts row p q else 0) := rfl
  have HT := Lib.hid hT
  have HRw := Lib.hid hR
  clear hT hR
  generalize isSetB c ts = s at *
  generalize isRowB ts row = r at *
  generalize fiveB p q = f at *
  cases s
  · have HR := Lib.hid HV.out
    go_enter Tryz.func51, Tryz.ntmps51
    go_wp2_with fail
    refine (HC.out _ _ _ _ _ (HT.out.below (by (repeat (first | (with_reducible exact Below.refl _ _) | (with_reducible assumption) | (with_reducible refine below_al ?_) | (with_reducible refine below_dr ?_) | (with_reducible refine below_drN ?_) | (with_reducible refine below_set ?_ (by first | exact Nat.le_refl _ | (dsimp only; omega) | omega)) | (with_reducible refine below_tr (by with_reducible assumption) ?_))))) (HRw.out.below (by (repeat (first | (with_reducible exact Below.refl _ _) | (with_reducible assumption) | (with_reducible refine below_al ?_) | (with_reducible refine below_dr ?_) | (with_reducible refine below_drN ?_) | (with_reducible refine below_set ?_ (by first | exact Nat.le_refl _ | (dsimp only; omega) | omega)) | (with_reducible refine below_tr (by with_reducible assumption) ?_))))) ?_ ?_ ?_ ?_ ?_).mono ?_
    · (repeat (first | (exact cell_al _ _ _ _ _ _ (by simp) rfl) | (refine cell_alloc_old _ _ _ _ _ ?_)))
    · (repeat (first | (exact cell_al _ _ _ _ _ _ (by simp) rfl) | (refine cell_alloc_old _ _ _ _ _ ?_)))
    · (repeat (first | (exact cell_al _ _ _ _ _ _ (by simp) rfl) | (refine cell_alloc_old _ _ _ _ _ ?_)))
    · (repeat (first | (exact cell_al _ _ _ _ _ _ (by simp) rfl) | (refine cell_alloc_old _ _ _ _ _ ?_)))
    · (repeat (first | (exact cell_al _ _ _ _ _ _ (by simp) rfl) | (refine cell_alloc_old _ _ _ _ _ ?_)))
    rintro e w1 ⟨rfl, hb1⟩
    have Hw1 : Hid (Below w.heap.size w w1) := by (show Below _ _ _); (repeat (first | (with_reducible exact Below.refl _ _) | (with_reducible assumption) | (with_reducible refine below_al ?_) | (with_reducible refine below_dr ?_) | (with_reducible refine below_drN ?_) | (with_reducible refine below_set ?_ (by first | exact Nat.le_refl _ | (dsimp only; omega) | omega)) | (with_reducible refine below_tr (by with_reducible assumption) ?_)))
    obtain ⟨hc1, hf1⟩ := bcell hb1
    clear hb1
    go_wp2
    go_ret2
    exact ⟨ret_ii HR.out.symm rfl, Hw1.out⟩
  · cases hrf : (r && f)
    · have HR := Lib.hid HV.out
      rw [hrf] at HC HR
      go_enter Tryz.func51, Tryz.ntmps51
      go_wp2_with fail
      refine (HC.out _ _ _ _ _ (HT.out.below (by (repeat (first | (with_reducible exact Below.refl _ _) | (with_reducible assumption) | (with_reducible refine below_al ?_) | (with_reducible refine below_dr ?_) | (with_reducible refine below_drN ?_) | (with_reducible refine below_set ?_ (by first | exact Nat.le_refl _ | (dsimp only; omega) | omega)) | (with_reducible refine below_tr (by with_reducible assumption) ?_))))) (HRw.out.below (by (repeat (first | (with_reducible exact Below.refl _ _) | (with_reducible assumption) | (with_reducible refine below_al ?_) | (with_reducible refine below_dr ?_) | (with_reducible refine below_drN ?_) | (with_reducible refine below_set ?_ (by first | exact Nat.le_refl _ | (dsimp only; omega) | omega)) | (with_reducible refine below_tr (by with_reducible assumption) ?_))))) ?_ ?_ ?_ ?_ ?_).mono ?_
      · (repeat (first | (exact cell_al _ _ _ _ _ _ (by simp) rfl) | (refine cell_alloc_old _ _ _ _ _ ?_)))
      · (repeat (first | (exact cell_al _ _ _ _ _ _ (by simp) rfl) | (refine cell_alloc_old _ _ _ _ _ ?_)))
      · (repeat (first | (exact cell_al _ _ _ _ _ _ (by simp) rfl) | (refine cell_alloc_old _ _ _ _ _ ?_)))
      · (repeat (first | (exact cell_al _ _ _ _ _ _ (by simp) rfl) | (refine cell_alloc_old _ _ _ _ _ ?_)))
      · (repeat (first | (exact cell_al _ _ _ _ _ _ (by simp) rfl) | (refine cell_alloc_old _ _ _ _ _ ?_)))
      rintro e w1 ⟨rfl, hb1⟩
      have Hw1 : Hid (Below w.heap.size w w1) := by (show Below _ _ _); (repeat (first | (with_reducible exact Below.refl _ _) | (with_reducible assumption) | (with_reducible refine below_al ?_) | (with_reducible refine below_dr ?_) | (with_reducible refine below_drN ?_) | (with_reducible refine below_set ?_ (by first | exact Nat.le_refl _ | (dsimp only; omega) | omega)) | (with_reducible refine below_tr (by with_reducible assumption) ?_)))
      obtain ⟨hc1, hf1⟩ := bcell hb1
      clear hb1
      go_wp2
      go_ret2
      exact ⟨ret_ii HR.out.symm rfl, Hw1.out⟩
    · have HR := Lib.hid HV.out
      rw [hrf] at HC HR
      simp only [Bool.and_eq_true] at hrf
      obtain ⟨rfl, rfl⟩ := hrf
      obtain ⟨⟨a1, a2⟩, a3, a4⟩ := HF.out rfl
      obtain ⟨r1, r2, r3⟩ := HW.out rfl
      have HB2 := Lib.hid (HB.out (by have := (HS.out rfl).2; omega) (HS.out rfl).1 r1 (by omega) (by omega) a1 a2 a3 a4)
      clear r1
      go_enter Tryz.func51, Tryz.ntmps51
      go_wp2_with fail
      refine (HC.out _ _ _ _ _ (HT.out.below (by (repeat (first | (with_reducible exact Below.refl _ _) | (with_reducible assumption) | (with_reducible refine below_al ?_) | (with_reducible refine below_dr ?_) | (with_reducible refine below_drN ?_) | (with_reducible refine below_set ?_ (by first | exact Nat.le_refl _ | (dsimp only; omega) | omega)) | (with_reducible refine below_tr (by with_reducible assumption) ?_))))) (HRw.out.below (by (repeat (first | (with_reducible exact Below.refl _ _) | (with_reducible assumption) | (with_reducible refine below_al ?_) | (with_reducible refine below_dr ?_) | (with_reducible refine below_drN ?_) | (with_reducible refine below_set ?_ (by first | exact Nat.le_refl _ | (dsimp only; omega) | omega)) | (with_reducible refine below_tr (by with_reducible assumption) ?_))))) ?_ ?_ ?_ ?_ ?_).mono ?_
      · (repeat (first | (exact cell_al _ _ _ _ _ _ (by simp) rfl) | (refine cell_alloc_old _ _ _ _ _ ?_)))
      · (repeat (first | (exact cell_al _ _ _ _ _ _ (by simp) rfl) | (refine cell_alloc_old _ _ _ _ _ ?_)))
      · (repeat (first | (exact cell_al _ _ _ _ _ _ (by simp) rfl) | (refine cell_alloc_old _ _ _ _ _ ?_)))
      · (repeat (first | (exact cell_al _ _ _ _ _ _ (by simp) rfl) | (refine cell_alloc_old _ _ _ _ _ ?_)))
      · (repeat (first | (exact cell_al _ _ _ _ _ _ (by simp) rfl) | (refine cell_alloc_old _ _ _ _ _ ?_)))
      rintro e w1 ⟨rfl, hb1⟩
      have Hw1 : Hid (Below w.heap.size w w1) := by (show Below _ _ _); (repeat (first | (with_reducible exact Below.refl _ _) | (with_reducible assumption) | (with_reducible refine below_al ?_) | (with_reducible refine below_dr ?_) | (with_reducible refine below_drN ?_) | (with_reducible refine below_set ?_ (by first | exact Nat.le_refl _ | (dsimp only; omega) | omega)) | (with_reducible refine below_tr (by with_reducible assumption) ?_)))
      obtain ⟨hc1, hf1⟩ := bcell hb1
      clear hb1
      go_wp2_with fail
      refine (HB2.out _ (HT.out.below Hw1.out) (HRw.out.below Hw1.out)).mono ?_
      rintro e w2 ⟨rfl, hb2⟩
      go_wp2
      go_ret2
      exact ⟨ret_ii (by rw [HR.out]; rfl) rfl, Hw1.out.trans (hb2.mono Hw1.out.size)⟩
set_option maxRecDepth 100000 in
set_option maxHeartbeats 1000000 in
theorem specBalanceOfRow_c (c : Int) (ts : List T4) (A : Option Addr) (cx : Nat) (row : List Int) (B : Option Addr) (cr : Nat) (p q : Int) (w : World) (hT : TileCells w A ts) (hR : Cells w B (ints row)) (hl : ts.length ≤ 1000000000) (hn : row.length ≤ 1000000000) :
    Calls Tryz.prog 52 #[.agg #[.int .i64 c, .slice A ts.length cx], .slice B row.length cr, .int .i64 p, .int .i64 q] w fun e w' => e = .returned (.tuple #[.int .i64 (balRowV c ts row p q), .int .i64 (codeB (isSetB c ts) (isRowB ts row && fiveB p q))]) ∧ Below w.heap.size w w' := by
  have H1 := Lib.hid (fun w h => l01Is_c c ts A cx w h hl)
  have HR0 := Lib.hid (fun hl w h h' => l02Row_c c ts A cx row B cr w h h' hl hn)
  have HP := Lib.hid (fun w => l01In_c p 1 5 w)
  have HQ := Lib.hid (fun w => l01In_c q 1 5 w)
  have HS := Lib.hid (isSetB_small (c := c) (ts := ts))
  have HW := Lib.hid (isRowB_in (ts := ts) (row := row))
  have HF := Lib.hid (fiveB_iff (p := p) (q := q)).1
  have HB := Lib.hid (fun hl hS a0 a1 a2 a b d e w h h' => l08Balance_c c ts A cx row B cr p q w h h' hl hS a0 a1 a2 a b d e)
  have HV : Hid (balRowV c ts row p q = if (isSetB c ts && (isRowB ts row && fiveB p q)) = true then balV ts row p q else 0) := rfl
  have h5 : fiveB p q = (inR 1 5 p && inR 1 5 q) := rfl
  have HT := Lib.hid hT
  have HRw := Lib.hid hR
  clear hT hR
  generalize isSetB c ts = s at *
  rw [h5] at HV HF ⊢
  clear h5
  generalize isRowB ts row = r at *
  generalize inR 1 5 p = f at *
  generalize inR 1 5 q = g at *
  cases s
  · have HR := Lib.hid HV.out
    go_enter Tryz.func52, Tryz.ntmps52
    go_wp2_with fail
    refine (H1.out _ (HT.out.below (by (repeat (first | (with_reducible exact Below.refl _ _) | (with_reducible assumption) | (with_reducible refine below_al ?_) | (with_reducible refine below_dr ?_) | (with_reducible refine below_drN ?_) | (with_reducible refine below_set ?_ (by first | exact Nat.le_refl _ | (dsimp only; omega) | omega)) | (with_reducible refine below_tr (by with_reducible assumption) ?_)))))).mono ?_
    rintro e w1 ⟨rfl, hb1⟩
    have Hw1 : Hid (Below w.heap.size w w1) := by (show Below _ _ _); (repeat (first | (with_reducible exact Below.refl _ _) | (with_reducible assumption) | (with_reducible refine below_al ?_) | (with_reducible refine below_dr ?_) | (with_reducible refine below_drN ?_) | (with_reducible refine below_set ?_ (by first | exact Nat.le_refl _ | (dsimp only; omega) | omega)) | (with_reducible refine below_tr (by with_reducible assumption) ?_)))
    obtain ⟨hc1, hf1⟩ := bcell hb1
    have hN : w.heap.size < w1.heap.size := by have := hb1.size; simp at this; omega
    clear hb1
    go_wp2
    go_ret2
    exact ⟨ret_ii HR.out.symm rfl, Hw1.out⟩
  · cases r
    · have HR := Lib.hid HV.out
      go_enter Tryz.func52, Tryz.ntmps52
      go_wp2_with fail
      refine (H1.out _ (HT.out.below (by (repeat (first | (with_reducible exact Below.refl _ _) | (with_reducible assumption) | (with_reducible refine below_al ?_) | (with_reducible refine below_dr ?_) | (with_reducible refine below_drN ?_) | (with_reducible refine below_set ?_ (by first | exact Nat.le_refl _ | (dsimp only; omega) | omega)) | (with_reducible refine below_tr (by with_reducible assumption) ?_)))))).mono ?_
      rintro e w1 ⟨rfl, hb1⟩
      have Hw1 : Hid (Below w.heap.size w w1) := by (show Below _ _ _); (repeat (first | (with_reducible exact Below.refl _ _) | (with_reducible assumption) | (with_reducible refine below_al ?_) | (with_reducible refine below_dr ?_) | (with_reducible refine below_drN ?_) | (with_reducible refine below_set ?_ (by first | exact Nat.le_refl _ | (dsimp only; omega) | omega)) | (with_reducible refine below_tr (by with_reducible assumption) ?_)))
      obtain ⟨hc1, hf1⟩ := bcell hb1
      have hN : w.heap.size < w1.heap.size := by have := hb1.size; simp at this; omega
      clear hb1
      go_wp2_with fail
      refine (HR0.out (by have := (HS.out (by simp)).2; omega) _ (HT.out.below Hw1.out) (HRw.out.below Hw1.out)).mono ?_
      rintro e w2 ⟨rfl, hb2⟩
      have Hw2 : Hid (Below w.heap.size w w2) := by (have h1 := Hw1.out; show Below _ _ _); (repeat (first | (with_reducible exact Below.refl _ _) | (with_reducible assumption) | (with_reducible refine below_al ?_) | (with_reducible refine below_dr ?_) | (with_reducible refine below_drN ?_) | (with_reducible refine below_set ?_ (by first | exact Nat.le_refl _ | (dsimp only; omega) | omega)) | (with_reducible refine below_tr (by with_reducible assumption) ?_)))
      obtain ⟨hc2, hf2⟩ := bcell hb2
      clear hb2
      go_wp2
      go_ret2
      exact ⟨ret_ii HR.out.symm rfl, Hw2.out⟩
    · cases f
      · have HR := Lib.hid HV.out
        go_enter Tryz.func52, Tryz.ntmps52
        go_wp2_with fail
        refine (H1.out _ (HT.out.below (by (repeat (first | (with_reducible exact Below.refl _ _) | (with_reducible assumption) | (with_reducible refine below_al ?_) | (with_reducible refine below_dr ?_) | (with_reducible refine below_drN ?_) | (with_reducible refine below_set ?_ (by first | exact Nat.le_refl _ | (dsimp only; omega) | omega)) | (with_reducible refine below_tr (by with_reducible assumption) ?_)))))).mono ?_
        rintro e w1 ⟨rfl, hb1⟩
        have Hw1 : Hid (Below w.heap.size w w1) := by (show Below _ _ _); (repeat (first | (with_reducible exact Below.refl _ _) | (with_reducible assumption) | (with_reducible refine below_al ?_) | (with_reducible refine below_dr ?_) | (with_reducible refine below_drN ?_) | (with_reducible refine below_set ?_ (by first | exact Nat.le_refl _ | (dsimp only; omega) | omega)) | (with_reducible refine below_tr (by with_reducible assumption) ?_)))
        obtain ⟨hc1, hf1⟩ := bcell hb1
        have hN : w.heap.size < w1.heap.size := by have := hb1.size; simp at this; omega
        clear hb1
        go_wp2_with fail
        refine (HR0.out (by have := (HS.out (by simp)).2; omega) _ (HT.out.below Hw1.out) (HRw.out.below Hw1.out)).mono ?_
        rintro e w2 ⟨rfl, hb2⟩
        have Hw2 : Hid (Below w.heap.size w w2) := by (have h1 := Hw1.out; show Below _ _ _); (repeat (first | (with_reducible exact Below.refl _ _) | (with_reducible assumption) | (with_reducible refine below_al ?_) | (with_reducible refine below_dr ?_) | (with_reducible refine below_drN ?_) | (with_reducible refine below_set ?_ (by first | exact Nat.le_refl _ | (dsimp only; omega) | omega)) | (with_reducible refine below_tr (by with_reducible assumption) ?_)))
        obtain ⟨hc2, hf2⟩ := bcell hb2
        clear hb2
        go_wp2_with fail
        refine (HP.out _).mono ?_
        rintro e w3 ⟨rfl, rfl⟩
        go_wp2
        go_ret2
        exact ⟨ret_ii HR.out.symm rfl, Hw2.out⟩
      · cases g
        · have HR := Lib.hid HV.out
          go_enter Tryz.func52, Tryz.ntmps52
          go_wp2_with fail
          refine (H1.out _ (HT.out.below (by (repeat (first | (with_reducible exact Below.refl _ _) | (with_reducible assumption) | (with_reducible refine below_al ?_) | (with_reducible refine below_dr ?_) | (with_reducible refine below_drN ?_) | (with_reducible refine below_set ?_ (by first | exact Nat.le_refl _ | (dsimp only; omega) | omega)) | (with_reducible refine below_tr (by with_reducible assumption) ?_)))))).mono ?_
          rintro e w1 ⟨rfl, hb1⟩
          have Hw1 : Hid (Below w.heap.size w w1) := by (show Below _ _ _); (repeat (first | (with_reducible exact Below.refl _ _) | (with_reducible assumption) | (with_reducible refine below_al ?_) | (with_reducible refine below_dr ?_) | (with_reducible refine below_drN ?_) | (with_reducible refine below_set ?_ (by first | exact Nat.le_refl _ | (dsimp only; omega) | omega)) | (with_reducible refine below_tr (by with_reducible assumption) ?_)))
          obtain ⟨hc1, hf1⟩ := bcell hb1
          have hN : w.heap.size < w1.heap.size := by have := hb1.size; simp at this; omega
          clear hb1
          go_wp2_with fail
          refine (HR0.out (by have := (HS.out (by simp)).2; omega) _ (HT.out.below Hw1.out) (HRw.out.below Hw1.out)).mono ?_
          rintro e w2 ⟨rfl, hb2⟩
          have Hw2 : Hid (Below w.heap.size w w2) := by (have h1 := Hw1.out; show Below _ _ _); (repeat (first | (with_reducible exact Below.refl _ _) | (with_reducible assumption) | (with_reducible refine below_al ?_) | (with_reducible refine below_dr ?_) | (with_reducible refine below_drN ?_) | (with_reducible refine below_set ?_ (by first | exact Nat.le_refl _ | (dsimp only; omega) | omega)) | (with_reducible refine below_tr (by with_reducible assumption) ?_)))
          obtain ⟨hc2, hf2⟩ := bcell hb2
          clear hb2
          go_wp2_with fail
          refine (HP.out _).mono ?_
          rintro e w3 ⟨rfl, rfl⟩
          go_wp2_with fail
          refine (HQ.out _).mono ?_
          rintro e w3 ⟨rfl, rfl⟩
          go_wp2
          go_ret2
          exact ⟨ret_ii HR.out.symm rfl, Hw2.out⟩
        · have HR := Lib.hid HV.out
          obtain ⟨⟨a1, a2⟩, a3, a4⟩ := HF.out rfl
          obtain ⟨r1, r2, r3⟩ := HW.out rfl
          have HB2 := Lib.hid (HB.out (by have := (HS.out rfl).2; omega) (HS.out rfl).1 r1 (by omega) (by omega) a1 a2 a3 a4)
          clear r1
          go_enter Tryz.func52, Tryz.ntmps52
          go_wp2_with fail
          refine (H1.out _ (HT.out.below (by (repeat (first | (with_reducible exact Below.refl _ _) | (with_reducible assumption) | (with_reducible refine below_al ?_) | (with_reducible refine below_dr ?_) | (with_reducible refine below_drN ?_) | (with_reducible refine below_set ?_ (by first | exact Nat.le_refl _ | (dsimp only; omega) | omega)) | (with_reducible refine below_tr (by with_reducible assumption) ?_)))))).mono ?_
          rintro e w1 ⟨rfl, hb1⟩
          have Hw1 : Hid (Below w.heap.size w w1) := by (show Below _ _ _); (repeat (first | (with_reducible exact Below.refl _ _) | (with_reducible assumption) | (with_reducible refine below_al ?_) | (with_reducible refine below_dr ?_) | (with_reducible refine below_drN ?_) | (with_reducible refine below_set ?_ (by first | exact Nat.le_refl _ | (dsimp only; omega) | omega)) | (with_reducible refine below_tr (by with_reducible assumption) ?_)))
          obtain ⟨hc1, hf1⟩ := bcell hb1
          have hN : w.heap.size < w1.heap.size := by have := hb1.size; simp at this; omega
          clear hb1
          go_wp2_with fail
          refine (HR0.out (by have := (HS.out (by simp)).2; omega) _ (HT.out.below Hw1.out) (HRw.out.below Hw1.out)).mono ?_
          rintro e w2 ⟨rfl, hb2⟩
          have Hw2 : Hid (Below w.heap.size w w2) := by (have h1 := Hw1.out; show Below _ _ _); (repeat (first | (with_reducible exact Below.refl _ _) | (with_reducible assumption) | (with_reducible refine below_al ?_) | (with_reducible refine below_dr ?_) | (with_reducible refine below_drN ?_) | (with_reducible refine below_set ?_ (by first | exact Nat.le_refl _ | (dsimp only; omega) | omega)) | (with_reducible refine below_tr (by with_reducible assumption) ?_)))
          obtain ⟨hc2, hf2⟩ := bcell hb2
          clear hb2
          go_wp2_with fail
          refine (HP.out _).mono ?_
          rintro e w3 ⟨rfl, rfl⟩
          go_wp2_with fail
          refine (HQ.out _).mono ?_
          rintro e w3 ⟨rfl, rfl⟩
          go_wp2_with fail
          refine (HB2.out _ (HT.out.below Hw2.out) (HRw.out.below Hw2.out)).mono ?_
          rintro e w3 ⟨rfl, hb3⟩
          go_wp2
          go_ret2
          exact ⟨ret_ii (by rw [HR.out]; rfl) rfl, Hw2.out.trans (hb3.mono Hw2.out.size)⟩
end Go.Proofs.YtkgnejhflnekaaaGreat
namespace Go.Proofs.YtkgnejhflnekaaaGreat
open Go.RowKit
theorem infoSl : (Tryz.prog.info? 35).map (fun i => (i.zero, i.size, i.bytes)) = some (some (.slice none 0 0), 1, 24) := by kernel_rfl
/-- a slice of slices of numbers reads as a list of lists -/
def RowsC (w : World) (B : Option Addr) (L : List (List Int)) : Prop :=
  ∀ k (h : k < L.length), ∃ b off A cx, B = some ⟨b, off, none⟩ ∧ b < w.heap.size ∧ w.cell? ⟨b, off + k, none⟩ = some (.slice A L[k].length cx) ∧ Cells w A (ints L[k])
theorem RowsC.below {w w1 : World} {B : Option Addr} {L : List (List Int)} (h : RowsC w B L) (hb : Below w.heap.size w w1) : RowsC w1 B L := by
  intro k hk
  obtain ⟨b, off, A, cx, e, hlt, hc, hr⟩ := h k hk
  exact ⟨b, off, A, cx, e, Nat.lt_of_lt_of_le hlt hb.size, (hb.cell (p := ⟨b, _, none⟩) hlt).trans hc, hr.below hb⟩
theorem RowsC.pair {w : World} {b off : Nat} {L : List (List Int)} (h : RowsC w (some ⟨b, off, none⟩) L) (k : Nat) (hk : k < L.length) : ∃ A cx, w.cell? ⟨b, off + k, none⟩ = some (.slice A L[k].length cx) ∧ Cells w A (ints L[k]) := by
  obtain ⟨b', off', A, cx, e, hlt, hc, hr⟩ := h k hk
  injection e with e
  injection e with e1 e2
  subst e1 e2
  exact ⟨A, cx, hc, hr⟩
def tot (L : List (List Int)) : Nat := (L.map List.length).sum
theorem tot_take {L : List (List Int)} {k : Nat} (hk : k < L.length) : tot (L.take (k + 1)) = tot (L.take k) + L[k].length := by
  unfold tot; rw [List.take_succ_eq_append_getElem hk, List.map_append, List.sum_append]; simp
def Short (n : Nat) (L : List (List Int)) : Prop := ∀ k (h : k < L.length), L[k].length ≤ n
/-- a slice of slices of numbers that the call made and owns, its rows apart from each other -/
def OwnII (w : World) (B : Nat) (v : Value) (L : List (List Int)) : Prop :=
  ∃ vs : List Value, w.ownsRow B 35 1 v L.length vs ∧ (∀ i (h : i < vs.length) (h' : i < L.length), OwnI w B vs[i] L[i]) ∧
    (∀ i j (h : i < vs.length) (h' : j < vs.length), i ≠ j → Apart vs[i] vs[j]) ∧ ∀ i (h : i < vs.length), Apart vs[i] v
theorem OwnI.setOther {w : World} {B : Nat} {v : Value} {xs : List Int} (h : OwnI w B v xs) (a : Addr) (ha : a.block < B) (u : Value) : OwnI (w.setCell a u) B v xs :=
  World.ownsRow.kept (row := some a.block) h ⟨rfl, rfl, rfl, by simp, fun k hk hne => Below.heap_setCell w a u k (fun e => hne (by simp [e]))⟩ (by
    cases e : v.ownBlock with
    | none => exact .inl rfl
    | some k => right; have := (World.ownsRow.lt h k e).1; intro e2; injection e2 with e2; omega)
theorem OwnII.rows {w : World} {B : Nat} {v : Value} {L : List (List Int)} (h : OwnII w B v L) : ∃ A cx, v = .slice A L.length cx ∧ RowsC w A L := by
  obtain ⟨vs, h1, h2, _⟩ := h
  have hl : vs.length = L.length := by have := h1.1; omega
  obtain ⟨_, h3⟩ := h1
  rcases h3 with ⟨rfl, h3⟩ | ⟨g, cap, cur, rfl, e2, e3, e4, e5, e6, e7⟩
  · exact ⟨none, 0, by rw [h3], fun k hk => by omega⟩
  · refine ⟨some ⟨g, 0, none⟩, cap, rfl, fun k hk => ?_⟩
    obtain ⟨A, cx, e, hc, _⟩ := (h2 k (by omega) hk).shape
    refine ⟨g, 0, A, cx, rfl, (Array.getElem?_eq_some_iff.1 e3).1, ?_, hc⟩
    rw [Nat.zero_add]
    unfold World.cell?
    simp only [e3]
    have hk2 : k < vs.length := by omega
    have h9 : (cur.toList.take (L.length * 1))[k]? = some (vs[k]'hk2) := by rw [e7]; exact List.getElem?_eq_getElem hk2
    rw [List.getElem?_take] at h9
    simp [hk] at h9
    simp [h9, e]
end Go.Proofs.YtkgnejhflnekaaaGreat
