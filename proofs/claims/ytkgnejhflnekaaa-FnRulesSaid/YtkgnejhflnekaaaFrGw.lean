/- Contracts and lemmas for the statements of this seat, written for this claim; each theorem states its own conditions. -/
import Derived.Test.YtkgnejhflnekaaaFrTa
import Derived.Test.YtkgnejhflnekaaaFrGt
set_option linter.unusedVariables false
set_option linter.unusedSimpArgs false
namespace Go.Proofs.Ytkgnejhflnekaaa
open Go.RowKit
set_option maxRecDepth 100000 in
set_option maxHeartbeats 1000000 in
theorem growRows1_c (c : Int) (A : Option Addr) (n cx : Nat) (rows : List (List Int)) (R : Option Addr) (cR b1 b2 : Nat) (w : World) (hM : RowsC w R rows) (hn : n ≤ 1000000) (hl : rows.length ≤ 1000000000) (hs : Short 1000000000 rows)
    (f0 : w.cell? ⟨b1, 0, none⟩ = some (.int .i64 c)) (f1 : w.cell? ⟨b1, 1, none⟩ = some (.slice A n cx)) (f2 : w.cell? ⟨b2, 0, none⟩ = some (.slice R rows.length cR)) :
    Calls Try.prog 26 #[.pointer (some ⟨b1, 0, none⟩), .pointer (some ⟨b2, 0, none⟩)] w fun e w' => e = .returned (.bool (rowsB n rows)) ∧ Below w.heap.size w w' := by
  have H := Lib.hid (areNumbers_c c A n cx rows R cR w hM hn hl hs)
  clear hM hs
  go_enter Try.func26, Try.ntmps26
  go_wp2_with fail
  refine H.out.mono ?_
  rintro e w1 ⟨rfl, hb1⟩
  go_wp2
  go_ret
  exact ⟨rfl, by (repeat (first | (with_reducible exact Below.refl _ _) | (with_reducible assumption) | (with_reducible refine below_al ?_) | (with_reducible refine below_dr ?_) | (with_reducible refine below_drN ?_) | (with_reducible refine below_set ?_ (by first | exact Nat.le_refl _ | (dsimp only; omega) | omega)) | (with_reducible refine below_tr (by with_reducible assumption) ?_)))⟩
set_option maxRecDepth 100000 in
set_option maxHeartbeats 1000000 in
theorem shrinkRows1_c (c : Int) (A : Option Addr) (n cx : Nat) (rows : List (List Int)) (R : Option Addr) (cR b1 b2 : Nat) (w : World) (hM : RowsC w R rows) (hn : n ≤ 1000000) (hl : rows.length ≤ 1000000000) (hs : Short 1000000000 rows)
    (f0 : w.cell? ⟨b1, 0, none⟩ = some (.int .i64 c)) (f1 : w.cell? ⟨b1, 1, none⟩ = some (.slice A n cx)) (f2 : w.cell? ⟨b2, 0, none⟩ = some (.slice R rows.length cR)) :
    Calls Try.prog 37 #[.pointer (some ⟨b1, 0, none⟩), .pointer (some ⟨b2, 0, none⟩)] w fun e w' => e = .returned (.bool (rowsB n rows)) ∧ Below w.heap.size w w' := by
  have H := Lib.hid (areNumbers_c c A n cx rows R cR w hM hn hl hs)
  clear hM hs
  go_enter Try.func37, Try.ntmps37
  go_wp2_with fail
  refine H.out.mono ?_
  rintro e w1 ⟨rfl, hb1⟩
  go_wp2
  go_ret
  exact ⟨rfl, by (repeat (first | (with_reducible exact Below.refl _ _) | (with_reducible assumption) | (with_reducible refine below_al ?_) | (with_reducible refine below_dr ?_) | (with_reducible refine below_drN ?_) | (with_reducible refine below_set ?_ (by first | exact Nat.le_refl _ | (dsimp only; omega) | omega)) | (with_reducible refine below_tr (by with_reducible assumption) ?_)))⟩
noncomputable def grBase (c : Int) (ts : List T4) (L rows : List (List Int)) : Int := codeB (isSetB c ts) (areBlocksB ts.length L && rowsB ts.length rows)
def grBig (rows : List (List Int)) : Bool := decide (8 < 2 * rows.length) || decide (8 < 2 * len0 rows)
noncomputable def grC (c : Int) (ts : List T4) (L rows : List (List Int)) : Int := if grBase c ts L rows = 0 then (if grBig rows = true then 3 else 0) else grBase c ts L rows
noncomputable def grV (c : Int) (ts : List T4) (L rows : List (List Int)) : List (List Int) := if grBase c ts L rows = 0 ∧ grBig rows = false then grownL L rows else []
theorem grBase_ok {c : Int} {ts : List T4} {L rows : List (List Int)} (h : grBase c ts L rows = 0) : (Small ts ∧ ts.length ≤ 16) ∧ Blocks ts.length L ∧ TableOk rows ∧ NumsIn ts.length rows := by
  obtain ⟨h1, h2⟩ := codeB_zer h
  rw [Bool.and_eq_true] at h2
  exact ⟨isSetB_small h1, areBlocksB_iff h2.1, (rowsB_ok h2.2).1, (rowsB_ok h2.2).2⟩
theorem grV_len (c : Int) (ts : List T4) (L rows : List (List Int)) : (grV c ts L rows).length ≤ 16 ∧ Short 1000000000 (grV c ts L rows) ∧ tot (grV c ts L rows) ≤ 256 := by
  unfold grV
  split
  · rename_i h
    obtain ⟨_, hB, ⟨⟨_, r8⟩, hk⟩, hI⟩ := grBase_ok h.1
    have hsh : Short 8 rows := fun k hk' => (hk k hk').2.2
    have hg := Short_iff.1 (grownL_short hB hI hsh)
    have ht := tot_le hg
    rw [grownL_len] at ht ⊢
    refine ⟨by omega, Short_iff.2 (fun r hr => by have := hg r hr; omega), ?_⟩
    have : 2 * 8 * (2 * rows.length) ≤ 2 * 8 * 16 := Nat.mul_le_mul_left _ (by omega)
    omega
  · exact ⟨by simp, fun k hk => by simp at hk, by simp [tot]⟩
set_option maxRecDepth 100000 in
set_option maxHeartbeats 1000000 in
theorem l09Given_c (c : Int) (ts : List T4) (A : Option Addr) (cx : Nat) (L : List (List Int)) (B : Option Addr) (cr : Nat) (rows : List (List Int)) (R : Option Addr) (cR : Nat) (w : World) (hT : TileCells w A ts) (hl : ts.length ≤ 1000000000) (hR : RowsC w B L) (hn : L.length ≤ 1000000000) (hS : Short 1000000000 L)
    (hM : RowsC w R rows) (hlm : rows.length ≤ 1000000000) (hsm : Short 1000000000 rows) :
    Calls Try.prog 29 #[.agg #[.int .i64 c, .slice A ts.length cx], .slice B L.length cr, .slice R rows.length cR] w fun e w' => e = .returned (.int .i64 (grBase c ts L rows)) ∧ Below w.heap.size w w' := by
  have HC := Lib.hid (fun (wq : World) (hq : Below w.heap.size w wq) => l09Code_c c ts A cx L B cr wq (hT.below hq) hl (hR.below hq) hn hS)
  have HQ := Lib.hid (fun (wq : World) (hq : Below w.heap.size w wq) => l01Rows_c c ts A cx rows R cR wq (hT.below hq) hl (hM.below hq) hlm hsm)
  have HV : Hid (grBase c ts L rows = codeB (isSetB c ts) (areBlocksB ts.length L && rowsB ts.length rows)) := rfl
  clear hT hR hM hS hsm
  generalize isSetB c ts = s at *
  generalize areBlocksB ts.length L = a at *
  generalize rowsB ts.length rows = r at *
  cases s
  · rw [show codeB false a = 1 from rfl] at HC
    have HF := Lib.hid HV.out
    go_enter Try.func29, Try.ntmps29
    go_wp2_with fail
    refine (HC.out _ (by (repeat (first | (with_reducible exact Below.refl _ _) | (with_reducible assumption) | (with_reducible refine below_al ?_) | (with_reducible refine below_dr ?_) | (with_reducible refine below_drN ?_) | (with_reducible refine below_set ?_ (by first | exact Nat.le_refl _ | (dsimp only; omega) | omega)) | (with_reducible refine below_tr (by with_reducible assumption) ?_))))).mono ?_
    rintro e w1 ⟨rfl, hb1⟩
    have Hw1 : Hid (Below w.heap.size w w1) := by (show Below _ _ _); (repeat (first | (with_reducible exact Below.refl _ _) | (with_reducible assumption) | (with_reducible refine below_al ?_) | (with_reducible refine below_dr ?_) | (with_reducible refine below_drN ?_) | (with_reducible refine below_set ?_ (by first | exact Nat.le_refl _ | (dsimp only; omega) | omega)) | (with_reducible refine below_tr (by with_reducible assumption) ?_)))
    obtain ⟨hc1, hf1⟩ := bcell hb1
    clear hb1
    go_wp2
    go_ret
    exact ⟨by rw [HF.out]; rfl, Hw1.out⟩
  · cases a
    · rw [show codeB true false = 2 from rfl] at HC
      have HF := Lib.hid HV.out
      go_enter Try.func29, Try.ntmps29
      go_wp2_with fail
      refine (HC.out _ (by (repeat (first | (with_reducible exact Below.refl _ _) | (with_reducible assumption) | (with_reducible refine below_al ?_) | (with_reducible refine below_dr ?_) | (with_reducible refine below_drN ?_) | (with_reducible refine below_set ?_ (by first | exact Nat.le_refl _ | (dsimp only; omega) | omega)) | (with_reducible refine below_tr (by with_reducible assumption) ?_))))).mono ?_
      rintro e w1 ⟨rfl, hb1⟩
      have Hw1 : Hid (Below w.heap.size w w1) := by (show Below _ _ _); (repeat (first | (with_reducible exact Below.refl _ _) | (with_reducible assumption) | (with_reducible refine below_al ?_) | (with_reducible refine below_dr ?_) | (with_reducible refine below_drN ?_) | (with_reducible refine below_set ?_ (by first | exact Nat.le_refl _ | (dsimp only; omega) | omega)) | (with_reducible refine below_tr (by with_reducible assumption) ?_)))
      obtain ⟨hc1, hf1⟩ := bcell hb1
      clear hb1
      go_wp2
      go_ret
      exact ⟨by rw [HF.out]; rfl, Hw1.out⟩
    · rw [show codeB true true = 0 from rfl] at HC
      have HF : Hid (grBase c ts L rows = codeB true r) := HV.out
      go_enter Try.func29, Try.ntmps29
      go_wp2_with fail
      refine (HC.out _ (by (repeat (first | (with_reducible exact Below.refl _ _) | (with_reducible assumption) | (with_reducible refine below_al ?_) | (with_reducible refine below_dr ?_) | (with_reducible refine below_drN ?_) | (with_reducible refine below_set ?_ (by first | exact Nat.le_refl _ | (dsimp only; omega) | omega)) | (with_reducible refine below_tr (by with_reducible assumption) ?_))))).mono ?_
      rintro e w1 ⟨rfl, hb1⟩
      have Hw1 : Hid (Below w.heap.size w w1) := by (show Below _ _ _); (repeat (first | (with_reducible exact Below.refl _ _) | (with_reducible assumption) | (with_reducible refine below_al ?_) | (with_reducible refine below_dr ?_) | (with_reducible refine below_drN ?_) | (with_reducible refine below_set ?_ (by first | exact Nat.le_refl _ | (dsimp only; omega) | omega)) | (with_reducible refine below_tr (by with_reducible assumption) ?_)))
      obtain ⟨hc1, hf1⟩ := bcell hb1
      clear hb1
      go_wp2_with fail
      refine (HQ.out _ Hw1.out).mono ?_
      rintro e w2 ⟨rfl, hb2⟩
      go_wp2
      go_ret
      exact ⟨by rw [HF.out]; rfl, Hw1.out.trans (hb2.mono Hw1.out.size)⟩
set_option maxRecDepth 100000 in
set_option maxHeartbeats 1000000 in
theorem implGrowRows_c (c : Int) (ts : List T4) (A : Option Addr) (cx : Nat) (L : List (List Int)) (B : Option Addr) (cr : Nat) (rows : List (List Int)) (R : Option Addr) (cR : Nat) (w : World) (hT : TileCells w A ts) (hl : ts.length ≤ 1000000000) (hR : RowsC w B L) (hn : L.length ≤ 1000000000) (hS : Short 1000000000 L)
    (hM : RowsC w R rows) (hlm : rows.length ≤ 1000000000) (hsm : Short 1000000000 rows) (hK : CapsC w B L) :
    Calls Try.prog 6 #[.agg #[.int .i64 c, .slice A ts.length cx], .slice B L.length cr, .slice R rows.length cR] w (RetIIC3 w (grV c ts L rows) (grC c ts L rows)) := by
  have HC : Hid (∀ (wq : World) (hq : Below w.heap.size w wq) (b1 b2 : Nat) (h0 : wq.cell? ⟨b1, 0, none⟩ = some (.int .i64 c)) (h1 : wq.cell? ⟨b1, 1, none⟩ = some (.slice A ts.length cx)) (h2 : wq.cell? ⟨b2, 0, none⟩ = some (.slice R rows.length cR)),
      Calls Try.prog 25 #[.agg #[.int .i64 c, .slice A ts.length cx], .slice B L.length cr, .func (.func 26) #[] #[.pointer (some ⟨b1, 0, none⟩), .pointer (some ⟨b2, 0, none⟩)]] wq fun e w' => e = .returned (.int .i64 (grBase c ts L rows)) ∧ Below wq.heap.size wq w') :=
    fun wq hq b1 b2 h0 h1 h2 => blocksCode_c c ts A cx L B cr 26 #[.pointer (some ⟨b1, 0, none⟩), .pointer (some ⟨b2, 0, none⟩)] (rowsB ts.length rows) wq (fun _ _ => rfl) (hT.below hq) hl (hR.below hq) hn hS
      (fun hs _ w1 hb => growRows1_c c A ts.length cx rows R cR b1 b2 w1 ((hM.below hq).below hb) (by have := (isSetB_small hs).2; omega) hlm hsm (keepC h0 _ hb) (keepC h1 _ hb) (keepC h2 _ hb))
  have HG := Lib.hid (fun (wq : World) (hq : Below w.heap.size w wq) (hB : Blocks ts.length L) (hI : NumsIn ts.length rows) (h1 : rows.length ≤ 1000) (h2 : Short 1000 rows) => grown_c L B cr rows R cR ts.length wq (hR.below hq) (hK.below hR hq) hB (hM.below hq) hI h1 h2)
  have HV : Hid (grC c ts L rows = if grBase c ts L rows = 0 then (if grBig rows = true then 3 else 0) else grBase c ts L rows) := rfl
  have HV1 : Hid (grV c ts L rows = if grBase c ts L rows = 0 ∧ grBig rows = false then grownL L rows else []) := rfl
  have HVb : Hid (grBig rows = (decide (8 < 2 * rows.length) || decide (8 < 2 * len0 rows))) := rfl
  have HOK := Lib.hid (grBase_ok (c := c) (ts := ts) (L := L) (rows := rows))
  have HM := Lib.hid hM
  clear hT hR hS hsm hK hM
  generalize grBase c ts L rows = d at *
  by_cases h0 : d = 0
  · subst h0
    obtain ⟨_, hB, hTab, hI⟩ := HOK.out rfl
    have h00 : 0 < rows.length := hTab.1.1
    have r8 := hTab.1.2
    obtain ⟨b, off, A0, c0, eR, hlt, f0, -⟩ := HM.out 0 h00
    rw [Nat.add_zero, ← len0_eq h00] at f0
    have F0 := Lib.hid (keepC f0)
    have ER := Lib.hid eR
    clear eR
    have m8 : len0 rows ≤ 8 := by have := (hTab.2 0 h00).2.2; rw [len0_eq h00]; exact this
    have HGr := Lib.hid (fun wq hq => HG.out wq hq hB hI (by omega) (fun k hk => by have := (hTab.2 k hk).2.2; omega))
    have w1' : IntKind.i64.wrap (2 * (rows.length : Int)) = 2 * (rows.length : Int) := IntWalk.i64_in _ (by omega)
    have w2' : IntKind.i64.wrap (2 * (len0 rows : Int)) = 2 * (len0 rows : Int) := IntWalk.i64_in _ (by omega)
    clear f0 hTab hI hB HOK HM HG
    by_cases q1 : (8 : Int) < 2 * (rows.length : Int)
    · have hbig : grBig rows = true := by rw [HVb.out]; simp; omega
      have HFc : Hid (grC c ts L rows = 3) := by rw [Hid, HV.out, if_pos rfl, if_pos hbig]
      have HFv : Hid (grV c ts L rows = []) := by rw [Hid, HV1.out, if_neg (by simp [hbig])]
      clear hbig HV HV1 HVb
      generalize len0 rows = m at *
      go_enter Try.func6, Try.ntmps6
      go_wp2_with fail
      refine (HC.out _ (by (repeat (first | (with_reducible exact Below.refl _ _) | (with_reducible assumption) | (with_reducible refine below_al ?_) | (with_reducible refine below_dr ?_) | (with_reducible refine below_drN ?_) | (with_reducible refine below_set ?_ (by first | exact Nat.le_refl _ | (dsimp only; omega) | omega)) | (with_reducible refine below_tr (by with_reducible assumption) ?_)))) _ _ ?_ ?_ ?_).mono ?_
      · (repeat (first | (exact cell_al _ _ _ _ _ _ (by simp) rfl) | (refine cell_alloc_old _ _ _ _ _ ?_)))
      · (repeat (first | (exact cell_al _ _ _ _ _ _ (by simp) rfl) | (refine cell_alloc_old _ _ _ _ _ ?_)))
      · (repeat (first | (exact cell_al _ _ _ _ _ _ (by simp) rfl) | (refine cell_alloc_old _ _ _ _ _ ?_)))
      rintro e w1 ⟨rfl, hb1⟩
      have Hw1 : Hid (Below w.heap.size w w1) := by (show Below _ _ _); (repeat (first | (with_reducible exact Below.refl _ _) | (with_reducible assumption) | (with_reducible refine below_al ?_) | (with_reducible refine below_dr ?_) | (with_reducible refine below_drN ?_) | (with_reducible refine below_set ?_ (by first | exact Nat.le_refl _ | (dsimp only; omega) | omega)) | (with_reducible refine below_tr (by with_reducible assumption) ?_)))
      have x5 : w1.cell? ⟨w.heap.size + 1, 0, none⟩ = some (.slice R rows.length cR) := by
        rw [(bcell hb1).1 _ _ (by simp)]
        (repeat (first | (exact cell_al _ _ _ _ _ _ (by simp) rfl) | (refine cell_alloc_old _ _ _ _ _ ?_)))
      have hN5 : w.heap.size + 1 < w1.heap.size := by have := hb1.size; simp at this; omega
      clear hb1
      obtain rfl := ER.out
      go_wp2
      go_ret2
      exact ⟨_, by first | rfl | exact ret_vcJ HFc.out.symm, by rw [HFv.out]; exact OwnII.nil _ _, Hw1.out⟩
    · by_cases q2 : (8 : Int) < 2 * (len0 rows : Int)
      · have hbig : grBig rows = true := by rw [HVb.out]; simp; omega
        have HFc : Hid (grC c ts L rows = 3) := by rw [Hid, HV.out, if_pos rfl, if_pos hbig]
        have HFv : Hid (grV c ts L rows = []) := by rw [Hid, HV1.out, if_neg (by simp [hbig])]
        clear hbig HV HV1 HVb
        generalize len0 rows = m at *
        go_enter Try.func6, Try.ntmps6
        go_wp2_with fail
        refine (HC.out _ (by (repeat (first | (with_reducible exact Below.refl _ _) | (with_reducible assumption) | (with_reducible refine below_al ?_) | (with_reducible refine below_dr ?_) | (with_reducible refine below_drN ?_) | (with_reducible refine below_set ?_ (by first | exact Nat.le_refl _ | (dsimp only; omega) | omega)) | (with_reducible refine below_tr (by with_reducible assumption) ?_)))) _ _ ?_ ?_ ?_).mono ?_
        · (repeat (first | (exact cell_al _ _ _ _ _ _ (by simp) rfl) | (refine cell_alloc_old _ _ _ _ _ ?_)))
        · (repeat (first | (exact cell_al _ _ _ _ _ _ (by simp) rfl) | (refine cell_alloc_old _ _ _ _ _ ?_)))
        · (repeat (first | (exact cell_al _ _ _ _ _ _ (by simp) rfl) | (refine cell_alloc_old _ _ _ _ _ ?_)))
        rintro e w1 ⟨rfl, hb1⟩
        have Hw1 : Hid (Below w.heap.size w w1) := by (show Below _ _ _); (repeat (first | (with_reducible exact Below.refl _ _) | (with_reducible assumption) | (with_reducible refine below_al ?_) | (with_reducible refine below_dr ?_) | (with_reducible refine below_drN ?_) | (with_reducible refine below_set ?_ (by first | exact Nat.le_refl _ | (dsimp only; omega) | omega)) | (with_reducible refine below_tr (by with_reducible assumption) ?_)))
        have x5 : w1.cell? ⟨w.heap.size + 1, 0, none⟩ = some (.slice R rows.length cR) := by
          rw [(bcell hb1).1 _ _ (by simp)]
          (repeat (first | (exact cell_al _ _ _ _ _ _ (by simp) rfl) | (refine cell_alloc_old _ _ _ _ _ ?_)))
        have hN5 : w.heap.size + 1 < w1.heap.size := by have := hb1.size; simp at this; omega
        clear hb1
        obtain rfl := ER.out
        have f0 := F0.out _ Hw1.out
        go_wp2
        go_ret2
        exact ⟨_, by first | rfl | exact ret_vcJ HFc.out.symm, by rw [HFv.out]; exact OwnII.nil _ _, Hw1.out⟩
      · have hbig : grBig rows = false := by rw [HVb.out]; simp; omega
        have HFc : Hid (grC c ts L rows = 0) := by rw [Hid, HV.out, if_pos rfl, if_neg (by simp [hbig])]
        have HFv : Hid (grV c ts L rows = grownL L rows) := by rw [Hid, HV1.out, if_pos ⟨rfl, hbig⟩]
        clear hbig HV HV1 HVb
        generalize len0 rows = m at *
        go_enter Try.func6, Try.ntmps6
        go_wp2_with fail
        refine (HC.out _ (by (repeat (first | (with_reducible exact Below.refl _ _) | (with_reducible assumption) | (with_reducible refine below_al ?_) | (with_reducible refine below_dr ?_) | (with_reducible refine below_drN ?_) | (with_reducible refine below_set ?_ (by first | exact Nat.le_refl _ | (dsimp only; omega) | omega)) | (with_reducible refine below_tr (by with_reducible assumption) ?_)))) _ _ ?_ ?_ ?_).mono ?_
        · (repeat (first | (exact cell_al _ _ _ _ _ _ (by simp) rfl) | (refine cell_alloc_old _ _ _ _ _ ?_)))
        · (repeat (first | (exact cell_al _ _ _ _ _ _ (by simp) rfl) | (refine cell_alloc_old _ _ _ _ _ ?_)))
        · (repeat (first | (exact cell_al _ _ _ _ _ _ (by simp) rfl) | (refine cell_alloc_old _ _ _ _ _ ?_)))
        rintro e w1 ⟨rfl, hb1⟩
        have Hw1 : Hid (Below w.heap.size w w1) := by (show Below _ _ _); (repeat (first | (with_reducible exact Below.refl _ _) | (with_reducible assumption) | (with_reducible refine below_al ?_) | (with_reducible refine below_dr ?_) | (with_reducible refine below_drN ?_) | (with_reducible refine below_set ?_ (by first | exact Nat.le_refl _ | (dsimp only; omega) | omega)) | (with_reducible refine below_tr (by with_reducible assumption) ?_)))
        have x5 : w1.cell? ⟨w.heap.size + 1, 0, none⟩ = some (.slice R rows.length cR) := by
          rw [(bcell hb1).1 _ _ (by simp)]
          (repeat (first | (exact cell_al _ _ _ _ _ _ (by simp) rfl) | (refine cell_alloc_old _ _ _ _ _ ?_)))
        have hN5 : w.heap.size + 1 < w1.heap.size := by have := hb1.size; simp at this; omega
        clear hb1
        obtain rfl := ER.out
        have f0 := F0.out _ Hw1.out
        go_wp2_with fail
        refine (HGr.out _ Hw1.out).mono ?_
        rintro e w2 ⟨v, rfl, hO, hb2⟩
        have HO := Lib.hid hO
        have Hb2 := Lib.hid hb2
        clear hO hb2 f0
        go_wp2
        go_ret2
        exact ⟨_, by first | rfl | exact ret_vcJ HFc.out.symm, by rw [HFv.out]; exact HO.out.weaken Hw1.out.size, Hw1.out.trans (Hb2.out.mono Hw1.out.size)⟩
  · have HFc : Hid (grC c ts L rows = d) := by rw [Hid, HV.out, if_neg h0]
    have HFv : Hid (grV c ts L rows = []) := by rw [Hid, HV1.out, if_neg (by simp [h0])]
    have hne : (d != 0) = true := by simpa using h0
    clear h0 HV HV1 HVb HOK HM HG
    go_enter Try.func6, Try.ntmps6
    go_wp2_with fail
    refine (HC.out _ (by (repeat (first | (with_reducible exact Below.refl _ _) | (with_reducible assumption) | (with_reducible refine below_al ?_) | (with_reducible refine below_dr ?_) | (with_reducible refine below_drN ?_) | (with_reducible refine below_set ?_ (by first | exact Nat.le_refl _ | (dsimp only; omega) | omega)) | (with_reducible refine below_tr (by with_reducible assumption) ?_)))) _ _ ?_ ?_ ?_).mono ?_
    · (repeat (first | (exact cell_al _ _ _ _ _ _ (by simp) rfl) | (refine cell_alloc_old _ _ _ _ _ ?_)))
    · (repeat (first | (exact cell_al _ _ _ _ _ _ (by simp) rfl) | (refine cell_alloc_old _ _ _ _ _ ?_)))
    · (repeat (first | (exact cell_al _ _ _ _ _ _ (by simp) rfl) | (refine cell_alloc_old _ _ _ _ _ ?_)))
    rintro e w1 ⟨rfl, hb1⟩
    have Hw1 : Hid (Below w.heap.size w w1) := by (show Below _ _ _); (repeat (first | (with_reducible exact Below.refl _ _) | (with_reducible assumption) | (with_reducible refine below_al ?_) | (with_reducible refine below_dr ?_) | (with_reducible refine below_drN ?_) | (with_reducible refine below_set ?_ (by first | exact Nat.le_refl _ | (dsimp only; omega) | omega)) | (with_reducible refine below_tr (by with_reducible assumption) ?_)))
    have x5 : w1.cell? ⟨w.heap.size + 1, 0, none⟩ = some (.slice R rows.length cR) := by
      rw [(bcell hb1).1 _ _ (by simp)]
      (repeat (first | (exact cell_al _ _ _ _ _ _ (by simp) rfl) | (refine cell_alloc_old _ _ _ _ _ ?_)))
    have hN5 : w.heap.size + 1 < w1.heap.size := by have := hb1.size; simp at this; omega
    clear hb1
    go_wp2
    go_ret2
    exact ⟨_, by first | rfl | exact ret_vcJ HFc.out.symm, by rw [HFv.out]; exact OwnII.nil _ _, Hw1.out⟩
set_option maxRecDepth 100000 in
set_option maxHeartbeats 1000000 in
theorem specGrowRows_c (c : Int) (ts : List T4) (A : Option Addr) (cx : Nat) (L : List (List Int)) (B : Option Addr) (cr : Nat) (rows : List (List Int)) (R : Option Addr) (cR : Nat) (w : World) (hT : TileCells w A ts) (hl : ts.length ≤ 1000000000) (hR : RowsC w B L) (hn : L.length ≤ 1000000000) (hS : Short 1000000000 L)
    (hM : RowsC w R rows) (hlm : rows.length ≤ 1000000000) (hsm : Short 1000000000 rows) :
    Calls Try.prog 7 #[.agg #[.int .i64 c, .slice A ts.length cx], .slice B L.length cr, .slice R rows.length cR] w (RetIIC3 w (grV c ts L rows) (grC c ts L rows)) := by
  have HC := Lib.hid (fun (wq : World) (hq : Below w.heap.size w wq) => l09Given_c c ts A cx L B cr rows R cR wq (hT.below hq) hl (hR.below hq) hn hS (hM.below hq) hlm hsm)
  have HG := Lib.hid (fun (wq : World) (hq : Below w.heap.size w wq) (hB : Blocks ts.length L) (hI : NumsIn ts.length rows) (h1 : rows.length ≤ 1000) (h2 : Short 1000 rows) => l09Grow_c L B cr rows R cR ts.length wq (hR.below hq) hB (hM.below hq) hI h1 h2)
  have HV : Hid (grC c ts L rows = if grBase c ts L rows = 0 then (if grBig rows = true then 3 else 0) else grBase c ts L rows) := rfl
  have HV1 : Hid (grV c ts L rows = if grBase c ts L rows = 0 ∧ grBig rows = false then grownL L rows else []) := rfl
  have HVb : Hid (grBig rows = (decide (8 < 2 * rows.length) || decide (8 < 2 * len0 rows))) := rfl
  have HOK := Lib.hid (grBase_ok (c := c) (ts := ts) (L := L) (rows := rows))
  have HM := Lib.hid hM
  clear hT hR hS hsm hM
  generalize grBase c ts L rows = d at *
  by_cases h0 : d = 0
  · subst h0
    obtain ⟨_, hB, hTab, hI⟩ := HOK.out rfl
    have h00 : 0 < rows.length := hTab.1.1
    have r8 := hTab.1.2
    obtain ⟨b, off, A0, c0, eR, hlt, f0, -⟩ := HM.out 0 h00
    rw [Nat.add_zero, ← len0_eq h00] at f0
    have F0 := Lib.hid (keepC f0)
    have ER := Lib.hid eR
    clear eR
    have m8 : len0 rows ≤ 8 := by have := (hTab.2 0 h00).2.2; rw [len0_eq h00]; exact this
    have HGr := Lib.hid (fun wq hq => HG.out wq hq hB hI (by omega) (fun k hk => by have := (hTab.2 k hk).2.2; omega))
    have w1' : IntKind.i64.wrap (2 * (rows.length : Int)) = 2 * (rows.length : Int) := IntWalk.i64_in _ (by omega)
    have w2' : IntKind.i64.wrap (2 * (len0 rows : Int)) = 2 * (len0 rows : Int) := IntWalk.i64_in _ (by omega)
    clear f0 hTab hI hB HOK HM HG
    by_cases q1 : (8 : Int) < 2 * (rows.length : Int)
    · have hbig : grBig rows = true := by rw [HVb.out]; simp; omega
      have HFc : Hid (grC c ts L rows = 3) := by rw [Hid, HV.out, if_pos rfl, if_pos hbig]
      have HFv : Hid (grV c ts L rows = []) := by rw [Hid, HV1.out, if_neg (by simp [hbig])]
      clear hbig HV HV1 HVb
      generalize len0 rows = m at *
      go_enter Try.func7, Try.ntmps7
      go_wp2_with fail
      refine (HC.out _ (by (repeat (first | (with_reducible exact Below.refl _ _) | (with_reducible assumption) | (with_reducible refine below_al ?_) | (with_reducible refine below_dr ?_) | (with_reducible refine below_drN ?_) | (with_reducible refine below_set ?_ (by first | exact Nat.le_refl _ | (dsimp only; omega) | omega)) | (with_reducible refine below_tr (by with_reducible assumption) ?_))))).mono ?_
      rintro e w1 ⟨rfl, hb1⟩
      have Hw1 : Hid (Below w.heap.size w w1) := by (show Below _ _ _); (repeat (first | (with_reducible exact Below.refl _ _) | (with_reducible assumption) | (with_reducible refine below_al ?_) | (with_reducible refine below_dr ?_) | (with_reducible refine below_drN ?_) | (with_reducible refine below_set ?_ (by first | exact Nat.le_refl _ | (dsimp only; omega) | omega)) | (with_reducible refine below_tr (by with_reducible assumption) ?_)))
      clear hb1
      obtain rfl := ER.out
      go_wp2
      go_ret2
      exact ⟨_, by first | rfl | exact ret_vcJ HFc.out.symm, by rw [HFv.out]; exact OwnII.nil _ _, Hw1.out⟩
    · by_cases q2 : (8 : Int) < 2 * (len0 rows : Int)
      · have hbig : grBig rows = true := by rw [HVb.out]; simp; omega
        have HFc : Hid (grC c ts L rows = 3) := by rw [Hid, HV.out, if_pos rfl, if_pos hbig]
        have HFv : Hid (grV c ts L rows = []) := by rw [Hid, HV1.out, if_neg (by simp [hbig])]
        clear hbig HV HV1 HVb
        generalize len0 rows = m at *
        go_enter Try.func7, Try.ntmps7
        go_wp2_with fail
        refine (HC.out _ (by (repeat (first | (with_reducible exact Below.refl _ _) | (with_reducible assumption) | (with_reducible refine below_al ?_) | (with_reducible refine below_dr ?_) | (with_reducible refine below_drN ?_) | (with_reducible refine below_set ?_ (by first | exact Nat.le_refl _ | (dsimp only; omega) | omega)) | (with_reducible refine below_tr (by with_reducible assumption) ?_))))).mono ?_
        rintro e w1 ⟨rfl, hb1⟩
        have Hw1 : Hid (Below w.heap.size w w1) := by (show Below _ _ _); (repeat (first | (with_reducible exact Below.refl _ _) | (with_reducible assumption) | (with_reducible refine below_al ?_) | (with_reducible refine below_dr ?_) | (with_reducible refine below_drN ?_) | (with_reducible refine below_set ?_ (by first | exact Nat.le_refl _ | (dsimp only; omega) | omega)) | (with_reducible refine below_tr (by with_reducible assumption) ?_)))
        clear hb1
        obtain rfl := ER.out
        have f0 := F0.out _ Hw1.out
        go_wp2
        go_ret2
        exact ⟨_, by first | rfl | exact ret_vcJ HFc.out.symm, by rw [HFv.out]; exact OwnII.nil _ _, Hw1.out⟩
      · have hbig : grBig rows = false := by rw [HVb.out]; simp; omega
        have HFc : Hid (grC c ts L rows = 0) := by rw [Hid, HV.out, if_pos rfl, if_neg (by simp [hbig])]
        have HFv : Hid (grV c ts L rows = grownL L rows) := by rw [Hid, HV1.out, if_pos ⟨rfl, hbig⟩]
        clear hbig HV HV1 HVb
        generalize len0 rows = m at *
        go_enter Try.func7, Try.ntmps7
        go_wp2_with fail
        refine (HC.out _ (by (repeat (first | (with_reducible exact Below.refl _ _) | (with_reducible assumption) | (with_reducible refine below_al ?_) | (with_reducible refine below_dr ?_) | (with_reducible refine below_drN ?_) | (with_reducible refine below_set ?_ (by first | exact Nat.le_refl _ | (dsimp only; omega) | omega)) | (with_reducible refine below_tr (by with_reducible assumption) ?_))))).mono ?_
        rintro e w1 ⟨rfl, hb1⟩
        have Hw1 : Hid (Below w.heap.size w w1) := by (show Below _ _ _); (repeat (first | (with_reducible exact Below.refl _ _) | (with_reducible assumption) | (with_reducible refine below_al ?_) | (with_reducible refine below_dr ?_) | (with_reducible refine below_drN ?_) | (with_reducible refine below_set ?_ (by first | exact Nat.le_refl _ | (dsimp only; omega) | omega)) | (with_reducible refine below_tr (by with_reducible assumption) ?_)))
        clear hb1
        obtain rfl := ER.out
        have f0 := F0.out _ Hw1.out
        go_wp2_with fail
        refine (HGr.out _ Hw1.out).mono ?_
        rintro e w2 ⟨v, rfl, hO, hb2⟩
        have HO := Lib.hid hO
        have Hb2 := Lib.hid hb2
        clear hO hb2 f0
        go_wp2
        go_ret2
        exact ⟨_, by first | rfl | exact ret_vcJ HFc.out.symm, by rw [HFv.out]; exact HO.out.weaken Hw1.out.size, Hw1.out.trans (Hb2.out.mono Hw1.out.size)⟩
  · have HFc : Hid (grC c ts L rows = d) := by rw [Hid, HV.out, if_neg h0]
    have HFv : Hid (grV c ts L rows = []) := by rw [Hid, HV1.out, if_neg (by simp [h0])]
    have hne : (d != 0) = true := by simpa using h0
    clear h0 HV HV1 HVb HOK HM HG
    go_enter Try.func7, Try.ntmps7
    go_wp2_with fail
    refine (HC.out _ (by (repeat (first | (with_reducible exact Below.refl _ _) | (with_reducible assumption) | (with_reducible refine below_al ?_) | (with_reducible refine below_dr ?_) | (with_reducible refine below_drN ?_) | (with_reducible refine below_set ?_ (by first | exact Nat.le_refl _ | (dsimp only; omega) | omega)) | (with_reducible refine below_tr (by with_reducible assumption) ?_))))).mono ?_
    rintro e w1 ⟨rfl, hb1⟩
    have Hw1 : Hid (Below w.heap.size w w1) := by (show Below _ _ _); (repeat (first | (with_reducible exact Below.refl _ _) | (with_reducible assumption) | (with_reducible refine below_al ?_) | (with_reducible refine below_dr ?_) | (with_reducible refine below_drN ?_) | (with_reducible refine below_set ?_ (by first | exact Nat.le_refl _ | (dsimp only; omega) | omega)) | (with_reducible refine below_tr (by with_reducible assumption) ?_)))
    clear hb1
    go_wp2
    go_ret2
    exact ⟨_, by first | rfl | exact ret_vcJ HFc.out.symm, by rw [HFv.out]; exact OwnII.nil _ _, Hw1.out⟩

end Go.Proofs.Ytkgnejhflnekaaa
