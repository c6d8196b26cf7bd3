/- Contracts and lemmas for the statements of this seat, written for this claim; each theorem states its own conditions. -/
import Derived.Test.YtghongdladghjaaYaRv
import Derived.Test.YtghongdladghjaaYaRz
set_option linter.unusedVariables false
set_option linter.unusedSimpArgs false
namespace Go.Proofs.Ytghongdladghjaa
open Go.RowKit
theorem ret_bc3 {a b : Bool} {c d : Int} (h : a = b) (h' : c = d) : Ending.returned (.tuple #[.bool a, .int .i64 c]) = .returned (.tuple #[.bool b, .int .i64 d]) := by rw [h, h']
def ruleV (c : Int) (ts : List T4) (L : List (List Int)) : Bool := isSetB c ts && areBlocksB ts.length L && ruleB ts L
set_option maxRecDepth 100000 in
set_option maxHeartbeats 1000000 in
theorem implIsRule_c (c : Int) (ts : List T4) (A : Option Addr) (cx : Nat) (L : List (List Int)) (B : Option Addr) (cr : Nat) (w : World) (hT : TileCells w A ts) (hl : ts.length ≤ 1000000000) (hR : RowsC w B L) (hn : L.length ≤ 1000000000) (hS : Short 1000000000 L) (hK : CapsC w B L) :
    Calls Try.prog 18 #[.agg #[.int .i64 c, .slice A ts.length cx], .slice B L.length cr] w fun e w' => e = .returned (.tuple #[.bool (ruleV c ts L), .int .i64 (codeB (isSetB c ts) (areBlocksB ts.length L))]) ∧ Below w.heap.size w w' := by
  have HC := Lib.hid (fun (wq : World) (hq : Below w.heap.size w wq) => blocksCode_c c ts A cx L B cr 39 #[] true wq (fun _ _ => rfl) (hT.below hq) hl (hR.below hq) hn hS (fun _ _ w1 _ => always_c w1))
  rw [Bool.and_true] at HC
  have HQ := Lib.hid (fun (wq : World) (hq : Below w.heap.size w wq) (h : ts.length ≤ 1000000) (hB : Blocks ts.length L) => isRule_c c ts A cx L B cr wq (hT.below hq) h (hR.below hq) (hK.below hR hq) hB)
  have HV : Hid (ruleV c ts L = (isSetB c ts && areBlocksB ts.length L && ruleB ts L)) := rfl
  have HB := Lib.hid (areBlocksB_iff (n := ts.length) (L := L))
  have HS16 := Lib.hid (isSetB_small (c := c) (ts := ts))
  clear hT hR
  generalize isSetB c ts = s at *
  generalize areBlocksB ts.length L = a at *
  cases s
  · have HF := Lib.hid HV.out
    go_enter Try.func18, Try.ntmps18
    go_wp2_with fail
    refine (HC.out _ (by (repeat (first | (with_reducible exact Below.refl _ _) | (with_reducible assumption) | (with_reducible refine below_al ?_) | (with_reducible refine below_dr ?_) | (with_reducible refine below_drN ?_) | (with_reducible refine below_set ?_ (by first | exact Nat.le_refl _ | (dsimp only; omega) | omega)) | (with_reducible refine below_tr (by with_reducible assumption) ?_))))).mono ?_
    rintro e w1 ⟨rfl, hb1⟩
    have Hw1 : Hid (Below w.heap.size w w1) := by (show Below _ _ _); (repeat (first | (with_reducible exact Below.refl _ _) | (with_reducible assumption) | (with_reducible refine below_al ?_) | (with_reducible refine below_dr ?_) | (with_reducible refine below_drN ?_) | (with_reducible refine below_set ?_ (by first | exact Nat.le_refl _ | (dsimp only; omega) | omega)) | (with_reducible refine below_tr (by with_reducible assumption) ?_)))
    obtain ⟨hc1, hf1⟩ := bcell hb1
    clear hb1
    go_wp2
    go_ret2
    exact ⟨ret_bc3 HF.out.symm rfl, Hw1.out⟩
  · cases a
    · have HF := Lib.hid HV.out
      go_enter Try.func18, Try.ntmps18
      go_wp2_with fail
      refine (HC.out _ (by (repeat (first | (with_reducible exact Below.refl _ _) | (with_reducible assumption) | (with_reducible refine below_al ?_) | (with_reducible refine below_dr ?_) | (with_reducible refine below_drN ?_) | (with_reducible refine below_set ?_ (by first | exact Nat.le_refl _ | (dsimp only; omega) | omega)) | (with_reducible refine below_tr (by with_reducible assumption) ?_))))).mono ?_
      rintro e w1 ⟨rfl, hb1⟩
      have Hw1 : Hid (Below w.heap.size w w1) := by (show Below _ _ _); (repeat (first | (with_reducible exact Below.refl _ _) | (with_reducible assumption) | (with_reducible refine below_al ?_) | (with_reducible refine below_dr ?_) | (with_reducible refine below_drN ?_) | (with_reducible refine below_set ?_ (by first | exact Nat.le_refl _ | (dsimp only; omega) | omega)) | (with_reducible refine below_tr (by with_reducible assumption) ?_)))
      obtain ⟨hc1, hf1⟩ := bcell hb1
      clear hb1
      go_wp2
      go_ret2
      exact ⟨ret_bc3 HF.out.symm rfl, Hw1.out⟩
    · have HV2 : Hid (ruleV c ts L = ruleB ts L) := HV.out
      have HQ2 := Lib.hid (fun wq hq => HQ.out wq hq (by have := (HS16.out rfl).2; omega) (HB.out rfl))
      rw [show codeB true true = 0 from rfl] at HC ⊢
      go_enter Try.func18, Try.ntmps18
      go_wp2_with fail
      refine (HC.out _ (by (repeat (first | (with_reducible exact Below.refl _ _) | (with_reducible assumption) | (with_reducible refine below_al ?_) | (with_reducible refine below_dr ?_) | (with_reducible refine below_drN ?_) | (with_reducible refine below_set ?_ (by first | exact Nat.le_refl _ | (dsimp only; omega) | omega)) | (with_reducible refine below_tr (by with_reducible assumption) ?_))))).mono ?_
      rintro e w1 ⟨rfl, hb1⟩
      have Hw1 : Hid (Below w.heap.size w w1) := by (show Below _ _ _); (repeat (first | (with_reducible exact Below.refl _ _) | (with_reducible assumption) | (with_reducible refine below_al ?_) | (with_reducible refine below_dr ?_) | (with_reducible refine below_drN ?_) | (with_reducible refine below_set ?_ (by first | exact Nat.le_refl _ | (dsimp only; omega) | omega)) | (with_reducible refine below_tr (by with_reducible assumption) ?_)))
      obtain ⟨hc1, hf1⟩ := bcell hb1
      clear hb1
      go_wp2_with fail
      refine (HQ2.out _ Hw1.out).mono ?_
      rintro e w2 ⟨rfl, hb2⟩
      go_wp2
      go_ret2
      exact ⟨ret_bc3 HV2.out.symm rfl, Hw1.out.trans (hb2.mono Hw1.out.size)⟩
set_option maxRecDepth 100000 in
set_option maxHeartbeats 1000000 in
theorem specIsRule_c (c : Int) (ts : List T4) (A : Option Addr) (cx : Nat) (L : List (List Int)) (B : Option Addr) (cr : Nat) (w : World) (hT : TileCells w A ts) (hl : ts.length ≤ 1000000000) (hR : RowsC w B L) (hn : L.length ≤ 1000000000) (hS : Short 1000000000 L)  :
    Calls Try.prog 17 #[.agg #[.int .i64 c, .slice A ts.length cx], .slice B L.length cr] w fun e w' => e = .returned (.tuple #[.bool (ruleV c ts L), .int .i64 (codeB (isSetB c ts) (areBlocksB ts.length L))]) ∧ Below w.heap.size w w' := by
  have HC := Lib.hid (fun (wq : World) (hq : Below w.heap.size w wq) => l09Code_c c ts A cx L B cr wq (hT.below hq) hl (hR.below hq) hn hS)
  skip
  have HQ := Lib.hid (fun (wq : World) (hq : Below w.heap.size w wq) (h : ts.length ≤ 1000000) (hB : Blocks ts.length L) => l09Rule_c c ts A cx L B cr wq (hT.below hq) h (hR.below hq) hB)
  have HV : Hid (ruleV c ts L = (isSetB c ts && areBlocksB ts.length L && ruleB ts L)) := rfl
  have HB := Lib.hid (areBlocksB_iff (n := ts.length) (L := L))
  have HS16 := Lib.hid (isSetB_small (c := c) (ts := ts))
  clear hT hR
  generalize isSetB c ts = s at *
  generalize areBlocksB ts.length L = a at *
  cases s
  · have HF := Lib.hid HV.out
    go_enter Try.func17, Try.ntmps17
    go_wp2_with fail
    refine (HC.out _ (by (repeat (first | (with_reducible exact Below.refl _ _) | (with_reducible assumption) | (with_reducible refine below_al ?_) | (with_reducible refine below_dr ?_) | (with_reducible refine below_drN ?_) | (with_reducible refine below_set ?_ (by first | exact Nat.le_refl _ | (dsimp only; omega) | omega)) | (with_reducible refine below_tr (by with_reducible assumption) ?_))))).mono ?_
    rintro e w1 ⟨rfl, hb1⟩
    have Hw1 : Hid (Below w.heap.size w w1) := by (show Below _ _ _); (repeat (first | (with_reducible exact Below.refl _ _) | (with_reducible assumption) | (with_reducible refine below_al ?_) | (with_reducible refine below_dr ?_) | (with_reducible refine below_drN ?_) | (with_reducible refine below_set ?_ (by first | exact Nat.le_refl _ | (dsimp only; omega) | omega)) | (with_reducible refine below_tr (by with_reducible assumption) ?_)))
    obtain ⟨hc1, hf1⟩ := bcell hb1
    clear hb1
    go_wp2
    go_ret2
    exact ⟨ret_bc3 HF.out.symm rfl, Hw1.out⟩
  · cases a
    · have HF := Lib.hid HV.out
      go_enter Try.func17, Try.ntmps17
      go_wp2_with fail
      refine (HC.out _ (by (repeat (first | (with_reducible exact Below.refl _ _) | (with_reducible assumption) | (with_reducible refine below_al ?_) | (with_reducible refine below_dr ?_) | (with_reducible refine below_drN ?_) | (with_reducible refine below_set ?_ (by first | exact Nat.le_refl _ | (dsimp only; omega) | omega)) | (with_reducible refine below_tr (by with_reducible assumption) ?_))))).mono ?_
      rintro e w1 ⟨rfl, hb1⟩
      have Hw1 : Hid (Below w.heap.size w w1) := by (show Below _ _ _); (repeat (first | (with_reducible exact Below.refl _ _) | (with_reducible assumption) | (with_reducible refine below_al ?_) | (with_reducible refine below_dr ?_) | (with_reducible refine below_drN ?_) | (with_reducible refine below_set ?_ (by first | exact Nat.le_refl _ | (dsimp only; omega) | omega)) | (with_reducible refine below_tr (by with_reducible assumption) ?_)))
      obtain ⟨hc1, hf1⟩ := bcell hb1
      clear hb1
      go_wp2
      go_ret2
      exact ⟨ret_bc3 HF.out.symm rfl, Hw1.out⟩
    · have HV2 : Hid (ruleV c ts L = ruleB ts L) := HV.out
      have HQ2 := Lib.hid (fun wq hq => HQ.out wq hq (by have := (HS16.out rfl).2; omega) (HB.out rfl))
      rw [show codeB true true = 0 from rfl] at HC ⊢
      go_enter Try.func17, Try.ntmps17
      go_wp2_with fail
      refine (HC.out _ (by (repeat (first | (with_reducible exact Below.refl _ _) | (with_reducible assumption) | (with_reducible refine below_al ?_) | (with_reducible refine below_dr ?_) | (with_reducible refine below_drN ?_) | (with_reducible refine below_set ?_ (by first | exact Nat.le_refl _ | (dsimp only; omega) | omega)) | (with_reducible refine below_tr (by with_reducible assumption) ?_))))).mono ?_
      rintro e w1 ⟨rfl, hb1⟩
      have Hw1 : Hid (Below w.heap.size w w1) := by (show Below _ _ _); (repeat (first | (with_reducible exact Below.refl _ _) | (with_reducible assumption) | (with_reducible refine below_al ?_) | (with_reducible refine below_dr ?_) | (with_reducible refine below_drN ?_) | (with_reducible refine below_set ?_ (by first | exact Nat.le_refl _ | (dsimp only; omega) | omega)) | (with_reducible refine below_tr (by with_reducible assumption) ?_)))
      obtain ⟨hc1, hf1⟩ := bcell hb1
      clear hb1
      go_wp2_with fail
      refine (HQ2.out _ Hw1.out).mono ?_
      rintro e w2 ⟨rfl, hb2⟩
      go_wp2
      go_ret2
      exact ⟨ret_bc3 HV2.out.symm rfl, Hw1.out.trans (hb2.mono Hw1.out.size)⟩

end Go.Proofs.Ytghongdladghjaa
