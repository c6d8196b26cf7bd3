/- Contracts and lemmas for the statements of this seat, written for this claim; each theorem states its own conditions. -/
import Derived.Test.YtdhcmchpbofioaaSbTa
import Derived.Test.YtdhcmchpbofioaaSbGt
set_option linter.unusedVariables false
set_option linter.unusedSimpArgs false
namespace Go.Proofs.Ytdhcmchpbofioaa
open Go.RowKit
set_option maxRecDepth 100000 in
set_option maxHeartbeats 1000000 in
theorem shrinkRows1_c (c : Int) (A : Option Addr) (n cx : Nat) (rows : List (List Int)) (R : Option Addr) (cR b1 b2 : Nat) (w : World) (hM : RowsC w R rows) (hn : n ≤ 1000000) (hl : rows.length ≤ 1000000000) (hs : Short 1000000000 rows)
    (f0 : w.cell? ⟨b1, 0, none⟩ = some (.int .i64 c)) (f1 : w.cell? ⟨b1, 1, none⟩ = some (.slice A n cx)) (f2 : w.cell? ⟨b2, 0, none⟩ = some (.slice R rows.length cR)) :
    Calls Try.prog 34 #[.pointer (some ⟨b1, 0, none⟩), .pointer (some ⟨b2, 0, none⟩)] w fun e w' => e = .returned (.bool (rowsB n rows)) ∧ Below w.heap.size w w' := by
  have H := Lib.hid (areNumbers_c c A n cx rows R cR w hM hn hl hs)
  clear hM hs
  go_enter Try.func34, Try.ntmps34
  go_wp2_with fail
  refine H.out.mono ?_
  rintro e w1 ⟨rfl, hb1⟩
  go_wp2
  go_ret
  exact ⟨rfl, by (repeat (first | (with_reducible exact Below.refl _ _) | (with_reducible assumption) | (with_reducible refine below_al ?_) | (with_reducible refine below_dr ?_) | (with_reducible refine below_drN ?_) | (with_reducible refine below_set ?_ (by first | exact Nat.le_refl _ | (dsimp only; omega) | omega)) | (with_reducible refine below_tr (by with_reducible assumption) ?_)))⟩
noncomputable def grBase (c : Int) (ts : List T4) (L rows : List (List Int)) : Int := codeB (isSetB c ts) (areBlocksB ts.length L && rowsB ts.length rows)
def grBig (rows : List (List Int)) : Bool := decide (8 < 2 * rows.length) || decide (8 < 2 * len0 rows)
noncomputable def grC (c : Int) (ts : List T4) (L rows : List (List Int)) : Int := if grBase c ts L rows = 0 then (if grBig rows = true then 3 else 0) else grBase c ts L rows
noncomputable def grV (c : Int) (ts : List T4) (L rows : List (List Int)) : List (List Int) := if grBase c ts L rows = 0 ∧ grBig rows = false then grownL L rows else []
theorem grBase_ok {c : Int} {ts : List T4} {L rows : List (List Int)} (h : grBase c ts L rows = 0) : (Small ts ∧ ts.length ≤ 16) ∧ Blocks ts.length L ∧ TableOk rows ∧ NumsIn ts.length rows := by
  obtain ⟨h1, h2⟩ := codeB_zer h
  rw [Bool.and_eq_true] at h2
  exact ⟨isSetB_small h1, areBlocksB_iff h2.1, (rowsB_ok h2.2).1, (rowsB_ok h2.2).2⟩
theorem grV_len (c : Int) (ts : List T4) (L rows : List (List Int)) : (grV c ts L rows).length ≤ 16 ∧ Short 1000000000 (grV c ts L rows) ∧ tot (grV c ts L rows) ≤ 256 := by
  unfold grV
  split
  · rename_i h
    obtain ⟨_, hB, ⟨⟨_, r8⟩, hk⟩, hI⟩ := grBase_ok h.1
    have hsh : Short 8 rows := fun k hk' => (hk k hk').2.2
    have hg := Short_iff.1 (grownL_short hB hI hsh)
    have ht := tot_le hg
    rw [grownL_len] at ht ⊢
    refine ⟨by omega, Short_iff.2 (fun r hr => by have := hg r hr; omega), ?_⟩
    have : 2 * 8 * (2 * rows.length) ≤ 2 * 8 * 16 := Nat.mul_le_mul_left _ (by omega)
    omega
  · exact ⟨by simp, fun k hk => by simp at hk, by simp [tot]⟩
set_option maxRecDepth 100000 in
set_option maxHeartbeats 1000000 in
theorem l09Given_c (c : Int) (ts : List T4) (A : Option Addr) (cx : Nat) (L : List (List Int)) (B : Option Addr) (cr : Nat) (rows : List (List Int)) (R : Option Addr) (cR : Nat) (w : World) (hT : TileCells w A ts) (hl : ts.length ≤ 1000000000) (hR : RowsC w B L) (hn : L.length ≤ 1000000000) (hS : Short 1000000000 L)
    (hM : RowsC w R rows) (hlm : rows.length ≤ 1000000000) (hsm : Short 1000000000 rows) :
    Calls Try.prog 20 #[.agg #[.int .i64 c, .slice A ts.length cx], .slice B L.length cr, .slice R rows.length cR] w fun e w' => e = .returned (.int .i64 (grBase c ts L rows)) ∧ Below w.heap.size w w' := by
  have HC := Lib.hid (fun (wq : World) (hq : Below w.heap.size w wq) => l09Code_c c ts A cx L B cr wq (hT.below hq) hl (hR.below hq) hn hS)
  have HQ := Lib.hid (fun (wq : World) (hq : Below w.heap.size w wq) => l01Rows_c c ts A cx rows R cR wq (hT.below hq) hl (hM.below hq) hlm hsm)
  have HV : Hid (grBase c ts L rows = codeB (isSetB c ts) (areBlocksB ts.length L && rowsB ts.length rows)) := rfl
  clear hT hR hM hS hsm
  generalize isSetB c ts = s at *
  generalize areBlocksB ts.length L = a at *
  generalize rowsB ts.length rows = r at *
  cases s
  · rw [show codeB false a = 1 from rfl] at HC
    have HF := Lib.hid HV.out
    go_enter Try.func20, Try.ntmps20
    go_wp2_with fail
    refine (HC.out _ (by (repeat (first | (with_reducible exact Below.refl _ _) | (with_reducible assumption) | (with_reducible refine below_al ?_) | (with_reducible refine below_dr ?_) | (with_reducible refine below_drN ?_) | (with_reducible refine below_set ?_ (by first | exact Nat.le_refl _ | (dsimp only; omega) | omega)) | (with_reducible refine below_tr (by with_reducible assumption) ?_))))).mono ?_
    rintro e w1 ⟨rfl, hb1⟩
    have Hw1 : Hid (Below w.heap.size w w1) := by (show Below _ _ _); (repeat (first | (with_reducible exact Below.refl _ _) | (with_reducible assumption) | (with_reducible refine below_al ?_) | (with_reducible refine below_dr ?_) | (with_reducible refine below_drN ?_) | (with_reducible refine below_set ?_ (by first | exact Nat.le_refl _ | (dsimp only; omega) | omega)) | (with_reducible refine below_tr (by with_reducible assumption) ?_)))
    obtain ⟨hc1, hf1⟩ := bcell hb1
    clear hb1
    go_wp2
    go_ret
    exact ⟨by rw [HF.out]; rfl, Hw1.out⟩
  · cases a
    · rw [show codeB true false = 2 from rfl] at HC
      have HF := Lib.hid HV.out
      go_enter Try.func20, Try.ntmps20
      go_wp2_with fail
      refine (HC.out _ (by (repeat (first | (with_reducible exact Below.refl _ _) | (with_reducible assumption) | (with_reducible refine below_al ?_) | (with_reducible refine below_dr ?_) | (with_reducible refine below_drN ?_) | (with_reducible refine below_set ?_ (by first | exact Nat.le_refl _ | (dsimp only; omega) | omega)) | (with_reducible refine below_tr (by with_reducible assumption) ?_))))).mono ?_
      rintro e w1 ⟨rfl, hb1⟩
      have Hw1 : Hid (Below w.heap.size w w1) := by (show Below _ _ _); (repeat (first | (with_reducible exact Below.refl _ _) | (with_reducible assumption) | (with_reducible refine below_al ?_) | (with_reducible refine below_dr ?_) | (with_reducible refine below_drN ?_) | (with_reducible refine below_set ?_ (by first | exact Nat.le_refl _ | (dsimp only; omega) | omega)) | (with_reducible refine below_tr (by with_reducible assumption) ?_)))
      obtain ⟨hc1, hf1⟩ := bcell hb1
      clear hb1
      go_wp2
      go_ret
      exact ⟨by rw [HF.out]; rfl, Hw1.out⟩
    · rw [show codeB true true = 0 from rfl] at HC
      have HF : Hid (grBase c ts L rows = codeB true r) := HV.out
      go_enter Try.func20, Try.ntmps20
      go_wp2_with fail
      refine (HC.out _ (by (repeat (first | (with_reducible exact Below.refl _ _) | (with_reducible assumption) | (with_reducible refine below_al ?_) | (with_reducible refine below_dr ?_) | (with_reducible refine below_drN ?_) | (with_reducible refine below_set ?_ (by first | exact Nat.le_refl _ | (dsimp only; omega) | omega)) | (with_reducible refine below_tr (by with_reducible assumption) ?_))))).mono ?_
      rintro e w1 ⟨rfl, hb1⟩
      have Hw1 : Hid (Below w.heap.size w w1) := by (show Below _ _ _); (repeat (first | (with_reducible exact Below.refl _ _) | (with_reducible assumption) | (with_reducible refine below_al ?_) | (with_reducible refine below_dr ?_) | (with_reducible refine below_drN ?_) | (with_reducible refine below_set ?_ (by first | exact Nat.le_refl _ | (dsimp only; omega) | omega)) | (with_reducible refine below_tr (by with_reducible assumption) ?_)))
      obtain ⟨hc1, hf1⟩ := bcell hb1
      clear hb1
      go_wp2_with fail
      refine (HQ.out _ Hw1.out).mono ?_
      rintro e w2 ⟨rfl, hb2⟩
      go_wp2
      go_ret
      exact ⟨by rw [HF.out]; rfl, Hw1.out.trans (hb2.mono Hw1.out.size)⟩
end Go.Proofs.Ytdhcmchpbofioaa
