/- Contracts and lemmas for the statements of this seat, written for this claim; each theorem states its own conditions. -/
import Derived.Test.YtfkmophmiiehlaaKoBx
set_option linter.unusedVariables false
set_option linter.unusedSimpArgs false
namespace Go.Proofs.Ytfkmophmiiehlaa
open Go.RowKit
set_option maxRecDepth 100000 in
set_option maxHeartbeats 1000000 in
theorem blocksCode1_c (c : Int) (A : Option Addr) (n cx : Nat) (L : List (List Int)) (B : Option Addr) (cr : Nat) (k : FuncId) (caps : Array Value) (fine : Bool) (b1 b2 b3 : Nat) (w : World) (hk : ∀ args w, Sem.run Try.prog (callFunc k args) w = .ok (.enter k args) w)
    (hR : RowsC w B L) (hl : n ≤ 1000000) (hn : L.length ≤ 1000000000) (hS : Short 1000000000 L)
    (f0 : w.cell? ⟨b1, 0, none⟩ = some (.int .i64 c)) (f1 : w.cell? ⟨b1, 1, none⟩ = some (.slice A n cx)) (f2 : w.cell? ⟨b2, 0, none⟩ = some (.slice B L.length cr)) (f3 : w.cell? ⟨b3, 0, none⟩ = some (.func (.func k) #[] caps))
    (hf : areBlocksB n L = true → ∀ w1, Below w.heap.size w w1 → Calls Try.prog k caps w1 fun e w2 => e = .returned (.bool fine) ∧ Below w1.heap.size w1 w2) :
    Calls Try.prog 156 #[.pointer (some ⟨b1, 0, none⟩), .pointer (some ⟨b2, 0, none⟩), .pointer (some ⟨b3, 0, none⟩)] w fun e w' => e = .returned (.bool (areBlocksB n L && fine)) ∧ Below w.heap.size w w' := by
  have HR := Lib.hid (areBlocks_c c A n cx L B cr w hR hl hn hS)
  have G3 := Lib.hid (keepC f3)
  have HF := Lib.hid hf
  clear hR hf
  generalize areBlocksB n L = r at *
  cases r
  · go_enter Try.func156, Try.ntmps156
    go_wp2_with fail
    refine HR.out.mono ?_
    rintro e w1 ⟨rfl, hb1⟩
    clear f3
    go_wp2
    go_ret
    exact ⟨rfl, by (repeat (first | (with_reducible exact Below.refl _ _) | (with_reducible assumption) | (with_reducible refine below_al ?_) | (with_reducible refine below_dr ?_) | (with_reducible refine below_drN ?_) | (with_reducible refine below_set ?_ (by first | exact Nat.le_refl _ | (dsimp only; omega) | omega)) | (with_reducible refine below_tr (by with_reducible assumption) ?_)))⟩
  · have HF2 := Lib.hid (HF.out rfl)
    go_enter Try.func156, Try.ntmps156
    go_wp2_with fail
    refine HR.out.mono ?_
    rintro e w1 ⟨rfl, hb1⟩
    have f3 := G3.out _ hb1
    have Hb1 := Lib.hid hb1
    clear hb1
    go_wp2_with fail
    refine (HF2.out _ Hb1.out).mono ?_
    rintro e w2 ⟨rfl, hb2⟩
    go_wp2
    go_ret
    exact ⟨by first | rfl | simp, Hb1.out.trans (hb2.mono Hb1.out.size)⟩
set_option maxRecDepth 100000 in
set_option maxHeartbeats 1000000 in
theorem blocksCode_c (c : Int) (ts : List T4) (A : Option Addr) (cx : Nat) (L : List (List Int)) (B : Option Addr) (cr : Nat) (k : FuncId) (caps : Array Value) (fine : Bool) (w : World) (hk : ∀ args w, Sem.run Try.prog (callFunc k args) w = .ok (.enter k args) w)
    (hT : TileCells w A ts) (hl : ts.length ≤ 1000000000) (hR : RowsC w B L) (hn : L.length ≤ 1000000000) (hS : Short 1000000000 L)
    (hf : isSetB c ts = true → areBlocksB ts.length L = true → ∀ w1, Below w.heap.size w w1 → Calls Try.prog k caps w1 fun e w2 => e = .returned (.bool fine) ∧ Below w1.heap.size w1 w2) :
    Calls Try.prog 134 #[.agg #[.int .i64 c, .slice A ts.length cx], .slice B L.length cr, .func (.func k) #[] caps] w fun e w' => e = .returned (.int .i64 (codeB (isSetB c ts) (areBlocksB ts.length L && fine))) ∧ Below w.heap.size w w' := by
  have HC := Lib.hid (fun (wq : World) (hwq : Below w.heap.size w wq) (b1 b2 b3 : Nat) h0 h1 h2 h3 => setCode_c c ts A cx 156 #[.pointer (some ⟨b1, 0, none⟩), .pointer (some ⟨b2, 0, none⟩), .pointer (some ⟨b3, 0, none⟩)] (areBlocksB ts.length L && fine) wq (fun _ _ => rfl) (hT.below hwq) hl
    (fun hs w1 hb => blocksCode1_c c A ts.length cx L B cr k caps fine b1 b2 b3 w1 hk ((hR.below hwq).below hb) (by have := (isSetB_small hs).2; omega) hn hS (keepC h0 _ hb) (keepC h1 _ hb) (keepC h2 _ hb) (keepC h3 _ hb)
      (fun ha w2 hb2 => hf hs ha w2 (hwq.trans ((hb.trans (hb2.mono hb.size)).mono hwq.size)))))
  clear hT hR hf
  go_enter Try.func134, Try.ntmps134
  go_wp2_with fail
  refine (HC.out _ (by (repeat (first | (with_reducible exact Below.refl _ _) | (with_reducible assumption) | (with_reducible refine below_al ?_) | (with_reducible refine below_dr ?_) | (with_reducible refine below_drN ?_) | (with_reducible refine below_set ?_ (by first | exact Nat.le_refl _ | (dsimp only; omega) | omega)) | (with_reducible refine below_tr (by with_reducible assumption) ?_)))) _ _ _ ?_ ?_ ?_ ?_).mono ?_
  · (repeat (first | (exact cell_al _ _ _ _ _ _ (by simp) rfl) | (refine cell_alloc_old _ _ _ _ _ ?_)))
  · (repeat (first | (exact cell_al _ _ _ _ _ _ (by simp) rfl) | (refine cell_alloc_old _ _ _ _ _ ?_)))
  · (repeat (first | (exact cell_al _ _ _ _ _ _ (by simp) rfl) | (refine cell_alloc_old _ _ _ _ _ ?_)))
  · (repeat (first | (exact cell_al _ _ _ _ _ _ (by simp) rfl) | (refine cell_alloc_old _ _ _ _ _ ?_)))
  rintro e w1 ⟨rfl, hb1⟩
  go_wp2
  go_ret
  exact ⟨rfl, by (repeat (first | (with_reducible exact Below.refl _ _) | (with_reducible assumption) | (with_reducible refine below_al ?_) | (with_reducible refine below_dr ?_) | (with_reducible refine below_drN ?_) | (with_reducible refine below_set ?_ (by first | exact Nat.le_refl _ | (dsimp only; omega) | omega)) | (with_reducible refine below_tr (by with_reducible assumption) ?_)))⟩
end Go.Proofs.Ytfkmophmiiehlaa
