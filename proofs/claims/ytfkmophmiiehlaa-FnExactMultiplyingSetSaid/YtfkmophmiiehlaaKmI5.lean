/- Contracts and lemmas for the statements of this seat, written for this claim; each theorem states its own conditions. -/
import Derived.Test.YtfkmophmiiehlaaKmI4
set_option linter.unusedVariables false
set_option linter.unusedSimpArgs false
namespace Go.Proofs.Ytfkmophmiiehlaa
open Go.RowKit
theorem itAppendSeq_c (Bs cap : Nat) (A : Option Addr) (ts : List T4) (hl : ts.length ≤ 1000000000) (w : World) (hBs : Bs < w.heap.size)
    (hc : w.cell? ⟨Bs, 0, none⟩ = some (.slice A ts.length cap)) (hT : TileCells w A ts) :
    Calls Try.prog 151 #[.slice none 0 0, .func (.func 129) #[] #[.pointer (some ⟨Bs, 0, none⟩)]] w fun e W' => ∃ v, e = .returned v ∧ OwnT W' w.heap.size v ts ∧ Below w.heap.size w W' :=
  callsIn_wide.1 (itAppendSeq_in Fence.wide 3 trivial trivial rfl (by omega) Bs cap A ts hl w hBs hc hT)
theorem itValues_c (A : Option Addr) (len cap : Nat) (w : World) :
    Calls Try.prog 76 #[.slice A len cap] w fun e w' => e = .returned (.func (.func 129) #[] #[.pointer (some ⟨w.heap.size, 0, none⟩)]) ∧ w' = w.alloc (.cells #[.slice A len cap] 29) :=
  callsIn_wide.1 (itValues_in Fence.wide 3 trivial rfl A len cap w)
set_option maxRecDepth 100000 in
set_option maxHeartbeats 1000000 in
theorem itCollect_c (Bs cap : Nat) (A : Option Addr) (ts : List T4) (hl : ts.length ≤ 1000000000) (w : World) (hBs : Bs < w.heap.size)
    (hc : w.cell? ⟨Bs, 0, none⟩ = some (.slice A ts.length cap)) (hT : TileCells w A ts) :
    Calls Try.prog 127 #[.func (.func 129) #[] #[.pointer (some ⟨Bs, 0, none⟩)]] w fun e W' => ∃ v, e = .returned v ∧ OwnT W' w.heap.size v ts ∧ Below w.heap.size w W' := by
  have H := Lib.hid (itAppendSeq_c Bs cap A ts hl w hBs hc hT)
  clear hc hT hl
  go_enter Try.func127, Try.ntmps127
  go_wp2_with fail
  refine H.out.mono ?_
  rintro e w1 ⟨v, rfl, hO, hb⟩
  go_wp2
  go_ret
  exact ⟨v, rfl, hO, hb⟩
set_option maxRecDepth 100000 in
set_option maxHeartbeats 1000000 in
theorem sortedFunc_c (Bs cap : Nat) (A : Option Addr) (ts : List T4) (hl : ts.length ≤ 1000000000) (w : World) (hBs : Bs < w.heap.size)
    (hc : w.cell? ⟨Bs, 0, none⟩ = some (.slice A ts.length cap)) (hT : TileCells w A ts) :
    Calls Try.prog 75 #[.func (.func 129) #[] #[.pointer (some ⟨Bs, 0, none⟩)], .func (.func 78) #[] #[]] w fun e W' => ∃ v, e = .returned v ∧ OwnT W' w.heap.size v (sortT ts) ∧ Below w.heap.size w W' := by
  have H := Lib.hid (itCollect_c Bs cap A ts hl w hBs hc hT)
  clear hc hT
  have HL := Lib.hid hl
  clear hl
  go_enter Try.func75, Try.ntmps75
  go_wp2_with fail
  refine H.out.mono ?_
  rintro e w1 ⟨v, rfl, hO, hb⟩
  have HO := Lib.hid hO
  clear hO
  go_wp2_with fail
  refine (sortFuncO_c ts _ v _ HO.out HL.out).mono ?_
  rintro e w2 ⟨rfl, hO2, hg⟩
  go_wp2
  go_ret
  exact ⟨v, rfl, hO2, hb.grown hg hb.size (fun k hk => (World.ownsRow.lt HO.out k hk).1)⟩
theorem OwnT.weaken {w : World} {B B' : Nat} {v : Value} {ts : List T4} (h : OwnT w B v ts) (hB : B' ≤ B) : OwnT w B' v ts := by
  obtain ⟨h1, h2⟩ := h
  refine ⟨h1, ?_⟩
  rcases h2 with h2 | ⟨g, cap, cur, e1, e2, e3⟩
  · exact .inl h2
  · exact .inr ⟨g, cap, cur, e1, Nat.le_trans hB e2, e3⟩

end Go.Proofs.Ytfkmophmiiehlaa
