/- Contracts and lemmas for the statements of this seat, written for this claim; each theorem states its own conditions. -/
import Derived.Test.YtfkmophmiiehlaaRows
import Derived.Deep.RegionHeld3
import Derived.Deep.LoopGhost
import Derived.Laws.BitsLemmas
import Derived.Test.YtfkmophmiiehlaaNtI8
import Derived.Test.YtfkmophmiiehlaaNtF1
import Derived.Test.YtfkmophmiiehlaaNtTf1
import Derived.Test.YtfkmophmiiehlaaNtLw
import Derived.Test.YtfkmophmiiehlaaNtLi
import Derived.Test.YtfkmophmiiehlaaNtMk
import Derived.Test.YtfkmophmiiehlaaNtPg
import Derived.Test.YtfkmophmiiehlaaNtBy
import Derived.Test.YtfkmophmiiehlaaNtHd
import Derived.Test.YtfkmophmiiehlaaNtSx
import Derived.Test.YtfkmophmiiehlaaNtSy
import Derived.Test.YtfkmophmiiehlaaNtTi1
import Derived.Test.YtfkmophmiiehlaaNtTl1
import Derived.Test.YtfkmophmiiehlaaNtSe
import Derived.Test.YtfkmophmiiehlaaNtOp
import Derived.Test.YtfkmophmiiehlaaNtSr
import Derived.Test.YtfkmophmiiehlaaNtL1
import Derived.Test.YtfkmophmiiehlaaNtOw
import Derived.Test.YtfkmophmiiehlaaNtAp
import Derived.Test.YtfkmophmiiehlaaNtBa
import Derived.Test.YtfkmophmiiehlaaNtRw
import Derived.Test.YtfkmophmiiehlaaNtCp
import Derived.Test.YtfkmophmiiehlaaNtGt
import Derived.Test.YtfkmophmiiehlaaNtTg
import Derived.Test.YtfkmophmiiehlaaNtGr
import Derived.Test.YtfkmophmiiehlaaNtRo
set_option linter.unusedVariables false
set_option linter.unusedSimpArgs false
namespace Go.Proofs.Ytfkmophmiiehlaa
open Go.RowKit
set_option maxRecDepth 100000 in
theorem okWide_arr4 {w : World} {r : Reach} {base : Nat} {v : Value} (h : Value.okWide Try.prog w r base 54 v) : ∃ cs, v = .agg cs ∧ cs.size = Try.prog.cellsOf 54 := by
  simp only [Value.okWide, Try.underlying54] at h
  obtain ⟨cs, h1, h2, _⟩ := h
  exact ⟨cs, h1, h2⟩
open Go.ChangeShapes Go.WideShapes Go.ChangeAt in
set_option maxRecDepth 100000 in
theorem lifted_FnExactTurnNumber (os : Os) (started : os.Started) (H : Type) (enc : TypeId × Value → H) :
    ReturnsInHanded {} Try.checked os 5 .any (Rows.fnExactTurnNumberSpec.pre6 enc Try.prog Try.f5 Rows.fnExactTurnNumberRow.domain false) (Rows.fnExactTurnNumberSpec.post enc Try.prog Try.f5 false true false false) := by
  refine returnsInHanded_of_change_sized (C := Try.checked) ownKnobF started (by kernel_rfl) Try.func5
    (ChangeSpec.witness6 (enc := enc) (C := Try.checked) false ⟨#[], #[.agg #[.int .i64 0, .int .i64 0, .int .i64 0, .int .i64 0]], []⟩ 8 (by kernel_rfl) (by kernel_rfl) (by kernel_rfl) (by kernel_rfl)) ?_
  intro W base args ds gs before hval0 hW hcnd hsz0 _
  have hval : ∀ (j : Nat) t v, Try.f5.params[j]? = some t → args[j]? = some v → Value.okWide Try.prog W .any base t v := hval0
  have hW' := hW
  obtain ⟨p, q, hA0, hV, rfl, hfz, hnd⟩ := hW
  have hA : DataW.TrodAll enc Try.prog W 0 (fun _ => true) true Try.f5.params.toList args.toList ds p := hA0
  rw [Try.params5] at hA hval
  obtain ⟨v0, vs0, d0, ds0, p0, q0, hargs, rfl, rfl, h0, r0⟩ := trodAll_cons hA
  obtain ⟨rfl, rfl, rfl⟩ := trodAll_nil r0
  obtain rfl : args = #[v0] := by cases args; simp_all
  obtain ⟨rfl, rfl⟩ := trodVars_none hV
  have hlt : ∀ x ∈ (p0 ++ []), x.block < W.heap.size := fun x hx => hW'.lt x (by simpa using hx)
  obtain ⟨cs0, rfl, z0⟩ := okWide_arr4 (hval 0 54 v0 rfl rfl)
  obtain ⟨y0⟩ := cs0
  have h0' := h0
  obtain ⟨fu0, g0⟩ := h0
  obtain ⟨t0, e0⟩ := trod_arr4 g0
  obtain rfl : y0 = _ := e0
  clear hA0 hval0 hsz0
  refine (law_TurnNumber t0 W).mono fun e W' ⟨he, bel⟩ => ?_
  subst he
  exact ⟨_, rfl, _, _, _, [], _, [], hW', trodAll_mk1 (shut_bool Try.underlying4 _), (trodAll_cons_mk (Below.trod laidB (by kernel_rfl) (of_decide_eq_true (by kernel_rfl)) h0' bel (fun x hx => hlt x (by simp [hx]))) trodAll_mk0), rfl, bel.frame _, fun h => by cases h⟩
theorem turnNumber_holds : Rows.FnExactTurnNumberSaid :=
  OpenClaim.holds_of_wide 5 Try.f5 rfl rfl rfl rfl rfl rfl rfl ⟨rfl, rfl, rfl, rfl, rfl⟩ rfl rfl rfl rfl rfl (by kernel_rfl) Try.func5 (by kernel_rfl)
    (of_decide_eq_true (by kernel_rfl)) (by unfold Func.isWrapper; first | (rw [if_pos (by decide +kernel)]; kernel_rfl) | (rw [if_neg (by decide +kernel)]; exact ⟨rfl, rfl⟩))
    (fun os started H enc _ => lifted_FnExactTurnNumber os started H enc)

end Go.Proofs.Ytfkmophmiiehlaa
