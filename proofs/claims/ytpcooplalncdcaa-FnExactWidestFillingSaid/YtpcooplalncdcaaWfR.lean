/- Contracts and lemmas for the statements of this seat, written for this claim; each theorem states its own conditions. -/
import Derived.Test.YtpcooplalncdcaaRows
import Derived.Deep.RegionHeld3
import Derived.Test.YtpcooplalncdcaaWfW9
import Derived.Test.YtpcooplalncdcaaWfTn1
import Derived.Test.YtpcooplalncdcaaWfSe
import Derived.Test.YtpcooplalncdcaaWfLw
import Derived.Test.YtpcooplalncdcaaWfLi
import Derived.Test.YtpcooplalncdcaaWfMk
import Derived.Test.YtpcooplalncdcaaWfTa1
import Derived.Test.YtpcooplalncdcaaWfOp
import Derived.Test.YtpcooplalncdcaaWfSr
import Derived.Test.YtpcooplalncdcaaWfL1
import Derived.Test.YtpcooplalncdcaaWfOw
import Derived.Test.YtpcooplalncdcaaWfHd
import Derived.Test.YtpcooplalncdcaaWfAp
import Derived.Test.YtpcooplalncdcaaWfBa
import Derived.Test.YtpcooplalncdcaaWfBy
import Derived.Test.YtpcooplalncdcaaWfPg
import Derived.Test.YtpcooplalncdcaaWfGt
import Derived.Test.YtpcooplalncdcaaWfTg
import Derived.Test.YtpcooplalncdcaaWfGr
import Derived.Test.YtpcooplalncdcaaWfRo
set_option linter.unusedVariables false
set_option linter.unusedSimpArgs false
namespace Go.Proofs.Ytpcooplalncdcaa
open Go.RowKit
open Go.ChangeShapes Go.WideShapes Go.ChangeAt in
set_option maxRecDepth 100000 in
theorem lifted_FnExactWidestFilling (os : Os) (started : os.Started) (H : Type) (enc : TypeId × Value → H) :
    ReturnsInHanded {} Try.checked os 4 .any (Rows.fnExactWidestFillingSpec.pre6 enc Try.prog Try.f4 Rows.fnExactWidestFillingRow.domain false) (Rows.fnExactWidestFillingSpec.post enc Try.prog Try.f4 false true false false) := by
  refine returnsInHanded_of_change_sized (C := Try.checked) ownKnobF started (by kernel_rfl) Try.func4
    (ChangeSpec.witness6 (enc := enc) (C := Try.checked) false ⟨#[], #[.agg #[.int .i64 0, .slice none 0 0], .int .i64 0], []⟩ 8 (by kernel_rfl) (by kernel_rfl) (by kernel_rfl) (by kernel_rfl)) ?_
  intro W base args ds gs before hval0 hW hcnd hsz0 _
  have hval : ∀ (j : Nat) t v, Try.f4.params[j]? = some t → args[j]? = some v → Value.okWide Try.prog W .any base t v := hval0
  have hW' := hW
  obtain ⟨p, q, hA0, hV, rfl, hfz, hnd⟩ := hW
  have hA : DataW.TrodAll enc Try.prog W 0 (fun _ => true) true Try.f4.params.toList args.toList ds p := hA0
  rw [Try.params4] at hA hval
  obtain ⟨v0, vs0, d0, ds0, p0, q0, hargs, rfl, rfl, h0, r0⟩ := trodAll_cons hA
  obtain ⟨v1, vs1, d1, ds1, p1, q1, rfl, rfl, rfl, h1, r1⟩ := trodAll_cons r0
  obtain ⟨rfl, rfl, rfl⟩ := trodAll_nil r1
  obtain rfl : args = #[v0, v1] := by cases args; simp_all
  obtain ⟨rfl, rfl⟩ := trodVars_none hV
  have hlt : ∀ x ∈ (p0 ++ (p1 ++ [])), x.block < W.heap.size := fun x hx => hW'.lt x (by simpa using hx)
  obtain ⟨cs0, rfl, z0⟩ := okWide_struct Try.underlying24 (hval 0 24 v0 rfl rfl)
  obtain ⟨y0⟩ := cs0
  have h0' := h0
  obtain ⟨fu0, g0⟩ := h0
  obtain ⟨c0, A0, k0, x0, e0, w0, l0, C0⟩ := trod_lset g0
  obtain rfl : y0 = _ := e0
  obtain ⟨a1, rfl, rfl, rfl, w1⟩ := open_int Try.underlying2 (hval 1 2 v1 rfl rfl) h1
  clear hA0 hval0 hsz0
  refine (law_WidestFilling c0 x0 A0 k0 a1 W C0 l0).mono fun e W' ⟨he, bel⟩ => ?_
  subst he
  exact ⟨_, rfl, _, _, _, [], _, [], hW', trodAll_mk1 (shut_bool Try.underlying4 _), (trodAll_cons_mk (Below.trod laidB (by kernel_rfl) (of_decide_eq_true (by kernel_rfl)) h0' bel (fun x hx => hlt x (by simp [hx]))) (trodAll_cons_mk (shut_int Try.underlying2 w1) trodAll_mk0)), rfl, bel.frame _, fun h => by cases h⟩
theorem widestFilling_holds : Rows.FnExactWidestFillingSaid :=
  OpenClaim.holds_of_wide 4 Try.f4 rfl rfl rfl rfl rfl rfl rfl ⟨rfl, rfl, rfl, rfl, rfl⟩ rfl rfl rfl rfl rfl (by kernel_rfl) Try.func4 (by kernel_rfl)
    (of_decide_eq_true (by kernel_rfl)) (by unfold Func.isWrapper; first | (rw [if_pos (by decide +kernel)]; kernel_rfl) | (rw [if_neg (by decide +kernel)]; exact ⟨rfl, rfl⟩))
    (fun os started H enc _ => lifted_FnExactWidestFilling os started H enc)

end Go.Proofs.Ytpcooplalncdcaa
