/- Contracts and lemmas for the statements of this seat, written for this claim; each theorem states its own conditions. -/
import Derived.Test.YtdhcmchpbofioaaRows
import Derived.Deep.RegionHeld3
import Derived.Test.YtdhcmchpbofioaaSbLw
import Derived.Test.YtdhcmchpbofioaaSbL1
import Derived.Test.YtdhcmchpbofioaaSbOw
import Derived.Test.YtdhcmchpbofioaaSbLi
import Derived.Test.YtdhcmchpbofioaaSbBa
import Derived.Test.YtdhcmchpbofioaaSbAp
import Derived.Test.YtdhcmchpbofioaaSbRw
import Derived.Test.YtdhcmchpbofioaaSbOs
import Derived.Test.YtdhcmchpbofioaaSbCp
import Derived.Test.YtdhcmchpbofioaaSbMk
import Derived.Test.YtdhcmchpbofioaaSbHd
import Derived.Test.YtdhcmchpbofioaaSbGt
import Derived.Test.YtdhcmchpbofioaaSbGr
import Derived.Test.YtdhcmchpbofioaaSbGw
import Derived.Test.YtdhcmchpbofioaaSbLq
import Derived.Test.YtdhcmchpbofioaaSbOp
import Derived.Test.YtdhcmchpbofioaaSbOq
set_option linter.unusedVariables false
set_option linter.unusedSimpArgs false
namespace Go.Proofs.Ytdhcmchpbofioaa
open Go.RowKit
open Go.ChangeShapes Go.WideShapes Go.ChangeAt in
set_option maxRecDepth 100000 in
theorem lifted_FnExactShrinkRows (os : Os) (started : os.Started) (H : Type) (enc : TypeId × Value → H) :
    ReturnsInHanded {} Try.checked os 4 .any (Rows.fnExactShrinkRowsSpec.pre6 enc Try.prog Try.f4 Rows.fnExactShrinkRowsRow.domain false) (Rows.fnExactShrinkRowsSpec.post enc Try.prog Try.f4 false true false false) := by
  refine returnsInHanded_of_change_sized (C := Try.checked) ownKnobF started (by kernel_rfl) Try.func4
    (ChangeSpec.witness6 (enc := enc) (C := Try.checked) false ⟨#[], #[.agg #[.int .i64 0, .slice none 0 0], .slice none 0 0, .slice none 0 0], []⟩ 8 (by kernel_rfl) (by kernel_rfl) (by kernel_rfl) (by kernel_rfl)) ?_
  intro W base args ds gs before hval0 hW hcnd hsz0 _
  have hval : ∀ (j : Nat) t v, Try.f4.params[j]? = some t → args[j]? = some v → Value.okWide Try.prog W .any base t v := hval0
  have hW' := hW
  obtain ⟨p, q, hA0, hV, rfl, hfz, hnd⟩ := hW
  have hA : DataW.TrodAll enc Try.prog W 0 (fun _ => true) true Try.f4.params.toList args.toList ds p := hA0
  rw [Try.params4] at hA hval
  obtain ⟨v0, vs0, d0, ds0, p0, q0, hargs, rfl, rfl, h0, r0⟩ := trodAll_cons hA
  obtain ⟨v1, vs1, d1, ds1, p1, q1, rfl, rfl, rfl, h1, r1⟩ := trodAll_cons r0
  obtain ⟨v2, vs2, d2, ds2, p2, q2, rfl, rfl, rfl, h2, r2⟩ := trodAll_cons r1
  obtain ⟨rfl, rfl, rfl⟩ := trodAll_nil r2
  obtain rfl : args = #[v0, v1, v2] := by cases args; simp_all
  obtain ⟨rfl, rfl⟩ := trodVars_none hV
  have hlt : ∀ x ∈ (p0 ++ (p1 ++ (p2 ++ []))), x.block < W.heap.size := fun x hx => hW'.lt x (by simpa using hx)
  obtain ⟨cs0, rfl, z0⟩ := okWide_struct Try.underlying24 (hval 0 24 v0 rfl rfl)
  obtain ⟨y0⟩ := cs0
  have h0' := h0
  obtain ⟨fu0, g0⟩ := h0
  obtain ⟨c0, A0, k0, x0, e0, w0, l0, C0⟩ := trod_lset g0
  obtain rfl : y0 = _ := e0
  obtain ⟨B1, n1, m1, rfl⟩ := okWide_slice Try.underlying25 (hval 1 25 v1 rfl rfl)
  have h1' := h1
  obtain ⟨fu1, g1⟩ := h1
  obtain ⟨A1, k1, x1, e1, l1, C1, s1⟩ := trod_intss g1
  obtain ⟨rfl, rfl, rfl⟩ : A1 = B1 ∧ x1.length = n1 ∧ k1 = m1 := by simp [Value.cells] at e1; exact ⟨e1.1.symm, e1.2.1.symm, e1.2.2.symm⟩
  obtain ⟨B2, n2, m2, rfl⟩ := okWide_slice Try.underlying25 (hval 2 25 v2 rfl rfl)
  have h2' := h2
  obtain ⟨fu2, g2⟩ := h2
  obtain ⟨A2, k2, x2, e2, l2, C2, s2⟩ := trod_intss g2
  obtain ⟨rfl, rfl, rfl⟩ : A2 = B2 ∧ x2.length = n2 ∧ k2 = m2 := by simp [Value.cells] at e2; exact ⟨e2.1.symm, e2.2.1.symm, e2.2.2.symm⟩
  clear hA0 hval0 hsz0
  refine (law_ShrinkRows c0 x0 A0 k0 x1 A1 k1 x2 A2 k2 W C0 l0 C1 l1 s1 C2 l2 s2).mono fun e W' ⟨he, bel⟩ => ?_
  subst he
  exact ⟨_, rfl, _, _, _, [], _, [], hW', trodAll_mk1 (shut_bool Try.underlying4 _), (trodAll_cons_mk (Below.trod laidB (by kernel_rfl) (of_decide_eq_true (by kernel_rfl)) h0' bel (fun x hx => hlt x (by simp [hx]))) (trodAll_cons_mk (Below.trod laidB (by kernel_rfl) (of_decide_eq_true (by kernel_rfl)) h1' bel (fun x hx => hlt x (by simp [hx]))) (trodAll_cons_mk (Below.trod laidB (by kernel_rfl) (of_decide_eq_true (by kernel_rfl)) h2' bel (fun x hx => hlt x (by simp [hx]))) trodAll_mk0))), rfl, bel.frame _, fun h => by cases h⟩
theorem shrinkRows_holds : Rows.FnExactShrinkRowsSaid :=
  OpenClaim.holds_of_wide 4 Try.f4 rfl rfl rfl rfl rfl rfl rfl ⟨rfl, rfl, rfl, rfl, rfl⟩ rfl rfl rfl rfl rfl (by kernel_rfl) Try.func4 (by kernel_rfl)
    (of_decide_eq_true (by kernel_rfl)) (by unfold Func.isWrapper; first | (rw [if_pos (by decide +kernel)]; kernel_rfl) | (rw [if_neg (by decide +kernel)]; exact ⟨rfl, rfl⟩))
    (fun os started H enc _ => lifted_FnExactShrinkRows os started H enc)

end Go.Proofs.Ytdhcmchpbofioaa
