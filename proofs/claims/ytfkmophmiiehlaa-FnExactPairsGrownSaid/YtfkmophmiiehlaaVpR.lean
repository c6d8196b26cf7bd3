/- Contracts and lemmas for the statements of this seat, written for this claim; each theorem states its own conditions. -/
import Derived.Test.YtfkmophmiiehlaaRows
import Derived.Deep.RegionHeld3
import Derived.Deep.LoopGhost
import Derived.Laws.BitsLemmas
import Derived.BigQuiet
import Derived.Test.YtfkmophmiiehlaaVpQ8
import Derived.Test.YtfkmophmiiehlaaVpM4
import Derived.Test.YtfkmophmiiehlaaVpJ2
import Derived.Test.YtfkmophmiiehlaaVpLi
import Derived.Test.YtfkmophmiiehlaaVpMk
import Derived.Test.YtfkmophmiiehlaaVpI2
import Derived.Test.YtfkmophmiiehlaaVpTn1
import Derived.Test.YtfkmophmiiehlaaVpTf1
import Derived.Test.YtfkmophmiiehlaaVpLw
import Derived.Test.YtfkmophmiiehlaaVpB
import Derived.Test.YtfkmophmiiehlaaVpBy
import Derived.Test.YtfkmophmiiehlaaVpOw
import Derived.Test.YtfkmophmiiehlaaVpSu
import Derived.Test.YtfkmophmiiehlaaVpSy
import Derived.Test.YtfkmophmiiehlaaVpTi1
import Derived.Test.YtfkmophmiiehlaaVpSe
import Derived.Test.YtfkmophmiiehlaaVpOp
import Derived.Test.YtfkmophmiiehlaaVpL1
import Derived.Test.YtfkmophmiiehlaaVpCo
import Derived.Test.YtfkmophmiiehlaaVpCp
import Derived.Test.YtfkmophmiiehlaaVpGr
import Derived.Test.YtfkmophmiiehlaaVpTg
set_option linter.unusedVariables false
set_option linter.unusedSimpArgs false
namespace Go.Proofs.Ytfkmophmiiehlaa
open Go.RowKit
open Go.ChangeShapes Go.WideShapes Go.ChangeAt in
set_option maxRecDepth 100000 in
theorem lifted_FnExactPairsGrown (os : Os) (started : os.Started) (H : Type) (enc : TypeId × Value → H) :
    ReturnsInHanded {} Try.checked os 8 .any (Rows.fnExactPairsGrownSpec.pre6 enc Try.prog Try.f8 Rows.fnExactPairsGrownRow.domain false) (Rows.fnExactPairsGrownSpec.post enc Try.prog Try.f8 false true false false) := by
  refine returnsInHanded_of_change_sized (C := Try.checked) ownKnobF started (by kernel_rfl) Try.func8
    (ChangeSpec.witness6 (enc := enc) (C := Try.checked) false ⟨#[], #[.agg #[.int .i64 0, .slice none 0 0], .slice none 0 0, .int .i64 0], []⟩ 8 (by kernel_rfl) (by kernel_rfl) (by kernel_rfl) (by kernel_rfl)) ?_
  intro W base args ds gs before hval0 hW hcnd hsz0 _
  have hval : ∀ (j : Nat) t v, Try.f8.params[j]? = some t → args[j]? = some v → Value.okWide Try.prog W .any base t v := hval0
  have hW' := hW
  obtain ⟨p, q, hA0, hV, rfl, hfz, hnd⟩ := hW
  have hA : DataW.TrodAll enc Try.prog W 0 (fun _ => true) true Try.f8.params.toList args.toList ds p := hA0
  rw [Try.params8] at hA hval
  obtain ⟨v0, vs0, d0, ds0, p0, q0, hargs, rfl, rfl, h0, r0⟩ := trodAll_cons hA
  obtain ⟨v1, vs1, d1, ds1, p1, q1, rfl, rfl, rfl, h1, r1⟩ := trodAll_cons r0
  obtain ⟨v2, vs2, d2, ds2, p2, q2, rfl, rfl, rfl, h2, r2⟩ := trodAll_cons r1
  obtain ⟨rfl, rfl, rfl⟩ := trodAll_nil r2
  obtain rfl : args = #[v0, v1, v2] := by cases args; simp_all
  obtain ⟨rfl, rfl⟩ := trodVars_none hV
  have hlt : ∀ x ∈ (p0 ++ (p1 ++ (p2 ++ []))), x.block < W.heap.size := fun x hx => hW'.lt x (by simpa using hx)
  obtain ⟨cs0, rfl, z0⟩ := okWide_struct Try.underlying24 (hval 0 24 v0 rfl rfl)
  obtain ⟨y0⟩ := cs0
  have h0' := h0
  obtain ⟨fu0, g0⟩ := h0
  obtain ⟨c0, A0, k0, x0, e0, w0, l0, C0⟩ := trod_lset g0
  obtain rfl : y0 = _ := e0
  obtain ⟨B1, n1, m1, rfl⟩ := okWide_slice Try.underlying26 (hval 1 26 v1 rfl rfl)
  have h1' := h1
  obtain ⟨fu1, g1⟩ := h1
  obtain ⟨A1, k1, x1, e1, l1, C1, s1⟩ := trod_intss g1
  obtain ⟨rfl, rfl, rfl⟩ : A1 = B1 ∧ x1.length = n1 ∧ k1 = m1 := by simp [Value.cells] at e1; exact ⟨e1.1.symm, e1.2.1.symm, e1.2.2.symm⟩
  obtain ⟨a2, rfl, rfl, rfl, w2⟩ := open_int Try.underlying2 (hval 2 2 v2 rfl rfl) h2
  clear hA0 hval0 hsz0
  refine (law_PairsGrown c0 x0 A0 k0 x1 A1 k1 a2 W C0 l0 C1 l1 s1).mono fun e W' ⟨he, bel⟩ => ?_
  subst he
  exact ⟨_, rfl, _, _, _, [], _, [], hW', trodAll_mk1 (shut_bool Try.underlying4 _), (trodAll_cons_mk (Below.trod laidB (by kernel_rfl) (of_decide_eq_true (by kernel_rfl)) h0' bel (fun x hx => hlt x (by simp [hx]))) (trodAll_cons_mk (Below.trod laidB (by kernel_rfl) (of_decide_eq_true (by kernel_rfl)) h1' bel (fun x hx => hlt x (by simp [hx]))) (trodAll_cons_mk (shut_int Try.underlying2 w2) trodAll_mk0))), rfl, bel.frame _, fun h => by cases h⟩
theorem pairsGrown_holds : Rows.FnExactPairsGrownSaid :=
  OpenClaim.holds_of_wide 8 Try.f8 rfl rfl rfl rfl rfl rfl rfl ⟨rfl, rfl, rfl, rfl, rfl⟩ rfl rfl rfl rfl rfl (by kernel_rfl) Try.func8 (by kernel_rfl)
    (of_decide_eq_true (by kernel_rfl)) (by unfold Func.isWrapper; first | (rw [if_pos (by decide +kernel)]; kernel_rfl) | (rw [if_neg (by decide +kernel)]; exact ⟨rfl, rfl⟩))
    (fun os started H enc _ => lifted_FnExactPairsGrown os started H enc)

end Go.Proofs.Ytfkmophmiiehlaa
