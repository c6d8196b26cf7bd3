/- Contracts and lemmas for the statements of this seat, written for this claim; each theorem states its own conditions. -/
import Derived.Test.YtfkmophmiiehlaaRows
import Derived.Deep.RegionHeld3
import Derived.Deep.LoopGhost
import Derived.Laws.BitsLemmas
import Derived.BigQuiet
import Derived.Test.YtfkmophmiiehlaaKbN6
import Derived.Test.YtfkmophmiiehlaaKbJ9
import Derived.Test.YtfkmophmiiehlaaKbJ6
import Derived.Test.YtfkmophmiiehlaaKbLi
import Derived.Test.YtfkmophmiiehlaaKbMk
import Derived.Test.YtfkmophmiiehlaaKbI6
import Derived.Test.YtfkmophmiiehlaaKbF1
import Derived.Test.YtfkmophmiiehlaaKbTe1
import Derived.Test.YtfkmophmiiehlaaKbSe
import Derived.Test.YtfkmophmiiehlaaKbB
import Derived.Test.YtfkmophmiiehlaaKbBx
import Derived.Test.YtfkmophmiiehlaaKbAp
import Derived.Test.YtfkmophmiiehlaaKbSu
import Derived.Test.YtfkmophmiiehlaaKbTi1
import Derived.Test.YtfkmophmiiehlaaKbTl1
import Derived.Test.YtfkmophmiiehlaaKbOp
import Derived.Test.YtfkmophmiiehlaaKbL1
import Derived.Test.YtfkmophmiiehlaaKbBk
import Derived.Test.YtfkmophmiiehlaaKbBa
import Derived.Test.YtfkmophmiiehlaaKbCp
import Derived.Test.YtfkmophmiiehlaaKbGt
set_option linter.unusedVariables false
set_option linter.unusedSimpArgs false
namespace Go.Proofs.Ytfkmophmiiehlaa
open Go.RowKit
open Go.ChangeShapes Go.WideShapes Go.ChangeAt in
set_option maxRecDepth 100000 in
theorem lifted_FnExactBoardTiles (os : Os) (started : os.Started) (H : Type) (enc : TypeId × Value → H) :
    ReturnsInHanded {} Try.checked os 4 .any (Rows.fnExactBoardTilesSpec.pre6 enc Try.prog Try.f4 Rows.fnExactBoardTilesRow.domain false) (Rows.fnExactBoardTilesSpec.post enc Try.prog Try.f4 false true false false) := by
  refine returnsInHanded_of_change_sized (C := Try.checked) ownKnobF started (by kernel_rfl) Try.func4
    (ChangeSpec.witness6 (enc := enc) (C := Try.checked) false ⟨#[], #[.slice none 0 0, .int .i64 0, .slice none 0 0], []⟩ 8 (by kernel_rfl) (by kernel_rfl) (by kernel_rfl) (by kernel_rfl)) ?_
  intro W base args ds gs before hval0 hW hcnd hsz0 _
  have hval : ∀ (j : Nat) t v, Try.f4.params[j]? = some t → args[j]? = some v → Value.okWide Try.prog W .any base t v := hval0
  have hW' := hW
  obtain ⟨p, q, hA0, hV, rfl, hfz, hnd⟩ := hW
  have hA : DataW.TrodAll enc Try.prog W 0 (fun _ => true) true Try.f4.params.toList args.toList ds p := hA0
  rw [Try.params4] at hA hval
  obtain ⟨v0, vs0, d0, ds0, p0, q0, hargs, rfl, rfl, h0, r0⟩ := trodAll_cons hA
  obtain ⟨v1, vs1, d1, ds1, p1, q1, rfl, rfl, rfl, h1, r1⟩ := trodAll_cons r0
  obtain ⟨v2, vs2, d2, ds2, p2, q2, rfl, rfl, rfl, h2, r2⟩ := trodAll_cons r1
  obtain ⟨rfl, rfl, rfl⟩ := trodAll_nil r2
  obtain rfl : args = #[v0, v1, v2] := by cases args; simp_all
  obtain ⟨rfl, rfl⟩ := trodVars_none hV
  have hlt : ∀ x ∈ (p0 ++ (p1 ++ (p2 ++ []))), x.block < W.heap.size := fun x hx => hW'.lt x (by simpa using hx)
  obtain ⟨B0, n0, m0, rfl⟩ := okWide_slice Try.underlying22 (hval 0 22 v0 rfl rfl)
  have h0' := h0
  obtain ⟨fu0, g0⟩ := h0
  obtain ⟨A0, k0, x0, e0, l0, C0⟩ := trod_tileS g0
  obtain ⟨rfl, rfl, rfl⟩ : A0 = B0 ∧ x0.length = n0 ∧ k0 = m0 := by simp [Value.cells] at e0; exact ⟨e0.1.symm, e0.2.1.symm, e0.2.2.symm⟩
  obtain ⟨a1, rfl, rfl, rfl, w1⟩ := open_int Try.underlying2 (hval 1 2 v1 rfl rfl) h1
  obtain ⟨B2, n2, m2, rfl⟩ := okWide_slice Try.underlying38 (hval 2 38 v2 rfl rfl)
  have h2' := h2
  obtain ⟨fu2, g2⟩ := h2
  obtain ⟨A2, k2, x2, e2, l2, C2, s2⟩ := trod_plss g2
  obtain ⟨rfl, rfl, rfl⟩ : A2 = B2 ∧ x2.length = n2 ∧ k2 = m2 := by simp [Value.cells] at e2; exact ⟨e2.1.symm, e2.2.1.symm, e2.2.2.symm⟩
  clear hA0 hval0 hsz0
  refine (law_BoardTiles x0 A0 k0 a1 x2 A2 k2 W C0 l0 C2 l2 s2).mono fun e W' ⟨he, bel⟩ => ?_
  subst he
  exact ⟨_, rfl, _, _, _, [], _, [], hW', trodAll_mk1 (shut_bool Try.underlying4 _), (trodAll_cons_mk (Below.trod laidB (by kernel_rfl) (of_decide_eq_true (by kernel_rfl)) h0' bel (fun x hx => hlt x (by simp [hx]))) (trodAll_cons_mk (shut_int Try.underlying2 w1) (trodAll_cons_mk (Below.trod laidB (by kernel_rfl) (of_decide_eq_true (by kernel_rfl)) h2' bel (fun x hx => hlt x (by simp [hx]))) trodAll_mk0))), rfl, bel.frame _, fun h => by cases h⟩
theorem boardTiles_holds : Rows.FnExactBoardTilesSaid :=
  OpenClaim.holds_of_wide 4 Try.f4 rfl rfl rfl rfl rfl rfl rfl ⟨rfl, rfl, rfl, rfl, rfl⟩ rfl rfl rfl rfl rfl (by kernel_rfl) Try.func4 (by kernel_rfl)
    (of_decide_eq_true (by kernel_rfl)) (by unfold Func.isWrapper; first | (rw [if_pos (by decide +kernel)]; kernel_rfl) | (rw [if_neg (by decide +kernel)]; exact ⟨rfl, rfl⟩))
    (fun os started H enc _ => lifted_FnExactBoardTiles os started H enc)

end Go.Proofs.Ytfkmophmiiehlaa
