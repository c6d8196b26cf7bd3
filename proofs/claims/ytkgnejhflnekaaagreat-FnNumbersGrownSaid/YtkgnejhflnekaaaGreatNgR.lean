/- Contracts and lemmas for the statements of this seat, written for this claim; each theorem states its own conditions. -/
import Derived.Test.YtkgnejhflnekaaaGreatRows
import Derived.Deep.RegionHeld3
import Derived.Lib.LazyBuf
import Derived.Deep.LoopGhost
import Derived.BigQuiet
import Derived.Deep.Cut
import Derived.Deep.DeepCutAuto
import Derived.Deep.CutBlock
import Derived.Test.YtkgnejhflnekaaaGreatNgY9
import Derived.Test.YtkgnejhflnekaaaGreatNgZ3
import Derived.Test.YtkgnejhflnekaaaGreatNgGt
import Derived.Test.YtkgnejhflnekaaaGreatNgBy
import Derived.Test.YtkgnejhflnekaaaGreatNgOp
import Derived.Test.YtkgnejhflnekaaaGreatNgZ2
import Derived.Test.YtkgnejhflnekaaaGreatNgZ4
import Derived.Test.YtkgnejhflnekaaaGreatNgDr
import Derived.Test.YtkgnejhflnekaaaGreatNgNu
import Derived.Test.YtkgnejhflnekaaaGreatNgZ6
import Derived.Test.YtkgnejhflnekaaaGreatNgQ7
import Derived.Test.YtkgnejhflnekaaaGreatNgJ4
import Derived.Test.YtkgnejhflnekaaaGreatNgSe
import Derived.Test.YtkgnejhflnekaaaGreatNgMk
import Derived.Test.YtkgnejhflnekaaaGreatNgI1
import Derived.Test.YtkgnejhflnekaaaGreatNgL1
import Derived.Test.YtkgnejhflnekaaaGreatNgB
import Derived.Test.YtkgnejhflnekaaaGreatNgSu
import Derived.Test.YtkgnejhflnekaaaGreatNgAp
import Derived.Test.YtkgnejhflnekaaaGreatNgTd1
import Derived.Test.YtkgnejhflnekaaaGreatNgP1
import Derived.Test.YtkgnejhflnekaaaGreatNgPr
import Derived.Test.YtkgnejhflnekaaaGreatNgCp
import Derived.Test.YtkgnejhflnekaaaGreatNgCq
import Derived.Test.YtkgnejhflnekaaaGreatNgTg
set_option linter.unusedVariables false
set_option linter.unusedSimpArgs false
namespace Go.Proofs.YtkgnejhflnekaaaGreat
open Go.RowKit
open Go.ChangeShapes Go.WideShapes Go.ChangeAt in
set_option maxRecDepth 100000 in
theorem lifted_FnNumbersGrown (os : Os) (started : os.Started) (H : Type) (enc : TypeId × Value → H) :
    ReturnsInHanded {} Tryz.checked os 4 .any (Rows.fnNumbersGrownSpec.pre6 enc Tryz.prog Tryz.f4 Rows.fnNumbersGrownRow.domain false) (Rows.fnNumbersGrownSpec.post enc Tryz.prog Tryz.f4 false true false false) := by
  refine returnsInHanded_of_change_sized (C := Tryz.checked) ownKnobF started (by kernel_rfl) Tryz.func4
    (ChangeSpec.witness6 (enc := enc) (C := Tryz.checked) false ⟨#[], #[.slice none 0 0], []⟩ 8 (by kernel_rfl) (by kernel_rfl) (by kernel_rfl) (by kernel_rfl)) ?_
  intro W base args ds gs before hval0 hW hcnd hsz0 _
  have hval : ∀ (j : Nat) t v, Tryz.f4.params[j]? = some t → args[j]? = some v → Value.okWide Tryz.prog W .any base t v := hval0
  have hW' := hW
  obtain ⟨p, q, hA0, hV, rfl, hfz, hnd⟩ := hW
  have hA : DataW.TrodAll enc Tryz.prog W 0 (fun _ => true) true Tryz.f4.params.toList args.toList ds p := hA0
  rw [Tryz.params4] at hA hval
  obtain ⟨v0, vs0, d0, ds0, p0, q0, hargs, rfl, rfl, h0, r0⟩ := trodAll_cons hA
  obtain ⟨rfl, rfl, rfl⟩ := trodAll_nil r0
  obtain rfl : args = #[v0] := by cases args; simp_all
  obtain ⟨rfl, rfl⟩ := trodVars_none hV
  have hlt : ∀ x ∈ (p0 ++ []), x.block < W.heap.size := fun x hx => hW'.lt x (by simpa using hx)
  obtain ⟨B0, n0, m0, rfl⟩ := okWide_slice Tryz.underlying22 (hval 0 22 v0 rfl rfl)
  have h0' := h0
  obtain ⟨fu0, g0⟩ := h0
  obtain ⟨A0, k0, x0, e0, l0, C0, s0⟩ := trod_bytes g0
  obtain ⟨rfl, rfl, rfl⟩ : A0 = B0 ∧ x0.length = n0 ∧ k0 = m0 := by simp [Value.cells] at e0; exact ⟨e0.1.symm, e0.2.1.symm, e0.2.2.symm⟩
  clear hA0 hval0 hsz0
  refine (law_FnNumbersGrown x0 A0 k0 W C0 l0 s0).mono fun e W' ⟨he, bel⟩ => ?_
  subst he
  exact ⟨_, rfl, _, _, _, [], _, [], hW', trodAll_mk1 (shut_bool Tryz.underlying4 _), (trodAll_cons_mk (Below.trod laidB (by kernel_rfl) (of_decide_eq_true (by kernel_rfl)) h0' bel (fun x hx => hlt x (by simp [hx]))) trodAll_mk0), rfl, bel.frame _, fun h => by cases h⟩
theorem numbersGrown_holds : Rows.FnNumbersGrownSaid :=
  OpenClaim.holds_of_wide 4 Tryz.f4 rfl rfl rfl rfl rfl rfl rfl ⟨rfl, rfl, rfl, rfl, rfl⟩ rfl rfl rfl rfl rfl (by kernel_rfl) Tryz.func4 (by kernel_rfl)
    (of_decide_eq_true (by kernel_rfl)) (by unfold Func.isWrapper; first | (rw [if_pos (by decide +kernel)]; kernel_rfl) | (rw [if_neg (by decide +kernel)]; exact ⟨rfl, rfl⟩))
    (fun os started H enc _ => lifted_FnNumbersGrown os started H enc)
end Go.Proofs.YtkgnejhflnekaaaGreat
