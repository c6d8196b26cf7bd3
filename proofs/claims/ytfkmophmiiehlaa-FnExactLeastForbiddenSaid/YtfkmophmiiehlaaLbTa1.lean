/- Contracts and lemmas for the statements of this seat, written for this claim; each theorem states its own conditions. -/
import Derived.Test.YtfkmophmiiehlaaLbSy
set_option linter.unusedVariables false
set_option linter.unusedSimpArgs false
namespace Go.Proofs.Ytfkmophmiiehlaa
open Go.RowKit
theorem good_code (c : Int) (ts : List T4) (h : Int) (b : Bool) : tsCode c ts h (codeB (isSetB c ts) b == 0) = tsCode c ts h b := by
  unfold tsCode
  by_cases h1 : isSetB c ts = true
  · rw [h1]; cases b <;> rfl
  · rw [if_neg h1, if_neg h1]
theorem repB_set {n q : Nat} (h : q < n) : (repB n q).set q true = repB n (q + 1) := by
  unfold repB
  rw [List.set_append_right _ _ (by simp), List.length_replicate, Nat.sub_self, show n - q = (n - (q + 1)) + 1 by omega, List.replicate_succ, List.set_cons_zero, List.replicate_succ']
  simp
theorem tsome_take (cols : List Col) (x : Int) (now : List Bool) (k : Nat) (hk : k < cols.length) : tsome (cols.take (k + 1)) (some x) now = (tsome (cols.take k) (some x) now || ((x == cols[k].n) && now.getD cols[k].w.toNat false)) := by
  unfold tsome; rw [List.take_succ_eq_append_getElem hk, List.any_append]; simp
theorem tstep_eq (x : Int) (now nx : List Bool) (k : Col) (h : k.w.toNat < now.length) : tstep (some x) now nx k = if ((x == k.n) && now[k.w.toNat]) = true then nx.set k.e.toNat true else nx := by
  unfold tstep; simp [h]
end Go.Proofs.Ytfkmophmiiehlaa
