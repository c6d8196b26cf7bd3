/-
  No cell of these rows narrows 'for every input' (looked for: loops, veiled, ifaces, maps, wideKeys, modest, calm, conditions, laid).
  DERIVED. THE GIVEN ROWS OF THIS SEAT. 6 by the template 'for every input the law returns true; each argument reads behind the call as it read before'; 0 by the template 'total and deterministic' (their statements: YtlmplacadihjfaaTotals.lean).
  GIVEN WITH THE SEED: the statements are not yours to turn. If you find one false, say at which input.
  Laid BY PROGRAM, IN A SANDBOX (cutbox-rows.mjs): the forced cells as the released guide's own fill.sh prints them over the translation dfee854d662a8825… (all of the seat's roots in one cut). By AI agents, Wed Nov 11 2026. No macro, syntax, notation, axiom, sorry.
-/
import Derived.Test.YtlmplacadihjfaaChecked
import GoSem.Claim
import GoSem.ClaimJoined
import GoSem.ClaimMapViews
import Derived.JoinedTies
import Derived.KernelRfl
namespace Go.Proofs.Ytlmplacadihjfaa
/- THE CELL 'sum', in the pinned program and in every row, IS THE sha256 OF THE DUMP (.gsa) THAT YtlmplacadihjfaaProg.lean LOADS. Nothing in Lean hashes anything: it is a label: what it is worth is what the hold of that sum in a sandbox is worth. -/
noncomputable def Try.pinned : Pinned := { name := "ytlmplacadihjfaa", sum := "dfee854d662a8825e80d21c6b76f10a597128cf0d5f67841f6236518657f957b", checked := Try.checked }
namespace Rows
def none {H : Type} : Left H := { results := [], args := [] }

/-- 'laws.FnExactIsDesk': WHATEVER THE INPUT: true; the input reads as it did. -/
def fnExactIsDeskSpec : ChangeSpec := { name := "fnExactIsDesk", fn := fun _ => fun
  | [d] => { results := [.lit (.bool true)], args := [d] }
  | _ => none }
def fnExactIsDeskRow : OpenClaim := { program := "ytlmplacadihjfaa", sum := "dfee854d662a8825e80d21c6b76f10a597128cf0d5f67841f6236518657f957b", func := "loop.example/g01354/laws.FnExactIsDesk", spec := "fnExactIsDesk", unfollowed := true, recurses := true, apart := false }
def FnExactIsDeskSaid : Prop := fnExactIsDeskRow.holds Try.pinned (OpenSpec.ofChange fnExactIsDeskSpec)

/-- ITS FALSE NEIGHBOUR: 'it returns false'. Refute it at one input. -/
def fnExactIsDeskWrong : ChangeSpec := { name := "fnExactIsDesk", fn := fun _ => fun
  | [d] => { results := [.lit (.bool false)], args := [d] }
  | _ => none }
def FnExactIsDeskWrongFalsely : Prop := fnExactIsDeskRow.holds Try.pinned (OpenSpec.ofChange fnExactIsDeskWrong)

/-- 'laws.FnExactIsBalanced': WHATEVER THE INPUT: true; the input reads as it did. -/
def fnExactIsBalancedSpec : ChangeSpec := { name := "fnExactIsBalanced", fn := fun _ => fun
  | [d1, d2, d3] => { results := [.lit (.bool true)], args := [d1, d2, d3] }
  | _ => none }
def fnExactIsBalancedRow : OpenClaim := { program := "ytlmplacadihjfaa", sum := "dfee854d662a8825e80d21c6b76f10a597128cf0d5f67841f6236518657f957b", func := "loop.example/g01354/laws.FnExactIsBalanced", spec := "fnExactIsBalanced", unfollowed := true, recurses := true, apart := false }
def FnExactIsBalancedSaid : Prop := fnExactIsBalancedRow.holds Try.pinned (OpenSpec.ofChange fnExactIsBalancedSpec)

/-- ITS FALSE NEIGHBOUR: 'it returns false'. Refute it at one input. -/
def fnExactIsBalancedWrong : ChangeSpec := { name := "fnExactIsBalanced", fn := fun _ => fun
  | [d1, d2, d3] => { results := [.lit (.bool false)], args := [d1, d2, d3] }
  | _ => none }
def FnExactIsBalancedWrongFalsely : Prop := fnExactIsBalancedRow.holds Try.pinned (OpenSpec.ofChange fnExactIsBalancedWrong)

/-- 'laws.FnExactBalanceOfRow': WHATEVER THE INPUT: true; the input reads as it did. -/
def fnExactBalanceOfRowSpec : ChangeSpec := { name := "fnExactBalanceOfRow", fn := fun _ => fun
  | [d1, d2, d3, d4] => { results := [.lit (.bool true)], args := [d1, d2, d3, d4] }
  | _ => none }
def fnExactBalanceOfRowRow : OpenClaim := { program := "ytlmplacadihjfaa", sum := "dfee854d662a8825e80d21c6b76f10a597128cf0d5f67841f6236518657f957b", func := "loop.example/g01354/laws.FnExactBalanceOfRow", spec := "fnExactBalanceOfRow", unfollowed := true, recurses := true, apart := false }
def FnExactBalanceOfRowSaid : Prop := fnExactBalanceOfRowRow.holds Try.pinned (OpenSpec.ofChange fnExactBalanceOfRowSpec)

/-- ITS FALSE NEIGHBOUR: 'it returns false'. Refute it at one input. -/
def fnExactBalanceOfRowWrong : ChangeSpec := { name := "fnExactBalanceOfRow", fn := fun _ => fun
  | [d1, d2, d3, d4] => { results := [.lit (.bool false)], args := [d1, d2, d3, d4] }
  | _ => none }
def FnExactBalanceOfRowWrongFalsely : Prop := fnExactBalanceOfRowRow.holds Try.pinned (OpenSpec.ofChange fnExactBalanceOfRowWrong)

/-- 'laws.FnExactIsOneToOne': WHATEVER THE INPUT: true; the input reads as it did. -/
def fnExactIsOneToOneSpec : ChangeSpec := { name := "fnExactIsOneToOne", fn := fun _ => fun
  | [d1, d2] => { results := [.lit (.bool true)], args := [d1, d2] }
  | _ => none }
def fnExactIsOneToOneRow : OpenClaim := { program := "ytlmplacadihjfaa", sum := "dfee854d662a8825e80d21c6b76f10a597128cf0d5f67841f6236518657f957b", func := "loop.example/g01354/laws.FnExactIsOneToOne", spec := "fnExactIsOneToOne", unfollowed := true, recurses := true, apart := false }
def FnExactIsOneToOneSaid : Prop := fnExactIsOneToOneRow.holds Try.pinned (OpenSpec.ofChange fnExactIsOneToOneSpec)

/-- ITS FALSE NEIGHBOUR: 'it returns false'. Refute it at one input. -/
def fnExactIsOneToOneWrong : ChangeSpec := { name := "fnExactIsOneToOne", fn := fun _ => fun
  | [d1, d2] => { results := [.lit (.bool false)], args := [d1, d2] }
  | _ => none }
def FnExactIsOneToOneWrongFalsely : Prop := fnExactIsOneToOneRow.holds Try.pinned (OpenSpec.ofChange fnExactIsOneToOneWrong)

/-- 'laws.FnExactFactorsOf': WHATEVER THE INPUT: true; the input reads as it did. -/
def fnExactFactorsOfSpec : ChangeSpec := { name := "fnExactFactorsOf", fn := fun _ => fun
  | [d] => { results := [.lit (.bool true)], args := [d] }
  | _ => none }
def fnExactFactorsOfRow : OpenClaim := { program := "ytlmplacadihjfaa", sum := "dfee854d662a8825e80d21c6b76f10a597128cf0d5f67841f6236518657f957b", func := "loop.example/g01354/laws.FnExactFactorsOf", spec := "fnExactFactorsOf", unfollowed := true, recurses := true, apart := false }
def FnExactFactorsOfSaid : Prop := fnExactFactorsOfRow.holds Try.pinned (OpenSpec.ofChange fnExactFactorsOfSpec)

/-- ITS FALSE NEIGHBOUR: 'it returns false'. Refute it at one input. -/
def fnExactFactorsOfWrong : ChangeSpec := { name := "fnExactFactorsOf", fn := fun _ => fun
  | [d] => { results := [.lit (.bool false)], args := [d] }
  | _ => none }
def FnExactFactorsOfWrongFalsely : Prop := fnExactFactorsOfRow.holds Try.pinned (OpenSpec.ofChange fnExactFactorsOfWrong)

/-- 'laws.FnExactCornerPeriod': WHATEVER THE INPUT: true; the input reads as it did. -/
def fnExactCornerPeriodSpec : ChangeSpec := { name := "fnExactCornerPeriod", fn := fun _ => fun
  | [d1, d2, d3] => { results := [.lit (.bool true)], args := [d1, d2, d3] }
  | _ => none }
def fnExactCornerPeriodRow : OpenClaim := { program := "ytlmplacadihjfaa", sum := "dfee854d662a8825e80d21c6b76f10a597128cf0d5f67841f6236518657f957b", func := "loop.example/g01354/laws.FnExactCornerPeriod", spec := "fnExactCornerPeriod", unfollowed := true, recurses := true, apart := false }
def FnExactCornerPeriodSaid : Prop := fnExactCornerPeriodRow.holds Try.pinned (OpenSpec.ofChange fnExactCornerPeriodSpec)

/-- ITS FALSE NEIGHBOUR: 'it returns false'. Refute it at one input. -/
def fnExactCornerPeriodWrong : ChangeSpec := { name := "fnExactCornerPeriod", fn := fun _ => fun
  | [d1, d2, d3] => { results := [.lit (.bool false)], args := [d1, d2, d3] }
  | _ => none }
def FnExactCornerPeriodWrongFalsely : Prop := fnExactCornerPeriodRow.holds Try.pinned (OpenSpec.ofChange fnExactCornerPeriodWrong)

/- THE SECOND FORM. 'bulk': how many values and letters a reading holds, each counted each time it is reached (what is shared counts as often as it is met; a slice's spare places count too). A statement '..UptoSaid' is the law's where the arguments, and the package variables that the reading takes, are together of bulk at most 1048576: NARROWER than '..Said'. Prove '..Said' where nothing that the law and all that it calls make is longer than what came in: it says more and counts as full. Else prove '..UptoSaid'. A law counts once. -/
mutual
def uptoBulk {H : Type} : DataW H → Nat
  | .lit (.string bytes) => bytes.length + 1
  | .lit _ => 1
  | .nil => 1
  | .ptr d => uptoBulk d + 1
  | .slice elems spare => uptoBulkAll elems + uptoBulkAll spare + 1
  | .agg parts => uptoBulkAll parts + 1
  | .iface _ d => uptoBulk d + 1
  | .map entries => uptoBulkEntries entries + 1
  | .held _ => 1
def uptoBulkAll {H : Type} : List (DataW H) → Nat
  | [] => 0
  | d :: r => uptoBulk d + uptoBulkAll r
def uptoBulkEntries {H : Type} : List (Lit × DataW H) → Nat
  | [] => 0
  | x :: r => uptoBulkEntry x + uptoBulkEntries r
def uptoBulkEntry {H : Type} : Lit × DataW H → Nat
  | (.string bytes, d) => bytes.length + uptoBulk d + 1
  | (_, d) => uptoBulk d + 1
 end
def uptoSmall : (H : Type) → List (DataW H) → Bool := fun _ ds => decide (uptoBulkAll ds ≤ 1048576)
def OpenSpec.upto (s : _root_.Go.ChangeSpec) : _root_.Go.OpenSpec := { _root_.Go.OpenSpec.ofChange s with cond := some uptoSmall }

/-- 'laws.FnExactIsDesk', WHERE WHAT IT READS IS OF BULK AT MOST 1048576: true; the input reads as it did. -/
def fnExactIsDeskUptoRow : OpenClaim := { program := "ytlmplacadihjfaa", sum := "dfee854d662a8825e80d21c6b76f10a597128cf0d5f67841f6236518657f957b", func := "loop.example/g01354/laws.FnExactIsDesk", spec := "fnExactIsDesk", unfollowed := true, recurses := true, apart := false, narrowed := true }
def FnExactIsDeskUptoSaid : Prop := fnExactIsDeskUptoRow.holds Try.pinned (OpenSpec.upto fnExactIsDeskSpec)

/-- 'laws.FnExactIsBalanced', WHERE WHAT IT READS IS OF BULK AT MOST 1048576: true; the input reads as it did. -/
def fnExactIsBalancedUptoRow : OpenClaim := { program := "ytlmplacadihjfaa", sum := "dfee854d662a8825e80d21c6b76f10a597128cf0d5f67841f6236518657f957b", func := "loop.example/g01354/laws.FnExactIsBalanced", spec := "fnExactIsBalanced", unfollowed := true, recurses := true, apart := false, narrowed := true }
def FnExactIsBalancedUptoSaid : Prop := fnExactIsBalancedUptoRow.holds Try.pinned (OpenSpec.upto fnExactIsBalancedSpec)

/-- 'laws.FnExactBalanceOfRow', WHERE WHAT IT READS IS OF BULK AT MOST 1048576: true; the input reads as it did. -/
def fnExactBalanceOfRowUptoRow : OpenClaim := { program := "ytlmplacadihjfaa", sum := "dfee854d662a8825e80d21c6b76f10a597128cf0d5f67841f6236518657f957b", func := "loop.example/g01354/laws.FnExactBalanceOfRow", spec := "fnExactBalanceOfRow", unfollowed := true, recurses := true, apart := false, narrowed := true }
def FnExactBalanceOfRowUptoSaid : Prop := fnExactBalanceOfRowUptoRow.holds Try.pinned (OpenSpec.upto fnExactBalanceOfRowSpec)

/-- 'laws.FnExactIsOneToOne', WHERE WHAT IT READS IS OF BULK AT MOST 1048576: true; the input reads as it did. -/
def fnExactIsOneToOneUptoRow : OpenClaim := { program := "ytlmplacadihjfaa", sum := "dfee854d662a8825e80d21c6b76f10a597128cf0d5f67841f6236518657f957b", func := "loop.example/g01354/laws.FnExactIsOneToOne", spec := "fnExactIsOneToOne", unfollowed := true, recurses := true, apart := false, narrowed := true }
def FnExactIsOneToOneUptoSaid : Prop := fnExactIsOneToOneUptoRow.holds Try.pinned (OpenSpec.upto fnExactIsOneToOneSpec)

/-- 'laws.FnExactFactorsOf', WHERE WHAT IT READS IS OF BULK AT MOST 1048576: true; the input reads as it did. -/
def fnExactFactorsOfUptoRow : OpenClaim := { program := "ytlmplacadihjfaa", sum := "dfee854d662a8825e80d21c6b76f10a597128cf0d5f67841f6236518657f957b", func := "loop.example/g01354/laws.FnExactFactorsOf", spec := "fnExactFactorsOf", unfollowed := true, recurses := true, apart := false, narrowed := true }
def FnExactFactorsOfUptoSaid : Prop := fnExactFactorsOfUptoRow.holds Try.pinned (OpenSpec.upto fnExactFactorsOfSpec)

/-- 'laws.FnExactCornerPeriod', WHERE WHAT IT READS IS OF BULK AT MOST 1048576: true; the input reads as it did. -/
def fnExactCornerPeriodUptoRow : OpenClaim := { program := "ytlmplacadihjfaa", sum := "dfee854d662a8825e80d21c6b76f10a597128cf0d5f67841f6236518657f957b", func := "loop.example/g01354/laws.FnExactCornerPeriod", spec := "fnExactCornerPeriod", unfollowed := true, recurses := true, apart := false, narrowed := true }
def FnExactCornerPeriodUptoSaid : Prop := fnExactCornerPeriodUptoRow.holds Try.pinned (OpenSpec.upto fnExactCornerPeriodSpec)

end Rows
end Go.Proofs.Ytlmplacadihjfaa
