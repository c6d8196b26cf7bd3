/-
  No cell of these rows narrows 'for every input' (looked for: loops, veiled, ifaces, maps, wideKeys, modest, calm, conditions, laid).
  DERIVED. THE GIVEN ROWS OF THIS SEAT. 6 by the template 'for every input the law returns true; each argument reads behind the call as it read before'; 0 by the template 'total and deterministic' (their statements: YtfkmophmiiehlaaTotals.lean).
  GIVEN WITH THE SEED: the statements are not yours to turn. If you find one false, say at which input.
  Laid BY PROGRAM, IN A SANDBOX (cutbox-rows.mjs): the forced cells as the released guide's own fill.sh prints them over the translation 246a5ca451019c60… (all of the seat's roots in one cut). By AI agents, Wed Nov 11 2026. No macro, syntax, notation, axiom, sorry.
-/
import Derived.Test.YtfkmophmiiehlaaChecked
import GoSem.Claim
import GoSem.ClaimJoined
import GoSem.ClaimMapViews
import Derived.JoinedTies
import Derived.KernelRfl
namespace Go.Proofs.Ytfkmophmiiehlaa
/- THE CELL 'sum', in the pinned program and in every row, IS THE sha256 OF THE DUMP (.gsa) THAT YtfkmophmiiehlaaProg.lean LOADS. Nothing in Lean hashes anything: it is a label: what it is worth is what the hold of that sum in a sandbox is worth. -/
noncomputable def Try.pinned : Pinned := { name := "ytfkmophmiiehlaa", sum := "246a5ca451019c6044a0dffda2abd9d1fd540aff47aed194a739f62745778652", checked := Try.checked }
namespace Rows
def none {H : Type} : Left H := { results := [], args := [] }

/-- 'laws.FnExactLeastForbidden': WHATEVER THE INPUT: true; the input reads as it did. -/
def fnExactLeastForbiddenSpec : ChangeSpec := { name := "fnExactLeastForbidden", fn := fun _ => fun
  | [d1, d2, d3] => { results := [.lit (.bool true)], args := [d1, d2, d3] }
  | _ => none }
def fnExactLeastForbiddenRow : OpenClaim := { program := "ytfkmophmiiehlaa", sum := "246a5ca451019c6044a0dffda2abd9d1fd540aff47aed194a739f62745778652", func := "loop.example/g01354/laws.FnExactLeastForbidden", spec := "fnExactLeastForbidden", unfollowed := true, recurses := true, plainKeys := false, apart := false }
def FnExactLeastForbiddenSaid : Prop := fnExactLeastForbiddenRow.holds Try.pinned (OpenSpec.ofChange fnExactLeastForbiddenSpec)

/-- ITS FALSE NEIGHBOUR: 'it returns false'. Refute it at one input. -/
def fnExactLeastForbiddenWrong : ChangeSpec := { name := "fnExactLeastForbidden", fn := fun _ => fun
  | [d1, d2, d3] => { results := [.lit (.bool false)], args := [d1, d2, d3] }
  | _ => none }
def FnExactLeastForbiddenWrongFalsely : Prop := fnExactLeastForbiddenRow.holds Try.pinned (OpenSpec.ofChange fnExactLeastForbiddenWrong)

/-- 'laws.FnExactBoardTiles': WHATEVER THE INPUT: true; the input reads as it did. -/
def fnExactBoardTilesSpec : ChangeSpec := { name := "fnExactBoardTiles", fn := fun _ => fun
  | [d1, d2, d3] => { results := [.lit (.bool true)], args := [d1, d2, d3] }
  | _ => none }
def fnExactBoardTilesRow : OpenClaim := { program := "ytfkmophmiiehlaa", sum := "246a5ca451019c6044a0dffda2abd9d1fd540aff47aed194a739f62745778652", func := "loop.example/g01354/laws.FnExactBoardTiles", spec := "fnExactBoardTiles", unfollowed := true, recurses := true, plainKeys := false, apart := false }
def FnExactBoardTilesSaid : Prop := fnExactBoardTilesRow.holds Try.pinned (OpenSpec.ofChange fnExactBoardTilesSpec)

/-- ITS FALSE NEIGHBOUR: 'it returns false'. Refute it at one input. -/
def fnExactBoardTilesWrong : ChangeSpec := { name := "fnExactBoardTiles", fn := fun _ => fun
  | [d1, d2, d3] => { results := [.lit (.bool false)], args := [d1, d2, d3] }
  | _ => none }
def FnExactBoardTilesWrongFalsely : Prop := fnExactBoardTilesRow.holds Try.pinned (OpenSpec.ofChange fnExactBoardTilesWrong)

/-- 'laws.FnExactTurnNumber': WHATEVER THE INPUT: true; the input reads as it did. -/
def fnExactTurnNumberSpec : ChangeSpec := { name := "fnExactTurnNumber", fn := fun _ => fun
  | [d] => { results := [.lit (.bool true)], args := [d] }
  | _ => none }
def fnExactTurnNumberRow : OpenClaim := { program := "ytfkmophmiiehlaa", sum := "246a5ca451019c6044a0dffda2abd9d1fd540aff47aed194a739f62745778652", func := "loop.example/g01354/laws.FnExactTurnNumber", spec := "fnExactTurnNumber", unfollowed := true, recurses := true, plainKeys := false, apart := false }
def FnExactTurnNumberSaid : Prop := fnExactTurnNumberRow.holds Try.pinned (OpenSpec.ofChange fnExactTurnNumberSpec)

/-- ITS FALSE NEIGHBOUR: 'it returns false'. Refute it at one input. -/
def fnExactTurnNumberWrong : ChangeSpec := { name := "fnExactTurnNumber", fn := fun _ => fun
  | [d] => { results := [.lit (.bool false)], args := [d] }
  | _ => none }
def FnExactTurnNumberWrongFalsely : Prop := fnExactTurnNumberRow.holds Try.pinned (OpenSpec.ofChange fnExactTurnNumberWrong)

/-- 'laws.FnExactMultiplyingSet': WHATEVER THE INPUT: true; the input reads as it did. -/
def fnExactMultiplyingSetSpec : ChangeSpec := { name := "fnExactMultiplyingSet", fn := fun _ => fun
  | [d1, d2, d3, d4, d5, d6] => { results := [.lit (.bool true)], args := [d1, d2, d3, d4, d5, d6] }
  | _ => none }
def fnExactMultiplyingSetRow : OpenClaim := { program := "ytfkmophmiiehlaa", sum := "246a5ca451019c6044a0dffda2abd9d1fd540aff47aed194a739f62745778652", func := "loop.example/g01354/laws.FnExactMultiplyingSet", spec := "fnExactMultiplyingSet", unfollowed := true, recurses := true, plainKeys := false, apart := false }
def FnExactMultiplyingSetSaid : Prop := fnExactMultiplyingSetRow.holds Try.pinned (OpenSpec.ofChange fnExactMultiplyingSetSpec)

/-- ITS FALSE NEIGHBOUR: 'it returns false'. Refute it at one input. -/
def fnExactMultiplyingSetWrong : ChangeSpec := { name := "fnExactMultiplyingSet", fn := fun _ => fun
  | [d1, d2, d3, d4, d5, d6] => { results := [.lit (.bool false)], args := [d1, d2, d3, d4, d5, d6] }
  | _ => none }
def FnExactMultiplyingSetWrongFalsely : Prop := fnExactMultiplyingSetRow.holds Try.pinned (OpenSpec.ofChange fnExactMultiplyingSetWrong)

/-- 'laws.FnExactNumberRow': WHATEVER THE INPUT: true; the input reads as it did. -/
def fnExactNumberRowSpec : ChangeSpec := { name := "fnExactNumberRow", fn := fun _ => fun
  | [d1, d2, d3, d4, d5, d6] => { results := [.lit (.bool true)], args := [d1, d2, d3, d4, d5, d6] }
  | _ => none }
def fnExactNumberRowRow : OpenClaim := { program := "ytfkmophmiiehlaa", sum := "246a5ca451019c6044a0dffda2abd9d1fd540aff47aed194a739f62745778652", func := "loop.example/g01354/laws.FnExactNumberRow", spec := "fnExactNumberRow", unfollowed := true, recurses := true, plainKeys := false, apart := false }
def FnExactNumberRowSaid : Prop := fnExactNumberRowRow.holds Try.pinned (OpenSpec.ofChange fnExactNumberRowSpec)

/-- ITS FALSE NEIGHBOUR: 'it returns false'. Refute it at one input. -/
def fnExactNumberRowWrong : ChangeSpec := { name := "fnExactNumberRow", fn := fun _ => fun
  | [d1, d2, d3, d4, d5, d6] => { results := [.lit (.bool false)], args := [d1, d2, d3, d4, d5, d6] }
  | _ => none }
def FnExactNumberRowWrongFalsely : Prop := fnExactNumberRowRow.holds Try.pinned (OpenSpec.ofChange fnExactNumberRowWrong)

/-- 'laws.FnExactPairsGrown': WHATEVER THE INPUT: true; the input reads as it did. -/
def fnExactPairsGrownSpec : ChangeSpec := { name := "fnExactPairsGrown", fn := fun _ => fun
  | [d1, d2, d3] => { results := [.lit (.bool true)], args := [d1, d2, d3] }
  | _ => none }
def fnExactPairsGrownRow : OpenClaim := { program := "ytfkmophmiiehlaa", sum := "246a5ca451019c6044a0dffda2abd9d1fd540aff47aed194a739f62745778652", func := "loop.example/g01354/laws.FnExactPairsGrown", spec := "fnExactPairsGrown", unfollowed := true, recurses := true, plainKeys := false, apart := false }
def FnExactPairsGrownSaid : Prop := fnExactPairsGrownRow.holds Try.pinned (OpenSpec.ofChange fnExactPairsGrownSpec)

/-- ITS FALSE NEIGHBOUR: 'it returns false'. Refute it at one input. -/
def fnExactPairsGrownWrong : ChangeSpec := { name := "fnExactPairsGrown", fn := fun _ => fun
  | [d1, d2, d3] => { results := [.lit (.bool false)], args := [d1, d2, d3] }
  | _ => none }
def FnExactPairsGrownWrongFalsely : Prop := fnExactPairsGrownRow.holds Try.pinned (OpenSpec.ofChange fnExactPairsGrownWrong)

/- THE SECOND FORM. 'bulk': how many values and letters a reading holds, each counted each time it is reached (what is shared counts as often as it is met; a slice's spare places count too). A statement '..UptoSaid' is the law's where the arguments, and the package variables that the reading takes, are together of bulk at most 1048576: NARROWER than '..Said'. Prove '..Said' where nothing that the law and all that it calls make is longer than what came in: it says more and counts as full. Else prove '..UptoSaid'. A law counts once. -/
mutual
def uptoBulk {H : Type} : DataW H → Nat
  | .lit (.string bytes) => bytes.length + 1
  | .lit _ => 1
  | .nil => 1
  | .ptr d => uptoBulk d + 1
  | .slice elems spare => uptoBulkAll elems + uptoBulkAll spare + 1
  | .agg parts => uptoBulkAll parts + 1
  | .iface _ d => uptoBulk d + 1
  | .map entries => uptoBulkEntries entries + 1
  | .held _ => 1
def uptoBulkAll {H : Type} : List (DataW H) → Nat
  | [] => 0
  | d :: r => uptoBulk d + uptoBulkAll r
def uptoBulkEntries {H : Type} : List (Lit × DataW H) → Nat
  | [] => 0
  | x :: r => uptoBulkEntry x + uptoBulkEntries r
def uptoBulkEntry {H : Type} : Lit × DataW H → Nat
  | (.string bytes, d) => bytes.length + uptoBulk d + 1
  | (_, d) => uptoBulk d + 1
 end
def uptoSmall : (H : Type) → List (DataW H) → Bool := fun _ ds => decide (uptoBulkAll ds ≤ 1048576)
def OpenSpec.upto (s : _root_.Go.ChangeSpec) : _root_.Go.OpenSpec := { _root_.Go.OpenSpec.ofChange s with cond := some uptoSmall }

/-- 'laws.FnExactLeastForbidden', WHERE WHAT IT READS IS OF BULK AT MOST 1048576: true; the input reads as it did. -/
def fnExactLeastForbiddenUptoRow : OpenClaim := { program := "ytfkmophmiiehlaa", sum := "246a5ca451019c6044a0dffda2abd9d1fd540aff47aed194a739f62745778652", func := "loop.example/g01354/laws.FnExactLeastForbidden", spec := "fnExactLeastForbidden", unfollowed := true, recurses := true, plainKeys := false, apart := false, narrowed := true }
def FnExactLeastForbiddenUptoSaid : Prop := fnExactLeastForbiddenUptoRow.holds Try.pinned (OpenSpec.upto fnExactLeastForbiddenSpec)

/-- 'laws.FnExactBoardTiles', WHERE WHAT IT READS IS OF BULK AT MOST 1048576: true; the input reads as it did. -/
def fnExactBoardTilesUptoRow : OpenClaim := { program := "ytfkmophmiiehlaa", sum := "246a5ca451019c6044a0dffda2abd9d1fd540aff47aed194a739f62745778652", func := "loop.example/g01354/laws.FnExactBoardTiles", spec := "fnExactBoardTiles", unfollowed := true, recurses := true, plainKeys := false, apart := false, narrowed := true }
def FnExactBoardTilesUptoSaid : Prop := fnExactBoardTilesUptoRow.holds Try.pinned (OpenSpec.upto fnExactBoardTilesSpec)

/-- 'laws.FnExactTurnNumber', WHERE WHAT IT READS IS OF BULK AT MOST 1048576: true; the input reads as it did. -/
def fnExactTurnNumberUptoRow : OpenClaim := { program := "ytfkmophmiiehlaa", sum := "246a5ca451019c6044a0dffda2abd9d1fd540aff47aed194a739f62745778652", func := "loop.example/g01354/laws.FnExactTurnNumber", spec := "fnExactTurnNumber", unfollowed := true, recurses := true, plainKeys := false, apart := false, narrowed := true }
def FnExactTurnNumberUptoSaid : Prop := fnExactTurnNumberUptoRow.holds Try.pinned (OpenSpec.upto fnExactTurnNumberSpec)

/-- 'laws.FnExactMultiplyingSet', WHERE WHAT IT READS IS OF BULK AT MOST 1048576: true; the input reads as it did. -/
def fnExactMultiplyingSetUptoRow : OpenClaim := { program := "ytfkmophmiiehlaa", sum := "246a5ca451019c6044a0dffda2abd9d1fd540aff47aed194a739f62745778652", func := "loop.example/g01354/laws.FnExactMultiplyingSet", spec := "fnExactMultiplyingSet", unfollowed := true, recurses := true, plainKeys := false, apart := false, narrowed := true }
def FnExactMultiplyingSetUptoSaid : Prop := fnExactMultiplyingSetUptoRow.holds Try.pinned (OpenSpec.upto fnExactMultiplyingSetSpec)

/-- 'laws.FnExactNumberRow', WHERE WHAT IT READS IS OF BULK AT MOST 1048576: true; the input reads as it did. -/
def fnExactNumberRowUptoRow : OpenClaim := { program := "ytfkmophmiiehlaa", sum := "246a5ca451019c6044a0dffda2abd9d1fd540aff47aed194a739f62745778652", func := "loop.example/g01354/laws.FnExactNumberRow", spec := "fnExactNumberRow", unfollowed := true, recurses := true, plainKeys := false, apart := false, narrowed := true }
def FnExactNumberRowUptoSaid : Prop := fnExactNumberRowUptoRow.holds Try.pinned (OpenSpec.upto fnExactNumberRowSpec)

/-- 'laws.FnExactPairsGrown', WHERE WHAT IT READS IS OF BULK AT MOST 1048576: true; the input reads as it did. -/
def fnExactPairsGrownUptoRow : OpenClaim := { program := "ytfkmophmiiehlaa", sum := "246a5ca451019c6044a0dffda2abd9d1fd540aff47aed194a739f62745778652", func := "loop.example/g01354/laws.FnExactPairsGrown", spec := "fnExactPairsGrown", unfollowed := true, recurses := true, plainKeys := false, apart := false, narrowed := true }
def FnExactPairsGrownUptoSaid : Prop := fnExactPairsGrownUptoRow.holds Try.pinned (OpenSpec.upto fnExactPairsGrownSpec)

end Rows
end Go.Proofs.Ytfkmophmiiehlaa
