/- Contracts and lemmas for the statements of this seat, written for this claim; each theorem states its own conditions. -/
import Derived.Test.YtghongdladghjaaTaCp
import Derived.Test.YtghongdladghjaaTaMk
set_option linter.unusedVariables false
set_option linter.unusedSimpArgs false
namespace Go.Proofs.Ytghongdladghjaa
open Go.RowKit
def corCode (c : Int) (ts : List T4) (L : List (List Int)) (i n : Int) : Int := codeB (isSetB c ts) (stepB ts.length L i n 20)
def corV (c : Int) (ts : List T4) (L : List (List Int)) (i n : Int) : List Int := if corCode c ts L i n = 0 then corners L i (n.toNat + 1) else []
theorem corV_len (c : Int) (ts : List T4) (L : List (List Int)) (i n : Int) : (corV c ts L i n).length ≤ 1000000 := by
  unfold corV
  split
  · rename_i h
    obtain ⟨_, h2⟩ := codeB_zero h
    obtain ⟨_, _, _, h3⟩ := stepB_parts h2
    rw [corners_len]
    omega
  · simp
/-- what a call gives back that returns a new list of numbers and a code -/
def RetIC1 (w : World) (xs : List Int) (c : Int) (e : Ending) (w' : World) : Prop :=
  ∃ v, e = .returned (.tuple #[v, .int .i64 c]) ∧ OwnI w' w.heap.size v xs ∧ Below w.heap.size w w'
theorem ret_vcI {v : Value} {a b : Int} (h : a = b) : Ending.returned (.tuple #[v, .int .i64 a]) = .returned (.tuple #[v, .int .i64 b]) := by rw [h]
end Go.Proofs.Ytghongdladghjaa
