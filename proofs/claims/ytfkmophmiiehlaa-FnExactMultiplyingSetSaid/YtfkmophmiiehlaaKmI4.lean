/- Contracts and lemmas for the statements of this seat, written for this claim; each theorem states its own conditions. -/
import Derived.Laws.IdiomCopy
import Derived.Test.YtfkmophmiiehlaaKmI2
import Derived.Test.YtfkmophmiiehlaaKmL1
import Derived.Test.YtfkmophmiiehlaaKmSe
import Derived.Test.YtfkmophmiiehlaaKmLw
import Derived.Test.YtfkmophmiiehlaaKmHd
set_option linter.unusedVariables false
set_option linter.unusedSimpArgs false
namespace Go.Proofs.Ytfkmophmiiehlaa
open Go.RowKit
def turnT (t : T4) : T4 := ⟨t.d, t.a, t.b, t.c⟩
theorem wpl_app_tile {ops : Array Oper} {rest : List Oper} {o : Oper} {a : Act} {W : World} {Q : Exit → Act → World → Prop} (hgd : o.guard = none) (s x : Operand)
    (ho : o.op = .call { callee := .builtin .append, args := #[s, x], argTypes := #[29, 29] }) (B : Nat) (v : Value) (ts : List T4) (t : T4) (hs : a.eval s = v) (hown : OwnT W B v ts)
    (b : Nat) (hx : a.eval x = .slice (some ⟨b, 0, none⟩) 1 1) (hc : Blk W b [.int .i64 t.a, .int .i64 t.b, .int .i64 t.c, .int .i64 t.d] 57) (hl : ts.length ≤ 1000000000) (hB : B ≤ W.heap.size)
    (h : ∀ v' w', OwnT w' B v' (ts ++ [t]) → W.grownBy w' v.ownBlock → wpList Try.prog ops Q rest (a.put o.dst v') w') : wpList Try.prog ops Q (o :: rest) a W := by
  obtain ⟨i0, hi, hz0, hz1, hz2⟩ := info_parts infoTile2
  refine wpList_append_own W hgd s x 29 ho B 57 i0 (.agg #[.int .i64 0, .int .i64 0, .int .i64 0, .int .i64 0]) 4 32 Try.underlying29 hi hz0 hz1 hz2 rfl (by decide) v ts.length (tcells ts) hs hown ⟨b, 0, none⟩ 1 1 [.int .i64 t.a, .int .i64 t.b, .int .i64 t.c, .int .i64 t.d] hx rfl ?_ (by simp [Value.oneCell']) (by simp [maxLen]; omega) (by omega) hB ?_
  · intro j u hj
    have := hc.cell? j
    rw [hj] at this
    cases j with
    | zero => simpa [Addr.add] using this
    | succ j => simpa [Addr.add] using this
  · intro v' w' h1 h2 _
    refine h v' w' ?_ h2
    unfold OwnT
    rw [tcells_snoc, List.length_append]
    exact h1
def turnN (t : T4) : Nat → T4
  | 0 => t
  | n + 1 => turnT (turnN t n)
def turnsL (t : T4) (k : Nat) : List T4 := (List.range k).map (turnN t)
theorem turnsL_succ (t : T4) (k : Nat) : turnsL t (k + 1) = turnsL t k ++ [turnN t k] := by simp [turnsL, List.range_succ]
theorem turnsL_length (t : T4) (k : Nat) : (turnsL t k).length = k := by simp [turnsL]
theorem OwnT.empty (w : World) (B : Nat) (hB : B ≤ w.heap.size) : OwnT (w.alloc (.cells #[] 57)) B (.slice (some ⟨w.heap.size, 0, none⟩) 0 0) [] :=
  World.ownsRow_lit (base := B) (e := 57) (size := 4) w #[] 0 hB (by decide) rfl
theorem OwnT.alloc {w : World} {B : Nat} {v : Value} {ts : List T4} (h : OwnT w B v ts) (o : Obj) : OwnT (w.alloc o) B v ts := World.ownsRow.alloc h o
theorem OwnT.other {w : World} {B : Nat} {v : Value} {ts : List T4} (h : OwnT w B v ts) (b k : Nat) (hb : b < B) (u : Value) : OwnT (w.setCell ⟨b, k, none⟩ u) B v ts := by
  refine World.ownsRow.kept (row := some b) h ⟨rfl, rfl, rfl, (KeepsWalks.setCell w _ u).size, fun j _ hj => Below.heap_setCell _ _ _ j (fun e => hj (by rw [e]))⟩ ?_
  obtain ⟨h1, ⟨rfl, h2⟩ | ⟨g, cap, cur, rfl, e2, e3⟩⟩ := h
  · exact .inl rfl
  · refine .inr (fun e => ?_)
    have e' : g = b := Option.some.inj e
    omega
end Go.Proofs.Ytfkmophmiiehlaa
