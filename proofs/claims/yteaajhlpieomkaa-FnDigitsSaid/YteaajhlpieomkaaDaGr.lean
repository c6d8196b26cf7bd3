/- Contracts and lemmas for the statements of this seat, written for this claim; each theorem states its own conditions. -/
import Derived.Test.YteaajhlpieomkaaDaRo
import Derived.Test.YteaajhlpieomkaaDaL1
import Derived.Test.YteaajhlpieomkaaDaLi
import Derived.Test.YteaajhlpieomkaaDaAp
import Derived.Test.YteaajhlpieomkaaDaHd
import Derived.Test.YteaajhlpieomkaaDaMk
set_option linter.unusedVariables false
set_option linter.unusedSimpArgs false
namespace Go.Proofs.Yteaajhlpieomkaa
open Go.RowKit
/-- the slices of a list of slices have room for what they hold -/
def CapsC (w : World) (B : Option Addr) (L : List (List Int)) : Prop :=
  ∀ k (h : k < L.length) b off A cx, B = some ⟨b, off, none⟩ → w.cell? ⟨b, off + k, none⟩ = some (.slice A L[k].length cx) → L[k].length ≤ cx
theorem CapsC.below {w w1 : World} {B : Option Addr} {L : List (List Int)} (h : CapsC w B L) (hR : RowsC w B L) (hb : Below w.heap.size w w1) : CapsC w1 B L := by
  intro k hk b off A cx e hc
  obtain ⟨b', off', A', cx', e', hlt, hc', _⟩ := hR k hk
  rw [e] at e'
  injection e' with e'
  injection e' with e1 e2
  subst e1 e2
  rw [(hb.cell (p := ⟨b, _, none⟩) hlt)] at hc
  exact h k hk b off A cx e hc
theorem OwnI.cap {w : World} {B n cx : Nat} {A : Option Addr} {xs : List Int} (h : OwnI w B (.slice A n cx) xs) : xs.length ≤ cx := by
  obtain ⟨h1, h2⟩ := h
  rcases h2 with ⟨e1, e2⟩ | ⟨g', cap, cur, e1, _, _, e4, _⟩
  · omega
  · injection e1 with a1 a2 a3; omega
theorem OwnII.caps {w : World} {B n cx : Nat} {A : Option Addr} {L : List (List Int)} (h : OwnII w B (.slice A n cx) L) : CapsC w A L := by
  intro k hk b off A' cx' e hc
  obtain ⟨vs, h1, h2, _⟩ := h
  have hl : vs.length = L.length := by have := h1.1; omega
  have h0 := h1
  obtain ⟨_, h3⟩ := h1
  rcases h3 with ⟨h3, h4⟩ | ⟨g, cap, cur, e1, e2, e3, _⟩
  · omega
  · injection e1 with a1 a2 a3
    subst a1 a2 a3
    injection e with e
    injection e with e5 e6
    subst e5 e6
    have h9 := World.ownsRow.cellAt h0 k (by omega)
    rw [Nat.zero_add, h9, List.getElem?_eq_getElem (by omega)] at hc
    have ho := h2 k (by omega) hk
    rw [Option.some.inj hc] at ho
    exact ho.cap
end Go.Proofs.Yteaajhlpieomkaa
