/- Contracts and lemmas for the statements of this seat, written for this claim; each theorem states its own conditions. -/
import Derived.Test.YtpcooplalncdcaaWfTl1
set_option linter.unusedVariables false
set_option linter.unusedSimpArgs false
namespace Go.Proofs.Ytpcooplalncdcaa
open Go.RowKit
theorem own_ne {w : World} {B s n : Nat} {e : TypeId} {v : Value} {xs cs : List Value} {x : Nat} {T : TypeId} (h : w.ownsRow B e s v n xs) (hx : Blk w x cs T) (hT : e ≠ T) : v.ownBlock ≠ some x := by
  obtain ⟨_, h2⟩ := h
  rcases h2 with ⟨rfl, _⟩ | ⟨g, cap, cur, rfl, _, e3, _⟩
  · intro h; cases h
  · intro h
    have h : some g = some x := h
    injection h with h
    subst h
    have := e3.symm.trans hx
    injection this with this
    injection this with _ this
    exact hT this
theorem grownBy_store (w : World) (x j : Nat) (y : Value) : w.grownBy (w.setCell ⟨x, j, none⟩ y) (some x) :=
  ⟨rfl, rfl, rfl, by simp, fun k _ hn => Below.heap_setCell w _ _ k (fun e => hn (by have e : k = x := e; rw [e]))⟩
theorem OwnBB.setBox {w : World} {B x j : Nat} {cs : List Value} {v y : Value} {L : List (List Bool)} (h : OwnBB w B v L) (hx : Blk w x cs 94) : OwnBB (w.setCell ⟨x, j, none⟩ y) B v L := by
  obtain ⟨vs, h1, h2, h3, h4⟩ := h
  exact ⟨vs, World.ownsRow.kept h1 (grownBy_store w x j y) (.inr (own_ne h1 hx (by decide))), fun i hi hi' => World.ownsRow.kept (h2 i hi hi') (grownBy_store w x j y) (.inr (own_ne (h2 i hi hi') hx (by decide))), h3, h4⟩
theorem OwnBB.ne {w : World} {B x : Nat} {cs : List Value} {v : Value} {L : List (List Bool)} (h : OwnBB w B v L) (hx : Blk w x cs 94) : v.ownBlock ≠ some x := by
  obtain ⟨vs, h1, _⟩ := h
  exact own_ne h1 hx (by decide)
theorem Blk.kept1 {w w' : World} {x : Nat} {cs : List Value} {T : TypeId} {o : Option Nat} (h : Blk w x cs T) (hg : w.grownBy w' o) (ho : o ≠ some x) : Blk w' x cs T :=
  (hg.block x h.lt (fun e => ho e.symm)).trans h
theorem bstep_put (far nx : List Bool) (k : Col) (h : k.e.toNat < far.length) (h2 : k.w.toNat < nx.length) : nx.set k.w.toNat (nx[k.w.toNat] || far[k.e.toNat]) = bstep far nx k := by
  rw [bstep_eq far nx k h]
  cases far[k.e.toNat]
  · simp
  · simp
end Go.Proofs.Ytpcooplalncdcaa
