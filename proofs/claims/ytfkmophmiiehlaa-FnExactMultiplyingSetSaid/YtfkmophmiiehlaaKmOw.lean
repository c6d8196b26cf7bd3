/- Contracts and lemmas for the statements of this seat, written for this claim; each theorem states its own conditions. -/
import Derived.Test.YtfkmophmiiehlaaKmBk
set_option linter.unusedVariables false
set_option linter.unusedSimpArgs false
namespace Go.Proofs.Ytfkmophmiiehlaa
open Go.RowKit
theorem infoInt : (Try.prog.info? 2).map (fun i => (i.zero, i.size, i.bytes)) = some (some (.int .i64 0), 1, 8) := by kernel_rfl
/-- a slice that the call made and owns: numbers -/
def OwnI (w : World) (B : Nat) (v : Value) (xs : List Int) : Prop := w.ownsRow B 2 1 v xs.length (ints xs)
theorem OwnI.nil (w : World) (B : Nat) : OwnI w B (.slice none 0 0) [] := World.ownsRow_nil _ _ _ _
theorem OwnI.alloc {w : World} {B : Nat} {v : Value} {xs : List Int} (h : OwnI w B v xs) (o : Obj) : OwnI (w.alloc o) B v xs := World.ownsRow.alloc h o
theorem OwnI.drew {w : World} {B : Nat} {v : Value} {xs : List Int} (h : OwnI w B v xs) : OwnI w.drew B v xs := h
theorem OwnI.below {w w1 : World} {B : Nat} {v : Value} {xs : List Int} (h : OwnI w B v xs) (hb : Below w.heap.size w w1) : OwnI w1 B v xs :=
  World.ownsRow.kept (row := none) h ⟨hb.os, hb.tape, hb.output, hb.size, fun k hk _ => hb.block k hk⟩ (by cases h : v.ownBlock with | none => exact .inl rfl | some k => exact .inr (by simp))
theorem OwnI.weaken {w : World} {B B' : Nat} {v : Value} {xs : List Int} (h : OwnI w B v xs) (hB : B' ≤ B) : OwnI w B' v xs := by
  obtain ⟨h1, h2⟩ := h
  refine ⟨h1, ?_⟩
  rcases h2 with h2 | ⟨g, cap, cur, e1, e2, e3⟩
  · exact .inl h2
  · exact .inr ⟨g, cap, cur, e1, Nat.le_trans hB e2, e3⟩
theorem OwnI.shape {w : World} {B : Nat} {v : Value} {xs : List Int} (h : OwnI w B v xs) : ∃ A cx, v = .slice A xs.length cx ∧ Cells w A (ints xs) ∧ xs.length ≤ 9223372036854775807 := by
  obtain ⟨h1, h2⟩ := h
  rcases h2 with ⟨rfl, h2⟩ | ⟨g, cap, cur, rfl, e2, e3, e4, e5, e6, e7⟩
  · refine ⟨none, 0, by rw [h2], ?_, by omega⟩
    intro j hj; rw [ints_length] at hj; omega
  · refine ⟨some ⟨g, 0, none⟩, cap, rfl, ?_, by simp [maxLen] at e5; omega⟩
    intro j hj
    refine ⟨g, 0, rfl, ?_⟩
    rw [Nat.zero_add]
    unfold World.cell?
    simp only [e3]
    have : (ints xs)[j]? = some (ints xs)[j] := List.getElem?_eq_getElem hj
    rw [← this, ← e7, List.getElem?_take]
    rw [ints_length] at hj
    simp [hj]
theorem OwnI.made (w : World) (B : Nat) (cs : Array Value) (xs : List Int) (hc : cs.toList = ints xs) (hB : B ≤ w.heap.size) (hl : xs.length ≤ 9223372036854775807) :
    OwnI (w.alloc (.cells cs 2)) B (.slice (some ⟨w.heap.size, 0, none⟩) xs.length xs.length) xs := by
  have hs : cs.size = xs.length * 1 := by rw [← Array.length_toList, hc, ints_length, Nat.mul_one]
  have := World.ownsRow_lit (base := B) (e := 2) (size := 1) w cs xs.length hB (by simpa [maxLen] using hl) hs
  rw [hc] at this
  exact this
theorem below_grown {w W w1 : World} {v : Value} {B : Nat} {xs : List Int} (h : Below w.heap.size w W) (hg : W.grownBy w1 v.ownBlock) (ho : OwnI W B v xs) (hB : w.heap.size ≤ B) : Below w.heap.size w w1 :=
  h.grown hg h.size (fun k hk => Nat.le_trans hB (World.ownsRow.lt ho k hk).1)
theorem OwnI.newly {w : World} {B g n : Nat} {cs : Array Value} {xs : List Int} (hg : w.heap.size = g) (hn : xs.length = n) (hc : cs.toList = ints xs) (hB : B ≤ w.heap.size) (hl : xs.length ≤ 9223372036854775807) :
    OwnI (w.alloc (.cells cs 2)) B (.slice (some ⟨g, 0, none⟩) n n) xs := by subst hg hn; exact OwnI.made w B cs xs hc hB hl
theorem le_al {w : World} {B : Nat} {o : Obj} (h : B ≤ w.heap.size) : B ≤ (w.alloc o).heap.size := by simp; omega
theorem ne_blk {a b n m c d : Nat} (h : a ≠ b) : (Value.slice (some ⟨a, 0, none⟩) n c).ownBlock ≠ (Value.slice (some ⟨b, 0, none⟩) m d).ownBlock := fun e => h (Option.some.inj e)
theorem own_ne {w : World} {B s n : Nat} {e : TypeId} {v : Value} {xs cs : List Value} {x : Nat} {T : TypeId} (h : w.ownsRow B e s v n xs) (hx : Blk w x cs T) (hT : e ≠ T) : v.ownBlock ≠ some x := by
  obtain ⟨_, h2⟩ := h
  rcases h2 with ⟨rfl, _⟩ | ⟨g, cap, cur, rfl, _, e3, _⟩
  · intro h; cases h
  · intro h
    have h : some g = some x := h
    injection h with h
    subst h
    have := e3.symm.trans hx
    injection this with this
    injection this with _ this
    exact hT this
theorem grownBy_store (w : World) (x j : Nat) (y : Value) : w.grownBy (w.setCell ⟨x, j, none⟩ y) (some x) :=
  ⟨rfl, rfl, rfl, by simp, fun k _ hn => Below.heap_setCell w _ _ k (fun e => hn (by have e : k = x := e; rw [e]))⟩
theorem Blk.kept1 {w w' : World} {x : Nat} {cs : List Value} {T : TypeId} {o : Option Nat} (h : Blk w x cs T) (hg : w.grownBy w' o) (ho : o ≠ some x) : Blk w' x cs T :=
  (hg.block x h.lt (fun e => ho e.symm)).trans h

end Go.Proofs.Ytfkmophmiiehlaa
