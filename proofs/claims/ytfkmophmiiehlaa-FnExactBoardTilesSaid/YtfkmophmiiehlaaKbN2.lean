/- Contracts and lemmas for the statements of this seat, written for this claim; each theorem states its own conditions. -/
import Derived.Test.YtfkmophmiiehlaaKbM9
import Derived.Test.YtfkmophmiiehlaaKbSt
import Derived.Test.YtfkmophmiiehlaaKbSu
set_option linter.unusedVariables false
set_option linter.unusedSimpArgs false
namespace Go.Proofs.Ytfkmophmiiehlaa
open Go.RowKit
/-- as OwnTT, and none of its blocks is g -/
def OwnTF (w : World) (B g : Nat) (v : Value) (L : List (List T4)) : Prop :=
  ∃ vs : List Value, w.ownsRow B 29 1 v L.length vs ∧ (∀ i (h : i < vs.length) (h' : i < L.length), OwnT w B vs[i] L[i]) ∧
    (∀ i j (h : i < vs.length) (h' : j < vs.length), i ≠ j → Apart vs[i] vs[j]) ∧ (∀ i (h : i < vs.length), Apart vs[i] v) ∧ (∀ k, v.ownBlock = some k → k ≠ g) ∧ ∀ i (h : i < vs.length) k, vs[i].ownBlock = some k → k ≠ g
theorem OwnTF.toTT {w : World} {B g : Nat} {v : Value} {L : List (List T4)} (h : OwnTF w B g v L) : OwnTT w B v L := by
  obtain ⟨vs, h1, h2, h3, h4, _⟩ := h
  exact ⟨vs, h1, h2, h3, h4⟩
theorem OwnTF.frb {w w' : World} {B g B' : Nat} {v : Value} {L : List (List T4)} (h : OwnTF w B g v L) (f : FrB B' g w w') (hB : w.heap.size ≤ B') : OwnTF w' B g v L := by
  obtain ⟨vs, h1, h2, h3, h4, h5, h6⟩ := h
  have hl : vs.length = L.length := by have := h1.1; omega
  refine ⟨vs, ownsRow_same h1 fun k hk => f.block k ?_ (h5 k hk), fun i hi hi' => ownsRow_same (h2 i hi hi') fun k hk => f.block k ?_ (h6 i hi k hk), h3, h4, h5, h6⟩
  · have := (World.ownsRow.lt h1 k hk).2; omega
  · have := (World.ownsRow.lt (h2 i hi hi') k hk).2; omega
theorem OwnTF.empty {w : World} {B g b : Nat} (hb : w.heap.size = b) (hB : B ≤ w.heap.size) (hg : b ≠ g) : OwnTF (w.alloc (.cells #[] 29)) B g (.slice (some ⟨b, 0, none⟩) 0 0) [] := by
  subst hb
  exact ⟨[], World.ownsRow_lit (base := B) (e := 29) (size := 1) w #[] 0 hB (by simp [maxLen]) (by simp), fun i h => by simp at h, fun i j h => by simp at h, fun i h => by simp at h, fun k hk => by have hk' : some w.heap.size = some k := hk; injection hk' with e; omega, fun i h => by simp at h⟩
theorem OwnTF.below {w w1 : World} {B g : Nat} {v : Value} {L : List (List T4)} (h : OwnTF w B g v L) (hb : Below w.heap.size w w1) : OwnTF w1 B g v L := h.frb (FrB.of_below hb (Nat.le_refl _)) (Nat.le_refl _)
theorem app_trowF {o : Oper} {a : Act} {W0 W : World} {K : Act → World → Prop} {Q : Exit → Act → World → Prop} (s x : Operand)
    (ho : o.op = .call { callee := .builtin .append, args := #[s, x], argTypes := #[41, 41] }) (B : Nat) (v : Value) (L : List (List T4)) (u : Value) (xs : List T4) (hs : a.eval s = v) (g : Nat) (hg : g < W0.heap.size) (hown : OwnTF W0 B g v L)
    (hW : Below W0.heap.size W0 W) (hu : OwnT W W0.heap.size u xs)
    (b off : Nat) (hx : a.eval x = .slice (some ⟨b, off, none⟩) 1 1) (hc : W.cell? ⟨b, off, none⟩ = some u) (hl : L.length ≤ 1000000000000) (hB : B ≤ W0.heap.size)
    (h : ∀ v' w', OwnTF w' B g v' (L ++ [xs]) → W.grownBy w' v.ownBlock → (∀ k, v.ownBlock = some k → B ≤ k) → K (a.put o.dst v') w') : o.wp Try.prog a W K Q := by
  obtain ⟨vs, g1, g2, h3, h4, h5, h6⟩ := hown
  have h1 : W.ownsRow B 29 1 v L.length vs := World.ownsRow.kept (row := none) g1 ⟨hW.os, hW.tape, hW.output, hW.size, fun k hk _ => hW.block k hk⟩ (by cases h : v.ownBlock with | none => exact .inl rfl | some k => exact .inr (by simp))
  have h2 : ∀ i (h : i < vs.length) (h' : i < L.length), OwnT W B vs[i] L[i] := fun i h h' => (g2 i h h').below hW
  have hvl : vs.length = L.length := by have := h1.1; omega
  refine app_gen s x 41 29 (.slice none 0 0) 1 24 ho Try.underlying41 infoTs rfl (by decide) B v L.length vs hs h1 ⟨b, off, none⟩ 1 1 [u] hx rfl ?_ ?_ ?_ ?_ (Nat.le_trans hB hW.size) ?_
  · intro j z hj
    cases j with
    | zero => simp at hj; subst hj; simpa [Addr.add] using hc
    | succ j => simp at hj
  · intro z hz
    simp at hz; subst hz
    obtain ⟨A, cx, rfl, _⟩ := hu.shape
    rfl
  · simp [maxLen]; omega
  · omega
  · intro v' w' k1 k2 k3
    have hvb := World.ownsRow.lt h1
    have hub := World.ownsRow.lt hu
    have hvb0 : ∀ k, v.ownBlock = some k → k < W0.heap.size := fun k hk => (World.ownsRow.lt g1 k hk).2
    have huv : Apart u v := by
      cases eu : u.ownBlock with
      | none => exact .inl eu
      | some k =>
        right; rw [eu]; intro e
        have := (hub k eu).1
        have := hvb0 k e.symm
        omega
    refine h v' w' ⟨vs ++ [u], by rw [List.length_append]; exact k1, fun i hi hi' => ?_, fun i j hi hj hij => ?_, fun i hi => ?_, fun k hk => ?_, fun i hi k hk => ?_⟩ k2 (fun k hk => (hvb k hk).1)
    · by_cases e : i < vs.length
      · have e' : i < L.length := by omega
        rw [List.getElem_append_left e, List.getElem_append_left e']
        exact (h2 i e e').grown k2 (h4 i e)
      · have ei : i = vs.length := by simp at hi; omega
        subst ei
        rw [List.getElem_append_right (Nat.le_refl _), List.getElem_append_right (by omega)]
        simp only [Nat.sub_self, List.getElem_cons_zero, hvl]
        exact (hu.weaken hB).grown k2 huv
    · have far : ∀ q (hq : q < vs.length), Apart vs[q] u := fun q hq => (own_apartT (g2 q hq (by omega)) hu).1
      by_cases e : i < vs.length
      · by_cases e2 : j < vs.length
        · rw [List.getElem_append_left e, List.getElem_append_left e2]; exact h3 i j e e2 hij
        · rw [List.getElem_append_left e, List.getElem_append_right (by omega)]
          simp only [show j - vs.length = 0 by simp at hj; omega, List.getElem_cons_zero]
          exact far i e
      · have e2 : j < vs.length := by simp at hi hj; omega
        rw [List.getElem_append_left e2, List.getElem_append_right (by omega)]
        simp only [show i - vs.length = 0 by simp at hi; omega, List.getElem_cons_zero]
        exact (far j e2).symm
    · by_cases e : i < vs.length
      · rw [List.getElem_append_left e]
        exact ((h4 i e).symm.app (fun k hk => ((h2 i e (by omega)).blt k hk).2) k3).symm
      · rw [List.getElem_append_right (by omega)]
        simp only [show i - vs.length = 0 by simp at hi; omega, List.getElem_cons_zero]
        exact (huv.symm.app (fun k hk => (hu.blt k hk).2) k3).symm
    · rcases k3 with k3 | k3
      · rw [k3] at hk; exact h5 k hk
      · rw [k3] at hk; injection hk with hk; have := hW.size; omega
    · by_cases e : i < vs.length
      · rw [List.getElem_append_left e] at hk; exact h6 i e k hk
      · rw [List.getElem_append_right (by omega)] at hk
        simp only [show i - vs.length = 0 by simp at hi; omega, List.getElem_cons_zero] at hk
        have := (hub k hk).1
        omega
theorem wpl_app_trowF {ops : Array Oper} {rest : List Oper} {o : Oper} {a : Act} {W0 W : World} {Q : Exit → Act → World → Prop} (hgd : o.guard = none) (s x : Operand)
    (ho : o.op = .call { callee := .builtin .append, args := #[s, x], argTypes := #[41, 41] }) (B : Nat) (v : Value) (L : List (List T4)) (u : Value) (xs : List T4) (hs : a.eval s = v) (g : Nat) (hg : g < W0.heap.size) (hown : OwnTF W0 B g v L)
    (hW : Below W0.heap.size W0 W) (hu : OwnT W W0.heap.size u xs)
    (b off : Nat) (hx : a.eval x = .slice (some ⟨b, off, none⟩) 1 1) (hc : W.cell? ⟨b, off, none⟩ = some u) (hl : L.length ≤ 1000000000000) (hB : B ≤ W0.heap.size)
    (h : ∀ v' w', OwnTF w' B g v' (L ++ [xs]) → W.grownBy w' v.ownBlock → (∀ k, v.ownBlock = some k → B ≤ k) → wpList Try.prog ops Q rest (a.put o.dst v') w') : wpList Try.prog ops Q (o :: rest) a W :=
  wpList_plain hgd fun _ hK => app_trowF s x ho B v L u xs hs g hg hown hW hu b off hx hc hl hB fun v' w' h1 h2 h3 => hK _ _ (h v' w' h1 h2 h3)

end Go.Proofs.Ytfkmophmiiehlaa
