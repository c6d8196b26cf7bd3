/- Contracts and lemmas for the statements of this seat, written for this claim; each theorem states its own conditions. -/
import Derived.Test.YtfkmophmiiehlaaVpSy
import Derived.Test.YtfkmophmiiehlaaVpMk
import Derived.Test.YtfkmophmiiehlaaVpRo
set_option linter.unusedVariables false
set_option linter.unusedSimpArgs false
namespace Go.Proofs.Ytfkmophmiiehlaa
open Go.RowKit
theorem infoSlB : (Try.prog.info? 115).map (fun i => (i.zero, i.size, i.bytes)) = some (some (.slice none 0 0), 1, 24) := by kernel_rfl
theorem ownB_apart {w1 w2 : World} {B : Nat} {v u : Value} {xs ys : List Bool} (hv : OwnB w1 B v xs) (hu : OwnB w2 w1.heap.size u ys) : (v.ownBlock = none ∨ v.ownBlock ≠ u.ownBlock) ∧ (u.ownBlock = none ∨ u.ownBlock ≠ v.ownBlock) := by
  cases e1 : v.ownBlock with
  | none => exact ⟨.inl rfl, by cases e2 : u.ownBlock with | none => exact .inl rfl | some k => exact .inr (by simp)⟩
  | some j =>
    cases e2 : u.ownBlock with
    | none => exact ⟨.inr (by simp), .inl rfl⟩
    | some k =>
      have h1 := (World.ownsRow.lt hv j e1).2
      have h2 := (World.ownsRow.lt hu k e2).1
      exact ⟨.inr (by simp; omega), .inr (by simp; omega)⟩
def RowsB (w : World) (B : Option Addr) (L : List (List Bool)) : Prop :=
  ∀ k (h : k < L.length), ∃ b off A cx, B = some ⟨b, off, none⟩ ∧ b < w.heap.size ∧ w.cell? ⟨b, off + k, none⟩ = some (.slice A L[k].length cx) ∧ BoolC w A L[k]
theorem RowsB.below {w w1 : World} {B : Option Addr} {L : List (List Bool)} (h : RowsB w B L) (hb : Below w.heap.size w w1) : RowsB w1 B L := by
  intro k hk
  obtain ⟨b, off, A, cx, e, hlt, hc, hr⟩ := h k hk
  exact ⟨b, off, A, cx, e, Nat.lt_of_lt_of_le hlt hb.size, (hb.cell (p := ⟨b, _, none⟩) hlt).trans hc, hr.below hb⟩
def OwnBB (w : World) (B : Nat) (v : Value) (L : List (List Bool)) : Prop :=
  ∃ vs : List Value, w.ownsRow B 115 1 v L.length vs ∧ (∀ i (h : i < vs.length) (h' : i < L.length), OwnB w B vs[i] L[i]) ∧
    (∀ i j (h : i < vs.length) (h' : j < vs.length), i ≠ j → Apart vs[i] vs[j]) ∧ ∀ i (h : i < vs.length), Apart vs[i] v
theorem OwnBB.rows {w : World} {B : Nat} {v : Value} {L : List (List Bool)} (h : OwnBB w B v L) : ∃ A cx, v = .slice A L.length cx ∧ RowsB w A L := by
  obtain ⟨vs, h1, h2, _⟩ := h
  have hl : vs.length = L.length := by have := h1.1; omega
  obtain ⟨_, h3⟩ := h1
  rcases h3 with ⟨rfl, h3⟩ | ⟨g, cap, cur, rfl, e2, e3, e4, e5, e6, e7⟩
  · exact ⟨none, 0, by rw [h3], fun k hk => by omega⟩
  · refine ⟨some ⟨g, 0, none⟩, cap, rfl, fun k hk => ?_⟩
    obtain ⟨A, cx, e⟩ := (h2 k (by omega) hk).shape
    have hc : BoolC w A L[k] := by have h8 := h2 k (by omega) hk; rw [e] at h8; exact h8.read
    refine ⟨g, 0, A, cx, rfl, (Array.getElem?_eq_some_iff.1 e3).1, ?_, hc⟩
    rw [Nat.zero_add]
    unfold World.cell?
    simp only [e3]
    have hk2 : k < vs.length := by omega
    have h9 : (cur.toList.take (L.length * 1))[k]? = some (vs[k]'hk2) := by rw [e7]; exact List.getElem?_eq_getElem hk2
    rw [List.getElem?_take] at h9
    simp [hk] at h9
    simp [h9, e]
theorem OwnBB.kept {w w' : World} {B : Nat} {v : Value} {L : List (List Bool)} {row : Option Nat} (h : OwnBB w B v L) (hg : w.grownBy w' row) (hr : ∀ k, row = some k → k < B) : OwnBB w' B v L := by
  obtain ⟨vs, h1, h2, h3, h4⟩ := h
  have ne : ∀ (u : Value) (n : Nat) (xs : List Value) (e : TypeId) (s : Nat), w.ownsRow B e s u n xs → u.ownBlock = none ∨ u.ownBlock ≠ row := fun u n xs e s ho => by
    cases eu : u.ownBlock with
    | none => exact .inl rfl
    | some k =>
      right
      have := (World.ownsRow.lt ho k eu).1
      intro e2
      have := hr k e2.symm
      omega
  exact ⟨vs, World.ownsRow.kept h1 hg (ne _ _ _ _ _ h1), fun i hi hi' => World.ownsRow.kept (h2 i hi hi') hg (ne _ _ _ _ _ (h2 i hi hi')), h3, h4⟩
theorem OwnBB.below {w w1 : World} {B : Nat} {v : Value} {L : List (List Bool)} (h : OwnBB w B v L) (hb : Below w.heap.size w w1) : OwnBB w1 B v L := by
  obtain ⟨vs, h1, h2, h3, h4⟩ := h
  refine ⟨vs, ?_, fun i hi hi' => (h2 i hi hi').below hb, h3, h4⟩
  exact World.ownsRow.kept (row := none) h1 ⟨hb.os, hb.tape, hb.output, hb.size, fun k hk _ => hb.block k hk⟩ (by cases h : v.ownBlock with | none => exact .inl rfl | some k => exact .inr (by simp))
theorem OwnBB.weaken {w : World} {B B' : Nat} {v : Value} {L : List (List Bool)} (h : OwnBB w B v L) (hB : B' ≤ B) : OwnBB w B' v L := by
  obtain ⟨vs, ⟨a1, a2⟩, h2, h3, h4⟩ := h
  refine ⟨vs, ⟨a1, ?_⟩, fun i hi hi' => (h2 i hi hi').weaken hB, h3, h4⟩
  rcases a2 with a2 | ⟨g, cap, cur, e1, e2, e3⟩
  · exact .inl a2
  · exact .inr ⟨g, cap, cur, e1, Nat.le_trans hB e2, e3⟩
theorem OwnBB.empty {w : World} {B g : Nat} (hg : w.heap.size = g) (hB : B ≤ w.heap.size) : OwnBB (w.alloc (.cells #[] 115)) B (.slice (some ⟨g, 0, none⟩) 0 0) [] := by
  subst hg
  exact ⟨[], World.ownsRow_lit (base := B) (e := 115) (size := 1) w #[] 0 hB (by simp [maxLen]) (by simp), fun i h => by simp at h, fun i j h => by simp at h, fun i h => by simp at h⟩
theorem OwnBB.lt {w : World} {B : Nat} {v : Value} {L : List (List Bool)} (h : OwnBB w B v L) : ∀ k, v.ownBlock = some k → B ≤ k ∧ k < w.heap.size := by
  obtain ⟨vs, h1, _⟩ := h
  exact fun k hk => World.ownsRow.lt h1 k hk
theorem app_rowB {o : Oper} {a : Act} {W0 W : World} {K : Act → World → Prop} {Q : Exit → Act → World → Prop} (s x : Operand)
    (ho : o.op = .call { callee := .builtin .append, args := #[s, x], argTypes := #[132, 132] }) (B : Nat) (v : Value) (L : List (List Bool)) (u : Value) (xs : List Bool) (hs : a.eval s = v) (hown : OwnBB W0 B v L)
    (hW : Below W0.heap.size W0 W) (hu : OwnB W W0.heap.size u xs)
    (b off : Nat) (hx : a.eval x = .slice (some ⟨b, off, none⟩) 1 1) (hc : W.cell? ⟨b, off, none⟩ = some u) (hl : L.length ≤ 1000000000000) (hB : B ≤ W0.heap.size)
    (h : ∀ v' w', OwnBB w' B v' (L ++ [xs]) → W.grownBy w' v.ownBlock → (∀ k, v.ownBlock = some k → B ≤ k) → K (a.put o.dst v') w') : o.wp Try.prog a W K Q := by
  obtain ⟨vs, g1, g2, h3, h4⟩ := hown
  have h1 : W.ownsRow B 115 1 v L.length vs := World.ownsRow.kept (row := none) g1 ⟨hW.os, hW.tape, hW.output, hW.size, fun k hk _ => hW.block k hk⟩ (by cases h : v.ownBlock with | none => exact .inl rfl | some k => exact .inr (by simp))
  have h2 : ∀ i (h : i < vs.length) (h' : i < L.length), OwnB W B vs[i] L[i] := fun i h h' => (g2 i h h').below hW
  have hvl : vs.length = L.length := by have := h1.1; omega
  refine app_gen s x 132 115 (.slice none 0 0) 1 24 ho Try.underlying132 infoSlB rfl (by decide) B v L.length vs hs h1 ⟨b, off, none⟩ 1 1 [u] hx rfl ?_ ?_ ?_ ?_ (Nat.le_trans hB hW.size) ?_
  · intro j z hj
    cases j with
    | zero => simp at hj; subst hj; simpa [Addr.add] using hc
    | succ j => simp at hj
  · intro z hz
    simp at hz; subst hz
    obtain ⟨A, cx, rfl⟩ := hu.shape
    rfl
  · simp [maxLen]; omega
  · omega
  · intro v' w' k1 k2 k3
    have hvb := World.ownsRow.lt h1
    have hub := World.ownsRow.lt hu
    have hvb0 : ∀ k, v.ownBlock = some k → k < W0.heap.size := fun k hk => (World.ownsRow.lt g1 k hk).2
    have huv : Apart u v := by
      cases eu : u.ownBlock with
      | none => exact .inl eu
      | some k =>
        right; rw [eu]; intro e
        have := (hub k eu).1
        have := hvb0 k e.symm
        omega
    refine h v' w' ⟨vs ++ [u], by rw [List.length_append]; exact k1, fun i hi hi' => ?_, fun i j hi hj hij => ?_, fun i hi => ?_⟩ k2 (fun k hk => (hvb k hk).1)
    · by_cases e : i < vs.length
      · have e' : i < L.length := by omega
        rw [List.getElem_append_left e, List.getElem_append_left e']
        exact (h2 i e e').grown k2 (h4 i e)
      · have ei : i = vs.length := by simp at hi; omega
        subst ei
        rw [List.getElem_append_right (Nat.le_refl _), List.getElem_append_right (by omega)]
        simp only [Nat.sub_self, List.getElem_cons_zero, hvl]
        exact (hu.weaken hB).grown k2 huv
    · have far : ∀ q (hq : q < vs.length), Apart vs[q] u := fun q hq => (ownB_apart (g2 q hq (by omega)) hu).1
      by_cases e : i < vs.length
      · by_cases e2 : j < vs.length
        · rw [List.getElem_append_left e, List.getElem_append_left e2]; exact h3 i j e e2 hij
        · rw [List.getElem_append_left e, List.getElem_append_right (by omega)]
          simp only [show j - vs.length = 0 by simp at hj; omega, List.getElem_cons_zero]
          exact far i e
      · have e2 : j < vs.length := by simp at hi hj; omega
        rw [List.getElem_append_left e2, List.getElem_append_right (by omega)]
        simp only [show i - vs.length = 0 by simp at hi; omega, List.getElem_cons_zero]
        exact (far j e2).symm
    · by_cases e : i < vs.length
      · rw [List.getElem_append_left e]
        exact ((h4 i e).symm.app (fun k hk => ((h2 i e (by omega)).lt k hk).2) k3).symm
      · rw [List.getElem_append_right (by omega)]
        simp only [show i - vs.length = 0 by simp at hi; omega, List.getElem_cons_zero]
        exact (huv.symm.app (fun k hk => (hu.lt k hk).2) k3).symm
theorem wpl_app_rowB {ops : Array Oper} {rest : List Oper} {o : Oper} {a : Act} {W0 W : World} {Q : Exit → Act → World → Prop} (hgd : o.guard = none) (s x : Operand)
    (ho : o.op = .call { callee := .builtin .append, args := #[s, x], argTypes := #[132, 132] }) (B : Nat) (v : Value) (L : List (List Bool)) (u : Value) (xs : List Bool) (hs : a.eval s = v) (hown : OwnBB W0 B v L)
    (hW : Below W0.heap.size W0 W) (hu : OwnB W W0.heap.size u xs)
    (b off : Nat) (hx : a.eval x = .slice (some ⟨b, off, none⟩) 1 1) (hc : W.cell? ⟨b, off, none⟩ = some u) (hl : L.length ≤ 1000000000000) (hB : B ≤ W0.heap.size)
    (h : ∀ v' w', OwnBB w' B v' (L ++ [xs]) → W.grownBy w' v.ownBlock → (∀ k, v.ownBlock = some k → B ≤ k) → wpList Try.prog ops Q rest (a.put o.dst v') w') : wpList Try.prog ops Q (o :: rest) a W :=
  wpList_plain hgd fun _ hK => app_rowB s x ho B v L u xs hs hown hW hu b off hx hc hl hB fun v' w' h1 h2 h3 => hK _ _ (h v' w' h1 h2 h3)

end Go.Proofs.Ytfkmophmiiehlaa
