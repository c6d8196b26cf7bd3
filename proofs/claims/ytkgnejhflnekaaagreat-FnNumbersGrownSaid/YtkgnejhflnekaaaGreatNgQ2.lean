/- Contracts and lemmas for the statements of this seat, written for this claim; each theorem states its own conditions. -/
import Derived.Test.YtkgnejhflnekaaaGreatNgJ4
import Derived.Test.YtkgnejhflnekaaaGreatNgGr
import Derived.Test.YtkgnejhflnekaaaGreatNgMk
set_option linter.unusedVariables false
set_option linter.unusedSimpArgs false
namespace Go.Proofs.YtkgnejhflnekaaaGreat
open Go.RowKit
/-- an owned list of lists of numbers, and none of its blocks is one of X -/
def OwnIX (w : World) (B : Nat) (X : Nat → Prop) (v : Value) (L : List (List Int)) : Prop :=
  ∃ vs : List Value, w.ownsRow B 35 1 v L.length vs ∧ (∀ i (h : i < vs.length) (h' : i < L.length), OwnI w B vs[i] L[i]) ∧
    (∀ i j (h : i < vs.length) (h' : j < vs.length), i ≠ j → Apart vs[i] vs[j]) ∧ (∀ i (h : i < vs.length), Apart vs[i] v) ∧ (∀ k, v.ownBlock = some k → ¬ X k) ∧ ∀ i (h : i < vs.length) k, vs[i].ownBlock = some k → ¬ X k
theorem OwnIX.toII {w : World} {B : Nat} {X : Nat → Prop} {v : Value} {L : List (List Int)} (h : OwnIX w B X v L) : OwnII w B v L := by
  obtain ⟨vs, h1, h2, h3, h4, _⟩ := h
  exact ⟨vs, h1, h2, h3, h4⟩
theorem OwnIX.same {w w' : World} {B : Nat} {X : Nat → Prop} {v : Value} {L : List (List Int)} (h : OwnIX w B X v L) (f : ∀ k, B ≤ k → k < w.heap.size → ¬ X k → w'.heap[k]? = w.heap[k]?) : OwnIX w' B X v L := by
  obtain ⟨vs, h1, h2, h3, h4, h5, h6⟩ := h
  have hl : vs.length = L.length := by have := h1.1; omega
  refine ⟨vs, ownsRow_same h1 fun k hk => f k ?_ ?_ (h5 k hk), fun i hi hi' => ownsRow_same (h2 i hi hi') fun k hk => f k ?_ ?_ (h6 i hi k hk), h3, h4, h5, h6⟩
  · exact (World.ownsRow.lt h1 k hk).1
  · exact (World.ownsRow.lt h1 k hk).2
  · exact (World.ownsRow.lt (h2 i hi hi') k hk).1
  · exact (World.ownsRow.lt (h2 i hi hi') k hk).2
theorem OwnIX.below {w w1 : World} {B : Nat} {X : Nat → Prop} {v : Value} {L : List (List Int)} (h : OwnIX w B X v L) (hb : Below w.heap.size w w1) : OwnIX w1 B X v L := h.same fun k _ hk _ => hb.block k hk
theorem OwnIX.store {w : World} {B : Nat} {X : Nat → Prop} {v : Value} {L : List (List Int)} (h : OwnIX w B X v L) (p : Addr) (hp : X p.block) (u : Value) : OwnIX (w.setCell p u) B X v L := h.same fun k _ _ hk => Below.heap_setCell w p u k (fun e => hk (e ▸ hp))
theorem OwnIX.empty {w : World} {B b : Nat} {X : Nat → Prop} (hb : w.heap.size = b) (hB : B ≤ w.heap.size) (hg : ¬ X b) : OwnIX (w.alloc (.cells #[] 35)) B X (.slice (some ⟨b, 0, none⟩) 0 0) [] := by
  subst hb
  exact ⟨[], World.ownsRow_lit (base := B) (e := 35) (size := 1) w #[] 0 hB (by simp [maxLen]) (by simp), fun i h => by simp at h, fun i j h => by simp at h, fun i h => by simp at h, fun k hk => by have hk' : some w.heap.size = some k := hk; injection hk' with e; subst e; exact hg, fun i h => by simp at h⟩
theorem OwnIX.less {w : World} {B : Nat} {X Y : Nat → Prop} {v : Value} {L : List (List Int)} (h : OwnIX w B X v L) (hXY : ∀ k, k < w.heap.size → Y k → X k) : OwnIX w B Y v L := by
  obtain ⟨vs, h1, h2, h3, h4, h5, h6⟩ := h
  have hl : vs.length = L.length := by have := h1.1; omega
  exact ⟨vs, h1, h2, h3, h4, fun k hk hy => h5 k hk (hXY k (World.ownsRow.lt h1 k hk).2 hy), fun i hi k hk hy => h6 i hi k hk (hXY k (World.ownsRow.lt (h2 i hi (by omega)) k hk).2 hy)⟩
theorem OwnIX.shape {w : World} {B : Nat} {X : Nat → Prop} {v : Value} {L : List (List Int)} (h : OwnIX w B X v L) : ∃ A cx, v = .slice A L.length cx ∧ RowsC w A L := h.toII.rows
theorem OwnIX.off {w : World} {B : Nat} {X : Nat → Prop} {v : Value} {L : List (List Int)} (h : OwnIX w B X v L) {k : Nat} (hk : X k) : some k ≠ v.ownBlock := by
  obtain ⟨vs, h1, h2, h3, h4, h5, h6⟩ := h
  exact fun e => h5 k e.symm hk
theorem OwnIX.ge {w : World} {B : Nat} {X : Nat → Prop} {v : Value} {L : List (List Int)} (h : OwnIX w B X v L) (k : Nat) (hk : v.ownBlock = some k) : B ≤ k := by
  obtain ⟨vs, h1, _⟩ := h
  exact (World.ownsRow.lt h1 k hk).1
theorem app_rowX {o : Oper} {a : Act} {W0 W : World} {K : Act → World → Prop} {Q : Exit → Act → World → Prop} (s x : Operand)
    (ho : o.op = .call { callee := .builtin .append, args := #[s, x], argTypes := #[29, 29] }) (B : Nat) (v : Value) (L : List (List Int)) (u : Value) (xs : List Int) (hs : a.eval s = v) (X : Nat → Prop) (hX : ∀ k, X k → k < W0.heap.size) (hown : OwnIX W0 B X v L)
    (hW : Below W0.heap.size W0 W) (hu : OwnI W W0.heap.size u xs)
    (b off : Nat) (hx : a.eval x = .slice (some ⟨b, off, none⟩) 1 1) (hc : W.cell? ⟨b, off, none⟩ = some u) (hl : L.length ≤ 1000000000000) (hB : B ≤ W0.heap.size)
    (h : ∀ v' w', OwnIX w' B X v' (L ++ [xs]) → W.grownBy w' v.ownBlock → (∀ k, v.ownBlock = some k → B ≤ k) → K (a.put o.dst v') w') : o.wp Tryz.prog a W K Q := by
  obtain ⟨vs, g1, g2, h3, h4, h5, h6⟩ := hown
  have h1 : W.ownsRow B 35 1 v L.length vs := World.ownsRow.kept (row := none) g1 ⟨hW.os, hW.tape, hW.output, hW.size, fun k hk _ => hW.block k hk⟩ (by cases h : v.ownBlock with | none => exact .inl rfl | some k => exact .inr (by simp))
  have h2 : ∀ i (h : i < vs.length) (h' : i < L.length), OwnI W B vs[i] L[i] := fun i h h' => (g2 i h h').below hW
  have hvl : vs.length = L.length := by have := h1.1; omega
  refine app_gen s x 29 35 (.slice none 0 0) 1 24 ho Tryz.underlying29 infoSl rfl (by decide) B v L.length vs hs h1 ⟨b, off, none⟩ 1 1 [u] hx rfl ?_ ?_ ?_ ?_ (Nat.le_trans hB hW.size) ?_
  · intro j z hj
    cases j with
    | zero => simp at hj; subst hj; simpa [Addr.add] using hc
    | succ j => simp at hj
  · intro z hz
    simp at hz; subst hz
    obtain ⟨A, cx, rfl, _⟩ := hu.shape
    rfl
  · simp [maxLen]; omega
  · omega
  · intro v' w' k1 k2 k3
    have hvb := World.ownsRow.lt h1
    have hub := World.ownsRow.lt hu
    have hvb0 : ∀ k, v.ownBlock = some k → k < W0.heap.size := fun k hk => (World.ownsRow.lt g1 k hk).2
    have huv : Apart u v := by
      cases eu : u.ownBlock with
      | none => exact .inl eu
      | some k =>
        right; rw [eu]; intro e
        have := (hub k eu).1
        have := hvb0 k e.symm
        omega
    refine h v' w' ⟨vs ++ [u], by rw [List.length_append]; exact k1, fun i hi hi' => ?_, fun i j hi hj hij => ?_, fun i hi => ?_, fun k hk => ?_, fun i hi k hk => ?_⟩ k2 (fun k hk => (hvb k hk).1)
    · by_cases e : i < vs.length
      · have e' : i < L.length := by omega
        rw [List.getElem_append_left e, List.getElem_append_left e']
        exact (h2 i e e').grown k2 (h4 i e)
      · have ei : i = vs.length := by simp at hi; omega
        subst ei
        rw [List.getElem_append_right (Nat.le_refl _), List.getElem_append_right (by omega)]
        simp only [Nat.sub_self, List.getElem_cons_zero, hvl]
        exact (hu.weaken hB).grown k2 huv
    · have far : ∀ q (hq : q < vs.length), Apart vs[q] u := fun q hq => (own_apart (g2 q hq (by omega)) hu).1
      by_cases e : i < vs.length
      · by_cases e2 : j < vs.length
        · rw [List.getElem_append_left e, List.getElem_append_left e2]; exact h3 i j e e2 hij
        · rw [List.getElem_append_left e, List.getElem_append_right (by omega)]
          simp only [show j - vs.length = 0 by simp at hj; omega, List.getElem_cons_zero]
          exact far i e
      · have e2 : j < vs.length := by simp at hi hj; omega
        rw [List.getElem_append_left e2, List.getElem_append_right (by omega)]
        simp only [show i - vs.length = 0 by simp at hi; omega, List.getElem_cons_zero]
        exact (far j e2).symm
    · by_cases e : i < vs.length
      · rw [List.getElem_append_left e]
        exact ((h4 i e).symm.app (fun k hk => (h2 i e (by omega)).blt k hk) k3).symm
      · rw [List.getElem_append_right (by omega)]
        simp only [show i - vs.length = 0 by simp at hi; omega, List.getElem_cons_zero]
        exact (huv.symm.app (hu.blt) k3).symm
    · rcases k3 with k3 | k3
      · rw [k3] at hk; exact h5 k hk
      · rw [k3] at hk; injection hk with hk; exact fun e => by have := hW.size; have := hX k e; omega
    · by_cases e : i < vs.length
      · rw [List.getElem_append_left e] at hk; exact h6 i e k hk
      · rw [List.getElem_append_right (by omega)] at hk
        simp only [show i - vs.length = 0 by simp at hi; omega, List.getElem_cons_zero] at hk
        exact fun e => by have := (hub k hk).1; have := hX k e; omega
theorem app_row2X {o : Oper} {a : Act} {W0 W : World} {Kq : Act → World → Prop} {Q : Exit → Act → World → Prop} (s x : Operand)
    (ho : o.op = .call { callee := .builtin .append, args := #[s, x], argTypes := #[29, 29] }) (B : Nat) (v : Value) (L : List (List Int)) (u1 u2 : Value) (xs ys : List Int) (hs : a.eval s = v) (X : Nat → Prop) (hX : ∀ k, X k → k < W0.heap.size) (hown : OwnIX W0 B X v L)
    (hW : Below W0.heap.size W0 W) (hu1 : OwnI W W0.heap.size u1 xs) (hu2 : OwnI W W0.heap.size u2 ys) (h12 : Apart u1 u2)
    (b off cap : Nat) (hx : a.eval x = .slice (some ⟨b, off, none⟩) 2 cap) (hc1 : W.cell? ⟨b, off, none⟩ = some u1) (hc2 : W.cell? ⟨b, off + 1, none⟩ = some u2) (hl : L.length ≤ 1000000000000) (hB : B ≤ W0.heap.size)
    (h : ∀ v' w', OwnIX w' B X v' (L ++ [xs, ys]) → W.grownBy w' v.ownBlock → (∀ k, v.ownBlock = some k → B ≤ k) → Kq (a.put o.dst v') w') : o.wp Tryz.prog a W Kq Q := by
  obtain ⟨vs, g1, g2, h3, h4, h5, h6⟩ := hown
  have h1 : W.ownsRow B 35 1 v L.length vs := World.ownsRow.kept (row := none) g1 ⟨hW.os, hW.tape, hW.output, hW.size, fun k hk _ => hW.block k hk⟩ (by cases h : v.ownBlock with | none => exact .inl rfl | some k => exact .inr (by simp))
  have h2 : ∀ i (h : i < vs.length) (h' : i < L.length), OwnI W B vs[i] L[i] := fun i h h' => (g2 i h h').below hW
  have hvl : vs.length = L.length := by have := h1.1; omega
  refine app_gen s x 29 35 (.slice none 0 0) 1 24 ho Tryz.underlying29 infoSl rfl (by decide) B v L.length vs hs h1 ⟨b, off, none⟩ 2 cap [u1, u2] hx rfl ?_ ?_ ?_ ?_ (Nat.le_trans hB hW.size) ?_
  · intro j z hj
    rw [add_off]
    rcases j with _ | _ | j
    · simp at hj; subst hj; simpa using hc1
    · simp at hj; subst hj; simpa using hc2
    · simp at hj
  · intro z hz
    simp at hz
    rcases hz with rfl | rfl
    · obtain ⟨A, cx, rfl, _⟩ := hu1.shape
      rfl
    · obtain ⟨A, cx, rfl, _⟩ := hu2.shape
      rfl
  · simp [maxLen]; omega
  · omega
  · intro v' w' k1 k2 k3
    refine h v' w' ?_ k2 (fun k hk => (World.ownsRow.lt h1 k hk).1)
    have hvb0 : ∀ k, v.ownBlock = some k → k < W0.heap.size := fun k hk => (World.ownsRow.lt g1 k hk).2
    have uv : ∀ u zs, OwnI W W0.heap.size u zs → Apart u v := fun u zs hu => by
      cases eu : u.ownBlock with
      | none => exact .inl eu
      | some k =>
        right; rw [eu]; intro e
        have := (World.ownsRow.lt hu k eu).1
        have := hvb0 k e.symm
        omega
    have far : ∀ q (hq : q < vs.length) u zs, OwnI W W0.heap.size u zs → Apart vs[q] u := fun q hq u zs hu => (own_apart (g2 q hq (by omega)) hu).1
    have get : ∀ i (hi : i < (vs ++ [u1, u2]).length), (∃ h : i < vs.length, (vs ++ [u1, u2])[i] = vs[i]) ∨ (i = vs.length ∧ (vs ++ [u1, u2])[i] = u1) ∨ (i = vs.length + 1 ∧ (vs ++ [u1, u2])[i] = u2) := fun i hi => by
      by_cases e : i < vs.length
      · exact .inl ⟨e, List.getElem_append_left e⟩
      · by_cases e2 : i = vs.length
        · subst e2; exact .inr (.inl ⟨rfl, by simp⟩)
        · have e3 : i = vs.length + 1 := by simp at hi; omega
          subst e3
          exact .inr (.inr ⟨rfl, by simp⟩)
    refine ⟨vs ++ [u1, u2], by rw [List.length_append]; exact k1, fun i hi hi' => ?_, fun i j hi hj hij => ?_, fun i hi => ?_, fun k hk => ?_, fun i hi k hk => ?_⟩
    · rcases get i hi with ⟨e, e1⟩ | ⟨e, e1⟩ | ⟨e, e1⟩
      · have e' : i < L.length := by omega
        rw [e1, List.getElem_append_left e']
        exact (h2 i e e').grown k2 (h4 i e)
      · rw [e1]
        have : (L ++ [xs, ys])[i] = xs := by subst e; simp [hvl]
        rw [this]
        exact (hu1.weaken hB).grown k2 (uv _ _ hu1)
      · rw [e1]
        have : (L ++ [xs, ys])[i] = ys := by subst e; simp [hvl]
        rw [this]
        exact (hu2.weaken hB).grown k2 (uv _ _ hu2)
    · rcases get i hi with ⟨e, e1⟩ | ⟨e, e1⟩ | ⟨e, e1⟩ <;> rcases get j hj with ⟨f, f1⟩ | ⟨f, f1⟩ | ⟨f, f1⟩ <;> rw [e1, f1]
      · exact h3 i j e f hij
      · exact far i e _ _ hu1
      · exact far i e _ _ hu2
      · exact (far j f _ _ hu1).symm
      · omega
      · exact h12
      · exact (far j f _ _ hu2).symm
      · exact h12.symm
      · omega
    · rcases get i hi with ⟨e, e1⟩ | ⟨e, e1⟩ | ⟨e, e1⟩ <;> rw [e1]
      · exact ((h4 i e).symm.app (h2 i e (by omega)).blt k3).symm
      · exact ((uv _ _ hu1).symm.app hu1.blt k3).symm
      · exact ((uv _ _ hu2).symm.app hu2.blt k3).symm
    · rcases k3 with k3 | k3
      · rw [k3] at hk; exact h5 k hk
      · rw [k3] at hk; injection hk with hk; exact fun e => by have := hW.size; have := hX k e; omega
    · rcases get i hi with ⟨e, e1⟩ | ⟨e, e1⟩ | ⟨e, e1⟩ <;> rw [e1] at hk
      · exact h6 i e k hk
      · exact fun e => by have := (World.ownsRow.lt hu1 k hk).1; have := hX k e; omega
      · exact fun e => by have := (World.ownsRow.lt hu2 k hk).1; have := hX k e; omega

end Go.Proofs.YtkgnejhflnekaaaGreat
