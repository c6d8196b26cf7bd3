/- Contracts and lemmas for the statements of this seat, written for this claim; each theorem states its own conditions. -/
import Derived.Test.YtpcooplalncdcaaSmRo
set_option linter.unusedVariables false
set_option linter.unusedSimpArgs false
namespace Go.Proofs.Ytpcooplalncdcaa
open Go.RowKit
def marksII : Nat → List (List Int) → List (List Int)
  | _, [] => []
  | k, r :: L => marks k r.length :: marksII (k + r.length) L
theorem marksII_len : ∀ (L : List (List Int)) (k : Nat), (marksII k L).length = L.length
  | [], _ => rfl
  | r :: L, k => by simp [marksII, marksII_len L]
theorem tot_nil : tot [] = 0 := rfl
theorem tot_cons (r : List Int) (L : List (List Int)) : tot (r :: L) = r.length + tot L := by simp [tot]
theorem tot_take_le : ∀ (L : List (List Int)) (j : Nat), tot (L.take j) ≤ tot L
  | [], j => by simp [tot]
  | r :: L, 0 => by simp [tot]
  | r :: L, j + 1 => by simp only [List.take_succ_cons, tot_cons]; have := tot_take_le L j; omega
theorem marksII_get : ∀ (L : List (List Int)) (k j : Nat) (h : j < (marksII k L).length) (h' : j < L.length), (marksII k L)[j] = marks (k + tot (L.take j)) L[j].length
  | r :: L, k, 0, _, _ => by simp [marksII, tot]
  | r :: L, k, j + 1, h, h' => by
    simp only [marksII, List.getElem_cons_succ, List.take_succ_cons, tot_cons]
    rw [marksII_get L (k + r.length) j (by simpa [marksII] using h) (by simpa using h')]
    congr 1; omega
/-- j rows marked, the others as they were -/
def marksTo (k : Nat) (L : List (List Int)) (j : Nat) : List (List Int) := (marksII k L).take j ++ L.drop j
theorem marksTo_len (k : Nat) (L : List (List Int)) (j : Nat) (hj : j ≤ L.length) : (marksTo k L j).length = L.length := by simp [marksTo, marksII_len]; omega
theorem marksTo_get (k : Nat) (L : List (List Int)) (j i : Nat) (h : i < (marksTo k L j).length) (hj : j ≤ L.length) (h' : i < L.length) :
    (marksTo k L j)[i] = if i < j then marks (k + tot (L.take i)) L[i].length else L[i] := by
  apply Option.some.inj
  rw [← List.getElem?_eq_getElem h]
  unfold marksTo
  by_cases hi : i < j
  · rw [if_pos hi, List.getElem?_append_left (by simp [marksII_len]; omega), List.getElem?_take_of_lt hi, List.getElem?_eq_getElem (by rw [marksII_len]; exact h'), marksII_get L k i (by rw [marksII_len]; exact h') h']
  · rw [if_neg hi, List.getElem?_append_right (by simp [marksII_len]; omega), List.getElem?_drop, ← List.getElem?_eq_getElem h']
    congr 1
    simp [marksII_len]; omega
theorem marksTo_all (k : Nat) (L : List (List Int)) : marksTo k L L.length = marksII k L := by
  unfold marksTo
  rw [List.take_of_length_le (by rw [marksII_len]; exact Nat.le_refl _), List.drop_of_length_le (Nat.le_refl _), List.append_nil]
theorem ownsRow_same {w w' : World} {B : Nat} {e : TypeId} {size : Nat} {v : Value} {n : Nat} {xs : List Value} (h : w.ownsRow B e size v n xs) (hs : ∀ k, v.ownBlock = some k → w'.heap[k]? = w.heap[k]?) : w'.ownsRow B e size v n xs := by
  obtain ⟨h1, h2⟩ := h
  refine ⟨h1, ?_⟩
  rcases h2 with h2 | ⟨g, cap, cur, rfl, e2, e3, e4⟩
  · exact .inl h2
  · exact .inr ⟨g, cap, cur, rfl, e2, (hs g rfl).trans e3, e4⟩
theorem OwnI.same {w w' : World} {B : Nat} {v : Value} {xs : List Int} (h : OwnI w B v xs) (hs : ∀ k, B ≤ k → k < w.heap.size → w'.heap[k]? = w.heap[k]?) : OwnI w' B v xs :=
  ownsRow_same h fun k hk => hs k (World.ownsRow.lt h k hk).1 (World.ownsRow.lt h k hk).2
/-- as OwnII, and the blocks of the rows lie ahead of N -/
def OwnN (w : World) (B N : Nat) (v : Value) (L : List (List Int)) : Prop :=
  ∃ vs : List Value, w.ownsRow B 25 1 v L.length vs ∧ (∀ i (h : i < vs.length) (h' : i < L.length), OwnI w B vs[i] L[i]) ∧
    (∀ i j (h : i < vs.length) (h' : j < vs.length), i ≠ j → Apart vs[i] vs[j]) ∧ (∀ i (h : i < vs.length), Apart vs[i] v) ∧ ∀ i (h : i < vs.length) k, vs[i].ownBlock = some k → k < N
theorem OwnII.toN {w : World} {B : Nat} {v : Value} {L : List (List Int)} (h : OwnII w B v L) : OwnN w B w.heap.size v L := by
  obtain ⟨vs, h1, h2, h3, h4⟩ := h
  have hl : vs.length = L.length := by have := h1.1; omega
  exact ⟨vs, h1, h2, h3, h4, fun i hi k hk => (World.ownsRow.lt (h2 i hi (by omega)) k hk).2⟩
theorem OwnN.toII {w : World} {B N : Nat} {v : Value} {L : List (List Int)} (h : OwnN w B N v L) : OwnII w B v L := by
  obtain ⟨vs, h1, h2, h3, h4, _⟩ := h
  exact ⟨vs, h1, h2, h3, h4⟩
theorem OwnN.same {w w' : World} {B N : Nat} {v : Value} {L : List (List Int)} (h : OwnN w B N v L) (hs : ∀ k, B ≤ k → k < w.heap.size → w'.heap[k]? = w.heap[k]?) : OwnN w' B N v L := by
  obtain ⟨vs, h1, h2, h3, h4, h5⟩ := h
  exact ⟨vs, ownsRow_same h1 fun k hk => hs k (World.ownsRow.lt h1 k hk).1 (World.ownsRow.lt h1 k hk).2, fun i hi hi' => (h2 i hi hi').same hs, h3, h4, h5⟩
theorem OwnII.same {w w' : World} {B : Nat} {v : Value} {L : List (List Int)} (h : OwnII w B v L) (hs : ∀ k, B ≤ k → k < w.heap.size → w'.heap[k]? = w.heap[k]?) : OwnII w' B v L := by
  obtain ⟨vs, h1, h2, h3, h4⟩ := h
  exact ⟨vs, ownsRow_same h1 fun k hk => hs k (World.ownsRow.lt h1 k hk).1 (World.ownsRow.lt h1 k hk).2, fun i hi hi' => (h2 i hi hi').same hs, h3, h4⟩
/-- only blocks from B on and ahead of N may have changed, and new ones may have come -/
structure Touch (B N : Nat) (w w' : World) : Prop where
  os : w'.os = w.os
  tape : w'.tape = w.tape
  output : w'.output = w.output
  size : w.heap.size ≤ w'.heap.size
  block : ∀ k, k < w.heap.size → (k < B ∨ N ≤ k) → w'.heap[k]? = w.heap[k]?
theorem Touch.refl (B N : Nat) (w : World) : Touch B N w w := ⟨rfl, rfl, rfl, Nat.le_refl _, fun _ _ _ => rfl⟩
theorem Touch.grow {B N : Nat} {w w1 w2 : World} {row : Option Nat} (h : Touch B N w w1) (hg : w1.grownBy w2 row) (hr : ∀ k, row = some k → B ≤ k ∧ k < N) : Touch B N w w2 := by
  obtain ⟨g1, g2, g3, g4, g5⟩ := hg
  refine ⟨g1.trans h.os, g2.trans h.tape, g3.trans h.output, Nat.le_trans h.size g4, fun k hk hkk => (g5 k (Nat.lt_of_lt_of_le hk h.size) fun e => ?_).trans (h.block k hk hkk)⟩
  have := hr k e.symm
  omega
theorem Touch.below {B N : Nat} {w w' : World} (h : Touch B N w w') (hB : B ≤ w.heap.size) : Below B w w' := ⟨h.os, h.tape, h.output, Nat.le_trans hB h.size |> fun _ => h.size, fun k hk => h.block k (by omega) (.inl hk)⟩
theorem Touch.one {w w' : World} {b : Nat} (h : w.grownBy w' (some b)) : Touch b (b + 1) w w' := (Touch.refl _ _ _).grow h (fun k hk => by injection hk with hk; omega)
theorem OwnII.kept {w w' : World} {B : Nat} {v : Value} {L : List (List Int)} {row : Option Nat} (h : OwnII w B v L) (hg : w.grownBy w' row) (hr : ∀ k, row = some k → k < B) : OwnII w' B v L := by
  obtain ⟨vs, h1, h2, h3, h4⟩ := h
  have ne : ∀ (u : Value) (n : Nat) (xs : List Value) (e : TypeId) (s : Nat), w.ownsRow B e s u n xs → u.ownBlock = none ∨ u.ownBlock ≠ row := fun u n xs e s ho => by
    cases eu : u.ownBlock with
    | none => exact .inl rfl
    | some k =>
      right
      have := (World.ownsRow.lt ho k eu).1
      intro e2
      have := hr k e2.symm
      omega
  exact ⟨vs, World.ownsRow.kept h1 hg (ne _ _ _ _ _ h1), fun i hi hi' => World.ownsRow.kept (h2 i hi hi') hg (ne _ _ _ _ _ (h2 i hi hi')), h3, h4⟩
theorem OwnII.below {w w1 : World} {B : Nat} {v : Value} {L : List (List Int)} (h : OwnII w B v L) (hb : Below w.heap.size w w1) : OwnII w1 B v L := by
  obtain ⟨vs, h1, h2, h3, h4⟩ := h
  refine ⟨vs, ?_, fun i hi hi' => (h2 i hi hi').below hb, h3, h4⟩
  exact World.ownsRow.kept (row := none) h1 ⟨hb.os, hb.tape, hb.output, hb.size, fun k hk _ => hb.block k hk⟩ (by cases h : v.ownBlock with | none => exact .inl rfl | some k => exact .inr (by simp))
theorem OwnII.weaken {w : World} {B B' : Nat} {v : Value} {L : List (List Int)} (h : OwnII w B v L) (hB : B' ≤ B) : OwnII w B' v L := by
  obtain ⟨vs, ⟨a1, a2⟩, h2, h3, h4⟩ := h
  refine ⟨vs, ⟨a1, ?_⟩, fun i hi hi' => (h2 i hi hi').weaken hB, h3, h4⟩
  rcases a2 with a2 | ⟨g, cap, cur, e1, e2, e3⟩
  · exact .inl a2
  · exact .inr ⟨g, cap, cur, e1, Nat.le_trans hB e2, e3⟩
theorem OwnII.nil (w : World) (B : Nat) : OwnII w B (.slice none 0 0) [] := ⟨[], World.ownsRow_nil _ _ _ _, fun i h => by simp at h, fun i j h => by simp at h, fun i h => by simp at h⟩
theorem OwnII.empty {w : World} {B g : Nat} (hg : w.heap.size = g) (hB : B ≤ w.heap.size) : OwnII (w.alloc (.cells #[] 25)) B (.slice (some ⟨g, 0, none⟩) 0 0) [] := by
  subst hg
  exact ⟨[], World.ownsRow_lit (base := B) (e := 25) (size := 1) w #[] 0 hB (by simp [maxLen]) (by simp), fun i h => by simp at h, fun i j h => by simp at h, fun i h => by simp at h⟩
theorem OwnI.to2 {w w1 : World} {B : Nat} {v : Value} {xs : List Int} (h : OwnI w B v xs) (hb : Below w.heap.size w w1) : OwnI w1 B v xs := h.below hb
/-- a list of numbers, new, is appended to an owned list of lists -/
theorem app_row {o : Oper} {a : Act} {W0 W : World} {K : Act → World → Prop} {Q : Exit → Act → World → Prop} (s x : Operand)
    (ho : o.op = .call { callee := .builtin .append, args := #[s, x], argTypes := #[42, 42] }) (B : Nat) (v : Value) (L : List (List Int)) (u : Value) (xs : List Int) (hs : a.eval s = v) (hown : OwnII W0 B v L)
    (hW : Below W0.heap.size W0 W) (hu : OwnI W W0.heap.size u xs)
    (b off : Nat) (hx : a.eval x = .slice (some ⟨b, off, none⟩) 1 1) (hc : W.cell? ⟨b, off, none⟩ = some u) (hl : L.length ≤ 1000000000000) (hB : B ≤ W0.heap.size)
    (h : ∀ v' w', OwnII w' B v' (L ++ [xs]) → W.grownBy w' v.ownBlock → (∀ k, v.ownBlock = some k → B ≤ k) → K (a.put o.dst v') w') : o.wp Try.prog a W K Q := by
  obtain ⟨vs, g1, g2, h3, h4⟩ := hown
  have h1 : W.ownsRow B 25 1 v L.length vs := World.ownsRow.kept (row := none) g1 ⟨hW.os, hW.tape, hW.output, hW.size, fun k hk _ => hW.block k hk⟩ (by cases h : v.ownBlock with | none => exact .inl rfl | some k => exact .inr (by simp))
  have h2 : ∀ i (h : i < vs.length) (h' : i < L.length), OwnI W B vs[i] L[i] := fun i h h' => (g2 i h h').below hW
  have hvl : vs.length = L.length := by have := h1.1; omega
  refine app_gen s x 42 25 (.slice none 0 0) 1 24 ho Try.underlying42 infoSl rfl (by decide) B v L.length vs hs h1 ⟨b, off, none⟩ 1 1 [u] hx rfl ?_ ?_ ?_ ?_ (Nat.le_trans hB hW.size) ?_
  · intro j z hj
    cases j with
    | zero => simp at hj; subst hj; simpa [Addr.add] using hc
    | succ j => simp at hj
  · intro z hz
    simp at hz; subst hz
    obtain ⟨A, cx, rfl, _⟩ := hu.shape
    rfl
  · simp [maxLen]; omega
  · omega
  · intro v' w' k1 k2 k3
    have hvb := World.ownsRow.lt h1
    have hub := World.ownsRow.lt hu
    have hvb0 : ∀ k, v.ownBlock = some k → k < W0.heap.size := fun k hk => (World.ownsRow.lt g1 k hk).2
    have huv : Apart u v := by
      cases eu : u.ownBlock with
      | none => exact .inl eu
      | some k =>
        right; rw [eu]; intro e
        have := (hub k eu).1
        have := hvb0 k e.symm
        omega
    refine h v' w' ⟨vs ++ [u], by rw [List.length_append]; exact k1, fun i hi hi' => ?_, fun i j hi hj hij => ?_, fun i hi => ?_⟩ k2 (fun k hk => (hvb k hk).1)
    · by_cases e : i < vs.length
      · have e' : i < L.length := by omega
        rw [List.getElem_append_left e, List.getElem_append_left e']
        exact (h2 i e e').grown k2 (h4 i e)
      · have ei : i = vs.length := by simp at hi; omega
        subst ei
        rw [List.getElem_append_right (Nat.le_refl _), List.getElem_append_right (by omega)]
        simp only [Nat.sub_self, List.getElem_cons_zero, hvl]
        exact (hu.weaken hB).grown k2 huv
    · have far : ∀ q (hq : q < vs.length), Apart vs[q] u := fun q hq => (own_apart (g2 q hq (by omega)) hu).1
      by_cases e : i < vs.length
      · by_cases e2 : j < vs.length
        · rw [List.getElem_append_left e, List.getElem_append_left e2]; exact h3 i j e e2 hij
        · rw [List.getElem_append_left e, List.getElem_append_right (by omega)]
          simp only [show j - vs.length = 0 by simp at hj; omega, List.getElem_cons_zero]
          exact far i e
      · have e2 : j < vs.length := by simp at hi hj; omega
        rw [List.getElem_append_left e2, List.getElem_append_right (by omega)]
        simp only [show i - vs.length = 0 by simp at hi; omega, List.getElem_cons_zero]
        exact (far j e2).symm
    · by_cases e : i < vs.length
      · rw [List.getElem_append_left e]
        exact ((h4 i e).symm.app (h2 i e (by omega)).blt k3).symm
      · rw [List.getElem_append_right (by omega)]
        simp only [show i - vs.length = 0 by simp at hi; omega, List.getElem_cons_zero]
        exact (huv.symm.app hu.blt k3).symm
end Go.Proofs.Ytpcooplalncdcaa
