/- Contracts and lemmas for the statements of this seat, written for this claim; each theorem states its own conditions. -/
import Derived.Test.YtfkmophmiiehlaaVpJ2
import Derived.Test.YtfkmophmiiehlaaVpMk
set_option linter.unusedVariables false
set_option linter.unusedSimpArgs false
namespace Go.Proofs.Ytfkmophmiiehlaa
open Go.RowKit
theorem infoTs : (Try.prog.info? 29).map (fun i => (i.zero, i.size, i.bytes)) = some (some (.slice none 0 0), 1, 24) := by kernel_rfl
theorem OwnT.shape {w : World} {B : Nat} {v : Value} {ts : List T4} (h : OwnT w B v ts) : ∃ A cx, v = .slice A ts.length cx ∧ TileCells w A ts ∧ True := by
  obtain ⟨A, cx, e, hT⟩ := h.tiles
  exact ⟨A, cx, e, hT, trivial⟩
theorem own_apartT {w1 w2 : World} {B : Nat} {v u : Value} {xs ys : List T4} (hv : OwnT w1 B v xs) (hu : OwnT w2 w1.heap.size u ys) : (v.ownBlock = none ∨ v.ownBlock ≠ u.ownBlock) ∧ (u.ownBlock = none ∨ u.ownBlock ≠ v.ownBlock) := by
  cases e1 : v.ownBlock with
  | none => exact ⟨.inl rfl, by cases e2 : u.ownBlock with | none => exact .inl rfl | some k => exact .inr (by simp)⟩
  | some j =>
    cases e2 : u.ownBlock with
    | none => exact ⟨.inr (by simp), .inl rfl⟩
    | some k =>
      have h1 := (World.ownsRow.lt hv j e1).2
      have h2 := (World.ownsRow.lt hu k e2).1
      exact ⟨.inr (by simp; omega), .inr (by simp; omega)⟩
theorem OwnT.same {w w' : World} {B : Nat} {v : Value} {xs : List T4} (h : OwnT w B v xs) (hs : ∀ k, B ≤ k → k < w.heap.size → w'.heap[k]? = w.heap[k]?) : OwnT w' B v xs :=
  ownsRow_same h fun k hk => hs k (World.ownsRow.lt h k hk).1 (World.ownsRow.lt h k hk).2
/-- the tiles that marking leaves -/
def marksT (k n : Nat) : List T4 := (List.range n).map fun j => ⟨((k + j * 4 : Nat) : Int), ((k + j * 4 + 1 : Nat) : Int), ((k + j * 4 + 2 : Nat) : Int), ((k + j * 4 + 3 : Nat) : Int)⟩
theorem marksT_len (k n : Nat) : (marksT k n).length = n := by simp [marksT]
theorem tcells_marksT (k : Nat) : ∀ n, tcells (marksT k n) = ints (marks k (n * 4))
  | 0 => by simp [marksT, tcells, marks, ints]
  | n + 1 => by
    have e : marksT k (n + 1) = marksT k n ++ [⟨((k + n * 4 : Nat) : Int), ((k + n * 4 + 1 : Nat) : Int), ((k + n * 4 + 2 : Nat) : Int), ((k + n * 4 + 3 : Nat) : Int)⟩] := by simp [marksT, List.range_succ]
    rw [e, tcells_snoc, tcells_marksT k n, show (n + 1) * 4 = n * 4 + 1 + 1 + 1 + 1 by omega]
    simp [marks, ints, List.range_succ]
    omega
theorem OwnTc.toT {w : World} {B : Nat} {v : Value} {n k : Nat} (h : OwnTc w B v n (ints (marks k (n * 4)))) : OwnT w B v (marksT k n) := by
  unfold OwnT
  rw [tcells_marksT, marksT_len]
  exact h
/-- a slice of slices of numbers reads as a list of lists -/
def RowsT (w : World) (B : Option Addr) (L : List (List T4)) : Prop :=
  ∀ k (h : k < L.length), ∃ b off A cx, B = some ⟨b, off, none⟩ ∧ b < w.heap.size ∧ w.cell? ⟨b, off + k, none⟩ = some (.slice A L[k].length cx) ∧ TileCells w A L[k]
theorem RowsT.below {w w1 : World} {B : Option Addr} {L : List (List T4)} (h : RowsT w B L) (hb : Below w.heap.size w w1) : RowsT w1 B L := by
  intro k hk
  obtain ⟨b, off, A, cx, e, hlt, hc, hr⟩ := h k hk
  exact ⟨b, off, A, cx, e, Nat.lt_of_lt_of_le hlt hb.size, (hb.cell (p := ⟨b, _, none⟩) hlt).trans hc, hr.below hb⟩
theorem RowsT.pair {w : World} {b off : Nat} {L : List (List T4)} (h : RowsT w (some ⟨b, off, none⟩) L) (k : Nat) (hk : k < L.length) : ∃ A cx, w.cell? ⟨b, off + k, none⟩ = some (.slice A L[k].length cx) ∧ TileCells w A L[k] := by
  obtain ⟨b', off', A, cx, e, hlt, hc, hr⟩ := h k hk
  injection e with e
  injection e with e1 e2
  subst e1 e2
  exact ⟨A, cx, hc, hr⟩
def totT (L : List (List T4)) : Nat := (L.map fun r => r.length * 4).sum
theorem totT_take {L : List (List T4)} {k : Nat} (hk : k < L.length) : totT (L.take (k + 1)) = totT (L.take k) + L[k].length * 4 := by
  unfold totT; rw [List.take_succ_eq_append_getElem hk, List.map_append, List.sum_append]; simp
def ShortT (n : Nat) (L : List (List T4)) : Prop := ∀ k (h : k < L.length), L[k].length ≤ n
/-- a slice of slices of numbers that the call made and owns, its rows apart from each other -/
def OwnTT (w : World) (B : Nat) (v : Value) (L : List (List T4)) : Prop :=
  ∃ vs : List Value, w.ownsRow B 29 1 v L.length vs ∧ (∀ i (h : i < vs.length) (h' : i < L.length), OwnT w B vs[i] L[i]) ∧
    (∀ i j (h : i < vs.length) (h' : j < vs.length), i ≠ j → Apart vs[i] vs[j]) ∧ ∀ i (h : i < vs.length), Apart vs[i] v
theorem OwnTT.rows {w : World} {B : Nat} {v : Value} {L : List (List T4)} (h : OwnTT w B v L) : ∃ A cx, v = .slice A L.length cx ∧ RowsT w A L := by
  obtain ⟨vs, h1, h2, _⟩ := h
  have hl : vs.length = L.length := by have := h1.1; omega
  obtain ⟨_, h3⟩ := h1
  rcases h3 with ⟨rfl, h3⟩ | ⟨g, cap, cur, rfl, e2, e3, e4, e5, e6, e7⟩
  · exact ⟨none, 0, by rw [h3], fun k hk => by omega⟩
  · refine ⟨some ⟨g, 0, none⟩, cap, rfl, fun k hk => ?_⟩
    obtain ⟨A, cx, e, hc, _⟩ := (h2 k (by omega) hk).shape
    refine ⟨g, 0, A, cx, rfl, (Array.getElem?_eq_some_iff.1 e3).1, ?_, hc⟩
    rw [Nat.zero_add]
    unfold World.cell?
    simp only [e3]
    have hk2 : k < vs.length := by omega
    have h9 : (cur.toList.take (L.length * 1))[k]? = some (vs[k]'hk2) := by rw [e7]; exact List.getElem?_eq_getElem hk2
    rw [List.getElem?_take] at h9
    simp [hk] at h9
    simp [h9, e]
/-- as OwnTT, and the blocks of the rows lie ahead of N -/
def OwnTN (w : World) (B N : Nat) (v : Value) (L : List (List T4)) : Prop :=
  ∃ vs : List Value, w.ownsRow B 29 1 v L.length vs ∧ (∀ i (h : i < vs.length) (h' : i < L.length), OwnT w B vs[i] L[i]) ∧
    (∀ i j (h : i < vs.length) (h' : j < vs.length), i ≠ j → Apart vs[i] vs[j]) ∧ (∀ i (h : i < vs.length), Apart vs[i] v) ∧ ∀ i (h : i < vs.length) k, vs[i].ownBlock = some k → k < N
theorem OwnTT.toN {w : World} {B : Nat} {v : Value} {L : List (List T4)} (h : OwnTT w B v L) : OwnTN w B w.heap.size v L := by
  obtain ⟨vs, h1, h2, h3, h4⟩ := h
  have hl : vs.length = L.length := by have := h1.1; omega
  exact ⟨vs, h1, h2, h3, h4, fun i hi k hk => (World.ownsRow.lt (h2 i hi (by omega)) k hk).2⟩
theorem OwnTN.toII {w : World} {B N : Nat} {v : Value} {L : List (List T4)} (h : OwnTN w B N v L) : OwnTT w B v L := by
  obtain ⟨vs, h1, h2, h3, h4, _⟩ := h
  exact ⟨vs, h1, h2, h3, h4⟩
theorem OwnTN.same {w w' : World} {B N : Nat} {v : Value} {L : List (List T4)} (h : OwnTN w B N v L) (hs : ∀ k, B ≤ k → k < w.heap.size → w'.heap[k]? = w.heap[k]?) : OwnTN w' B N v L := by
  obtain ⟨vs, h1, h2, h3, h4, h5⟩ := h
  exact ⟨vs, ownsRow_same h1 fun k hk => hs k (World.ownsRow.lt h1 k hk).1 (World.ownsRow.lt h1 k hk).2, fun i hi hi' => (h2 i hi hi').same hs, h3, h4, h5⟩
theorem OwnTT.same {w w' : World} {B : Nat} {v : Value} {L : List (List T4)} (h : OwnTT w B v L) (hs : ∀ k, B ≤ k → k < w.heap.size → w'.heap[k]? = w.heap[k]?) : OwnTT w' B v L := by
  obtain ⟨vs, h1, h2, h3, h4⟩ := h
  exact ⟨vs, ownsRow_same h1 fun k hk => hs k (World.ownsRow.lt h1 k hk).1 (World.ownsRow.lt h1 k hk).2, fun i hi hi' => (h2 i hi hi').same hs, h3, h4⟩
theorem OwnTT.kept {w w' : World} {B : Nat} {v : Value} {L : List (List T4)} {row : Option Nat} (h : OwnTT w B v L) (hg : w.grownBy w' row) (hr : ∀ k, row = some k → k < B) : OwnTT w' B v L := by
  obtain ⟨vs, h1, h2, h3, h4⟩ := h
  have ne : ∀ (u : Value) (n : Nat) (xs : List Value) (e : TypeId) (s : Nat), w.ownsRow B e s u n xs → u.ownBlock = none ∨ u.ownBlock ≠ row := fun u n xs e s ho => by
    cases eu : u.ownBlock with
    | none => exact .inl rfl
    | some k =>
      right
      have := (World.ownsRow.lt ho k eu).1
      intro e2
      have := hr k e2.symm
      omega
  exact ⟨vs, World.ownsRow.kept h1 hg (ne _ _ _ _ _ h1), fun i hi hi' => World.ownsRow.kept (h2 i hi hi') hg (ne _ _ _ _ _ (h2 i hi hi')), h3, h4⟩
theorem OwnTT.below {w w1 : World} {B : Nat} {v : Value} {L : List (List T4)} (h : OwnTT w B v L) (hb : Below w.heap.size w w1) : OwnTT w1 B v L := by
  obtain ⟨vs, h1, h2, h3, h4⟩ := h
  refine ⟨vs, ?_, fun i hi hi' => (h2 i hi hi').below hb, h3, h4⟩
  exact World.ownsRow.kept (row := none) h1 ⟨hb.os, hb.tape, hb.output, hb.size, fun k hk _ => hb.block k hk⟩ (by cases h : v.ownBlock with | none => exact .inl rfl | some k => exact .inr (by simp))
theorem OwnTT.weaken {w : World} {B B' : Nat} {v : Value} {L : List (List T4)} (h : OwnTT w B v L) (hB : B' ≤ B) : OwnTT w B' v L := by
  obtain ⟨vs, ⟨a1, a2⟩, h2, h3, h4⟩ := h
  refine ⟨vs, ⟨a1, ?_⟩, fun i hi hi' => (h2 i hi hi').weaken hB, h3, h4⟩
  rcases a2 with a2 | ⟨g, cap, cur, e1, e2, e3⟩
  · exact .inl a2
  · exact .inr ⟨g, cap, cur, e1, Nat.le_trans hB e2, e3⟩
theorem OwnTT.nil (w : World) (B : Nat) : OwnTT w B (.slice none 0 0) [] := ⟨[], World.ownsRow_nil _ _ _ _, fun i h => by simp at h, fun i j h => by simp at h, fun i h => by simp at h⟩
theorem OwnTT.empty {w : World} {B g : Nat} (hg : w.heap.size = g) (hB : B ≤ w.heap.size) : OwnTT (w.alloc (.cells #[] 29)) B (.slice (some ⟨g, 0, none⟩) 0 0) [] := by
  subst hg
  exact ⟨[], World.ownsRow_lit (base := B) (e := 29) (size := 1) w #[] 0 hB (by simp [maxLen]) (by simp), fun i h => by simp at h, fun i j h => by simp at h, fun i h => by simp at h⟩
theorem OwnT.to2 {w w1 : World} {B : Nat} {v : Value} {xs : List T4} (h : OwnT w B v xs) (hb : Below w.heap.size w w1) : OwnT w1 B v xs := h.below hb
end Go.Proofs.Ytfkmophmiiehlaa
