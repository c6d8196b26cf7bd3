/- Contracts and lemmas for the statements of this seat, written for this claim; each theorem states its own conditions. -/
import Derived.Test.YtfkmophmiiehlaaKbBa
set_option linter.unusedVariables false
set_option linter.unusedSimpArgs false
namespace Go.Proofs.Ytfkmophmiiehlaa
open Go.RowKit
theorem ownsRow_same {w w' : World} {B : Nat} {e : TypeId} {size : Nat} {v : Value} {n : Nat} {xs : List Value} (h : w.ownsRow B e size v n xs) (hs : ∀ k, v.ownBlock = some k → w'.heap[k]? = w.heap[k]?) : w'.ownsRow B e size v n xs := by
  obtain ⟨h1, h2⟩ := h
  refine ⟨h1, ?_⟩
  rcases h2 with h2 | ⟨g, cap, cur, rfl, e2, e3, e4⟩
  · exact .inl h2
  · exact .inr ⟨g, cap, cur, rfl, e2, (hs g rfl).trans e3, e4⟩
theorem OwnI.same {w w' : World} {B : Nat} {v : Value} {xs : List Int} (h : OwnI w B v xs) (hs : ∀ k, B ≤ k → k < w.heap.size → w'.heap[k]? = w.heap[k]?) : OwnI w' B v xs :=
  ownsRow_same h fun k hk => hs k (World.ownsRow.lt h k hk).1 (World.ownsRow.lt h k hk).2
/-- as OwnII, and the blocks of the rows lie ahead of N -/
def OwnN (w : World) (B N : Nat) (v : Value) (L : List (List Int)) : Prop :=
  ∃ vs : List Value, w.ownsRow B 63 1 v L.length vs ∧ (∀ i (h : i < vs.length) (h' : i < L.length), OwnI w B vs[i] L[i]) ∧
    (∀ i j (h : i < vs.length) (h' : j < vs.length), i ≠ j → Apart vs[i] vs[j]) ∧ (∀ i (h : i < vs.length), Apart vs[i] v) ∧ ∀ i (h : i < vs.length) k, vs[i].ownBlock = some k → k < N
theorem OwnII.toN {w : World} {B : Nat} {v : Value} {L : List (List Int)} (h : OwnII w B v L) : OwnN w B w.heap.size v L := by
  obtain ⟨vs, h1, h2, h3, h4⟩ := h
  have hl : vs.length = L.length := by have := h1.1; omega
  exact ⟨vs, h1, h2, h3, h4, fun i hi k hk => (World.ownsRow.lt (h2 i hi (by omega)) k hk).2⟩
theorem OwnN.toII {w : World} {B N : Nat} {v : Value} {L : List (List Int)} (h : OwnN w B N v L) : OwnII w B v L := by
  obtain ⟨vs, h1, h2, h3, h4, _⟩ := h
  exact ⟨vs, h1, h2, h3, h4⟩
theorem OwnN.same {w w' : World} {B N : Nat} {v : Value} {L : List (List Int)} (h : OwnN w B N v L) (hs : ∀ k, B ≤ k → k < w.heap.size → w'.heap[k]? = w.heap[k]?) : OwnN w' B N v L := by
  obtain ⟨vs, h1, h2, h3, h4, h5⟩ := h
  exact ⟨vs, ownsRow_same h1 fun k hk => hs k (World.ownsRow.lt h1 k hk).1 (World.ownsRow.lt h1 k hk).2, fun i hi hi' => (h2 i hi hi').same hs, h3, h4, h5⟩
theorem OwnII.same {w w' : World} {B : Nat} {v : Value} {L : List (List Int)} (h : OwnII w B v L) (hs : ∀ k, B ≤ k → k < w.heap.size → w'.heap[k]? = w.heap[k]?) : OwnII w' B v L := by
  obtain ⟨vs, h1, h2, h3, h4⟩ := h
  exact ⟨vs, ownsRow_same h1 fun k hk => hs k (World.ownsRow.lt h1 k hk).1 (World.ownsRow.lt h1 k hk).2, fun i hi hi' => (h2 i hi hi').same hs, h3, h4⟩
/-- only blocks from B on and ahead of N may have changed, and new ones may have come -/
structure Touch (B N : Nat) (w w' : World) : Prop where
  os : w'.os = w.os
  tape : w'.tape = w.tape
  output : w'.output = w.output
  size : w.heap.size ≤ w'.heap.size
  block : ∀ k, k < w.heap.size → (k < B ∨ N ≤ k) → w'.heap[k]? = w.heap[k]?
theorem Touch.refl (B N : Nat) (w : World) : Touch B N w w := ⟨rfl, rfl, rfl, Nat.le_refl _, fun _ _ _ => rfl⟩
theorem Touch.grow {B N : Nat} {w w1 w2 : World} {row : Option Nat} (h : Touch B N w w1) (hg : w1.grownBy w2 row) (hr : ∀ k, row = some k → B ≤ k ∧ k < N) : Touch B N w w2 := by
  obtain ⟨g1, g2, g3, g4, g5⟩ := hg
  refine ⟨g1.trans h.os, g2.trans h.tape, g3.trans h.output, Nat.le_trans h.size g4, fun k hk hkk => (g5 k (Nat.lt_of_lt_of_le hk h.size) fun e => ?_).trans (h.block k hk hkk)⟩
  have := hr k e.symm
  omega
theorem Touch.below {B N : Nat} {w w' : World} (h : Touch B N w w') (hB : B ≤ w.heap.size) : Below B w w' := ⟨h.os, h.tape, h.output, Nat.le_trans hB h.size |> fun _ => h.size, fun k hk => h.block k (by omega) (.inl hk)⟩
theorem Touch.one {w w' : World} {b : Nat} (h : w.grownBy w' (some b)) : Touch b (b + 1) w w' := (Touch.refl _ _ _).grow h (fun k hk => by injection hk with hk; omega)
set_option maxRecDepth 100000 in
set_option maxHeartbeats 1000000 in
theorem markTileS_c (b n : Nat) (cs : List Value) (T : TypeId) (k : Nat) (w : World) (hB : Blk w b cs T) (hcs : cs.length = n * 4) (hn : n ≤ 1000000000) (hk : k ≤ 1000000000000) :
    Calls Try.prog 27 #[.slice (some ⟨b, 0, none⟩) n n, .int .i64 k] w fun e w' => e = .returned (.int .i64 ((k + n * 4 : Nat) : Int)) ∧ w.grownBy w' (some b) := by
  go_enter Try.func27, Try.ntmps27
  go_wp2
  go_loopw [1, 5] (fun m i wr => ∃ j : Nat, j ≤ n ∧ m = .int .i64 ((k + j * 4 : Nat) : Int) ∧ i = .int .i64 j ∧ Hid (∃ cs : List Value, cs.length = n * 4 ∧ Blk wr b cs T) ∧ w.grownBy wr (some b)) (fun _ i _ => n - (intOf i).toNat)
  case atStart => exact ⟨0, by omega, by simp, rfl, ⟨cs, hcs, hB⟩, World.grownBy.refl _ _⟩
  case round =>
    obtain ⟨j, hj, rfl, rfl, HC, hg⟩ := hrel
    have HG := Lib.hid hg
    clear hB hg
    by_cases hjn : j < n
    · go_wp2_with fail
      go_loopw [1, 6] (fun m i wr => ∃ q : Nat, q ≤ 4 ∧ m = .int .i64 ((k + j * 4 + q : Nat) : Int) ∧ i = .int .i64 q ∧ Hid (∃ cs : List Value, cs.length = n * 4 ∧ Blk wr b cs T) ∧ w.grownBy wr (some b)) (fun _ i _ => 4 - (intOf i).toNat)
      case atStart => exact ⟨0, by omega, by simp, rfl, HC.out, HG.out⟩
      case round =>
        obtain ⟨q, hq, rfl, rfl, HC2, hg2⟩ := hrel
        have HG2 := Lib.hid hg2
        clear hg2
        by_cases hq4 : q < 4
        · obtain ⟨cs2, l2, B2⟩ := HC2.out
          have hlt : j * 4 + q < cs2.length := by omega
          have r0 := B2.cell (j * 4 + q) hlt
          have z0 := B2.frozen (j * 4 + q)
          generalize cs2[j * 4 + q] = u at *
          have HB2 := Lib.hid B2
          have hlt0 := B2.lt
          clear B2
          go_wp2_with fail
          go_roundw
          case rel => exact ⟨q + 1, by omega, by go_num, by go_num, ⟨_, by rw [List.length_set]; exact l2, HB2.out.set _ _⟩, HG2.out.trans ⟨rfl, rfl, rfl, by simp, fun x hx hne => Below.heap_setCell _ _ _ x (fun e => hne (by simp [e]))⟩⟩
          case measure => simp [intOf]; omega
        · obtain rfl : q = 4 := by omega
          go_wp2_with fail
          go_roundw
          case rel => exact ⟨j + 1, by omega, by go_num, by go_num, HC2.out, HG2.out⟩
          case measure => simp [intOf]; omega
    · obtain rfl : j = n := by omega
      go_wp2
      go_ret
      exact ⟨rfl, HG.out⟩
theorem OwnII.kept {w w' : World} {B : Nat} {v : Value} {L : List (List Int)} {row : Option Nat} (h : OwnII w B v L) (hg : w.grownBy w' row) (hr : ∀ k, row = some k → k < B) : OwnII w' B v L := by
  obtain ⟨vs, h1, h2, h3, h4⟩ := h
  have ne : ∀ (u : Value) (n : Nat) (xs : List Value) (e : TypeId) (s : Nat), w.ownsRow B e s u n xs → u.ownBlock = none ∨ u.ownBlock ≠ row := fun u n xs e s ho => by
    cases eu : u.ownBlock with
    | none => exact .inl rfl
    | some k =>
      right
      have := (World.ownsRow.lt ho k eu).1
      intro e2
      have := hr k e2.symm
      omega
  exact ⟨vs, World.ownsRow.kept h1 hg (ne _ _ _ _ _ h1), fun i hi hi' => World.ownsRow.kept (h2 i hi hi') hg (ne _ _ _ _ _ (h2 i hi hi')), h3, h4⟩
theorem OwnII.below {w w1 : World} {B : Nat} {v : Value} {L : List (List Int)} (h : OwnII w B v L) (hb : Below w.heap.size w w1) : OwnII w1 B v L := by
  obtain ⟨vs, h1, h2, h3, h4⟩ := h
  refine ⟨vs, ?_, fun i hi hi' => (h2 i hi hi').below hb, h3, h4⟩
  exact World.ownsRow.kept (row := none) h1 ⟨hb.os, hb.tape, hb.output, hb.size, fun k hk _ => hb.block k hk⟩ (by cases h : v.ownBlock with | none => exact .inl rfl | some k => exact .inr (by simp))
theorem OwnII.weaken {w : World} {B B' : Nat} {v : Value} {L : List (List Int)} (h : OwnII w B v L) (hB : B' ≤ B) : OwnII w B' v L := by
  obtain ⟨vs, ⟨a1, a2⟩, h2, h3, h4⟩ := h
  refine ⟨vs, ⟨a1, ?_⟩, fun i hi hi' => (h2 i hi hi').weaken hB, h3, h4⟩
  rcases a2 with a2 | ⟨g, cap, cur, e1, e2, e3⟩
  · exact .inl a2
  · exact .inr ⟨g, cap, cur, e1, Nat.le_trans hB e2, e3⟩
theorem OwnII.nil (w : World) (B : Nat) : OwnII w B (.slice none 0 0) [] := ⟨[], World.ownsRow_nil _ _ _ _, fun i h => by simp at h, fun i j h => by simp at h, fun i h => by simp at h⟩
theorem OwnII.empty {w : World} {B g : Nat} (hg : w.heap.size = g) (hB : B ≤ w.heap.size) : OwnII (w.alloc (.cells #[] 63)) B (.slice (some ⟨g, 0, none⟩) 0 0) [] := by
  subst hg
  exact ⟨[], World.ownsRow_lit (base := B) (e := 63) (size := 1) w #[] 0 hB (by simp [maxLen]) (by simp), fun i h => by simp at h, fun i j h => by simp at h, fun i h => by simp at h⟩
theorem OwnI.to2 {w w1 : World} {B : Nat} {v : Value} {xs : List Int} (h : OwnI w B v xs) (hb : Below w.heap.size w w1) : OwnI w1 B v xs := h.below hb
/-- a number of a list of lists that the call owns: where it lies, and what a store into it makes -/
theorem OwnII.at2 {w : World} {B n cx : Nat} {A : Option Addr} {L : List (List Int)} (h : OwnII w B (.slice A n cx) L) (i : Nat) (hi : i < L.length) (j : Nat) (hj : j < L[i].length) :
    ∃ gv g cr, A = some ⟨gv, 0, none⟩ ∧ B ≤ gv ∧ gv < w.heap.size ∧ w.cell? ⟨gv, i, none⟩ = some (.slice (some ⟨g, 0, none⟩) L[i].length cr) ∧ B ≤ g ∧ g < w.heap.size ∧ w.cell? ⟨g, j, none⟩ = some (.int .i64 L[i][j]) ∧ w.frozen? ⟨g, j, none⟩ = false ∧
      ∀ y, OwnII (w.setCell ⟨g, j, none⟩ (.int .i64 y)) B (.slice A n cx) (L.set i (L[i].set j y)) := by
  obtain ⟨vs, h1, h2, h3, h4⟩ := h
  have hvl : vs.length = L.length := by have := h1.1; omega
  have hO := h2 i (by omega) hi
  obtain ⟨Ai, ci, ei, _⟩ := hO.shape
  have hO' : OwnI w B (.slice Ai L[i].length ci) L[i] := by rw [← ei]; exact hO
  obtain ⟨g, rfl, hg1, hg2, hc, hf⟩ := hO'.at_ j hj
  obtain ⟨gv, rfl, hgv1, hgv2⟩ : ∃ gv, A = some ⟨gv, 0, none⟩ ∧ B ≤ gv ∧ gv < w.heap.size := by
    rcases h1.2 with ⟨_, e0⟩ | ⟨gv, cap, cur, e1, e2, e3, _⟩
    · omega
    · injection e1 with a1 _ _
      exact ⟨gv, a1, e2, (Array.getElem?_eq_some_iff.1 e3).1⟩
  have hn : n = L.length := by
    rcases h1.2 with ⟨e0, _⟩ | ⟨gv', cap, cur, e1, _⟩
    · cases e0
    · injection e1
  subst hn
  refine ⟨gv, g, ci, rfl, hgv1, hgv2, ?_, hg1, hg2, hc, hf, fun y => ?_⟩
  · rw [World.ownsRow.cellAt h1 i (by omega), List.getElem?_eq_getElem (by omega), ei]
  · have hb : vs[i].ownBlock = some g := by rw [ei]; rfl
    have hgr := grownBy_store w g j (.int .i64 y)
    refine ⟨vs, ?_, fun k hk hk' => ?_, h3, h4⟩
    · rw [List.length_set]
      refine World.ownsRow.kept h1 hgr (.inr ?_)
      rcases h4 i (by omega) with e | e
      · rw [hb] at e; cases e
      · rw [hb] at e; exact fun e2 => e e2.symm
    · by_cases e : k = i
      · subst e
        have hs := (hO'.set j y).1
        rw [List.getElem_set_self]
        rw [← ei] at hs
        exact hs
      · rw [List.getElem_set_ne (fun e2 => e e2.symm)]
        refine World.ownsRow.kept (h2 k hk (by simpa using hk')) hgr ?_
        rcases h3 k i hk (by omega) e with e3 | e3
        · exact .inl e3
        · rw [hb] at e3; exact .inr e3

end Go.Proofs.Ytfkmophmiiehlaa
