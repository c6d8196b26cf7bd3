/- Contracts and lemmas for the statements of this seat, written for this claim; each theorem states its own conditions. -/
import Derived.Shelf.SlSortCmp.WholeK
import Derived.Shelf.SlSortCmp.NoneTotal
import Derived.Sort.LotA
import Derived.Laws.IdiomCopy
import Derived.Laws.StructEq
import Derived.Lib.SliceRun
import Derived.Laws.CopyRow
import Derived.Test.YtfkmophmiiehlaaVpI1
import Derived.Test.YtfkmophmiiehlaaVpL1
import Derived.Test.YtfkmophmiiehlaaVpSe
import Derived.Test.YtfkmophmiiehlaaVpLw
import Derived.Test.YtfkmophmiiehlaaVpOw
set_option linter.unusedVariables false
set_option linter.unusedSimpArgs false
namespace Go.Proofs.Ytfkmophmiiehlaa
open Go.RowKit
theorem ltT_iff (s t : T4) : ltT s t = decide (s.a < t.a ∨ s.a = t.a ∧ (s.b < t.b ∨ s.b = t.b ∧ (s.c < t.c ∨ s.c = t.c ∧ s.d < t.d))) := by
  by_cases h0 : s.a = t.a
  · by_cases h1 : s.b = t.b
    · by_cases h2 : s.c = t.c
      · rw [ltT_d h0 h1 h2]; congr 1; simp [h0, h1, h2]
      · rw [ltT_c h0 h1 h2]; congr 1; simp [h0, h1, h2]
    · rw [ltT_b h0 h1]; congr 1; simp [h0, h1]
  · rw [ltT_a h0]; congr 1; simp [h0]
theorem ltT_swo : Go.Sort.SWO ltT where
  irrefl x := by rw [ltT_iff]; simp
  trans x y z h1 h2 := by rw [ltT_iff] at *; rw [decide_eq_true_eq] at *; omega
  ntrans x y z h1 h2 := by rw [ltT_iff] at *; rw [decide_eq_false_iff_not] at *; omega
theorem ltT_anti (x y : T4) (h1 : ltT x y = false) (h2 : ltT y x = false) : x = y := by
  rw [ltT_iff] at *; rw [decide_eq_false_iff_not] at *
  obtain ⟨a, b, c, d⟩ := x; obtain ⟨a', b', c', d'⟩ := y
  simp only [T4.mk.injEq]; dsimp only at h1 h2; omega
def sortT (ts : List T4) : List T4 := ts.mergeSort fun x y => !ltT y x
theorem sortT_perm (ts : List T4) : (sortT ts).Perm ts := List.mergeSort_perm _ _
theorem sortT_sorted (ts : List T4) : (sortT ts).Pairwise fun x y => ltT y x = false := by
  have := List.pairwise_mergeSort (le := fun x y => !ltT y x) (fun a b c h1 h2 => by simp only [Bool.not_eq_true'] at *; exact ltT_swo.ntrans _ _ _ h2 h1) (fun a b => by
    simp only [Bool.or_eq_true, Bool.not_eq_true']
    rcases Bool.eq_false_or_eq_true (ltT b a) with h | h
    · right; rw [ltT_iff] at *; rw [decide_eq_true_eq] at h; rw [decide_eq_false_iff_not]; omega
    · exact .inl h) ts
  exact this.imp (fun h => by simpa using h)
theorem sortT_length (ts : List T4) : (sortT ts).length = ts.length := (sortT_perm ts).length_eq
def encT (t : T4) : List Value := ints t.l
theorem flat_tcells (ts : List T4) : Go.Sort.flatK encT 4 ts.toArray = (tcells ts).toArray := by
  apply Array.ext
  · simp [tcells_length]
  · intro i h1 h2
    have hi : i < ts.length * 4 := by simpa using h1
    have hk : i / 4 < ts.length := by omega
    have e1 := tcells_get ts (i / 4) (i % 4) hk (by omega)
    rw [show i / 4 * 4 + i % 4 = i by omega] at e1
    have h2' : i < (tcells ts).length := by simpa using h2
    rw [List.getElem?_eq_getElem h2'] at e1
    have e2 := Go.Sort.get_flatK encT 4 ts.toArray i (by simpa using hi)
    rw [getElem!_pos (Go.Sort.flatK encT 4 ts.toArray) i h1] at e2
    rw [e2]
    have e3 : (ts.toArray)[i / 4]! = ts[i / 4] := by simp [hk]
    rw [e3]
    have e4 : (encT ts[i / 4])[i % 4]? = some (tcells ts)[i] := by rw [e1]; rfl
    rw [List.getElem!_eq_getElem?_getD, e4]
    simp
theorem holdsT {w : World} {g : Nat} {cur : Array Value} {e : TypeId} {ts : List T4} (hb : w.heap[g]? = some (.cells cur e (0, 0))) (ht : cur.toList.take (ts.length * 4) = tcells ts) : Go.Sort.HoldsK encT 4 w g 0 ts.toArray := by
  unfold Go.Sort.HoldsK
  rw [flat_tcells]
  intro j hj
  have hj' : j < (tcells ts).length := by simpa using hj
  refine ⟨?_, by simp [World.frozen?, hb]⟩
  have h1 : (cur.toList.take (ts.length * 4))[j]? = (tcells ts)[j]? := by rw [ht]
  rw [List.getElem?_take_of_lt (by rw [← tcells_length]; exact hj')] at h1
  simp only [World.cell?, hb, Nat.zero_add]
  simp only [Option.isSome_none, Bool.false_eq_true, if_false]
  rw [← Array.getElem?_toList, h1, List.getElem?_eq_getElem hj']
  simp [hj']
theorem heap_sortT {w : World} {g n : Nat} {os : Array Obj} {cur : Array Value} {e : TypeId} {fr : Nat × Nat} (d : Array Value) (hb : w.heap[g]? = some (.cells cur e fr)) :
    (Go.Sort.grow (Go.Sort.putRow id (Go.Sort.ahead w n) g 0 d) os).heap[g]? = some (.cells (Go.Sort.putCells id 0 d cur) e fr) := by
  have hg : g < w.heap.size := (Array.getElem?_eq_some_iff.1 hb).1
  rw [Go.Sort.heap_grow_old _ _ (by simpa using hg)]
  simp [Go.Sort.putRow, Go.Sort.mapBlock, Go.Sort.ahead, Array.getElem?_modify, hb, Go.Sort.onCells]
theorem grownBy_sortT {w : World} {g n : Nat} {os : Array Obj} (d : Array Value) : w.grownBy (Go.Sort.grow (Go.Sort.putRow id (Go.Sort.ahead w n) g 0 d) os) (some g) := by
  refine ⟨rfl, rfl, rfl, by simp, fun k hk hne => ?_⟩
  rw [Go.Sort.heap_grow_old _ _ (by simpa using hk)]
  have : g ≠ k := fun e => hne (by rw [e])
  simp [Go.Sort.putRow, Go.Sort.mapBlock, Go.Sort.ahead, Array.getElem?_modify, this]
theorem take_putT (cur : Array Value) (cs : List Value) (h : cs.length ≤ cur.size) : (Go.Sort.putCells id 0 cs.toArray cur).toList.take cs.length = cs := by
  apply List.ext_getElem?
  intro j
  by_cases hj : j < cs.length
  · rw [List.getElem?_take_of_lt hj, Array.getElem?_toList]
    simp [Go.Sort.putCells, hj, show j < cur.size by omega]
  · rw [List.getElem?_take_eq_none (by omega), List.getElem?_eq_none (by omega)]
theorem OwnT.parts {w : World} {B : Nat} {v : Value} {ts : List T4} (h : OwnT w B v ts) (hne : 0 < ts.length) : ∃ g cap cur, v = .slice (some ⟨g, 0, none⟩) ts.length cap ∧ B ≤ g ∧ w.heap[g]? = some (.cells cur 57 (0, 0)) ∧ ts.length ≤ cap ∧ cap ≤ maxLen ∧ cur.size = cap * 4 ∧ cur.toList.take (ts.length * 4) = tcells ts := by
  obtain ⟨h1, ⟨_, h2⟩ | ⟨g, cap, cur, h2⟩⟩ := h
  · omega
  · exact ⟨g, cap, cur, h2⟩
theorem OwnT.tiles {w : World} {B : Nat} {v : Value} {ts : List T4} (h : OwnT w B v ts) : ∃ A cx, v = .slice A ts.length cx ∧ TileCells w A ts := by
  obtain ⟨h1, ⟨h3, h2⟩ | ⟨g, cap, cur, rfl, hB, hb, h3, h4, h5, h6⟩⟩ := h
  · exact ⟨none, 0, by rw [h3, h2], fun k hk => by omega⟩
  · refine ⟨some ⟨g, 0, none⟩, cap, rfl, fun k hk => ⟨g, 0, rfl, (Array.getElem?_eq_some_iff.1 hb).1, ?_⟩⟩
    have q : ∀ j, j < 4 → w.cell? ⟨g, 0 + k * 4 + j, none⟩ = [Value.int .i64 ts[k].a, .int .i64 ts[k].b, .int .i64 ts[k].c, .int .i64 ts[k].d][j]? := by
      intro j hj
      rw [← tcells_get ts k j hk hj, ← h6, List.getElem?_take_of_lt (by omega)]
      simp [World.cell?, hb]
    exact ⟨q 0 (by omega), q 1 (by omega), q 2 (by omega), q 3 (by omega)⟩
theorem OwnT.below {w w1 : World} {B : Nat} {v : Value} {ts : List T4} (h : OwnT w B v ts) (hb : Below w.heap.size w w1) : OwnT w1 B v ts :=
  World.ownsRow.kept (row := none) h ⟨hb.os, hb.tape, hb.output, hb.size, fun k hk _ => hb.block k hk⟩ (by cases h : v.ownBlock with | none => exact .inl rfl | some k => exact .inr (by simp))
theorem OwnT.sorted {w1 : World} {B g cap : Nat} {cur : Array Value} {ts : List T4} (hB : B ≤ g) (h1 : ts.length ≤ cap) (h2 : cap ≤ maxLen) (h3 : cur.size = cap * 4)
    (hb : w1.heap[g]? = some (.cells (Go.Sort.putCells id 0 (tcells (sortT ts)).toArray cur) 57 (0, 0))) : OwnT w1 B (.slice (some ⟨g, 0, none⟩) ts.length cap) (sortT ts) := by
  have hl := sortT_length ts
  refine ⟨tcells_length _, .inr ⟨g, cap, _, by rw [hl], hB, hb, by omega, h2, by simp [Go.Sort.putCells, h3], ?_⟩⟩
  rw [← tcells_length]
  exact take_putT cur _ (by rw [tcells_length, h3]; omega)
end Go.Proofs.Ytfkmophmiiehlaa
namespace Go.Proofs.Ytfkmophmiiehlaa
open Go.RowKit
def turnT (t : T4) : T4 := ⟨t.d, t.a, t.b, t.c⟩
def turnN (t : T4) : Nat → T4
  | 0 => t
  | n + 1 => turnT (turnN t n)
def turnsL (t : T4) (k : Nat) : List T4 := (List.range k).map (turnN t)
theorem turnsL_succ (t : T4) (k : Nat) : turnsL t (k + 1) = turnsL t k ++ [turnN t k] := by simp [turnsL, List.range_succ]
theorem turnsL_length (t : T4) (k : Nat) : (turnsL t k).length = k := by simp [turnsL]
theorem OwnT.empty (w : World) (B : Nat) (hB : B ≤ w.heap.size) : OwnT (w.alloc (.cells #[] 57)) B (.slice (some ⟨w.heap.size, 0, none⟩) 0 0) [] :=
  World.ownsRow_lit (base := B) (e := 57) (size := 4) w #[] 0 hB (by decide) rfl
theorem OwnT.alloc {w : World} {B : Nat} {v : Value} {ts : List T4} (h : OwnT w B v ts) (o : Obj) : OwnT (w.alloc o) B v ts := World.ownsRow.alloc h o
theorem OwnT.other {w : World} {B : Nat} {v : Value} {ts : List T4} (h : OwnT w B v ts) (b k : Nat) (hb : b < B) (u : Value) : OwnT (w.setCell ⟨b, k, none⟩ u) B v ts := by
  refine World.ownsRow.kept (row := some b) h ⟨rfl, rfl, rfl, (KeepsWalks.setCell w _ u).size, fun j _ hj => Below.heap_setCell _ _ _ j (fun e => hj (by rw [e]))⟩ ?_
  obtain ⟨h1, ⟨rfl, h2⟩ | ⟨g, cap, cur, rfl, e2, e3⟩⟩ := h
  · exact .inl rfl
  · refine .inr (fun e => ?_)
    have e' : g = b := Option.some.inj e
    omega
end Go.Proofs.Ytfkmophmiiehlaa
namespace Go.Proofs.Ytfkmophmiiehlaa
open Go.RowKit
theorem OwnT.weaken {w : World} {B B' : Nat} {v : Value} {ts : List T4} (h : OwnT w B v ts) (hB : B' ≤ B) : OwnT w B' v ts := by
  obtain ⟨h1, h2⟩ := h
  refine ⟨h1, ?_⟩
  rcases h2 with h2 | ⟨g, cap, cur, e1, e2, e3⟩
  · exact .inl h2
  · exact .inr ⟨g, cap, cur, e1, Nat.le_trans hB e2, e3⟩

end Go.Proofs.Ytfkmophmiiehlaa
namespace Go.Proofs.Ytfkmophmiiehlaa
open Go.RowKit
theorem tcells_take (L : List T4) (k : Nat) : (tcells L).take (k * 4) = tcells (L.take k) := by
  induction L generalizing k with
  | nil => simp [tcells]
  | cons t ts ih =>
    cases k with
    | zero => simp [tcells]
    | succ k => rw [List.take_succ_cons, tcells_cons, tcells_cons, ← ih, show (k + 1) * 4 = k * 4 + 1 + 1 + 1 + 1 by omega]; simp
theorem clear_T {w : World} {B g n cap : Nat} {L : List T4} (h : OwnT w B (.slice (some ⟨g, 0, none⟩) n cap) L) (k : Nat) (hk : k < n) :
    ∃ W', (∀ ty, (Builtin.clear_ #[29] ty #[.slice (some ⟨g, k * 4, none⟩) (n - k) (cap - k)]).run Try.prog w = .ok (.tuple #[]) W') ∧ OwnT W' B (.slice (some ⟨g, 0, none⟩) k cap) (L.take k) ∧ w.grownBy W' (some g) := by
  have hn : n = L.length := by obtain ⟨A, cx, e, hT⟩ := h.tiles; injection e
  subst hn
  obtain ⟨g', cap', cur, e, hB, hb, h1, h2, h3, h4⟩ := h.parts (by omega)
  injection e with a1 a2 a3
  injection a1 with a1
  injection a1 with a1
  subst a1 a3
  obtain ⟨Z, hZ⟩ : ∃ Z, Z = (Builtin.zeroCells (Value.cells (.agg #[.int .i64 0, .int .i64 0, .int .i64 0, .int .i64 0])) (L.length - k)).toList := ⟨_, rfl⟩
  have hZl : Z.length = (L.length - k) * 4 := by rw [hZ, Array.length_toList, size_zeroCells]; rfl
  have hZ1 : ∀ v ∈ Z, v.oneCell' = true := by
    intro v hv
    rw [hZ] at hv
    simp only [Builtin.zeroCells, Array.toList_map, List.mem_map] at hv
    obtain ⟨i, _, rfl⟩ := hv
    have hi : i % 4 < 4 := Nat.mod_lt _ (by omega)
    have : i % 4 = 0 ∨ i % 4 = 1 ∨ i % 4 = 2 ∨ i % 4 = 3 := by omega
    show ((#[Value.int .i64 0, .int .i64 0, .int .i64 0, .int .i64 0] : Array Value)[i % 4]!).oneCell' = true
    rcases this with e | e | e | e <;> rw [e] <;> rfl
  have hst := run_storeCells_at Try.prog g (k * 4) 57 Z 0 cur w hb (by rw [hZl, h3]; omega) hZ1
  simp only [Nat.add_zero] at hst
  refine ⟨w.setRow g (cur.toList.take (k * 4) ++ Z ++ cur.toList.drop (k * 4 + Z.length)).toArray, fun ty => ?_, ?_, ?_⟩
  rotate_left
  · refine ⟨(tcells_length _).trans (by rw [List.length_take, Nat.min_eq_left (by omega)]), .inr ⟨g, cap, _, by rw [List.length_take, Nat.min_eq_left (by omega)], hB, setRow_heap w g cur _ _ _ hb, by rw [List.length_take]; omega, h2, ?_, ?_⟩⟩
    rotate_left
    · rw [List.length_take, Nat.min_eq_left (by omega), List.append_assoc, List.take_left' (by rw [List.length_take, Array.length_toList, h3]; omega), ← tcells_take, ← h4, List.take_take, Nat.min_eq_left (by omega)]
    · simp [hZl, h3]; omega
  · exact ⟨rfl, rfl, rfl, by simp, fun j _ hj => setRow_other _ _ _ _ (fun e => hj (by rw [e]))⟩
  · obtain ⟨m, hm⟩ : ∃ m, L.length - k = m + 1 := ⟨L.length - k - 1, by omega⟩
    have hv := fun w => Try.zeroValue57 w
    rw [hm] at hZ ⊢
    simp [Builtin.clear_, run_underlying Try.underlying29, hv, ← hZ, hst]
end Go.Proofs.Ytfkmophmiiehlaa
