/- Contracts and lemmas for the statements of this seat, written for this claim; each theorem states its own conditions. -/
import Derived.Deep.OwnRows
import Derived.Laws.OwnMore
import Derived.Test.YtfkmophmiiehlaaVpB
set_option linter.unusedVariables false
set_option linter.unusedSimpArgs false
namespace Go.Proofs.Ytfkmophmiiehlaa
open Go.RowKit
/-- block b holds just these cells, of element type T, none of them shared with a string -/
def Blk (w : World) (b : Nat) (cs : List Value) (T : TypeId) : Prop := w.heap[b]? = some (.cells cs.toArray T (0, 0))
theorem Blk.lt {w : World} {b : Nat} {cs : List Value} {T : TypeId} (h : Blk w b cs T) : b < w.heap.size := (Array.getElem?_eq_some_iff.1 h).1
theorem Blk.cell {w : World} {b : Nat} {cs : List Value} {T : TypeId} (h : Blk w b cs T) (j : Nat) (hj : j < cs.length) : w.cell? ⟨b, j, none⟩ = some cs[j] := by
  unfold World.cell?; unfold Blk at h; simp only [h]; simp [hj]
theorem Blk.cell? {w : World} {b : Nat} {cs : List Value} {T : TypeId} (h : Blk w b cs T) (j : Nat) : w.cell? ⟨b, j, none⟩ = cs[j]? := by
  unfold World.cell?; unfold Blk at h; simp only [h]; simp
theorem Blk.frozen {w : World} {b : Nat} {cs : List Value} {T : TypeId} (h : Blk w b cs T) (j : Nat) : w.frozen? ⟨b, j, none⟩ = false := by
  unfold World.frozen?; unfold Blk at h; simp only [h]; simp
theorem Blk.set {w : World} {b : Nat} {cs : List Value} {T : TypeId} (h : Blk w b cs T) (j : Nat) (v : Value) : Blk (w.setCell ⟨b, j, none⟩ v) b (cs.set j v) T := by
  unfold Blk at *
  unfold World.setCell
  simp only [Array.getElem?_modify]
  simp [h]
theorem Blk.other {w : World} {b : Nat} {cs : List Value} {T : TypeId} (h : Blk w b cs T) {a : Addr} (ha : b ≠ a.block) (v : Value) : Blk (w.setCell a v) b cs T :=
  (Below.heap_setCell w a v b ha).trans h
theorem Blk.alloc {w : World} {b : Nat} {cs : List Value} {T : TypeId} (h : Blk w b cs T) (o : Obj) : Blk (w.alloc o) b cs T := (Below.heap_alloc w o b h.lt).trans h
theorem Blk.new (w : World) (cs : List Value) (T : TypeId) : Blk (w.alloc (.cells cs.toArray T)) w.heap.size cs T := heap_alloc_new w _
theorem Blk.newA (w : World) (cs : Array Value) (T : TypeId) : Blk (w.alloc (.cells cs T)) w.heap.size cs.toList T := by
  have := heap_alloc_new w (.cells cs T)
  simpa [Blk] using this
theorem Blk.below {w w1 : World} {b : Nat} {cs : List Value} {T : TypeId} (h : Blk w b cs T) {B : Nat} (hb : Below B w w1) (hlt : b < B) : Blk w1 b cs T := (hb.block b hlt).trans h
theorem Blk.under {w w1 : World} {b : Nat} {cs : List Value} {T : TypeId} (h : Blk w b cs T) (hb : Below w.heap.size w w1) : Blk w1 b cs T := (hb.block b h.lt).trans h
theorem Blk.drew {w : World} {b : Nat} {cs : List Value} {T : TypeId} (h : Blk w b cs T) : Blk w.drew b cs T := h
theorem Blk.cells {w : World} {b : Nat} {cs : List Value} {T : TypeId} (h : Blk w b cs T) : Cells w (some ⟨b, 0, none⟩) cs := by
  intro j hj
  exact ⟨b, 0, rfl, by rw [Nat.zero_add]; exact h.cell j hj⟩
theorem Blk.ne {w : World} {b b' : Nat} {cs cs' : List Value} {T T' : TypeId} (h : Blk w b cs T) (hlt : w.heap.size ≤ b') : b ≠ b' := by have := h.lt; omega
theorem make_k {P : Program} (t e : TypeId) (z : Value) (k bytes : Nat) (ht : P.underlying t = some (.slice e)) (hinfo : (P.info? e).map (fun i => (i.zero, i.size, i.bytes)) = some (some z, k, bytes))
    (n : Nat) (hbytes : bytes * n ≤ 281474976710656) (h63 : n ≤ 9223372036854775807) (w : World) :
    (Instr.makeSlice t (.int .i64 (n : Int)) (.int .i64 (n : Int))).run P w = .ok (.slice (some ⟨w.heap.size, 0, none⟩) n n) (w.alloc (.cells (madeCells z.cells (n * k)) e)) := by
  obtain ⟨i, hi, hzz⟩ := Option.map_eq_some_iff.1 hinfo
  simp only [Prod.mk.injEq] at hzz
  obtain ⟨hz, hs, hb⟩ := hzz
  have hb' : (i.bytes : Int) * (n : Int) ≤ 281474976710656 := by
    have h : ((i.bytes * n : Nat) : Int) ≤ 281474976710656 := by rw [hb]; omega
    rwa [Int.natCast_mul] at h
  have hr := run_make (P := P) w t e i z ht hi hz .i64 .i64 n n (by omega) (Int.le_refl _) hb' (by omega)
  simp only [Int.toNat_natCast, hs] at hr
  exact hr
theorem madeCells_one (z : Value) (n : Nat) : (madeCells #[z] (n * 1)).toList = List.replicate n z := by rw [Nat.mul_one]; exact toList_madeCells_one z n
def tcells (ts : List T4) : List Value := ts.flatMap fun t => ints t.l
theorem tcells_nil : tcells [] = [] := rfl
theorem tcells_cons (t : T4) (ts : List T4) : tcells (t :: ts) = [.int .i64 t.a, .int .i64 t.b, .int .i64 t.c, .int .i64 t.d] ++ tcells ts := rfl
theorem tcells_append (xs ys : List T4) : tcells (xs ++ ys) = tcells xs ++ tcells ys := by simp [tcells]
theorem tcells_length (ts : List T4) : (tcells ts).length = ts.length * 4 := by
  induction ts with
  | nil => rfl
  | cons t ts ih => rw [tcells_cons, List.length_append, ih]; simp; omega
theorem tcells_get (ts : List T4) (k j : Nat) (hk : k < ts.length) (hj : j < 4) : (tcells ts)[k * 4 + j]? = [Value.int .i64 ts[k].a, .int .i64 ts[k].b, .int .i64 ts[k].c, .int .i64 ts[k].d][j]? := by
  induction ts generalizing k with
  | nil => simp at hk
  | cons t ts ih =>
    rw [tcells_cons]
    cases k with
    | zero => rw [List.getElem?_append_left (by simp; omega)]; simp
    | succ k =>
      rw [List.getElem?_append_right (by simp; omega)]
      have := ih k (by simpa using hk)
      rw [show (k + 1) * 4 + j - [Value.int .i64 t.a, .int .i64 t.b, .int .i64 t.c, .int .i64 t.d].length = k * 4 + j by simp; omega]
      simpa using this
theorem tcells_set (ts : List T4) (k : Nat) (hk : k < ts.length) (t : T4) :
    ((((tcells ts).set (k * 4) (.int .i64 t.a)).set (k * 4 + 1) (.int .i64 t.b)).set (k * 4 + 2) (.int .i64 t.c)).set (k * 4 + 3) (.int .i64 t.d) = tcells (ts.set k t) := by
  induction ts generalizing k with
  | nil => simp at hk
  | cons s ts ih =>
    cases k with
    | zero => simp [tcells_cons]
    | succ k =>
      have := ih k (by simpa using hk)
      simp only [List.set_cons_succ, tcells_cons]
      rw [show (k + 1) * 4 = 4 + k * 4 by omega]
      have e : ∀ (l : List Value) (j : Nat) (v : Value), ([Value.int .i64 s.a, .int .i64 s.b, .int .i64 s.c, .int .i64 s.d] ++ l).set (4 + j) v = [Value.int .i64 s.a, .int .i64 s.b, .int .i64 s.c, .int .i64 s.d] ++ l.set j v := by
        intro l j v
        rw [show 4 + j = j + 1 + 1 + 1 + 1 by omega]
        simp
      rw [e, show 4 + k * 4 + 1 = 4 + (k * 4 + 1) by omega, e, show 4 + k * 4 + 2 = 4 + (k * 4 + 2) by omega, e, show 4 + k * 4 + 3 = 4 + (k * 4 + 3) by omega, e, this]
def T4z : T4 := ⟨0, 0, 0, 0⟩
theorem madeCells_tiles (n : Nat) : (madeCells #[Value.int .i64 0, .int .i64 0, .int .i64 0, .int .i64 0] (n * 4)).toList = tcells (List.replicate n T4z) := by
  apply List.ext_getElem?
  intro j
  by_cases hj : j < n * 4
  · have h1 := tcells_get (List.replicate n T4z) (j / 4) (j % 4) (by simp; omega) (by omega)
    rw [show j / 4 * 4 + j % 4 = j by omega] at h1
    rw [h1]
    have h2 : j % 4 = 0 ∨ j % 4 = 1 ∨ j % 4 = 2 ∨ j % 4 = 3 := by omega
    rcases h2 with h | h | h | h <;> simp [madeCells, hj, h, T4z]
  · rw [List.getElem?_eq_none (by simp [madeCells]; omega), List.getElem?_eq_none (by rw [tcells_length]; simp; omega)]
theorem Blk.tiles {w : World} {b : Nat} {ts : List T4} {T : TypeId} (h : Blk w b (tcells ts) T) : TileCells w (some ⟨b, 0, none⟩) ts := by
  intro k hk
  refine ⟨b, 0, rfl, h.lt, ?_, ?_, ?_, ?_⟩
  · rw [Nat.zero_add, h.cell?]; exact tcells_get ts k 0 hk (by omega)
  · rw [Nat.zero_add, h.cell?]; exact tcells_get ts k 1 hk (by omega)
  · rw [Nat.zero_add, h.cell?]; exact tcells_get ts k 2 hk (by omega)
  · rw [Nat.zero_add, h.cell?]; exact tcells_get ts k 3 hk (by omega)
theorem Blk.tile {w : World} {b : Nat} {ts : List T4} {T : TypeId} (h : Blk w b (tcells ts) T) (k : Nat) (hk : k < ts.length) :
    w.cell? ⟨b, k * 4, none⟩ = some (.int .i64 ts[k].a) ∧ w.cell? ⟨b, k * 4 + 1, none⟩ = some (.int .i64 ts[k].b) ∧ w.cell? ⟨b, k * 4 + 2, none⟩ = some (.int .i64 ts[k].c) ∧ w.cell? ⟨b, k * 4 + 3, none⟩ = some (.int .i64 ts[k].d) := by
  refine ⟨?_, ?_, ?_, ?_⟩
  · rw [h.cell?]; exact tcells_get ts k 0 hk (by omega)
  · rw [h.cell?]; exact tcells_get ts k 1 hk (by omega)
  · rw [h.cell?]; exact tcells_get ts k 2 hk (by omega)
  · rw [h.cell?]; exact tcells_get ts k 3 hk (by omega)
theorem Blk.setTile {w : World} {b : Nat} {ts : List T4} {T : TypeId} (h : Blk w b (tcells ts) T) (k : Nat) (hk : k < ts.length) (t : T4) :
    Blk ((((w.setCell ⟨b, k * 4, none⟩ (.int .i64 t.a)).setCell ⟨b, k * 4 + 1, none⟩ (.int .i64 t.b)).setCell ⟨b, k * 4 + 2, none⟩ (.int .i64 t.c)).setCell ⟨b, k * 4 + 3, none⟩ (.int .i64 t.d)) b (tcells (ts.set k t)) T := by
  rw [← tcells_set ts k hk t]
  exact (((h.set _ _).set _ _).set _ _).set _ _
theorem ints_set (xs : List Int) (k : Nat) (x : Int) : (ints xs).set k (.int .i64 x) = ints (xs.set k x) := by simp [ints, List.map_set]
theorem Blk.int {w : World} {b : Nat} {xs : List Int} {T : TypeId} (h : Blk w b (ints xs) T) (k : Nat) (hk : k < xs.length) : w.cell? ⟨b, k, none⟩ = some (.int .i64 xs[k]) := by
  rw [h.cell k (by rw [ints_length]; exact hk)]; simp [ints]
theorem Blk.setInt {w : World} {b : Nat} {xs : List Int} {T : TypeId} (h : Blk w b (ints xs) T) (k : Nat) (x : Int) : Blk (w.setCell ⟨b, k, none⟩ (.int .i64 x)) b (ints (xs.set k x)) T := by
  rw [← ints_set]; exact h.set k _
theorem take_rep_set {α : Type} (xs : List α) (z : α) (k : Nat) (hk : k < xs.length) : (xs.take k ++ List.replicate (xs.length - k) z).set k xs[k] = xs.take (k + 1) ++ List.replicate (xs.length - (k + 1)) z := by
  rw [List.set_append_right _ _ (by simp; omega)]
  rw [List.take_succ_eq_append_getElem hk, List.append_assoc]
  congr 1
  rw [show k - (xs.take k).length = 0 by simp; omega, show xs.length - k = (xs.length - (k + 1)) + 1 by omega, List.replicate_succ]
  rfl

end Go.Proofs.Ytfkmophmiiehlaa
