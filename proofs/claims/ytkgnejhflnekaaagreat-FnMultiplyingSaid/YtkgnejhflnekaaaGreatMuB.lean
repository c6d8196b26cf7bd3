/- Contracts and lemmas for the statements of this seat, written for this claim; each theorem states its own conditions. -/
import Derived.WalkSpells
import Derived.WalkLawsBesides
import Derived.Lib.Hide
import Derived.Outline
import Derived.StillTailTactics
import Derived.IntWalk
import Derived.Laws.AppendOwn
import Derived.OwnWalk
import Derived.Deep.OwnRows
import Derived.Laws.OwnMore
import Derived.Maps.AppendAt
import Derived.Test.YtkgnejhflnekaaaGreatMuAdd
set_option linter.unusedVariables false
set_option linter.unusedSimpArgs false
namespace Go.Proofs.YtkgnejhflnekaaaGreat
open Go.RowKit
theorem results_tmp4 {fn : Func} {a b c d : Tmp} (h : fn.results = #[.tmp a, .tmp b, .tmp c, .tmp d]) (tmps : Array Value) (P : Program) (w : World) :
    (results fn tmps).run P w = .ok (.tuple #[tmps.getD a undef, tmps.getD b undef, tmps.getD c undef, tmps.getD d undef]) w := by
  simp [results, h]
theorem results_tmp6 {fn : Func} {a b c d e f : Tmp} (h : fn.results = #[.tmp a, .tmp b, .tmp c, .tmp d, .tmp e, .tmp f]) (tmps : Array Value) (P : Program) (w : World) :
    (results fn tmps).run P w = .ok (.tuple #[tmps.getD a undef, tmps.getD b undef, tmps.getD c undef, tmps.getD d undef, tmps.getD e undef, tmps.getD f undef]) w := by
  simp [results, h]
theorem ret_int {k : IntKind} {a b : Int} (h : a = b) : Ending.returned (.int k a) = .returned (.int k b) := by rw [h]
theorem ret_bool {a b : Bool} (h : a = b) : Ending.returned (.bool a) = .returned (.bool b) := by rw [h]
theorem bcell {W w1 : World} (hb : Below W.heap.size W w1) : (∀ b o, b < W.heap.size → w1.cell? ⟨b, o, none⟩ = W.cell? ⟨b, o, none⟩) ∧ (∀ b o, b < W.heap.size → w1.frozen? ⟨b, o, none⟩ = W.frozen? ⟨b, o, none⟩) :=
  ⟨fun b o h => hb.cell (p := ⟨b, o, none⟩) h, fun b o h => hb.frozen (p := ⟨b, o, none⟩) h⟩
theorem below_al {w Y : World} {o : Obj} (h : Below w.heap.size w Y) : Below w.heap.size w (Y.alloc o) := h.alloc h.size o
theorem below_dr {w Y : World} (h : Below w.heap.size w Y) : Below w.heap.size w Y.drew := h.drew
theorem below_drN {w Y : World} {n : Nat} (h : Below w.heap.size w Y) : Below w.heap.size w (Y.drewN n) := ⟨h.os, h.tape, h.output, h.size, h.block⟩
theorem below_set {w Y : World} {p : Addr} {v : Value} (h : Below w.heap.size w Y) (hp : w.heap.size ≤ p.block) : Below w.heap.size w (Y.setCell p v) := h.setCell hp v
theorem below_tr {w Y w1 : World} (hb : Below Y.heap.size Y w1) (h : Below w.heap.size w Y) : Below w.heap.size w w1 := h.trans (hb.mono h.size)
theorem addCall {P : Program} {f : FuncId} {args : Array Value} {W w : World} {v : Value} (h : Calls P f args w (fun e w' => e = .returned v ∧ Below w.heap.size w w')) (hb : Below W.heap.size W w) :
    w = w ∧ Calls P f args w (fun e w' => e = .returned v ∧ Below W.heap.size W w') := ⟨rfl, h.mono fun _ _ ⟨he, hb2⟩ => ⟨he, hb.trans (hb2.mono hb.size)⟩⟩
theorem keepC {W : World} {b o : Nat} {v : Value} (h : W.cell? ⟨b, o, none⟩ = some v) : ∀ w1, Below W.heap.size W w1 → w1.cell? ⟨b, o, none⟩ = some v :=
  fun _ hb => (hb.cell (p := ⟨b, o, none⟩) (World.block_lt_of_cell? W _ h)).trans h
theorem cell_alloc_at (w : World) (cs : Array Value) (T j : Nat) (v : Value) (h : cs[j]? = some v) : (w.alloc (.cells cs T)).cell? ⟨w.heap.size, j, none⟩ = some v := by
  unfold World.cell?; simp only [heap_alloc_new w (.cells cs T)]; simp [h]
theorem cell_alloc_old (w : World) (o : Obj) (b j : Nat) (v : Value) (h : w.cell? ⟨b, j, none⟩ = some v) : (w.alloc o).cell? ⟨b, j, none⟩ = some v :=
  ((Below.refl _ w).alloc (Nat.le_refl _) o).cell (p := ⟨b, j, none⟩) (World.block_lt_of_cell? w _ h) |>.trans h
theorem add_off (b off j : Nat) : (⟨b, off, none⟩ : Addr).add j = ⟨b, off + j, none⟩ := by unfold Addr.add; split <;> simp_all
/-- the cells from an address on -/
def Cells (w : World) (A : Option Addr) (cs : List Value) : Prop :=
  ∀ j (h : j < cs.length), ∃ b off, A = some ⟨b, off, none⟩ ∧ w.cell? ⟨b, off + j, none⟩ = some cs[j]
def ints (xs : List Int) : List Value := xs.map fun x => .int .i64 x
theorem ints_length (xs : List Int) : (ints xs).length = xs.length := by simp [ints]
theorem Cells.below {w w1 : World} {A : Option Addr} {cs : List Value} (h : Cells w A cs) (hb : Below w.heap.size w w1) : Cells w1 A cs := by
  intro j hj
  obtain ⟨b, off, hA, hc⟩ := h j hj
  exact ⟨b, off, hA, (hb.cell (p := ⟨b, _, none⟩) (World.block_lt_of_cell? w _ hc)).trans hc⟩
theorem Cells.int {w : World} {A : Option Addr} {xs : List Int} (h : Cells w A (ints xs)) (j : Nat) (hj : j < xs.length) :
    ∃ b off, A = some ⟨b, off, none⟩ ∧ b < w.heap.size ∧ w.cell? ⟨b, off + j, none⟩ = some (.int .i64 xs[j]) := by
  obtain ⟨b, off, hA, hc⟩ := h j (by rw [ints_length]; exact hj)
  simp only [ints, List.getElem_map] at hc
  exact ⟨b, off, hA, World.block_lt_of_cell? w _ hc, hc⟩
theorem cells4 {w : World} {b : Nat} {x0 x1 x2 x3 : Int} (h0 : w.cell? ⟨b, 0, none⟩ = some (.int .i64 x0)) (h1 : w.cell? ⟨b, 1, none⟩ = some (.int .i64 x1))
    (h2 : w.cell? ⟨b, 2, none⟩ = some (.int .i64 x2)) (h3 : w.cell? ⟨b, 3, none⟩ = some (.int .i64 x3)) : Cells w (some ⟨b, 0, none⟩) (ints [x0, x1, x2, x3]) := by
  intro j hj
  refine ⟨b, 0, rfl, ?_⟩
  simp only [ints, List.length_map, List.length_cons, List.length_nil] at hj
  rcases j with _ | _ | _ | _ | j
  · exact h0
  · exact h1
  · exact h2
  · exact h3
  · omega
structure T4 where
  a : Int
  b : Int
  c : Int
  d : Int
  deriving DecidableEq, Inhabited
def T4.l (t : T4) : List Int := [t.a, t.b, t.c, t.d]
theorem T4.len (t : T4) : t.l.length = 4 := rfl
/-- a slice of tiles reads as a list -/
def TileCells (w : World) (A : Option Addr) (ts : List T4) : Prop :=
  ∀ k (h : k < ts.length), ∃ b off, A = some ⟨b, off, none⟩ ∧ b < w.heap.size ∧ w.cell? ⟨b, off + k * 4, none⟩ = some (.int .i64 ts[k].a) ∧ w.cell? ⟨b, off + k * 4 + 1, none⟩ = some (.int .i64 ts[k].b) ∧
    w.cell? ⟨b, off + k * 4 + 2, none⟩ = some (.int .i64 ts[k].c) ∧ w.cell? ⟨b, off + k * 4 + 3, none⟩ = some (.int .i64 ts[k].d)
theorem TileCells.below {w w1 : World} {A : Option Addr} {ts : List T4} (h : TileCells w A ts) (hb : Below w.heap.size w w1) : TileCells w1 A ts := by
  intro k hk
  obtain ⟨b, off, hA, hlt, h0, h1, h2, h3⟩ := h k hk
  exact ⟨b, off, hA, Nat.lt_of_lt_of_le hlt hb.size, (hb.cell (p := ⟨b, _, none⟩) hlt).trans h0, (hb.cell (p := ⟨b, _, none⟩) hlt).trans h1, (hb.cell (p := ⟨b, _, none⟩) hlt).trans h2, (hb.cell (p := ⟨b, _, none⟩) hlt).trans h3⟩
theorem TileCells.pair {w : World} {A : Option Addr} {ts : List T4} (h : TileCells w A ts) {b off : Nat} (hA : A = some ⟨b, off, none⟩) (k : Nat) (hk : k < ts.length) :
    w.cell? ⟨b, off + k * 4, none⟩ = some (.int .i64 ts[k].a) ∧ w.cell? ⟨b, off + k * 4 + 1, none⟩ = some (.int .i64 ts[k].b) ∧
    w.cell? ⟨b, off + k * 4 + 2, none⟩ = some (.int .i64 ts[k].c) ∧ w.cell? ⟨b, off + k * 4 + 3, none⟩ = some (.int .i64 ts[k].d) := by
  obtain ⟨b', off', hA', _, h4⟩ := h k hk
  rw [hA] at hA'
  injection hA' with hA'
  injection hA' with e1 e2
  subst e1 e2
  exact h4
theorem ret_bc {a b : Bool} {c d : Int} (h : a = b) (h' : c = d) : Ending.returned (.tuple #[.bool a, .int .i64 c]) = .returned (.tuple #[.bool b, .int .i64 d]) := by rw [h, h']

end Go.Proofs.YtkgnejhflnekaaaGreat
namespace Go.Proofs.YtkgnejhflnekaaaGreat
open Go.RowKit
theorem pigeon : ∀ (N : Nat) (f : Nat → Int) (m : Nat), (∀ a, a < m → 0 ≤ f a ∧ f a < N) → (∀ a b, a < b → b < m → f a ≠ f b) → m ≤ N
  | 0, f, m, h, _ => by
    rcases Nat.eq_zero_or_pos m with h0 | h0
    · omega
    · have := h 0 h0; omega
  | N + 1, f, m, h, hd => by
    by_cases hx : ∃ a, a < m ∧ f a = N
    · obtain ⟨a0, ha0, e0⟩ := hx
      have h2 : m - 1 ≤ N := by
        refine pigeon N (fun a => if a < a0 then f a else f (a + 1)) (m - 1) (fun a ha => ?_) (fun a b hab hb => ?_)
        · show 0 ≤ (if a < a0 then f a else f (a + 1)) ∧ (if a < a0 then f a else f (a + 1)) < (N : Int)
          split
          · rename_i hh
            have h1 := h a (by omega)
            have h3 := hd a a0 hh ha0
            omega
          · rename_i hh
            have h1 := h (a + 1) (by omega)
            have h3 := hd a0 (a + 1) (by omega) (by omega)
            omega
        · show (if a < a0 then f a else f (a + 1)) ≠ (if b < a0 then f b else f (b + 1))
          split <;> split
          · exact hd a b hab (by omega)
          · exact hd a (b + 1) (by omega) (by omega)
          · omega
          · exact hd (a + 1) (b + 1) (by omega) (by omega)
      omega
    · have : m ≤ N := by
        refine pigeon N f m (fun a ha => ?_) hd
        have h1 := h a ha
        have h2 : f a ≠ N := fun e => hx ⟨a, ha, e⟩
        omega
      omega

end Go.Proofs.YtkgnejhflnekaaaGreat
namespace Go.Proofs.YtkgnejhflnekaaaGreat
open Go.RowKit
/-- block b holds just these cells, of element type T, none of them shared with a string -/
def Blk (w : World) (b : Nat) (cs : List Value) (T : TypeId) : Prop := w.heap[b]? = some (.cells cs.toArray T (0, 0))
theorem Blk.lt {w : World} {b : Nat} {cs : List Value} {T : TypeId} (h : Blk w b cs T) : b < w.heap.size := (Array.getElem?_eq_some_iff.1 h).1
theorem Blk.cell {w : World} {b : Nat} {cs : List Value} {T : TypeId} (h : Blk w b cs T) (j : Nat) (hj : j < cs.length) : w.cell? ⟨b, j, none⟩ = some cs[j] := by
  unfold World.cell?; unfold Blk at h; simp only [h]; simp [hj]
theorem Blk.cell? {w : World} {b : Nat} {cs : List Value} {T : TypeId} (h : Blk w b cs T) (j : Nat) : w.cell? ⟨b, j, none⟩ = cs[j]? := by
  unfold World.cell?; unfold Blk at h; simp only [h]; simp
theorem Blk.frozen {w : World} {b : Nat} {cs : List Value} {T : TypeId} (h : Blk w b cs T) (j : Nat) : w.frozen? ⟨b, j, none⟩ = false := by
  unfold World.frozen?; unfold Blk at h; simp only [h]; simp
theorem Blk.set {w : World} {b : Nat} {cs : List Value} {T : TypeId} (h : Blk w b cs T) (j : Nat) (v : Value) : Blk (w.setCell ⟨b, j, none⟩ v) b (cs.set j v) T := by
  unfold Blk at *
  unfold World.setCell
  simp only [Array.getElem?_modify]
  simp [h]
theorem Blk.other {w : World} {b : Nat} {cs : List Value} {T : TypeId} (h : Blk w b cs T) {a : Addr} (ha : b ≠ a.block) (v : Value) : Blk (w.setCell a v) b cs T :=
  (Below.heap_setCell w a v b ha).trans h
theorem Blk.alloc {w : World} {b : Nat} {cs : List Value} {T : TypeId} (h : Blk w b cs T) (o : Obj) : Blk (w.alloc o) b cs T := (Below.heap_alloc w o b h.lt).trans h
theorem Blk.new (w : World) (cs : List Value) (T : TypeId) : Blk (w.alloc (.cells cs.toArray T)) w.heap.size cs T := heap_alloc_new w _
theorem Blk.newA (w : World) (cs : Array Value) (T : TypeId) : Blk (w.alloc (.cells cs T)) w.heap.size cs.toList T := by
  have := heap_alloc_new w (.cells cs T)
  simpa [Blk] using this
theorem Blk.below {w w1 : World} {b : Nat} {cs : List Value} {T : TypeId} (h : Blk w b cs T) {B : Nat} (hb : Below B w w1) (hlt : b < B) : Blk w1 b cs T := (hb.block b hlt).trans h
theorem Blk.under {w w1 : World} {b : Nat} {cs : List Value} {T : TypeId} (h : Blk w b cs T) (hb : Below w.heap.size w w1) : Blk w1 b cs T := (hb.block b h.lt).trans h
theorem Blk.drew {w : World} {b : Nat} {cs : List Value} {T : TypeId} (h : Blk w b cs T) : Blk w.drew b cs T := h
theorem Blk.cells {w : World} {b : Nat} {cs : List Value} {T : TypeId} (h : Blk w b cs T) : Cells w (some ⟨b, 0, none⟩) cs := by
  intro j hj
  exact ⟨b, 0, rfl, by rw [Nat.zero_add]; exact h.cell j hj⟩
theorem Blk.ne {w : World} {b b' : Nat} {cs cs' : List Value} {T T' : TypeId} (h : Blk w b cs T) (hlt : w.heap.size ≤ b') : b ≠ b' := by have := h.lt; omega
theorem make_k {P : Program} (t e : TypeId) (z : Value) (k bytes : Nat) (ht : P.underlying t = some (.slice e)) (hinfo : (P.info? e).map (fun i => (i.zero, i.size, i.bytes)) = some (some z, k, bytes))
    (n : Nat) (hbytes : bytes * n ≤ 281474976710656) (h63 : n ≤ 9223372036854775807) (w : World) :
    (Instr.makeSlice t (.int .i64 (n : Int)) (.int .i64 (n : Int))).run P w = .ok (.slice (some ⟨w.heap.size, 0, none⟩) n n) (w.alloc (.cells (madeCells z.cells (n * k)) e)) := by
  obtain ⟨i, hi, hzz⟩ := Option.map_eq_some_iff.1 hinfo
  simp only [Prod.mk.injEq] at hzz
  obtain ⟨hz, hs, hb⟩ := hzz
  have hb' : (i.bytes : Int) * (n : Int) ≤ 281474976710656 := by
    have h : ((i.bytes * n : Nat) : Int) ≤ 281474976710656 := by rw [hb]; omega
    rwa [Int.natCast_mul] at h
  have hr := run_make (P := P) w t e i z ht hi hz .i64 .i64 n n (by omega) (Int.le_refl _) hb' (by omega)
  simp only [Int.toNat_natCast, hs] at hr
  exact hr
theorem madeCells_one (z : Value) (n : Nat) : (madeCells #[z] (n * 1)).toList = List.replicate n z := by rw [Nat.mul_one]; exact toList_madeCells_one z n
def tcells (ts : List T4) : List Value := ts.flatMap fun t => ints t.l
theorem tcells_nil : tcells [] = [] := rfl
theorem tcells_cons (t : T4) (ts : List T4) : tcells (t :: ts) = [.int .i64 t.a, .int .i64 t.b, .int .i64 t.c, .int .i64 t.d] ++ tcells ts := rfl
theorem tcells_append (xs ys : List T4) : tcells (xs ++ ys) = tcells xs ++ tcells ys := by simp [tcells]
theorem tcells_length (ts : List T4) : (tcells ts).length = ts.length * 4 := by
  induction ts with
  | nil => rfl
  | cons t ts ih => rw [tcells_cons, List.length_append, ih]; simp; omega
theorem tcells_get (ts : List T4) (k j : Nat) (hk : k < ts.length) (hj : j < 4) : (tcells ts)[k * 4 + j]? = [Value.int .i64 ts[k].a, .int .i64 ts[k].b, .int .i64 ts[k].c, .int .i64 ts[k].d][j]? := by
  induction ts generalizing k with
  | nil => simp at hk
  | cons t ts ih =>
    rw [tcells_cons]
    cases k with
    | zero => rw [List.getElem?_append_left (by simp; omega)]; simp
    | succ k =>
      rw [List.getElem?_append_right (by simp; omega)]
      have := ih k (by simpa using hk)
      rw [show (k + 1) * 4 + j - [Value.int .i64 t.a, .int .i64 t.b, .int .i64 t.c, .int .i64 t.d].length = k * 4 + j by simp; omega]
      simpa using this
theorem tcells_set (ts : List T4) (k : Nat) (hk : k < ts.length) (t : T4) :
    ((((tcells ts).set (k * 4) (.int .i64 t.a)).set (k * 4 + 1) (.int .i64 t.b)).set (k * 4 + 2) (.int .i64 t.c)).set (k * 4 + 3) (.int .i64 t.d) = tcells (ts.set k t) := by
  induction ts generalizing k with
  | nil => simp at hk
  | cons s ts ih =>
    cases k with
    | zero => simp [tcells_cons]
    | succ k =>
      have := ih k (by simpa using hk)
      simp only [List.set_cons_succ, tcells_cons]
      rw [show (k + 1) * 4 = 4 + k * 4 by omega]
      have e : ∀ (l : List Value) (j : Nat) (v : Value), ([Value.int .i64 s.a, .int .i64 s.b, .int .i64 s.c, .int .i64 s.d] ++ l).set (4 + j) v = [Value.int .i64 s.a, .int .i64 s.b, .int .i64 s.c, .int .i64 s.d] ++ l.set j v := by
        intro l j v
        rw [show 4 + j = j + 1 + 1 + 1 + 1 by omega]
        simp
      rw [e, show 4 + k * 4 + 1 = 4 + (k * 4 + 1) by omega, e, show 4 + k * 4 + 2 = 4 + (k * 4 + 2) by omega, e, show 4 + k * 4 + 3 = 4 + (k * 4 + 3) by omega, e, this]
def T4z : T4 := ⟨0, 0, 0, 0⟩
theorem madeCells_tiles (n : Nat) : (madeCells #[Value.int .i64 0, .int .i64 0, .int .i64 0, .int .i64 0] (n * 4)).toList = tcells (List.replicate n T4z) := by
  apply List.ext_getElem?
  intro j
  by_cases hj : j < n * 4
  · have h1 := tcells_get (List.replicate n T4z) (j / 4) (j % 4) (by simp; omega) (by omega)
    rw [show j / 4 * 4 + j % 4 = j by omega] at h1
    rw [h1]
    have h2 : j % 4 = 0 ∨ j % 4 = 1 ∨ j % 4 = 2 ∨ j % 4 = 3 := by omega
    rcases h2 with h | h | h | h <;> simp [madeCells, hj, h, T4z]
  · rw [List.getElem?_eq_none (by simp [madeCells]; omega), List.getElem?_eq_none (by rw [tcells_length]; simp; omega)]
theorem Blk.tiles {w : World} {b : Nat} {ts : List T4} {T : TypeId} (h : Blk w b (tcells ts) T) : TileCells w (some ⟨b, 0, none⟩) ts := by
  intro k hk
  refine ⟨b, 0, rfl, h.lt, ?_, ?_, ?_, ?_⟩
  · rw [Nat.zero_add, h.cell?]; exact tcells_get ts k 0 hk (by omega)
  · rw [Nat.zero_add, h.cell?]; exact tcells_get ts k 1 hk (by omega)
  · rw [Nat.zero_add, h.cell?]; exact tcells_get ts k 2 hk (by omega)
  · rw [Nat.zero_add, h.cell?]; exact tcells_get ts k 3 hk (by omega)
theorem Blk.tile {w : World} {b : Nat} {ts : List T4} {T : TypeId} (h : Blk w b (tcells ts) T) (k : Nat) (hk : k < ts.length) :
    w.cell? ⟨b, k * 4, none⟩ = some (.int .i64 ts[k].a) ∧ w.cell? ⟨b, k * 4 + 1, none⟩ = some (.int .i64 ts[k].b) ∧ w.cell? ⟨b, k * 4 + 2, none⟩ = some (.int .i64 ts[k].c) ∧ w.cell? ⟨b, k * 4 + 3, none⟩ = some (.int .i64 ts[k].d) := by
  refine ⟨?_, ?_, ?_, ?_⟩
  · rw [h.cell?]; exact tcells_get ts k 0 hk (by omega)
  · rw [h.cell?]; exact tcells_get ts k 1 hk (by omega)
  · rw [h.cell?]; exact tcells_get ts k 2 hk (by omega)
  · rw [h.cell?]; exact tcells_get ts k 3 hk (by omega)
theorem Blk.setTile {w : World} {b : Nat} {ts : List T4} {T : TypeId} (h : Blk w b (tcells ts) T) (k : Nat) (hk : k < ts.length) (t : T4) :
    Blk ((((w.setCell ⟨b, k * 4, none⟩ (.int .i64 t.a)).setCell ⟨b, k * 4 + 1, none⟩ (.int .i64 t.b)).setCell ⟨b, k * 4 + 2, none⟩ (.int .i64 t.c)).setCell ⟨b, k * 4 + 3, none⟩ (.int .i64 t.d)) b (tcells (ts.set k t)) T := by
  rw [← tcells_set ts k hk t]
  exact (((h.set _ _).set _ _).set _ _).set _ _
theorem ints_set (xs : List Int) (k : Nat) (x : Int) : (ints xs).set k (.int .i64 x) = ints (xs.set k x) := by simp [ints, List.map_set]
theorem Blk.int {w : World} {b : Nat} {xs : List Int} {T : TypeId} (h : Blk w b (ints xs) T) (k : Nat) (hk : k < xs.length) : w.cell? ⟨b, k, none⟩ = some (.int .i64 xs[k]) := by
  rw [h.cell k (by rw [ints_length]; exact hk)]; simp [ints]
theorem Blk.setInt {w : World} {b : Nat} {xs : List Int} {T : TypeId} (h : Blk w b (ints xs) T) (k : Nat) (x : Int) : Blk (w.setCell ⟨b, k, none⟩ (.int .i64 x)) b (ints (xs.set k x)) T := by
  rw [← ints_set]; exact h.set k _
theorem take_rep_set {α : Type} (xs : List α) (z : α) (k : Nat) (hk : k < xs.length) : (xs.take k ++ List.replicate (xs.length - k) z).set k xs[k] = xs.take (k + 1) ++ List.replicate (xs.length - (k + 1)) z := by
  rw [List.set_append_right _ _ (by simp; omega)]
  rw [List.take_succ_eq_append_getElem hk, List.append_assoc]
  congr 1
  rw [show k - (xs.take k).length = 0 by simp; omega, show xs.length - k = (xs.length - (k + 1)) + 1 by omega, List.replicate_succ]
  rfl

end Go.Proofs.YtkgnejhflnekaaaGreat
namespace Go.Proofs.YtkgnejhflnekaaaGreat
open Go.RowKit
theorem infoInt : (Tryz.prog.info? 2).map (fun i => (i.zero, i.size, i.bytes)) = some (some (.int .i64 0), 1, 8) := by kernel_rfl
/-- a slice that the call made and owns: numbers -/
def OwnI (w : World) (B : Nat) (v : Value) (xs : List Int) : Prop := w.ownsRow B 2 1 v xs.length (ints xs)
theorem OwnI.nil (w : World) (B : Nat) : OwnI w B (.slice none 0 0) [] := World.ownsRow_nil _ _ _ _
theorem OwnI.alloc {w : World} {B : Nat} {v : Value} {xs : List Int} (h : OwnI w B v xs) (o : Obj) : OwnI (w.alloc o) B v xs := World.ownsRow.alloc h o
theorem OwnI.drew {w : World} {B : Nat} {v : Value} {xs : List Int} (h : OwnI w B v xs) : OwnI w.drew B v xs := h
theorem OwnI.below {w w1 : World} {B : Nat} {v : Value} {xs : List Int} (h : OwnI w B v xs) (hb : Below w.heap.size w w1) : OwnI w1 B v xs :=
  World.ownsRow.kept (row := none) h ⟨hb.os, hb.tape, hb.output, hb.size, fun k hk _ => hb.block k hk⟩ (by cases h : v.ownBlock with | none => exact .inl rfl | some k => exact .inr (by simp))
theorem OwnI.weaken {w : World} {B B' : Nat} {v : Value} {xs : List Int} (h : OwnI w B v xs) (hB : B' ≤ B) : OwnI w B' v xs := by
  obtain ⟨h1, h2⟩ := h
  refine ⟨h1, ?_⟩
  rcases h2 with h2 | ⟨g, cap, cur, e1, e2, e3⟩
  · exact .inl h2
  · exact .inr ⟨g, cap, cur, e1, Nat.le_trans hB e2, e3⟩
theorem OwnI.shape {w : World} {B : Nat} {v : Value} {xs : List Int} (h : OwnI w B v xs) : ∃ A cx, v = .slice A xs.length cx ∧ Cells w A (ints xs) ∧ xs.length ≤ 9223372036854775807 := by
  obtain ⟨h1, h2⟩ := h
  rcases h2 with ⟨rfl, h2⟩ | ⟨g, cap, cur, rfl, e2, e3, e4, e5, e6, e7⟩
  · refine ⟨none, 0, by rw [h2], ?_, by omega⟩
    intro j hj; rw [ints_length] at hj; omega
  · refine ⟨some ⟨g, 0, none⟩, cap, rfl, ?_, by simp [maxLen] at e5; omega⟩
    intro j hj
    refine ⟨g, 0, rfl, ?_⟩
    rw [Nat.zero_add]
    unfold World.cell?
    simp only [e3]
    have : (ints xs)[j]? = some (ints xs)[j] := List.getElem?_eq_getElem hj
    rw [← this, ← e7, List.getElem?_take]
    rw [ints_length] at hj
    simp [hj]
theorem OwnI.made (w : World) (B : Nat) (cs : Array Value) (xs : List Int) (hc : cs.toList = ints xs) (hB : B ≤ w.heap.size) (hl : xs.length ≤ 9223372036854775807) :
    OwnI (w.alloc (.cells cs 2)) B (.slice (some ⟨w.heap.size, 0, none⟩) xs.length xs.length) xs := by
  have hs : cs.size = xs.length * 1 := by rw [← Array.length_toList, hc, ints_length, Nat.mul_one]
  have := World.ownsRow_lit (base := B) (e := 2) (size := 1) w cs xs.length hB (by simpa [maxLen] using hl) hs
  rw [hc] at this
  exact this
theorem below_grown {w W w1 : World} {v : Value} {B : Nat} {xs : List Int} (h : Below w.heap.size w W) (hg : W.grownBy w1 v.ownBlock) (ho : OwnI W B v xs) (hB : w.heap.size ≤ B) : Below w.heap.size w w1 :=
  h.grown hg h.size (fun k hk => Nat.le_trans hB (World.ownsRow.lt ho k hk).1)
theorem OwnI.newly {w : World} {B g n : Nat} {cs : Array Value} {xs : List Int} (hg : w.heap.size = g) (hn : xs.length = n) (hc : cs.toList = ints xs) (hB : B ≤ w.heap.size) (hl : xs.length ≤ 9223372036854775807) :
    OwnI (w.alloc (.cells cs 2)) B (.slice (some ⟨g, 0, none⟩) n n) xs := by subst hg hn; exact OwnI.made w B cs xs hc hB hl
theorem le_al {w : World} {B : Nat} {o : Obj} (h : B ≤ w.heap.size) : B ≤ (w.alloc o).heap.size := by simp; omega
theorem ne_blk {a b n m c d : Nat} (h : a ≠ b) : (Value.slice (some ⟨a, 0, none⟩) n c).ownBlock ≠ (Value.slice (some ⟨b, 0, none⟩) m d).ownBlock := fun e => h (Option.some.inj e)
theorem app_int {o : Oper} {a : Act} {W : World} {K : Act → World → Prop} {Q : Exit → Act → World → Prop} (s x : Operand)
    (ho : o.op = .call { callee := .builtin .append, args := #[s, x], argTypes := #[35, 35] }) (B : Nat) (v : Value) (xs : List Int) (y : Int) (hs : a.eval s = v) (hown : OwnI W B v xs)
    (b off : Nat) (hx : a.eval x = .slice (some ⟨b, off, none⟩) 1 1) (hc : W.cell? ⟨b, off, none⟩ = some (.int .i64 y)) (hl : xs.length ≤ 1000000000000) (hB : B ≤ W.heap.size)
    (h : ∀ v' w', OwnI w' B v' (xs ++ [y]) → W.grownBy w' v.ownBlock → K (a.put o.dst v') w') : o.wp Tryz.prog a W K Q := by
  obtain ⟨i, hi, hzz⟩ := Option.map_eq_some_iff.1 infoInt
  simp only [Prod.mk.injEq] at hzz
  obtain ⟨hz, hsz, hby⟩ := hzz
  refine wp_append_own W s x 35 ho B 2 i (.int .i64 0) 1 8 Tryz.underlying35 hi hz hsz hby rfl (by decide) v xs.length (ints xs) hs hown ⟨b, off, none⟩ 1 1 [.int .i64 y] hx rfl ?_ ?_ ?_ ?_ hB ?_
  · intro j u hj
    cases j with
    | zero => simp at hj; subst hj; simpa [Addr.add] using hc
    | succ j => simp at hj
  · intro u hu; simp at hu; subst hu; rfl
  · simp [maxLen]; omega
  · omega
  · intro v' w' h1 h2 _
    refine h v' w' ?_ h2
    unfold OwnI
    have e : ints (xs ++ [y]) = ints xs ++ [.int .i64 y] := by simp [ints]
    rw [e, List.length_append]
    exact h1
theorem own_ne {w : World} {B s n : Nat} {e : TypeId} {v : Value} {xs cs : List Value} {x : Nat} {T : TypeId} (h : w.ownsRow B e s v n xs) (hx : Blk w x cs T) (hT : e ≠ T) : v.ownBlock ≠ some x := by
  obtain ⟨_, h2⟩ := h
  rcases h2 with ⟨rfl, _⟩ | ⟨g, cap, cur, rfl, _, e3, _⟩
  · intro h; cases h
  · intro h
    have h : some g = some x := h
    injection h with h
    subst h
    have := e3.symm.trans hx
    injection this with this
    injection this with _ this
    exact hT this
theorem grownBy_store (w : World) (x j : Nat) (y : Value) : w.grownBy (w.setCell ⟨x, j, none⟩ y) (some x) :=
  ⟨rfl, rfl, rfl, by simp, fun k _ hn => Below.heap_setCell w _ _ k (fun e => hn (by have e : k = x := e; rw [e]))⟩
theorem Blk.kept1 {w w' : World} {x : Nat} {cs : List Value} {T : TypeId} {o : Option Nat} (h : Blk w x cs T) (hg : w.grownBy w' o) (ho : o ≠ some x) : Blk w' x cs T :=
  (hg.block x h.lt (fun e => ho e.symm)).trans h

end Go.Proofs.YtkgnejhflnekaaaGreat
namespace Go.Proofs.YtkgnejhflnekaaaGreat
open Go.RowKit
/-- one 'append' onto an owned slice, of any element type, with what is known of the block that it leaves -/
theorem app_gen {o : Oper} {a : Act} {W : World} {K : Act → World → Prop} {Q : Exit → Act → World → Prop} (s x : Operand) (T e : TypeId) (z : Value) (size bytes : Nat)
    (ho : o.op = .call { callee := .builtin .append, args := #[s, x], argTypes := #[T, T] }) (ht : Tryz.prog.underlying T = some (.slice e)) (hinfo : (Tryz.prog.info? e).map (fun i => (i.zero, i.size, i.bytes)) = some (some z, size, bytes))
    (hzs : z.cells.size = size) (hsz : 0 < size) (B : Nat) (v : Value) (n : Nat) (xs : List Value) (hs : a.eval s = v) (hown : W.ownsRow B e size v n xs)
    (ad : Addr) (m cx : Nat) (news : List Value) (hx : a.eval x = .slice (some ad) m cx) (hl : news.length = m * size) (hnews : ∀ j u, news[j]? = some u → W.cell? (ad.add j) = some u) (h1 : ∀ u ∈ news, u.oneCell' = true)
    (h63 : n + m ≤ maxLen) (hbytes : (n + m) * bytes ≤ 140737488355328) (hB : B ≤ W.heap.size)
    (h : ∀ v' w', w'.ownsRow B e size v' (n + m) (xs ++ news) → W.grownBy w' v.ownBlock → (v'.ownBlock = v.ownBlock ∨ v'.ownBlock = some W.heap.size) → K (a.put o.dst v') w') : o.wp Tryz.prog a W K Q := by
  obtain ⟨i, hi, hzz⟩ := Option.map_eq_some_iff.1 hinfo
  simp only [Prod.mk.injEq] at hzz
  obtain ⟨hz, hsize, hby⟩ := hzz
  obtain ⟨v', w', hr, h2, h3, _, h5⟩ := run_append_own_at (P := Tryz.prog) W B T o.type e i z size bytes ht hi hz hsize hby hzs hsz v n xs hown ad m cx news hl hnews h1 h63 hbytes hB
  unfold Oper.wp execOp
  simp only [ho, resolve, invoke, builtin, Sem.run_bind, Sem.run_pure, Result.andThen_ok, List.map_toArray, List.map_cons, List.map_nil, hs, hx, hr]
  exact h v' w' h2 h3 h5
theorem app_int2 {o : Oper} {a : Act} {W : World} {K : Act → World → Prop} {Q : Exit → Act → World → Prop} (s x : Operand)
    (ho : o.op = .call { callee := .builtin .append, args := #[s, x], argTypes := #[35, 35] }) (B : Nat) (v : Value) (xs : List Int) (y : Int) (hs : a.eval s = v) (hown : OwnI W B v xs)
    (b off : Nat) (hx : a.eval x = .slice (some ⟨b, off, none⟩) 1 1) (hc : W.cell? ⟨b, off, none⟩ = some (.int .i64 y)) (hl : xs.length ≤ 1000000000000) (hB : B ≤ W.heap.size)
    (h : ∀ v' w', OwnI w' B v' (xs ++ [y]) → W.grownBy w' v.ownBlock → (v'.ownBlock = v.ownBlock ∨ v'.ownBlock = some W.heap.size) → K (a.put o.dst v') w') : o.wp Tryz.prog a W K Q := by
  refine app_gen s x 35 2 (.int .i64 0) 1 8 ho Tryz.underlying35 infoInt rfl (by decide) B v xs.length (ints xs) hs hown ⟨b, off, none⟩ 1 1 [.int .i64 y] hx rfl ?_ ?_ ?_ ?_ hB ?_
  · intro j u hj
    cases j with
    | zero => simp at hj; subst hj; simpa [Addr.add] using hc
    | succ j => simp at hj
  · intro u hu; simp at hu; subst hu; rfl
  · simp [maxLen]; omega
  · omega
  · intro v' w' h1 h2 h3
    refine h v' w' ?_ h2 h3
    unfold OwnI
    have e : ints (xs ++ [y]) = ints xs ++ [.int .i64 y] := by simp [ints]
    rw [e, List.length_append]
    exact h1
def Apart (v u : Value) : Prop := v.ownBlock = none ∨ v.ownBlock ≠ u.ownBlock
theorem Apart.symm {v u : Value} (h : Apart v u) : Apart u v := by
  cases e2 : u.ownBlock with
  | none => exact .inl e2
  | some k => rcases h with h | h
              · exact .inr (by rw [h, e2]; simp)
              · exact .inr (by rw [e2] at *; exact fun e => h e.symm)
theorem OwnI.blt {w : World} {B : Nat} {v : Value} {xs : List Int} (h : OwnI w B v xs) : ∀ k, v.ownBlock = some k → k < w.heap.size := fun k hk => (World.ownsRow.lt h k hk).2
theorem Apart.app {v v' u : Value} {n : Nat} (h : Apart v u) (hu : ∀ k, u.ownBlock = some k → k < n) (hat : v'.ownBlock = v.ownBlock ∨ v'.ownBlock = some n) : Apart v' u := by
  rcases hat with e | e
  · unfold Apart; rw [e]; exact h
  · right; rw [e]; intro h2; have := hu n h2.symm; omega
theorem Apart.blk {a b n m c d : Nat} (h : a ≠ b) : Apart (Value.slice (some ⟨a, 0, none⟩) n c) (Value.slice (some ⟨b, 0, none⟩) m d) := .inr (ne_blk h)
theorem cell_al (w : World) (cs : Array Value) (T j b : Nat) (v : Value) (hb : w.heap.size = b) (h : cs[j]? = some v) : (w.alloc (.cells cs T)).cell? ⟨b, j, none⟩ = some v := by subst hb; exact cell_alloc_at w cs T j v h
theorem wpl_app_int {ops : Array Oper} {rest : List Oper} {o : Oper} {a : Act} {W : World} {Q : Exit → Act → World → Prop} (hgd : o.guard = none) (s x : Operand)
    (ho : o.op = .call { callee := .builtin .append, args := #[s, x], argTypes := #[35, 35] }) (B : Nat) (v : Value) (xs : List Int) (y : Int) (hs : a.eval s = v) (hown : OwnI W B v xs)
    (b off : Nat) (hx : a.eval x = .slice (some ⟨b, off, none⟩) 1 1) (hc : W.cell? ⟨b, off, none⟩ = some (.int .i64 y)) (hl : xs.length ≤ 1000000000000) (hB : B ≤ W.heap.size)
    (h : ∀ v' w', OwnI w' B v' (xs ++ [y]) → W.grownBy w' v.ownBlock → (v'.ownBlock = v.ownBlock ∨ v'.ownBlock = some W.heap.size) → wpList Tryz.prog ops Q rest (a.put o.dst v') w') : wpList Tryz.prog ops Q (o :: rest) a W :=
  wpList_plain hgd fun _ hK => app_int2 s x ho B v xs y hs hown b off hx hc hl hB fun v' w' h1 h2 h3 => hK _ _ (h v' w' h1 h2 h3)

end Go.Proofs.YtkgnejhflnekaaaGreat
namespace Go.Proofs.YtkgnejhflnekaaaGreat
open Go.RowKit
/-- a goal at which the walk stands still -/
def Hold (p : Prop) : Prop := p
theorem Hold.of {p : Prop} (h : Hold p) : p := h
theorem Hold.to {p : Prop} (h : p) : Hold p := h

end Go.Proofs.YtkgnejhflnekaaaGreat
