/- Contracts and lemmas for the statements of this seat, written for this claim; each theorem states its own conditions. -/
import Derived.Deep.OwnRows
import Derived.Laws.OwnMore
import Derived.Maps.AppendAt
import Derived.StillTailTactics
import Derived.Test.YtnoehaphbpkpjaaGreatFoAdd
set_option linter.unusedVariables false
set_option linter.unusedSimpArgs false
namespace Go.Proofs.YtnoehaphbpkpjaaGreat
open Go.RowKit
/-- block b holds just these cells, of element type T, none of them shared with a string -/
def Blk (w : World) (b : Nat) (cs : List Value) (T : TypeId) : Prop := w.heap[b]? = some (.cells cs.toArray T (0, 0))
theorem Blk.lt {w : World} {b : Nat} {cs : List Value} {T : TypeId} (h : Blk w b cs T) : b < w.heap.size := (Array.getElem?_eq_some_iff.1 h).1
theorem Blk.cell {w : World} {b : Nat} {cs : List Value} {T : TypeId} (h : Blk w b cs T) (j : Nat) (hj : j < cs.length) : w.cell? ⟨b, j, none⟩ = some cs[j] := by
  unfold World.cell?; unfold Blk at h; simp only [h]; simp [hj]
theorem Blk.cell? {w : World} {b : Nat} {cs : List Value} {T : TypeId} (h : Blk w b cs T) (j : Nat) : w.cell? ⟨b, j, none⟩ = cs[j]? := by
  unfold World.cell?; unfold Blk at h; simp only [h]; simp
theorem Blk.frozen {w : World} {b : Nat} {cs : List Value} {T : TypeId} (h : Blk w b cs T) (j : Nat) : w.frozen? ⟨b, j, none⟩ = false := by
  unfold World.frozen?; unfold Blk at h; simp only [h]; simp
theorem Blk.set {w : World} {b : Nat} {cs : List Value} {T : TypeId} (h : Blk w b cs T) (j : Nat) (v : Value) : Blk (w.setCell ⟨b, j, none⟩ v) b (cs.set j v) T := by
  unfold Blk at *
  unfold World.setCell
  simp only [Array.getElem?_modify]
  simp [h]
theorem Blk.other {w : World} {b : Nat} {cs : List Value} {T : TypeId} (h : Blk w b cs T) {a : Addr} (ha : b ≠ a.block) (v : Value) : Blk (w.setCell a v) b cs T :=
  (Below.heap_setCell w a v b ha).trans h
theorem Blk.alloc {w : World} {b : Nat} {cs : List Value} {T : TypeId} (h : Blk w b cs T) (o : Obj) : Blk (w.alloc o) b cs T := (Below.heap_alloc w o b h.lt).trans h
theorem Blk.new (w : World) (cs : List Value) (T : TypeId) : Blk (w.alloc (.cells cs.toArray T)) w.heap.size cs T := heap_alloc_new w _
theorem Blk.newA (w : World) (cs : Array Value) (T : TypeId) : Blk (w.alloc (.cells cs T)) w.heap.size cs.toList T := by
  have := heap_alloc_new w (.cells cs T)
  simpa [Blk] using this
theorem Blk.below {w w1 : World} {b : Nat} {cs : List Value} {T : TypeId} (h : Blk w b cs T) {B : Nat} (hb : Below B w w1) (hlt : b < B) : Blk w1 b cs T := (hb.block b hlt).trans h
theorem Blk.under {w w1 : World} {b : Nat} {cs : List Value} {T : TypeId} (h : Blk w b cs T) (hb : Below w.heap.size w w1) : Blk w1 b cs T := (hb.block b h.lt).trans h
theorem Blk.drew {w : World} {b : Nat} {cs : List Value} {T : TypeId} (h : Blk w b cs T) : Blk w.drew b cs T := h
theorem Blk.cells {w : World} {b : Nat} {cs : List Value} {T : TypeId} (h : Blk w b cs T) : Cells w (some ⟨b, 0, none⟩) cs := by
  intro j hj
  exact ⟨b, 0, rfl, by rw [Nat.zero_add]; exact h.cell j hj⟩
theorem Blk.ne {w : World} {b b' : Nat} {cs cs' : List Value} {T T' : TypeId} (h : Blk w b cs T) (hlt : w.heap.size ≤ b') : b ≠ b' := by have := h.lt; omega
theorem make_k {P : Program} (t e : TypeId) (z : Value) (k bytes : Nat) (ht : P.underlying t = some (.slice e)) (hinfo : (P.info? e).map (fun i => (i.zero, i.size, i.bytes)) = some (some z, k, bytes))
    (n : Nat) (hbytes : bytes * n ≤ 281474976710656) (h63 : n ≤ 9223372036854775807) (w : World) :
    (Instr.makeSlice t (.int .i64 (n : Int)) (.int .i64 (n : Int))).run P w = .ok (.slice (some ⟨w.heap.size, 0, none⟩) n n) (w.alloc (.cells (madeCells z.cells (n * k)) e)) := by
  obtain ⟨i, hi, hzz⟩ := Option.map_eq_some_iff.1 hinfo
  simp only [Prod.mk.injEq] at hzz
  obtain ⟨hz, hs, hb⟩ := hzz
  have hb' : (i.bytes : Int) * (n : Int) ≤ 281474976710656 := by
    have h : ((i.bytes * n : Nat) : Int) ≤ 281474976710656 := by rw [hb]; omega
    rwa [Int.natCast_mul] at h
  have hr := run_make (P := P) w t e i z ht hi hz .i64 .i64 n n (by omega) (Int.le_refl _) hb' (by omega)
  simp only [Int.toNat_natCast, hs] at hr
  exact hr
theorem madeCells_one (z : Value) (n : Nat) : (madeCells #[z] (n * 1)).toList = List.replicate n z := by rw [Nat.mul_one]; exact toList_madeCells_one z n
def tcells (ts : List T4) : List Value := ts.flatMap fun t => ints t.l
theorem tcells_nil : tcells [] = [] := rfl
theorem tcells_cons (t : T4) (ts : List T4) : tcells (t :: ts) = [.int .i64 t.a, .int .i64 t.b, .int .i64 t.c, .int .i64 t.d] ++ tcells ts := rfl
theorem tcells_append (xs ys : List T4) : tcells (xs ++ ys) = tcells xs ++ tcells ys := by simp [tcells]
theorem tcells_length (ts : List T4) : (tcells ts).length = ts.length * 4 := by
  induction ts with
  | nil => rfl
  | cons t ts ih => rw [tcells_cons, List.length_append, ih]; simp; omega
theorem tcells_get (ts : List T4) (k j : Nat) (hk : k < ts.length) (hj : j < 4) : (tcells ts)[k * 4 + j]? = [Value.int .i64 ts[k].a, .int .i64 ts[k].b, .int .i64 ts[k].c, .int .i64 ts[k].d][j]? := by
  induction ts generalizing k with
  | nil => simp at hk
  | cons t ts ih =>
    rw [tcells_cons]
    cases k with
    | zero => rw [List.getElem?_append_left (by simp; omega)]; simp
    | succ k =>
      rw [List.getElem?_append_right (by simp; omega)]
      have := ih k (by simpa using hk)
      rw [show (k + 1) * 4 + j - [Value.int .i64 t.a, .int .i64 t.b, .int .i64 t.c, .int .i64 t.d].length = k * 4 + j by simp; omega]
      simpa using this
theorem tcells_set (ts : List T4) (k : Nat) (hk : k < ts.length) (t : T4) :
    ((((tcells ts).set (k * 4) (.int .i64 t.a)).set (k * 4 + 1) (.int .i64 t.b)).set (k * 4 + 2) (.int .i64 t.c)).set (k * 4 + 3) (.int .i64 t.d) = tcells (ts.set k t) := by
  induction ts generalizing k with
  | nil => simp at hk
  | cons s ts ih =>
    cases k with
    | zero => simp [tcells_cons]
    | succ k =>
      have := ih k (by simpa using hk)
      simp only [List.set_cons_succ, tcells_cons]
      rw [show (k + 1) * 4 = 4 + k * 4 by omega]
      have e : ∀ (l : List Value) (j : Nat) (v : Value), ([Value.int .i64 s.a, .int .i64 s.b, .int .i64 s.c, .int .i64 s.d] ++ l).set (4 + j) v = [Value.int .i64 s.a, .int .i64 s.b, .int .i64 s.c, .int .i64 s.d] ++ l.set j v := by
        intro l j v
        rw [show 4 + j = j + 1 + 1 + 1 + 1 by omega]
        simp
      rw [e, show 4 + k * 4 + 1 = 4 + (k * 4 + 1) by omega, e, show 4 + k * 4 + 2 = 4 + (k * 4 + 2) by omega, e, show 4 + k * 4 + 3 = 4 + (k * 4 + 3) by omega, e, this]
def T4z : T4 := ⟨0, 0, 0, 0⟩
theorem madeCells_tiles (n : Nat) : (madeCells #[Value.int .i64 0, .int .i64 0, .int .i64 0, .int .i64 0] (n * 4)).toList = tcells (List.replicate n T4z) := by
  apply List.ext_getElem?
  intro j
  by_cases hj : j < n * 4
  · have h1 := tcells_get (List.replicate n T4z) (j / 4) (j % 4) (by simp; omega) (by omega)
    rw [show j / 4 * 4 + j % 4 = j by omega] at h1
    rw [h1]
    have h2 : j % 4 = 0 ∨ j % 4 = 1 ∨ j % 4 = 2 ∨ j % 4 = 3 := by omega
    rcases h2 with h | h | h | h <;> simp [madeCells, hj, h, T4z]
  · rw [List.getElem?_eq_none (by simp [madeCells]; omega), List.getElem?_eq_none (by rw [tcells_length]; simp; omega)]
theorem Blk.tiles {w : World} {b : Nat} {ts : List T4} {T : TypeId} (h : Blk w b (tcells ts) T) : TileCells w (some ⟨b, 0, none⟩) ts := by
  intro k hk
  refine ⟨b, 0, rfl, h.lt, ?_, ?_, ?_, ?_⟩
  · rw [Nat.zero_add, h.cell?]; exact tcells_get ts k 0 hk (by omega)
  · rw [Nat.zero_add, h.cell?]; exact tcells_get ts k 1 hk (by omega)
  · rw [Nat.zero_add, h.cell?]; exact tcells_get ts k 2 hk (by omega)
  · rw [Nat.zero_add, h.cell?]; exact tcells_get ts k 3 hk (by omega)
theorem Blk.tile {w : World} {b : Nat} {ts : List T4} {T : TypeId} (h : Blk w b (tcells ts) T) (k : Nat) (hk : k < ts.length) :
    w.cell? ⟨b, k * 4, none⟩ = some (.int .i64 ts[k].a) ∧ w.cell? ⟨b, k * 4 + 1, none⟩ = some (.int .i64 ts[k].b) ∧ w.cell? ⟨b, k * 4 + 2, none⟩ = some (.int .i64 ts[k].c) ∧ w.cell? ⟨b, k * 4 + 3, none⟩ = some (.int .i64 ts[k].d) := by
  refine ⟨?_, ?_, ?_, ?_⟩
  · rw [h.cell?]; exact tcells_get ts k 0 hk (by omega)
  · rw [h.cell?]; exact tcells_get ts k 1 hk (by omega)
  · rw [h.cell?]; exact tcells_get ts k 2 hk (by omega)
  · rw [h.cell?]; exact tcells_get ts k 3 hk (by omega)
theorem Blk.setTile {w : World} {b : Nat} {ts : List T4} {T : TypeId} (h : Blk w b (tcells ts) T) (k : Nat) (hk : k < ts.length) (t : T4) :
    Blk ((((w.setCell ⟨b, k * 4, none⟩ (.int .i64 t.a)).setCell ⟨b, k * 4 + 1, none⟩ (.int .i64 t.b)).setCell ⟨b, k * 4 + 2, none⟩ (.int .i64 t.c)).setCell ⟨b, k * 4 + 3, none⟩ (.int .i64 t.d)) b (tcells (ts.set k t)) T := by
  rw [← tcells_set ts k hk t]
  exact (((h.set _ _).set _ _).set _ _).set _ _
theorem ints_set (xs : List Int) (k : Nat) (x : Int) : (ints xs).set k (.int .i64 x) = ints (xs.set k x) := by simp [ints, List.map_set]
theorem Blk.int {w : World} {b : Nat} {xs : List Int} {T : TypeId} (h : Blk w b (ints xs) T) (k : Nat) (hk : k < xs.length) : w.cell? ⟨b, k, none⟩ = some (.int .i64 xs[k]) := by
  rw [h.cell k (by rw [ints_length]; exact hk)]; simp [ints]
theorem Blk.setInt {w : World} {b : Nat} {xs : List Int} {T : TypeId} (h : Blk w b (ints xs) T) (k : Nat) (x : Int) : Blk (w.setCell ⟨b, k, none⟩ (.int .i64 x)) b (ints (xs.set k x)) T := by
  rw [← ints_set]; exact h.set k _
theorem take_rep_set {α : Type} (xs : List α) (z : α) (k : Nat) (hk : k < xs.length) : (xs.take k ++ List.replicate (xs.length - k) z).set k xs[k] = xs.take (k + 1) ++ List.replicate (xs.length - (k + 1)) z := by
  rw [List.set_append_right _ _ (by simp; omega)]
  rw [List.take_succ_eq_append_getElem hk, List.append_assoc]
  congr 1
  rw [show k - (xs.take k).length = 0 by simp; omega, show xs.length - k = (xs.length - (k + 1)) + 1 by omega, List.replicate_succ]
  rfl

end Go.Proofs.YtnoehaphbpkpjaaGreat
namespace Go.Proofs.YtnoehaphbpkpjaaGreat
open Go.RowKit
theorem infoInt : (Tryz.prog.info? 2).map (fun i => (i.zero, i.size, i.bytes)) = some (some (.int .i64 0), 1, 8) := by kernel_rfl
/-- a slice that the call made and owns: numbers -/
def OwnI (w : World) (B : Nat) (v : Value) (xs : List Int) : Prop := w.ownsRow B 2 1 v xs.length (ints xs)
theorem OwnI.nil (w : World) (B : Nat) : OwnI w B (.slice none 0 0) [] := World.ownsRow_nil _ _ _ _
theorem OwnI.alloc {w : World} {B : Nat} {v : Value} {xs : List Int} (h : OwnI w B v xs) (o : Obj) : OwnI (w.alloc o) B v xs := World.ownsRow.alloc h o
theorem OwnI.drew {w : World} {B : Nat} {v : Value} {xs : List Int} (h : OwnI w B v xs) : OwnI w.drew B v xs := h
theorem OwnI.below {w w1 : World} {B : Nat} {v : Value} {xs : List Int} (h : OwnI w B v xs) (hb : Below w.heap.size w w1) : OwnI w1 B v xs :=
  World.ownsRow.kept (row := none) h ⟨hb.os, hb.tape, hb.output, hb.size, fun k hk _ => hb.block k hk⟩ (by cases h : v.ownBlock with | none => exact .inl rfl | some k => exact .inr (by simp))
theorem OwnI.weaken {w : World} {B B' : Nat} {v : Value} {xs : List Int} (h : OwnI w B v xs) (hB : B' ≤ B) : OwnI w B' v xs := by
  obtain ⟨h1, h2⟩ := h
  refine ⟨h1, ?_⟩
  rcases h2 with h2 | ⟨g, cap, cur, e1, e2, e3⟩
  · exact .inl h2
  · exact .inr ⟨g, cap, cur, e1, Nat.le_trans hB e2, e3⟩
theorem OwnI.shape {w : World} {B : Nat} {v : Value} {xs : List Int} (h : OwnI w B v xs) : ∃ A cx, v = .slice A xs.length cx ∧ Cells w A (ints xs) ∧ xs.length ≤ 9223372036854775807 := by
  obtain ⟨h1, h2⟩ := h
  rcases h2 with ⟨rfl, h2⟩ | ⟨g, cap, cur, rfl, e2, e3, e4, e5, e6, e7⟩
  · refine ⟨none, 0, by rw [h2], ?_, by omega⟩
    intro j hj; rw [ints_length] at hj; omega
  · refine ⟨some ⟨g, 0, none⟩, cap, rfl, ?_, by simp [maxLen] at e5; omega⟩
    intro j hj
    refine ⟨g, 0, rfl, ?_⟩
    rw [Nat.zero_add]
    unfold World.cell?
    simp only [e3]
    have : (ints xs)[j]? = some (ints xs)[j] := List.getElem?_eq_getElem hj
    rw [← this, ← e7, List.getElem?_take]
    rw [ints_length] at hj
    simp [hj]
theorem OwnI.made (w : World) (B : Nat) (cs : Array Value) (xs : List Int) (hc : cs.toList = ints xs) (hB : B ≤ w.heap.size) (hl : xs.length ≤ 9223372036854775807) :
    OwnI (w.alloc (.cells cs 2)) B (.slice (some ⟨w.heap.size, 0, none⟩) xs.length xs.length) xs := by
  have hs : cs.size = xs.length * 1 := by rw [← Array.length_toList, hc, ints_length, Nat.mul_one]
  have := World.ownsRow_lit (base := B) (e := 2) (size := 1) w cs xs.length hB (by simpa [maxLen] using hl) hs
  rw [hc] at this
  exact this
theorem below_grown {w W w1 : World} {v : Value} {B : Nat} {xs : List Int} (h : Below w.heap.size w W) (hg : W.grownBy w1 v.ownBlock) (ho : OwnI W B v xs) (hB : w.heap.size ≤ B) : Below w.heap.size w w1 :=
  h.grown hg h.size (fun k hk => Nat.le_trans hB (World.ownsRow.lt ho k hk).1)
theorem OwnI.newly {w : World} {B g n : Nat} {cs : Array Value} {xs : List Int} (hg : w.heap.size = g) (hn : xs.length = n) (hc : cs.toList = ints xs) (hB : B ≤ w.heap.size) (hl : xs.length ≤ 9223372036854775807) :
    OwnI (w.alloc (.cells cs 2)) B (.slice (some ⟨g, 0, none⟩) n n) xs := by subst hg hn; exact OwnI.made w B cs xs hc hB hl
theorem le_al {w : World} {B : Nat} {o : Obj} (h : B ≤ w.heap.size) : B ≤ (w.alloc o).heap.size := by simp; omega
theorem ne_blk {a b n m c d : Nat} (h : a ≠ b) : (Value.slice (some ⟨a, 0, none⟩) n c).ownBlock ≠ (Value.slice (some ⟨b, 0, none⟩) m d).ownBlock := fun e => h (Option.some.inj e)
theorem own_ne {w : World} {B s n : Nat} {e : TypeId} {v : Value} {xs cs : List Value} {x : Nat} {T : TypeId} (h : w.ownsRow B e s v n xs) (hx : Blk w x cs T) (hT : e ≠ T) : v.ownBlock ≠ some x := by
  obtain ⟨_, h2⟩ := h
  rcases h2 with ⟨rfl, _⟩ | ⟨g, cap, cur, rfl, _, e3, _⟩
  · intro h; cases h
  · intro h
    have h : some g = some x := h
    injection h with h
    subst h
    have := e3.symm.trans hx
    injection this with this
    injection this with _ this
    exact hT this
theorem grownBy_store (w : World) (x j : Nat) (y : Value) : w.grownBy (w.setCell ⟨x, j, none⟩ y) (some x) :=
  ⟨rfl, rfl, rfl, by simp, fun k _ hn => Below.heap_setCell w _ _ k (fun e => hn (by have e : k = x := e; rw [e]))⟩
theorem Blk.kept1 {w w' : World} {x : Nat} {cs : List Value} {T : TypeId} {o : Option Nat} (h : Blk w x cs T) (hg : w.grownBy w' o) (ho : o ≠ some x) : Blk w' x cs T :=
  (hg.block x h.lt (fun e => ho e.symm)).trans h

end Go.Proofs.YtnoehaphbpkpjaaGreat
namespace Go.Proofs.YtnoehaphbpkpjaaGreat
open Go.RowKit
/-- one 'append' onto an owned slice, of any element type, with what is known of the block that it leaves -/
theorem app_gen {o : Oper} {a : Act} {W : World} {K : Act → World → Prop} {Q : Exit → Act → World → Prop} (s x : Operand) (T e : TypeId) (z : Value) (size bytes : Nat)
    (ho : o.op = .call { callee := .builtin .append, args := #[s, x], argTypes := #[T, T] }) (ht : Tryz.prog.underlying T = some (.slice e)) (hinfo : (Tryz.prog.info? e).map (fun i => (i.zero, i.size, i.bytes)) = some (some z, size, bytes))
    (hzs : z.cells.size = size) (hsz : 0 < size) (B : Nat) (v : Value) (n : Nat) (xs : List Value) (hs : a.eval s = v) (hown : W.ownsRow B e size v n xs)
    (ad : Addr) (m cx : Nat) (news : List Value) (hx : a.eval x = .slice (some ad) m cx) (hl : news.length = m * size) (hnews : ∀ j u, news[j]? = some u → W.cell? (ad.add j) = some u) (h1 : ∀ u ∈ news, u.oneCell' = true)
    (h63 : n + m ≤ maxLen) (hbytes : (n + m) * bytes ≤ 140737488355328) (hB : B ≤ W.heap.size)
    (h : ∀ v' w', w'.ownsRow B e size v' (n + m) (xs ++ news) → W.grownBy w' v.ownBlock → (v'.ownBlock = v.ownBlock ∨ v'.ownBlock = some W.heap.size) → K (a.put o.dst v') w') : o.wp Tryz.prog a W K Q := by
  obtain ⟨i, hi, hzz⟩ := Option.map_eq_some_iff.1 hinfo
  simp only [Prod.mk.injEq] at hzz
  obtain ⟨hz, hsize, hby⟩ := hzz
  obtain ⟨v', w', hr, h2, h3, _, h5⟩ := run_append_own_at (P := Tryz.prog) W B T o.type e i z size bytes ht hi hz hsize hby hzs hsz v n xs hown ad m cx news hl hnews h1 h63 hbytes hB
  unfold Oper.wp execOp
  simp only [ho, resolve, invoke, builtin, Sem.run_bind, Sem.run_pure, Result.andThen_ok, List.map_toArray, List.map_cons, List.map_nil, hs, hx, hr]
  exact h v' w' h2 h3 h5
theorem app_int2 {o : Oper} {a : Act} {W : World} {K : Act → World → Prop} {Q : Exit → Act → World → Prop} (s x : Operand)
    (ho : o.op = .call { callee := .builtin .append, args := #[s, x], argTypes := #[39, 39] }) (B : Nat) (v : Value) (xs : List Int) (y : Int) (hs : a.eval s = v) (hown : OwnI W B v xs)
    (b off : Nat) (hx : a.eval x = .slice (some ⟨b, off, none⟩) 1 1) (hc : W.cell? ⟨b, off, none⟩ = some (.int .i64 y)) (hl : xs.length ≤ 1000000000000) (hB : B ≤ W.heap.size)
    (h : ∀ v' w', OwnI w' B v' (xs ++ [y]) → W.grownBy w' v.ownBlock → (v'.ownBlock = v.ownBlock ∨ v'.ownBlock = some W.heap.size) → K (a.put o.dst v') w') : o.wp Tryz.prog a W K Q := by
  refine app_gen s x 39 2 (.int .i64 0) 1 8 ho Tryz.underlying39 infoInt rfl (by decide) B v xs.length (ints xs) hs hown ⟨b, off, none⟩ 1 1 [.int .i64 y] hx rfl ?_ ?_ ?_ ?_ hB ?_
  · intro j u hj
    cases j with
    | zero => simp at hj; subst hj; simpa [Addr.add] using hc
    | succ j => simp at hj
  · intro u hu; simp at hu; subst hu; rfl
  · simp [maxLen]; omega
  · omega
  · intro v' w' h1 h2 h3
    refine h v' w' ?_ h2 h3
    unfold OwnI
    have e : ints (xs ++ [y]) = ints xs ++ [.int .i64 y] := by simp [ints]
    rw [e, List.length_append]
    exact h1
def Apart (v u : Value) : Prop := v.ownBlock = none ∨ v.ownBlock ≠ u.ownBlock
theorem Apart.symm {v u : Value} (h : Apart v u) : Apart u v := by
  cases e2 : u.ownBlock with
  | none => exact .inl e2
  | some k => rcases h with h | h
              · exact .inr (by rw [h, e2]; simp)
              · exact .inr (by rw [e2] at *; exact fun e => h e.symm)
theorem OwnI.blt {w : World} {B : Nat} {v : Value} {xs : List Int} (h : OwnI w B v xs) : ∀ k, v.ownBlock = some k → k < w.heap.size := fun k hk => (World.ownsRow.lt h k hk).2
theorem Apart.app {v v' u : Value} {n : Nat} (h : Apart v u) (hu : ∀ k, u.ownBlock = some k → k < n) (hat : v'.ownBlock = v.ownBlock ∨ v'.ownBlock = some n) : Apart v' u := by
  rcases hat with e | e
  · unfold Apart; rw [e]; exact h
  · right; rw [e]; intro h2; have := hu n h2.symm; omega
theorem Apart.blk {a b n m c d : Nat} (h : a ≠ b) : Apart (Value.slice (some ⟨a, 0, none⟩) n c) (Value.slice (some ⟨b, 0, none⟩) m d) := .inr (ne_blk h)
theorem cell_al (w : World) (cs : Array Value) (T j b : Nat) (v : Value) (hb : w.heap.size = b) (h : cs[j]? = some v) : (w.alloc (.cells cs T)).cell? ⟨b, j, none⟩ = some v := by subst hb; exact cell_alloc_at w cs T j v h
theorem wpl_app_int {ops : Array Oper} {rest : List Oper} {o : Oper} {a : Act} {W : World} {Q : Exit → Act → World → Prop} (hgd : o.guard = none) (s x : Operand)
    (ho : o.op = .call { callee := .builtin .append, args := #[s, x], argTypes := #[39, 39] }) (B : Nat) (v : Value) (xs : List Int) (y : Int) (hs : a.eval s = v) (hown : OwnI W B v xs)
    (b off : Nat) (hx : a.eval x = .slice (some ⟨b, off, none⟩) 1 1) (hc : W.cell? ⟨b, off, none⟩ = some (.int .i64 y)) (hl : xs.length ≤ 1000000000000) (hB : B ≤ W.heap.size)
    (h : ∀ v' w', OwnI w' B v' (xs ++ [y]) → W.grownBy w' v.ownBlock → (v'.ownBlock = v.ownBlock ∨ v'.ownBlock = some W.heap.size) → wpList Tryz.prog ops Q rest (a.put o.dst v') w') : wpList Tryz.prog ops Q (o :: rest) a W :=
  wpList_plain hgd fun _ hK => app_int2 s x ho B v xs y hs hown b off hx hc hl hB fun v' w' h1 h2 h3 => hK _ _ (h v' w' h1 h2 h3)

end Go.Proofs.YtnoehaphbpkpjaaGreat
namespace Go.Proofs.YtnoehaphbpkpjaaGreat
open Go.RowKit
/-- a goal at which the walk stands still -/
def Hold (p : Prop) : Prop := p
theorem Hold.of {p : Prop} (h : Hold p) : p := h
theorem Hold.to {p : Prop} (h : p) : Hold p := h

end Go.Proofs.YtnoehaphbpkpjaaGreat
namespace Go.Proofs.YtnoehaphbpkpjaaGreat
open Go.RowKit
set_option maxRecDepth 100000 in
set_option maxHeartbeats 1000000 in
theorem isNaN_c (x : Int) (w : World) :
    Calls Tryz.prog 140 #[.int .i64 x] w fun e w' => e = .returned (.bool false) ∧ w = w' := by
  go_enter Tryz.func140, Tryz.ntmps140
  go_wp2
  go_ret
  exact ⟨rfl, rfl⟩


def cmpI (a b : Int) : Int := if a < b then -1 else if b < a then 1 else 0

set_option maxRecDepth 100000 in
set_option maxHeartbeats 1000000 in
theorem cmp_c (x y : Int) (w : World) :
    Calls Tryz.prog 130 #[.int .i64 x, .int .i64 y] w fun e w' => e = .returned (.int .i64 (cmpI x y)) ∧ w = w' := by
  rcases Int.lt_trichotomy x y with h1 | h1 | h1
  · have hc : cmpI x y = -1 := by unfold cmpI; rw [if_pos h1]
    rw [hc]; clear hc
    go_enter Tryz.func130, Tryz.ntmps130
    go_wp2_with (go_at_call 140; refine (isNaN_c _ _).mono ?_; rintro e w' ⟨rfl, rfl⟩)
    go_ret
    exact ⟨rfl, rfl⟩
  · subst h1
    have hc : cmpI x x = 0 := by unfold cmpI; rw [if_neg (by omega), if_neg (by omega)]
    rw [hc]; clear hc
    go_enter Tryz.func130, Tryz.ntmps130
    go_wp2_with (go_at_call 140; refine (isNaN_c _ _).mono ?_; rintro e w' ⟨rfl, rfl⟩)
    go_ret
    exact ⟨rfl, rfl⟩
  · have hc : cmpI x y = 1 := by unfold cmpI; rw [if_neg (by omega), if_pos h1]
    rw [hc]; clear hc
    go_enter Tryz.func130, Tryz.ntmps130
    go_wp2_with (go_at_call 140; refine (isNaN_c _ _).mono ?_; rintro e w' ⟨rfl, rfl⟩)
    go_ret
    exact ⟨rfl, rfl⟩

def inR (lo hi n : Int) : Bool := decide (lo ≤ n ∧ n ≤ hi)
theorem inR_iff {lo hi n : Int} : inR lo hi n = true ↔ lo ≤ n ∧ n ≤ hi := by simp [inR]

set_option maxRecDepth 100000 in
set_option maxHeartbeats 1000000 in
theorem within_c (n lo hi : Int) (w : World) :
    Calls Tryz.prog 29 #[.int .i64 n, .int .i64 lo, .int .i64 hi] w fun e w' => e = .returned (.bool (inR lo hi n)) ∧ w = w' := by
  by_cases h : lo ≤ n
  · have h' : decide (lo ≤ n) = true := by simpa using h
    clear h
    go_enter Tryz.func29, Tryz.ntmps29
    go_wp2
    go_ret
    exact ⟨by have := of_decide_eq_true h'; simp [inR, this], rfl⟩
  · have h' : decide (lo ≤ n) = false := by simpa using h
    clear h
    go_enter Tryz.func29, Tryz.ntmps29
    go_wp2
    go_ret
    exact ⟨by have := of_decide_eq_false h'; simp [inR, this], rfl⟩

def cmpL : List Int → List Int → Int
  | [], [] => 0
  | [], _ :: _ => -1
  | _ :: _, [] => 1
  | x :: xs, y :: ys => if cmpI x y ≠ 0 then cmpI x y else cmpL xs ys


theorem cmpL_drop {xs ys : List Int} {k : Nat} (h1 : k < xs.length) (h2 : k < ys.length) :
    cmpL (xs.drop k) (ys.drop k) = if cmpI xs[k] ys[k] ≠ 0 then cmpI xs[k] ys[k] else cmpL (xs.drop (k+1)) (ys.drop (k+1)) := by
  rw [List.drop_eq_getElem_cons h1, List.drop_eq_getElem_cons h2]; rfl
theorem cmpL_dropx {xs ys : List Int} {k : Nat} (h1 : k < xs.length) (h2 : k = ys.length) : cmpL (xs.drop k) (ys.drop k) = 1 := by
  rw [List.drop_eq_getElem_cons h1, (show List.drop k ys = [] from List.drop_of_length_le (by omega))]; rfl
theorem cmpL_dropy {xs ys : List Int} {k : Nat} (h1 : k = xs.length) (h2 : k < ys.length) : cmpL (xs.drop k) (ys.drop k) = -1 := by
  rw [List.drop_eq_getElem_cons h2, (show List.drop k xs = [] from List.drop_of_length_le (by omega))]; rfl
theorem cmpL_drop0 {xs ys : List Int} {k : Nat} (h1 : k = xs.length) (h2 : k = ys.length) : cmpL (xs.drop k) (ys.drop k) = 0 := by
  rw [(show List.drop k xs = [] from List.drop_of_length_le (by omega)), (show List.drop k ys = [] from List.drop_of_length_le (by omega))]; rfl


set_option maxRecDepth 100000 in
set_option maxHeartbeats 1000000 in
theorem slicesCompare_c (xs ys : List Int) (A B : Option Addr) (cx cy : Nat) (w : World) (hx : Cells w A (ints xs)) (hy : Cells w B (ints ys))
   (lx : xs.length ≤ 1000000000) (ly : ys.length ≤ 1000000000) :
    Calls Tryz.prog 110 #[.slice A xs.length cx, .slice B ys.length cy] w fun e w' => e = .returned (.int .i64 (cmpL xs ys)) ∧ w = w' := by
  go_enter Tryz.func110, Tryz.ntmps110
  go_wp2
  go_loop [11] (fun i => ∃ k : Nat, k ≤ xs.length ∧ k ≤ ys.length ∧ i = .int .i64 k ∧ Hid (cmpL xs ys = cmpL (xs.drop k) (ys.drop k))) (fun i => xs.length - (intOf i).toNat)
  case atStart => exact ⟨0, by omega, by omega, rfl, rfl⟩
  case round =>
    obtain ⟨k, hk1, hk2, rfl, Hc⟩ := hrel
    by_cases h1 : k < xs.length
    · by_cases h2 : k < ys.length
      · obtain ⟨b, off, rfl, hb⟩ := hx k (by simpa [ints] using h1)
        obtain ⟨b', off', rfl, hb'⟩ := hy k (by simpa [ints] using h2)
        simp only [ints, List.getElem_map] at hb hb'
        have Hd := Lib.hid (cmpL_drop h1 h2)
        by_cases h3 : cmpI xs[k] ys[k] = 0
        · have h3' : (cmpI xs[k] ys[k] != 0) = false := by simpa using h3
          have H3 := Lib.hid h3; clear h3
          go_wp2_with (go_at_call 130; refine (cmp_c _ _ _).mono ?_; rintro e w' ⟨rfl, rfl⟩)
          go_round
          case rel => exact ⟨k + 1, by omega, by omega, by go_num, by rw [Hid, Hc.out, Hd.out, if_neg (by simp [H3.out])]⟩
          case measure => simp [intOf]; omega
        · have h3' : (cmpI xs[k] ys[k] != 0) = true := by simpa using h3
          have H3 := Lib.hid h3; clear h3
          go_wp2_with (go_at_call 130; refine (cmp_c _ _ _).mono ?_; rintro e w' ⟨rfl, rfl⟩)
          go_ret
          exact ⟨ret_int (by rw [Hc.out, Hd.out, if_pos H3.out]), rfl⟩
      · obtain ⟨b, off, rfl, hb⟩ := hx k (by simpa [ints] using h1)
        simp only [ints, List.getElem_map] at hb
        have Hd := Lib.hid (cmpL_dropx h1 (by omega : k = ys.length))
        go_wp2
        go_ret
        exact ⟨ret_int (by rw [Hc.out, Hd.out]), rfl⟩
    · by_cases h2 : k < ys.length
      · have Hd := Lib.hid (cmpL_dropy (by omega : k = xs.length) h2)
        go_wp2
        go_ret
        exact ⟨ret_int (by rw [Hc.out, Hd.out]), rfl⟩
      · have Hd := Lib.hid (cmpL_drop0 (by omega : k = xs.length) (by omega : k = ys.length))
        go_wp2
        go_ret
        exact ⟨ret_int (by rw [Hc.out, Hd.out]), rfl⟩

/-- what a function value f does as a predicate over ints, in every world that grows out of w -/
def PredI (w : World) (k : FuncId) (caps : Array Value) (p : Int → Bool) (xs : List Int) : Prop :=
  ∀ x ∈ xs, ∀ w1, Below w.heap.size w w1 → Calls Tryz.prog k (#[.int .i64 x] ++ caps) w1 fun e w2 => e = .returned (.bool (p x)) ∧ Below w1.heap.size w1 w2


set_option maxRecDepth 100000 in
set_option maxHeartbeats 1000000 in
theorem isTile1_c (x c : Int) (b : Nat) (w : World) (hc : w.cell? ⟨b, 0, none⟩ = some (.int .i64 c)) :
    Calls Tryz.prog 85 #[.int .i64 x, .pointer (some ⟨b, 0, none⟩)] w fun e w' => e = .returned (.bool (!inR 0 (wrap64 (c - 1)) x)) ∧ w = w' := by
  go_enter Tryz.func85, Tryz.ntmps85
  go_wp2_with (go_at_call 29; refine (within_c _ _ _ _).mono ?_; rintro e w' ⟨rfl, rfl⟩)
  go_ret
  exact ⟨rfl, rfl⟩


def idxI (p : Int → Bool) (xs : List Int) : Int := match xs.findIdx? p with | some i => (i : Int) | none => -1
theorem idxI_none {p : Int → Bool} {xs : List Int} (h : ∀ j (h : j < xs.length), p xs[j] = false) : idxI p xs = -1 := by
  have : xs.findIdx? p = none := by
    rw [List.findIdx?_eq_none_iff]
    intro x hx
    obtain ⟨j, hj, rfl⟩ := List.getElem_of_mem hx
    exact h j hj
  simp [idxI, this]
theorem idxI_some {p : Int → Bool} {xs : List Int} {i : Nat} (hi : i < xs.length) (h : ∀ j (h : j < xs.length), j < i → p xs[j] = false) (hp : p xs[i] = true) : idxI p xs = i := by
  have : xs.findIdx? p = some i := by
    rw [List.findIdx?_eq_some_iff_getElem]
    exact ⟨hi, hp, fun j hj => by simp [h j (by omega) hj]⟩
  simp [idxI, this]

set_option maxRecDepth 100000 in
set_option maxHeartbeats 1000000 in
theorem indexFuncI_c (xs : List Int) (A : Option Addr) (cx : Nat) (k : FuncId) (caps : Array Value) (p : Int → Bool) (w : World)
    (hk : ∀ args w, Sem.run Tryz.prog (callFunc k args) w = .ok (.enter k args) w) (hx : Cells w A (ints xs)) (hl : xs.length ≤ 1000000000) (hp : PredI w k caps p xs) :
    Calls Tryz.prog 113 #[.slice A xs.length cx, .func (.func k) #[] caps] w fun e w' =>
      e = .returned (.int .i64 (idxI p xs)) ∧ Below w.heap.size w w' := by
  go_enter Tryz.func113, Tryz.ntmps113
  go_wp2
  go_loopw [8] (fun i wr => ∃ k : Nat, k ≤ xs.length ∧ i = .int .i64 k ∧ Hid (∀ j (h : j < xs.length), j < k → p xs[j] = false) ∧ Below w.heap.size w wr) (fun i _ => xs.length - (intOf i).toNat)
  case atStart => exact ⟨0, by omega, rfl, fun j _ h => by omega, Below.refl _ _⟩
  case round =>
    obtain ⟨i, hi, rfl, Hn, hb⟩ := hrel
    by_cases h1 : i < xs.length
    · obtain ⟨b, off, rfl, hc⟩ := hx i (by simpa [ints] using h1)
      simp only [ints, List.getElem_map] at hc
      have hbl : b < w.heap.size := World.block_lt_of_cell? w _ hc
      have hc' := (hb.cell (p := ⟨b, off + i, none⟩) hbl).trans hc
      have hcall := hp xs[i] (List.getElem_mem h1) wr hb
      have Hc := Lib.hid hcall; clear hcall hp
      cases hpx : p xs[i]
      · have Hpx := Lib.hid hpx
        rw [hpx] at Hc
        clear hpx
        go_wp2_with fail
        refine Hc.out.mono ?_
        rintro e w1 ⟨rfl, hb1⟩
        go_wp2
        go_roundw
        case rel => exact ⟨i + 1, by omega, by go_num, fun j h hj => by
          by_cases e : j = i
          · subst e; exact Hpx.out
          · exact Hn.out j h (by omega), hb.trans (hb1.mono hb.size)⟩
        case measure => simp [intOf]; omega
      · have Hpx := Lib.hid hpx
        rw [hpx] at Hc
        clear hpx
        go_wp2_with fail
        refine Hc.out.mono ?_
        rintro e w1 ⟨rfl, hb1⟩
        go_wp2
        go_ret
        exact ⟨ret_int (idxI_some h1 Hn.out Hpx.out).symm, hb.trans (hb1.mono hb.size)⟩
    · go_wp2
      go_ret
      exact ⟨ret_int (idxI_none (fun j h => Hn.out j h (by omega))).symm, hb⟩

set_option maxRecDepth 100000 in
set_option maxHeartbeats 1000000 in
theorem containsFuncI_c (xs : List Int) (A : Option Addr) (cx : Nat) (k : FuncId) (caps : Array Value) (p : Int → Bool) (w : World)
    (hk : ∀ args w, Sem.run Tryz.prog (callFunc k args) w = .ok (.enter k args) w) (hx : Cells w A (ints xs)) (hl : xs.length ≤ 1000000000) (hp : PredI w k caps p xs) :
    Calls Tryz.prog 84 #[.slice A xs.length cx, .func (.func k) #[] caps] w fun e w' =>
      e = .returned (.bool (xs.any p)) ∧ Below w.heap.size w w' := by
  have hr : decide (0 ≤ idxI p xs) = xs.any p := by
    unfold idxI
    cases h : xs.findIdx? p with
    | none => simp [List.findIdx?_eq_none_iff] at h; simp; simpa using h
    | some i => obtain ⟨hi, h1, h2⟩ := List.findIdx?_eq_some_iff_getElem.1 h; simp; exact ⟨xs[i], List.getElem_mem hi, h1⟩
  have Hr := Lib.hid hr; clear hr
  have Hp := Lib.hid hp; clear hp
  have Hx := Lib.hid hx; clear hx
  go_enter Tryz.func84, Tryz.ntmps84
  go_wp2_with (go_at_call 113; refine (indexFuncI_c xs A cx k caps p w hk Hx.out hl Hp.out).mono ?_; rintro e w1 ⟨rfl, hb1⟩)
  go_ret
  exact ⟨ret_bool Hr.out, hb1⟩


def isTileB (t : T4) (c : Int) : Bool := t.l.all (inR 0 (wrap64 (c - 1)))
set_option maxRecDepth 100000 in
set_option maxHeartbeats 1000000 in
theorem isTile_c (t : T4) (c : Int) (w : World) :
    Calls Tryz.prog 32 #[.agg #[.int .i64 t.a, .int .i64 t.b, .int .i64 t.c, .int .i64 t.d], .int .i64 c] w fun e w' =>
      e = .returned (.bool (isTileB t c)) ∧ Below w.heap.size w w' := by
  go_enter Tryz.func32, Tryz.ntmps32
  go_wp2_with fail
  refine (containsFuncI_c t.l _ 4 85 #[.pointer (some ⟨w.heap.size + 1, 0, none⟩)] (fun x => !inR 0 (wrap64 (c-1)) x) _ (fun _ _ => rfl) ?_ (by simp [T4.l]) ?_).mono ?_
  · exact cells4 (by exact cell_alloc_old _ _ _ _ _ (cell_alloc_at _ _ _ _ _ rfl)) (by exact cell_alloc_old _ _ _ _ _ (cell_alloc_at _ _ _ _ _ rfl)) (by exact cell_alloc_old _ _ _ _ _ (cell_alloc_at _ _ _ _ _ rfl)) (by exact cell_alloc_old _ _ _ _ _ (cell_alloc_at _ _ _ _ _ rfl))
  · intro x hx w1 hb
    refine (isTile1_c x c (w.heap.size + 1) w1 ?_).mono ?_
    · exact (hb.cell (p := ⟨w.heap.size + 1, 0, none⟩) (by simp)).trans (by simp)
    · rintro e w' ⟨rfl, rfl⟩
      exact ⟨rfl, Below.refl _ _⟩
  · rintro e w1 ⟨rfl, hb1⟩
    go_wp2
    go_ret
    exact ⟨ret_bool (by simp [isTileB, List.any_eq_not_all_not]), ((((Below.refl _ _).alloc (Nat.le_refl _) _).alloc (by simp) _).trans (hb1.mono (by simp; omega)))⟩

def cmpT (s t : T4) : Int := cmpL s.l t.l

set_option maxRecDepth 100000 in
set_option maxHeartbeats 1000000 in
theorem compare_c (s t : T4) (w : World) :
    Calls Tryz.prog 116 #[.agg #[.int .i64 s.a, .int .i64 s.b, .int .i64 s.c, .int .i64 s.d], .agg #[.int .i64 t.a, .int .i64 t.b, .int .i64 t.c, .int .i64 t.d]] w fun e w' =>
      e = .returned (.int .i64 (cmpT s t)) ∧ Below w.heap.size w w' := by
  go_enter Tryz.func116, Tryz.ntmps116
  go_wp2_with fail
  go_still_tail 2, (by kernel_rfl)
  go_wp2_with fail
  refine (slicesCompare_c s.l t.l _ _ 4 4 _ ?_ ?_ (by simp [T4.l]) (by simp [T4.l])).mono ?_
  · exact cells4 (by show World.cell? ((w.alloc _).alloc _) _ = _; simp) (by show World.cell? ((w.alloc _).alloc _) _ = _; simp) (by show World.cell? ((w.alloc _).alloc _) _ = _; simp) (by show World.cell? ((w.alloc _).alloc _) _ = _; simp)
  · exact cells4 (by show World.cell? ((w.alloc _).alloc _) _ = _; simp) (by show World.cell? ((w.alloc _).alloc _) _ = _; simp) (by show World.cell? ((w.alloc _).alloc _) _ = _; simp) (by show World.cell? ((w.alloc _).alloc _) _ = _; simp)
  · rintro e w1 ⟨rfl, rfl⟩
    go_wp2
    go_ret
    exact ⟨rfl, (((Below.refl _ _).alloc (Nat.le_refl _) _).alloc (by simp) _).drew⟩

end Go.Proofs.YtnoehaphbpkpjaaGreat
