/- Contracts and lemmas for the statements of this seat, written for this claim; each theorem states its own conditions. -/
import Derived.WalkSpells
import Derived.WalkLawsBesides
import Derived.Lib.Hide
import Derived.Outline
import Derived.StillTailTactics
import Derived.IntWalk
import Derived.Laws.AppendOwn
import Derived.OwnWalk
import Derived.Test.YtfkmophmiiehlaaVpAdd
set_option linter.unusedVariables false
set_option linter.unusedSimpArgs false
namespace Go.Proofs.Ytfkmophmiiehlaa
open Go.RowKit
theorem ret_int {k : IntKind} {a b : Int} (h : a = b) : Ending.returned (.int k a) = .returned (.int k b) := by rw [h]
theorem ret_bool {a b : Bool} (h : a = b) : Ending.returned (.bool a) = .returned (.bool b) := by rw [h]
theorem bcell {W w1 : World} (hb : Below W.heap.size W w1) : (∀ b o, b < W.heap.size → w1.cell? ⟨b, o, none⟩ = W.cell? ⟨b, o, none⟩) ∧ (∀ b o, b < W.heap.size → w1.frozen? ⟨b, o, none⟩ = W.frozen? ⟨b, o, none⟩) :=
  ⟨fun b o h => hb.cell (p := ⟨b, o, none⟩) h, fun b o h => hb.frozen (p := ⟨b, o, none⟩) h⟩
theorem below_al {w Y : World} {o : Obj} (h : Below w.heap.size w Y) : Below w.heap.size w (Y.alloc o) := h.alloc h.size o
theorem below_dr {w Y : World} (h : Below w.heap.size w Y) : Below w.heap.size w Y.drew := h.drew
theorem below_drN {w Y : World} {n : Nat} (h : Below w.heap.size w Y) : Below w.heap.size w (Y.drewN n) := ⟨h.os, h.tape, h.output, h.size, h.block⟩
theorem below_set {w Y : World} {p : Addr} {v : Value} (h : Below w.heap.size w Y) (hp : w.heap.size ≤ p.block) : Below w.heap.size w (Y.setCell p v) := h.setCell hp v
theorem below_tr {w Y w1 : World} (hb : Below Y.heap.size Y w1) (h : Below w.heap.size w Y) : Below w.heap.size w w1 := h.trans (hb.mono h.size)
theorem addCall {P : Program} {f : FuncId} {args : Array Value} {W w : World} {v : Value} (h : Calls P f args w (fun e w' => e = .returned v ∧ Below w.heap.size w w')) (hb : Below W.heap.size W w) :
    w = w ∧ Calls P f args w (fun e w' => e = .returned v ∧ Below W.heap.size W w') := ⟨rfl, h.mono fun _ _ ⟨he, hb2⟩ => ⟨he, hb.trans (hb2.mono hb.size)⟩⟩
theorem keepC {W : World} {b o : Nat} {v : Value} (h : W.cell? ⟨b, o, none⟩ = some v) : ∀ w1, Below W.heap.size W w1 → w1.cell? ⟨b, o, none⟩ = some v :=
  fun _ hb => (hb.cell (p := ⟨b, o, none⟩) (World.block_lt_of_cell? W _ h)).trans h
theorem cell_alloc_at (w : World) (cs : Array Value) (T j : Nat) (v : Value) (h : cs[j]? = some v) : (w.alloc (.cells cs T)).cell? ⟨w.heap.size, j, none⟩ = some v := by
  unfold World.cell?; simp only [heap_alloc_new w (.cells cs T)]; simp [h]
theorem cell_alloc_old (w : World) (o : Obj) (b j : Nat) (v : Value) (h : w.cell? ⟨b, j, none⟩ = some v) : (w.alloc o).cell? ⟨b, j, none⟩ = some v :=
  ((Below.refl _ w).alloc (Nat.le_refl _) o).cell (p := ⟨b, j, none⟩) (World.block_lt_of_cell? w _ h) |>.trans h
theorem add_off (b off j : Nat) : (⟨b, off, none⟩ : Addr).add j = ⟨b, off + j, none⟩ := by unfold Addr.add; split <;> simp_all
/-- the cells from an address on -/
def Cells (w : World) (A : Option Addr) (cs : List Value) : Prop :=
  ∀ j (h : j < cs.length), ∃ b off, A = some ⟨b, off, none⟩ ∧ w.cell? ⟨b, off + j, none⟩ = some cs[j]
def ints (xs : List Int) : List Value := xs.map fun x => .int .i64 x
theorem ints_length (xs : List Int) : (ints xs).length = xs.length := by simp [ints]
theorem Cells.below {w w1 : World} {A : Option Addr} {cs : List Value} (h : Cells w A cs) (hb : Below w.heap.size w w1) : Cells w1 A cs := by
  intro j hj
  obtain ⟨b, off, hA, hc⟩ := h j hj
  exact ⟨b, off, hA, (hb.cell (p := ⟨b, _, none⟩) (World.block_lt_of_cell? w _ hc)).trans hc⟩
theorem Cells.int {w : World} {A : Option Addr} {xs : List Int} (h : Cells w A (ints xs)) (j : Nat) (hj : j < xs.length) :
    ∃ b off, A = some ⟨b, off, none⟩ ∧ b < w.heap.size ∧ w.cell? ⟨b, off + j, none⟩ = some (.int .i64 xs[j]) := by
  obtain ⟨b, off, hA, hc⟩ := h j (by rw [ints_length]; exact hj)
  simp only [ints, List.getElem_map] at hc
  exact ⟨b, off, hA, World.block_lt_of_cell? w _ hc, hc⟩
theorem cells4 {w : World} {b : Nat} {x0 x1 x2 x3 : Int} (h0 : w.cell? ⟨b, 0, none⟩ = some (.int .i64 x0)) (h1 : w.cell? ⟨b, 1, none⟩ = some (.int .i64 x1))
    (h2 : w.cell? ⟨b, 2, none⟩ = some (.int .i64 x2)) (h3 : w.cell? ⟨b, 3, none⟩ = some (.int .i64 x3)) : Cells w (some ⟨b, 0, none⟩) (ints [x0, x1, x2, x3]) := by
  intro j hj
  refine ⟨b, 0, rfl, ?_⟩
  simp only [ints, List.length_map, List.length_cons, List.length_nil] at hj
  rcases j with _ | _ | _ | _ | j
  · exact h0
  · exact h1
  · exact h2
  · exact h3
  · omega
structure T4 where
  a : Int
  b : Int
  c : Int
  d : Int
  deriving DecidableEq, Inhabited
def T4.l (t : T4) : List Int := [t.a, t.b, t.c, t.d]
theorem T4.len (t : T4) : t.l.length = 4 := rfl
/-- a slice of tiles reads as a list -/
def TileCells (w : World) (A : Option Addr) (ts : List T4) : Prop :=
  ∀ k (h : k < ts.length), ∃ b off, A = some ⟨b, off, none⟩ ∧ b < w.heap.size ∧ w.cell? ⟨b, off + k * 4, none⟩ = some (.int .i64 ts[k].a) ∧ w.cell? ⟨b, off + k * 4 + 1, none⟩ = some (.int .i64 ts[k].b) ∧
    w.cell? ⟨b, off + k * 4 + 2, none⟩ = some (.int .i64 ts[k].c) ∧ w.cell? ⟨b, off + k * 4 + 3, none⟩ = some (.int .i64 ts[k].d)
theorem TileCells.below {w w1 : World} {A : Option Addr} {ts : List T4} (h : TileCells w A ts) (hb : Below w.heap.size w w1) : TileCells w1 A ts := by
  intro k hk
  obtain ⟨b, off, hA, hlt, h0, h1, h2, h3⟩ := h k hk
  exact ⟨b, off, hA, Nat.lt_of_lt_of_le hlt hb.size, (hb.cell (p := ⟨b, _, none⟩) hlt).trans h0, (hb.cell (p := ⟨b, _, none⟩) hlt).trans h1, (hb.cell (p := ⟨b, _, none⟩) hlt).trans h2, (hb.cell (p := ⟨b, _, none⟩) hlt).trans h3⟩
theorem TileCells.pair {w : World} {A : Option Addr} {ts : List T4} (h : TileCells w A ts) {b off : Nat} (hA : A = some ⟨b, off, none⟩) (k : Nat) (hk : k < ts.length) :
    w.cell? ⟨b, off + k * 4, none⟩ = some (.int .i64 ts[k].a) ∧ w.cell? ⟨b, off + k * 4 + 1, none⟩ = some (.int .i64 ts[k].b) ∧
    w.cell? ⟨b, off + k * 4 + 2, none⟩ = some (.int .i64 ts[k].c) ∧ w.cell? ⟨b, off + k * 4 + 3, none⟩ = some (.int .i64 ts[k].d) := by
  obtain ⟨b', off', hA', _, h4⟩ := h k hk
  rw [hA] at hA'
  injection hA' with hA'
  injection hA' with e1 e2
  subst e1 e2
  exact h4
end Go.Proofs.Ytfkmophmiiehlaa
namespace Go.Proofs.Ytfkmophmiiehlaa
open Go.RowKit
theorem pigeon : ∀ (N : Nat) (f : Nat → Int) (m : Nat), (∀ a, a < m → 0 ≤ f a ∧ f a < N) → (∀ a b, a < b → b < m → f a ≠ f b) → m ≤ N
  | 0, f, m, h, _ => by
    rcases Nat.eq_zero_or_pos m with h0 | h0
    · omega
    · have := h 0 h0; omega
  | N + 1, f, m, h, hd => by
    by_cases hx : ∃ a, a < m ∧ f a = N
    · obtain ⟨a0, ha0, e0⟩ := hx
      have h2 : m - 1 ≤ N := by
        refine pigeon N (fun a => if a < a0 then f a else f (a + 1)) (m - 1) (fun a ha => ?_) (fun a b hab hb => ?_)
        · show 0 ≤ (if a < a0 then f a else f (a + 1)) ∧ (if a < a0 then f a else f (a + 1)) < (N : Int)
          split
          · rename_i hh
            have h1 := h a (by omega)
            have h3 := hd a a0 hh ha0
            omega
          · rename_i hh
            have h1 := h (a + 1) (by omega)
            have h3 := hd a0 (a + 1) (by omega) (by omega)
            omega
        · show (if a < a0 then f a else f (a + 1)) ≠ (if b < a0 then f b else f (b + 1))
          split <;> split
          · exact hd a b hab (by omega)
          · exact hd a (b + 1) (by omega) (by omega)
          · omega
          · exact hd (a + 1) (b + 1) (by omega) (by omega)
      omega
    · have : m ≤ N := by
        refine pigeon N f m (fun a ha => ?_) hd
        have h1 := h a ha
        have h2 : f a ≠ N := fun e => hx ⟨a, ha, e⟩
        omega
      omega

end Go.Proofs.Ytfkmophmiiehlaa
