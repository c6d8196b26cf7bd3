/- Contracts and lemmas for the statements of this seat, written for this claim; each theorem states its own conditions. -/
import Derived.BigQuiet
import Derived.Test.YtldgapmabinflaaPmBy
import Derived.Test.YtldgapmabinflaaPmAp
import Derived.Test.YtldgapmabinflaaPmHd
set_option linter.unusedVariables false
set_option linter.unusedSimpArgs false
namespace Go.Proofs.Ytldgapmabinflaa
open Go.RowKit
/-- a column: its north colour, the codes of its west and its east word, and its south colour -/
structure Col where
  n : Int
  w : Int
  e : Int
  s : Int
  deriving DecidableEq, Inhabited
def kid (c : Int) (first : Bool) (k : Col) (t : T4) : Col := ⟨if first = true then t.b else k.n, k.w * c + t.a, k.e * c + t.c, t.d⟩
def fits (first : Bool) (k : Col) (t : T4) : Bool := first || decide (t.b = k.s)
def kids (c : Int) (ts : List T4) (first : Bool) (k : Col) : List Col := (ts.filter (fits first k)).map (kid c first k)
/-- the columns that begin with k and go on over m tiles more, of h -/
def dfs (c : Int) (ts : List T4) (h : Nat) : Nat → Col → List Col
  | 0, k => [k]
  | m + 1, k => (kids c ts (decide (m + 1 = h)) k).flatMap (dfs c ts h m)
theorem kids_succ (c : Int) (ts : List T4) (first : Bool) (k : Col) (j : Nat) (hj : j < ts.length) :
    kids c (ts.take (j + 1)) first k = kids c (ts.take j) first k ++ if fits first k ts[j] = true then [kid c first k ts[j]] else [] := by
  unfold kids
  rw [List.take_succ_eq_append_getElem hj, List.filter_append, List.map_append]
  congr 1
  by_cases h : fits first k ts[j] = true <;> simp [h]
def dfsTo (c : Int) (ts : List T4) (h m : Nat) (k : Col) (j : Nat) : List Col := (kids c (ts.take j) (decide (m + 1 = h)) k).flatMap (dfs c ts h m)
theorem dfsTo_zero (c : Int) (ts : List T4) (h m : Nat) (k : Col) : dfsTo c ts h m k 0 = [] := by simp [dfsTo, kids]
theorem dfsTo_all (c : Int) (ts : List T4) (h m : Nat) (k : Col) : dfsTo c ts h m k ts.length = dfs c ts h (m + 1) k := by simp [dfsTo, dfs]
theorem dfsTo_succ (c : Int) (ts : List T4) (h m : Nat) (k : Col) (j : Nat) (hj : j < ts.length) :
    dfsTo c ts h m k (j + 1) = dfsTo c ts h m k j ++ if fits (decide (m + 1 = h)) k ts[j] = true then dfs c ts h m (kid c (decide (m + 1 = h)) k ts[j]) else [] := by
  unfold dfsTo
  rw [kids_succ _ _ _ _ _ hj, List.flatMap_append]
  congr 1
  by_cases h : fits (decide (m + 1 = h)) k ts[j] = true <;> simp [h]
theorem dfsTo_le (c : Int) (ts : List T4) (h m : Nat) (k : Col) : ∀ (j d : Nat), j + d = ts.length → (dfsTo c ts h m k j).length ≤ (dfs c ts h (m + 1) k).length
  | j, 0, hd => by rw [← dfsTo_all]; have : j = ts.length := by omega
                   subst this; exact Nat.le_refl _
  | j, d + 1, hd => by
    refine Nat.le_trans ?_ (dfsTo_le c ts h m k (j + 1) d (by omega))
    rw [dfsTo_succ _ _ _ _ _ _ (by omega), List.length_append]
    exact Nat.le_add_right _ _
theorem dfs_len (c : Int) (ts : List T4) (h : Nat) : ∀ (m : Nat) (k : Col), (dfs c ts h m k).length ≤ ts.length ^ m
  | 0, k => by simp [dfs]
  | m + 1, k => by
    have hk : (kids c ts (decide (m + 1 = h)) k).length ≤ ts.length := by
      unfold kids; rw [List.length_map]; exact List.length_filter_le ..
    have hf : ∀ l : List Col, (l.flatMap (dfs c ts h m)).length ≤ l.length * ts.length ^ m := by
      intro l
      induction l with
      | nil => simp
      | cons a l ih =>
        rw [List.flatMap_cons, List.length_append, List.length_cons, Nat.add_mul, Nat.one_mul]
        have := dfs_len c ts h m a
        omega
    show ((kids c ts (decide (m + 1 = h)) k).flatMap (dfs c ts h m)).length ≤ _
    refine Nat.le_trans (hf _) ?_
    rw [Nat.pow_succ, Nat.mul_comm (ts.length ^ m)]
    exact Nat.mul_le_mul_right _ hk
theorem grown_set0 (w : World) (g j : Nat) (v : Value) : w.grownBy (w.setCell ⟨g, j, none⟩ v) (some g) :=
  ⟨rfl, rfl, rfl, by simp [World.setCell], fun k _ hne => Below.heap_setCell w ⟨g, j, none⟩ v k (fun e => hne (by rw [e]))⟩
structure FrB (B g : Nat) (w w' : World) : Prop where
  os : w'.os = w.os
  tape : w'.tape = w.tape
  output : w'.output = w.output
  size : w.heap.size ≤ w'.heap.size
  block : ∀ k, k < B → k ≠ g → w'.heap[k]? = w.heap[k]?
theorem FrB.refl (B g : Nat) (w : World) : FrB B g w w := ⟨rfl, rfl, rfl, Nat.le_refl _, fun _ _ _ => rfl⟩
theorem FrB.trans {B g : Nat} {w w1 w2 : World} (h : FrB B g w w1) (k : FrB B g w1 w2) : FrB B g w w2 :=
  ⟨k.os.trans h.os, k.tape.trans h.tape, k.output.trans h.output, Nat.le_trans h.size k.size, fun j h1 h2 => (k.block j h1 h2).trans (h.block j h1 h2)⟩
theorem FrB.of_below {B g : Nat} {w w1 : World} (h : Below w.heap.size w w1) (hB : B ≤ w.heap.size) : FrB B g w w1 :=
  ⟨h.os, h.tape, h.output, h.size, fun k hk _ => h.block k (Nat.lt_of_lt_of_le hk hB)⟩
theorem FrB.alloc {B g : Nat} {w w1 : World} (h : FrB B g w w1) (hB : B ≤ w.heap.size) (o : Obj) : FrB B g w (w1.alloc o) :=
  h.trans (FrB.of_below (below_al (Below.refl _ _)) (Nat.le_trans hB h.size))
theorem FrB.drew {B g : Nat} {w w1 : World} (h : FrB B g w w1) : FrB B g w w1.drew := ⟨h.os, h.tape, h.output, h.size, h.block⟩
theorem FrB.drewN {B g : Nat} {w w1 : World} (h : FrB B g w w1) (n : Nat) : FrB B g w (w1.drewN n) := ⟨h.os, h.tape, h.output, h.size, h.block⟩
theorem FrB.set {B g : Nat} {w w1 : World} (h : FrB B g w w1) (j : Nat) (v : Value) : FrB B g w (w1.setCell ⟨g, j, none⟩ v) :=
  ⟨h.os, h.tape, h.output, by have := h.size; simp [World.setCell]; omega, fun k h1 h2 => (Below.heap_setCell w1 ⟨g, j, none⟩ v k h2).trans (h.block k h1 h2)⟩
theorem FrB.setFar {B g a : Nat} {w w1 : World} (h : FrB B g w w1) (ha : B ≤ a) (j : Nat) (v : Value) : FrB B g w (w1.setCell ⟨a, j, none⟩ v) :=
  ⟨h.os, h.tape, h.output, by have := h.size; simp [World.setCell]; omega, fun k h1 h2 => (Below.heap_setCell w1 ⟨a, j, none⟩ v k (by dsimp only; omega)).trans (h.block k h1 h2)⟩
theorem FrB.grown {B g : Nat} {w w1 w2 : World} {v : Value} (h : FrB B g w w1) (hB : B ≤ w.heap.size) (hg : w1.grownBy w2 v.ownBlock) (hv : ∀ k, v.ownBlock = some k → B ≤ k) : FrB B g w w2 :=
  ⟨hg.os.trans h.os, hg.tape.trans h.tape, hg.output.trans h.output, Nat.le_trans h.size hg.size, fun k h1 h2 => (hg.block k (Nat.lt_of_lt_of_le (Nat.lt_of_lt_of_le h1 hB) h.size) (fun e => by have := hv k e.symm; omega)).trans (h.block k h1 h2)⟩
theorem FrB.cell {B g b j : Nat} {w w' : World} {v : Value} (h : FrB B g w w') (hb : b < B) (hn : b ≠ g) (hc : w.cell? ⟨b, j, none⟩ = some v) : w'.cell? ⟨b, j, none⟩ = some v :=
  (World.cell?_of_block (a := ⟨b, j, none⟩) (h.block b hb hn)).trans hc
theorem FrB.tiles {B g : Nat} {w w' : World} {A : Option Addr} {ts : List T4} (h : FrB B g w w') (hT : TileCells w A ts) (hA : 0 < ts.length → ∀ b off, A = some ⟨b, off, none⟩ → b < B ∧ b ≠ g) : TileCells w' A ts := by
  intro k hk
  obtain ⟨b, off, e, hlt, h0, h1, h2, h3⟩ := hT k hk
  obtain ⟨i1, i2⟩ := hA (by omega) b off e
  exact ⟨b, off, e, Nat.lt_of_lt_of_le hlt h.size, h.cell i1 i2 h0, h.cell i1 i2 h1, h.cell i1 i2 h2, h.cell i1 i2 h3⟩
end Go.Proofs.Ytldgapmabinflaa
