/- Contracts and lemmas for the statements of this seat, written for this claim; each theorem states its own conditions. -/
import Derived.Test.YtkgnejhflnekaaaGreatMuL1
import Derived.Test.YtkgnejhflnekaaaGreatMuSl
import Derived.Test.YtkgnejhflnekaaaGreatMuB
set_option linter.unusedVariables false
set_option linter.unusedSimpArgs false
namespace Go.Proofs.YtkgnejhflnekaaaGreat
open Go.RowKit
/-- a set as it lies in memory -/
structure SD where
  c : Int
  ts : List T4
  A : Option Addr
  cx : Nat
def SD.v (s : SD) : Value := .slice s.A s.ts.length s.cx
def SD.ok (w : World) (s : SD) : Prop := TileCells w s.A s.ts ∧ s.ts.length ≤ 1000000000
theorem SD.ok.below {w w1 : World} {s : SD} (h : s.ok w) (hb : Below w.heap.size w w1) : s.ok w1 := ⟨h.1.below hb, h.2⟩
def SetsCells (w : World) (A : Option Addr) (l : List SD) : Prop :=
  ∀ k (h : k < l.length), ∃ b off, A = some ⟨b, off, none⟩ ∧ b < w.heap.size ∧ w.cell? ⟨b, off + k * 2, none⟩ = some (.int .i64 l[k].c) ∧ w.cell? ⟨b, off + k * 2 + 1, none⟩ = some (.slice l[k].A l[k].ts.length l[k].cx)
theorem SetsCells.below {w w1 : World} {A : Option Addr} {l : List SD} (h : SetsCells w A l) (hb : Below w.heap.size w w1) : SetsCells w1 A l := by
  intro k hk
  obtain ⟨b, off, hA, hlt, h0, h1⟩ := h k hk
  exact ⟨b, off, hA, Nat.lt_of_lt_of_le hlt hb.size, (hb.cell (p := ⟨b, _, none⟩) hlt).trans h0, (hb.cell (p := ⟨b, _, none⟩) hlt).trans h1⟩
theorem setsCells2 {w : World} {b : Nat} {s t : SD} (hlt : b < w.heap.size) (h0 : w.cell? ⟨b, 0, none⟩ = some (.int .i64 s.c)) (h1 : w.cell? ⟨b, 1, none⟩ = some (.slice s.A s.ts.length s.cx))
    (h2 : w.cell? ⟨b, 2, none⟩ = some (.int .i64 t.c)) (h3 : w.cell? ⟨b, 3, none⟩ = some (.slice t.A t.ts.length t.cx)) : SetsCells w (some ⟨b, 0, none⟩) [s, t] := by
  intro k hk
  simp only [List.length_cons, List.length_nil] at hk
  rcases k with _ | _ | k
  · exact ⟨b, 0, rfl, hlt, h0, h1⟩
  · exact ⟨b, 0, rfl, hlt, h2, h3⟩
  · omega
def PredS (w : World) (k : FuncId) (caps : Array Value) (p : SD → Bool) (l : List SD) : Prop :=
  ∀ s ∈ l, ∀ w1, Below w.heap.size w w1 → Calls Tryz.prog k (#[.agg #[.int .i64 s.c, .slice s.A s.ts.length s.cx]] ++ caps) w1 fun e w2 => e = .returned (.bool (p s)) ∧ Below w1.heap.size w1 w2
def idxS (p : SD → Bool) (l : List SD) : Int := match l.findIdx? p with | some i => (i : Int) | none => -1
theorem idxS_none {p : SD → Bool} {xs : List SD} (h : ∀ j (h : j < xs.length), p xs[j] = false) : idxS p xs = -1 := by
  have : xs.findIdx? p = none := by
    rw [List.findIdx?_eq_none_iff]
    intro x hx
    obtain ⟨j, hj, rfl⟩ := List.getElem_of_mem hx
    exact h j hj
  simp [idxS, this]
theorem idxS_some {p : SD → Bool} {xs : List SD} {i : Nat} (hi : i < xs.length) (h : ∀ j (h : j < xs.length), j < i → p xs[j] = false) (hp : p xs[i] = true) : idxS p xs = i := by
  have : xs.findIdx? p = some i := by
    rw [List.findIdx?_eq_some_iff_getElem]
    exact ⟨hi, hp, fun j hj => by simp [h j (by omega) hj]⟩
  simp [idxS, this]
end Go.Proofs.YtkgnejhflnekaaaGreat
namespace Go.Proofs.YtkgnejhflnekaaaGreat
open Go.RowKit
theorem OwnI.at_ {w : World} {B n cx : Nat} {A : Option Addr} {xs : List Int} (h : OwnI w B (.slice A n cx) xs) (j : Nat) (hj : j < xs.length) :
    ∃ g, A = some ⟨g, 0, none⟩ ∧ B ≤ g ∧ g < w.heap.size ∧ w.cell? ⟨g, j, none⟩ = some (.int .i64 xs[j]) ∧ w.frozen? ⟨g, j, none⟩ = false := by
  have h0 := h
  obtain ⟨h1, h2⟩ := h
  rcases h2 with ⟨e1, e2⟩ | ⟨g, cap, cur, e1, e2, e3, _⟩
  · omega
  · injection e1 with a1 a2 a3
    subst a1 a2 a3
    have hc := World.ownsRow.cellAt h0 j (by omega)
    refine ⟨g, rfl, e2, (Array.getElem?_eq_some_iff.1 e3).1, ?_, World.ownsRow.frozenAt h0 j⟩
    rw [hc]; simp [ints, hj]
theorem OwnI.set {w : World} {B n cx g : Nat} {xs : List Int} (h : OwnI w B (.slice (some ⟨g, 0, none⟩) n cx) xs) (j : Nat) (y : Int) :
    OwnI (w.setCell ⟨g, j, none⟩ (.int .i64 y)) B (.slice (some ⟨g, 0, none⟩) n cx) (xs.set j y) ∧ w.grownBy (w.setCell ⟨g, j, none⟩ (.int .i64 y)) (some g) := by
  have h0 := h
  obtain ⟨h1, h2⟩ := h
  rcases h2 with ⟨e1, e2⟩ | ⟨g', cap, cur, e1, _⟩
  · cases e1
  · injection e1 with a1 a2 a3
    subst a2
    obtain ⟨s1, s2⟩ := World.ownsRow.stored h0 j (.int .i64 y)
    refine ⟨?_, s2⟩
    unfold OwnI
    rw [ints_set] at s1
    rw [List.length_set]
    exact s1
theorem OwnI.len {w : World} {B n cx : Nat} {A : Option Addr} {xs : List Int} (h : OwnI w B (.slice A n cx) xs) : n = xs.length := by
  obtain ⟨h1, h2⟩ := h
  rcases h2 with ⟨e1, e2⟩ | ⟨g', cap, cur, e1, _⟩
  · injection e1 with a1 a2 a3; omega
  · injection e1 with a1 a2 a3
theorem OwnI.cells {w : World} {B n cx : Nat} {A : Option Addr} {xs : List Int} (h : OwnI w B (.slice A n cx) xs) : Cells w A (ints xs) := by
  obtain ⟨A', cx', e, hc, _⟩ := h.shape
  injection e with a1 a2 a3
  subst a1
  exact hc
theorem Blk.own {w : World} {b B : Nat} {xs : List Int} (h : Blk w b (ints xs) 2) (hB : B ≤ b) (hl : xs.length ≤ 9223372036854775807) : OwnI w B (.slice (some ⟨b, 0, none⟩) xs.length xs.length) xs := by
  refine ⟨by rw [ints_length, Nat.mul_one], .inr ⟨b, xs.length, (ints xs).toArray, rfl, hB, h, Nat.le_refl _, by simpa [maxLen] using hl, by simp [ints_length], ?_⟩⟩
  rw [Nat.mul_one]
  exact List.take_of_length_le (by rw [ints_length]; exact Nat.le_refl _)
theorem OwnI.grown {w w1 : World} {B : Nat} {v : Value} {xs : List Int} {row : Option Nat} (h : OwnI w B v xs) (hg : w.grownBy w1 row) (hne : v.ownBlock = none ∨ v.ownBlock ≠ row) : OwnI w1 B v xs := World.ownsRow.kept h hg hne
/-- a pair of numbers, new, in a slice -/
theorem OwnI.two {w : World} {B : Nat} {v : Value} {x y : Int} (h : OwnI w B v [x, y]) : ∃ g cx, v = .slice (some ⟨g, 0, none⟩) 2 cx ∧ B ≤ g ∧ g < w.heap.size ∧ w.cell? ⟨g, 0, none⟩ = some (.int .i64 x) ∧ w.cell? ⟨g, 1, none⟩ = some (.int .i64 y) := by
  obtain ⟨A, cx, rfl, _, _⟩ := h.shape
  obtain ⟨g, rfl, h1, h2, h3, _⟩ := h.at_ 0 (by simp)
  obtain ⟨g', e, _, _, h4, _⟩ := h.at_ 1 (by simp)
  injection e with e; injection e with e; subst e
  exact ⟨g, cx, rfl, h1, h2, h3, h4⟩
theorem own_far {w1 w : World} {v u : Value} {xs : List Int} (hv : ∀ k, v.ownBlock = some k → k < w.heap.size) (hu : OwnI w1 w.heap.size u xs) (hx : 0 < xs.length) : v.ownBlock ≠ u.ownBlock ∧ u.ownBlock ≠ v.ownBlock := by
  obtain ⟨A, cx, rfl, _, _⟩ := hu.shape
  obtain ⟨g, rfl, h1, _⟩ := hu.at_ 0 hx
  have : v.ownBlock ≠ some g := fun e => by have := hv g e; omega
  exact ⟨this, fun e => this e.symm⟩
theorem own_apart {w1 w2 : World} {B : Nat} {v u : Value} {xs ys : List Int} (hv : OwnI w1 B v xs) (hu : OwnI w2 w1.heap.size u ys) : (v.ownBlock = none ∨ v.ownBlock ≠ u.ownBlock) ∧ (u.ownBlock = none ∨ u.ownBlock ≠ v.ownBlock) := by
  cases e1 : v.ownBlock with
  | none => exact ⟨.inl rfl, by cases e2 : u.ownBlock with | none => exact .inl rfl | some k => exact .inr (by simp)⟩
  | some j =>
    cases e2 : u.ownBlock with
    | none => exact ⟨.inr (by simp), .inl rfl⟩
    | some k =>
      have h1 := (World.ownsRow.lt hv j e1).2
      have h2 := (World.ownsRow.lt hu k e2).1
      exact ⟨.inr (by simp; omega), .inr (by simp; omega)⟩
theorem apart_symm {v u : Value} (h : v.ownBlock = none ∨ v.ownBlock ≠ u.ownBlock) : u.ownBlock = none ∨ u.ownBlock ≠ v.ownBlock := by
  cases e2 : u.ownBlock with
  | none => exact .inl rfl
  | some k => rcases h with h | h
              · exact .inr (by rw [h]; simp)
              · exact .inr (by rw [e2] at h; exact fun e => h e.symm)
/-- what a call gives back that returns two new lists of numbers, apart from each other, and a code -/
def RetIIC (w : World) (xs ys : List Int) (c : Int) (e : Ending) (w' : World) : Prop :=
  ∃ v u, e = .returned (.tuple #[v, u, .int .i64 c]) ∧ OwnI w' w.heap.size v xs ∧ OwnI w' w.heap.size u ys ∧ (v.ownBlock = none ∨ v.ownBlock ≠ u.ownBlock) ∧ Below w.heap.size w w'
theorem ret_c3 {v u : Value} {a b : Int} (h : a = b) : Ending.returned (.tuple #[v, u, .int .i64 a]) = .returned (.tuple #[v, u, .int .i64 b]) := by rw [h]
end Go.Proofs.YtkgnejhflnekaaaGreat
