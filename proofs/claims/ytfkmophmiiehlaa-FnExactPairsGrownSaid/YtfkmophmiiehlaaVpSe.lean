/- Contracts and lemmas for the statements of this seat, written for this claim; each theorem states its own conditions. -/
import Derived.Test.YtfkmophmiiehlaaVpL1
set_option linter.unusedVariables false
set_option linter.unusedSimpArgs false
namespace Go.Proofs.Ytfkmophmiiehlaa
open Go.RowKit
/-- a set as it lies in memory -/
structure SD where
  c : Int
  ts : List T4
  A : Option Addr
  cx : Nat
def SD.v (s : SD) : Value := .slice s.A s.ts.length s.cx
def SD.ok (w : World) (s : SD) : Prop := TileCells w s.A s.ts ∧ s.ts.length ≤ 1000000000
theorem SD.ok.below {w w1 : World} {s : SD} (h : s.ok w) (hb : Below w.heap.size w w1) : s.ok w1 := ⟨h.1.below hb, h.2⟩
def SetsCells (w : World) (A : Option Addr) (l : List SD) : Prop :=
  ∀ k (h : k < l.length), ∃ b off, A = some ⟨b, off, none⟩ ∧ b < w.heap.size ∧ w.cell? ⟨b, off + k * 2, none⟩ = some (.int .i64 l[k].c) ∧ w.cell? ⟨b, off + k * 2 + 1, none⟩ = some (.slice l[k].A l[k].ts.length l[k].cx)
theorem SetsCells.below {w w1 : World} {A : Option Addr} {l : List SD} (h : SetsCells w A l) (hb : Below w.heap.size w w1) : SetsCells w1 A l := by
  intro k hk
  obtain ⟨b, off, hA, hlt, h0, h1⟩ := h k hk
  exact ⟨b, off, hA, Nat.lt_of_lt_of_le hlt hb.size, (hb.cell (p := ⟨b, _, none⟩) hlt).trans h0, (hb.cell (p := ⟨b, _, none⟩) hlt).trans h1⟩
theorem setsCells2 {w : World} {b : Nat} {s t : SD} (hlt : b < w.heap.size) (h0 : w.cell? ⟨b, 0, none⟩ = some (.int .i64 s.c)) (h1 : w.cell? ⟨b, 1, none⟩ = some (.slice s.A s.ts.length s.cx))
    (h2 : w.cell? ⟨b, 2, none⟩ = some (.int .i64 t.c)) (h3 : w.cell? ⟨b, 3, none⟩ = some (.slice t.A t.ts.length t.cx)) : SetsCells w (some ⟨b, 0, none⟩) [s, t] := by
  intro k hk
  simp only [List.length_cons, List.length_nil] at hk
  rcases k with _ | _ | k
  · exact ⟨b, 0, rfl, hlt, h0, h1⟩
  · exact ⟨b, 0, rfl, hlt, h2, h3⟩
  · omega
def PredS (w : World) (k : FuncId) (caps : Array Value) (p : SD → Bool) (l : List SD) : Prop :=
  ∀ s ∈ l, ∀ w1, Below w.heap.size w w1 → Calls Try.prog k (#[.agg #[.int .i64 s.c, .slice s.A s.ts.length s.cx]] ++ caps) w1 fun e w2 => e = .returned (.bool (p s)) ∧ Below w1.heap.size w1 w2
def idxS (p : SD → Bool) (l : List SD) : Int := match l.findIdx? p with | some i => (i : Int) | none => -1
theorem idxS_none {p : SD → Bool} {xs : List SD} (h : ∀ j (h : j < xs.length), p xs[j] = false) : idxS p xs = -1 := by
  have : xs.findIdx? p = none := by
    rw [List.findIdx?_eq_none_iff]
    intro x hx
    obtain ⟨j, hj, rfl⟩ := List.getElem_of_mem hx
    exact h j hj
  simp [idxS, this]
theorem idxS_some {p : SD → Bool} {xs : List SD} {i : Nat} (hi : i < xs.length) (h : ∀ j (h : j < xs.length), j < i → p xs[j] = false) (hp : p xs[i] = true) : idxS p xs = i := by
  have : xs.findIdx? p = some i := by
    rw [List.findIdx?_eq_some_iff_getElem]
    exact ⟨hi, hp, fun j hj => by simp [h j (by omega) hj]⟩
  simp [idxS, this]
end Go.Proofs.Ytfkmophmiiehlaa
