/- Contracts and lemmas for the statements of this seat, written for this claim; each theorem states its own conditions. -/
import Derived.Lib.LazyBuf
import Derived.Test.YtfkmophmiiehlaaVpTj1
set_option linter.unusedVariables false
set_option linter.unusedSimpArgs false
namespace Go.Proofs.Ytfkmophmiiehlaa
open Go.RowKit
/-- what the search reads and never changes -/
structure TrEnv (w0 : World) (g c S n most : Nat) (A : Option Addr) (tn cx : Nat) (h : Int) (cols : List Col) (AF : Option Addr) (kF bn bm bs bc : Nat) : Prop where
  en : w0.cell? ⟨bn, 0, none⟩ = some (.int .i64 n)
  emost : w0.cell? ⟨bm, 0, none⟩ = some (.int .i64 most)
  est : w0.cell? ⟨bs, 0, none⟩ = some (.pointer (some ⟨g, 0, none⟩))
  ecan : w0.cell? ⟨bc, 0, none⟩ = some (.slice AF (n + 1 : Nat) kF)
  strip : StripR w0 g c A tn cx h S cols
  far : RowsB w0 AF (farL S cols n)
def TrP (bo : Nat) (T : Nat → Prop) (vw : Value) (k : Nat) : Prop := k = bo ∨ T k ∨ vw.ownBlock = some k
def NowS (w : World) (P : Nat → Prop) (A : Option Addr) (xs : List Bool) : Prop := ∀ j (h : j < xs.length), ∃ b off, A = some ⟨b, off, none⟩ ∧ b < w.heap.size ∧ ¬ P b ∧ w.cell? ⟨b, off + j, none⟩ = some (.bool xs[j])
structure TrIn (w0 : World) (bo be : Nat) (FV : Value) (vw v0 : Value) (word : List Int) (outs : List (List Int)) (T : Nat → Prop) (w : World) : Prop where
  base : Below w0.heap.size w0 w
  bo0 : w0.heap.size ≤ bo
  bo1 : bo < w.heap.size
  be0 : w0.heap.size ≤ be
  be1 : be < w.heap.size
  ne : bo ≠ be
  out : w.cell? ⟨bo, 0, none⟩ = some v0
  outf : w.frozen? ⟨bo, 0, none⟩ = false
  ext : w.cell? ⟨be, 0, none⟩ = some FV
  outs : OutS w T v0 outs
  t : ∀ k, T k → w0.heap.size ≤ k ∧ k < w.heap.size ∧ k ≠ bo ∧ k ≠ be
  word : OwnI w w0.heap.size vw word
  wordn : ∀ k, vw.ownBlock = some k → k ≠ bo ∧ k ≠ be ∧ ¬ T k
def TrOut (w0 : World) (bo : Nat) (vw : Value) (word : List Int) (T : Nat → Prop) (w : World) (outs' : List (List Int)) (w' : World) : Prop :=
  ∃ v' T', w'.cell? ⟨bo, 0, none⟩ = some v' ∧ w'.frozen? ⟨bo, 0, none⟩ = false ∧ OutS w' T' v' outs' ∧ (∀ k, T' k → (T k ∨ w.heap.size ≤ k) ∧ k < w'.heap.size) ∧ OwnI w' w0.heap.size vw word
theorem TrOut.cell_ {w0 : World} {bo : Nat} {vw : Value} {word : List Int} {T : Nat → Prop} {w : World} {L : List (List Int)} {w' : World} (h : TrOut w0 bo vw word T w L w') : ∃ A' n' k', w'.cell? ⟨bo, 0, none⟩ = some (.slice A' n' k') := by
  obtain ⟨v, T', h1, h2, h3, _⟩ := h
  obtain ⟨a, b, rfl⟩ := h3.shape
  exact ⟨_, _, _, h1⟩
def TrSpec (w0 : World) (cols : List Col) (S c n most bn bo bm bs bc be : Nat) (FV : Value) (left : Nat) : Prop :=
  ∀ (word : List Int) (vw : Value) (next : List Bool) (An : Option Addr) (kn : Nat) (outs : List (List Int)) (v0 : Value) (T : Nat → Prop) (w : World), word.length + left = n → next.length = S → TrIn w0 bo be FV vw v0 word outs T w → NowS w (TrP bo T vw) An next → outs.length ≤ most →
    Calls Try.prog 114 #[vw, .slice An S kn, .pointer (some ⟨bn, 0, none⟩), .pointer (some ⟨bo, 0, none⟩), .pointer (some ⟨bm, 0, none⟩), .pointer (some ⟨bs, 0, none⟩), .pointer (some ⟨bc, 0, none⟩), .pointer (some ⟨be, 0, none⟩)] w fun e w' =>
      e = .returned (.bool (decide (outs.length + (exts S cols c left next).length ≤ most))) ∧ Fr (TrP bo T vw) w w' ∧ (∃ A' n' k', w'.cell? ⟨bo, 0, none⟩ = some (.slice A' n' k')) ∧ (outs.length + (exts S cols c left next).length ≤ most → TrOut w0 bo vw word T w (outs ++ (exts S cols c left next).map (word ++ ·)) w')
end Go.Proofs.Ytfkmophmiiehlaa
