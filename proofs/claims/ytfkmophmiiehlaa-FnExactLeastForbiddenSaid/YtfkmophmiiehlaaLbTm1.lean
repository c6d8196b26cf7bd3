/- Contracts and lemmas for the statements of this seat, written for this claim; each theorem states its own conditions. -/
import Derived.Test.YtfkmophmiiehlaaLbTl1
set_option linter.unusedVariables false
set_option linter.unusedSimpArgs false
namespace Go.Proofs.Ytfkmophmiiehlaa
open Go.RowKit
def trFV (bn bo bm bs bc be : Nat) : Value := .func (.func 114) #[] #[.pointer (some ⟨bn, 0, none⟩), .pointer (some ⟨bo, 0, none⟩), .pointer (some ⟨bm, 0, none⟩), .pointer (some ⟨bs, 0, none⟩), .pointer (some ⟨bc, 0, none⟩), .pointer (some ⟨be, 0, none⟩)]
theorem trAll (w0 : World) (g : Nat) (A : Option Addr) (tn cx : Nat) (h : Int) (AF : Option Addr) (kF : Nat) (cols : List Col) (S c n most bn bo bm bs bc be : Nat) (hn1 : 1 ≤ n) (hn : n ≤ 100) (hm : most ≤ 1000000) (hS1 : 1 ≤ S) (hS2 : S ≤ 100000) (hc : c ≤ 6) (hC : Codes S cols) (hCn : ColN c cols) (hcl : cols.length ≤ 1000000)
    (hE : TrEnv w0 g c S n most A tn cx h cols AF kF bn bm bs bc) (hbn : bn < w0.heap.size) (hbm : bm < w0.heap.size) (hbs : bs < w0.heap.size) (hbc : bc < w0.heap.size) : ∀ l, TrSpec w0 cols S c n most bn bo bm bs bc be (trFV bn bo bm bs bc be) l
  | 0 => trLeaf w0 g A tn cx h AF kF cols S c n most bn bo bm bs bc be _ hn1 hn hm hE hbn hbm
  | l + 1 => trStep w0 g A tn cx h AF kF cols S c n most bn bo bm bs bc be l hn1 hn hm hS1 hS2 hc hC hCn hcl hE hbn hbm hbs hbc (trAll w0 g A tn cx h AF kF cols S c n most bn bo bm bs bc be hn1 hn hm hS1 hS2 hc hC hCn hcl hE hbn hbm hbs hbc l)

end Go.Proofs.Ytfkmophmiiehlaa
