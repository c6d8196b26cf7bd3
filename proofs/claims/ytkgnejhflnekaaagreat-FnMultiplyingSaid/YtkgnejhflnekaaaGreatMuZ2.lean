/- Contracts and lemmas for the statements of this seat, written for this claim; each theorem states its own conditions. -/
import Derived.Deep.Cut
import Derived.Deep.CutBlock
import Derived.Deep.DeepCutAuto
import Derived.Test.YtkgnejhflnekaaaGreatMuY9
import Derived.Test.YtkgnejhflnekaaaGreatMuK3
import Derived.Test.YtkgnejhflnekaaaGreatMuCp
import Derived.Test.YtkgnejhflnekaaaGreatMuMk
import Derived.Test.YtkgnejhflnekaaaGreatMuTg
import Derived.Test.YtkgnejhflnekaaaGreatMuB
set_option linter.unusedVariables false
set_option linter.unusedSimpArgs false
namespace Go.Proofs.YtkgnejhflnekaaaGreat
open Go.RowKit
/-- a set and a list of lists that a draw hands out -/
def SetRows (w w' : World) (ts : List T4) (S : Option Addr) (L : List (List Int)) (P : Option Addr) : Prop :=
  TileCells w' S ts ∧ ts.length ≤ 101 ∧ RowsC w' P L ∧ CapsC w' P L ∧ L.length ≤ 101 ∧ Short 4 L ∧ Below w.heap.size w w'
/-- where a draw of a set and a list of blocks stands, behind l09With -/
structure W9 (w wr : World) (g : Nat) (code : List Int) (c : Int) (ts : List T4) (A : Option Addr) (cx gT : Nat) (L : List (List Int)) (P : Option Addr) (bc : List Value) : Prop where
  res : Blk wr w.heap.size [.int .i64 0, .slice none 0 0] 26
  box : Blk wr gT bc 26
  own : OwnT wr (g + 1) (.slice A ts.length cx) ts
  rws : RowsN wr (g + 1) P L
  src : Src wr g code
  sub : Below w.heap.size w wr
  hgT : g < gT
  hg : w.heap.size < g
  lt : ts.length ≤ 101
  ll : L.length ≤ 101
  sh : Short 4 L
theorem W9.grow {w wr W : World} {g : Nat} {code : List Int} {c : Int} {ts : List T4} {A : Option Addr} {cx gT : Nat} {L : List (List Int)} {P : Option Addr} {bc : List Value} (h : W9 w wr g code c ts A cx gT L P bc) (hS : Src W g code) (hG : wr.grownBy W (some g)) : W9 w W g code c ts A cx gT L P bc :=
  ⟨h.res.kept1 hG (by have := h.hg; intro e; injection e with e; omega), h.box.kept1 hG (by have := h.hgT; intro e; injection e with e; omega), h.own.grew hG (by omega), h.rws.grew hG (by omega), hS, below_src h.sub hG (by have := h.hg; omega), h.hgT, h.hg, h.lt, h.ll, h.sh⟩
theorem W9.below {w wr W : World} {g : Nat} {code : List Int} {c : Int} {ts : List T4} {A : Option Addr} {cx gT : Nat} {L : List (List Int)} {P : Option Addr} {bc : List Value} (h : W9 w wr g code c ts A cx gT L P bc) (hb : Below wr.heap.size wr W) : W9 w W g code c ts A cx gT L P bc :=
  h.grow (h.src.below hb) (grown_below hb _)
theorem W9.fin {w wr : World} {g : Nat} {code : List Int} {c : Int} {ts : List T4} {A : Option Addr} {cx gT : Nat} {L : List (List Int)} {P : Option Addr} {bc : List Value} (h : W9 w wr g code c ts A cx gT L P bc) (x y : Value) :
    SetRows w ((wr.setCell ⟨w.heap.size, 0, none⟩ x).setCell ⟨w.heap.size, 1, none⟩ y) ts A L P := by
  have hg := h.hg
  have h1 := (h.own.other w.heap.size 0 (by omega) x).other w.heap.size 1 (by omega) y
  have h2 := (h.rws.store (b := w.heap.size) (o := 0) (v := x) (by omega)).store (b := w.heap.size) (o := 1) (v := y) (by omega)
  exact ⟨OwnT.cells h1, h.lt, h2.rows, h2.caps, h.ll, h.sh, (h.sub.setCell (Nat.le_refl _) _).setCell (Nat.le_refl _) _⟩
theorem W9.turn {w wr : World} {g : Nat} {code : List Int} {c c' : Int} {ts ts' : List T4} {A A' : Option Addr} {cx cx' gT : Nat} {L L' : List (List Int)} {P P' : Option Addr} {bc : List Value} (h : W9 w wr g code c ts A cx gT L P bc) (hO : OwnT wr (g + 1) (.slice A' ts'.length cx') ts') (hR : RowsN wr (g + 1) P' L') (h1 : ts'.length ≤ 101) (h2 : L'.length ≤ 101) (h3 : Short 4 L') : W9 w wr g code c' ts' A' cx' gT L' P' bc :=
  ⟨h.res, h.box, hO, hR, h.src, h.sub, h.hgT, h.hg, h1, h2, h3⟩
theorem W9.start {w w0 w1 w2 : World} {g : Nat} {code : List Int} {c : Int} {ts : List T4} {A : Option Addr} {cx : Nat} {L : List (List Int)} {P : Option Addr} (hw0 : w0 = w.alloc (.cells #[.int .i64 0, .slice none 0 0] 26))
    (hb : Below w0.heap.size w0 w1) (hg : w0.heap.size ≤ g) (hO : OwnT w2 (g + 1) (.slice A ts.length cx) ts) (hR : RowsN w2 (g + 1) P L) (hS : Src w2 g code) (hG : w1.grownBy w2 (some g)) (h1 : ts.length ≤ 101) (h2 : L.length ≤ 101) (h3 : Short 4 L) :
    W9 w (w2.alloc (.cells #[.int .i64 c, .slice A ts.length cx] 26)) g code c ts A cx w2.heap.size L P [.int .i64 c, .slice A ts.length cx] := by
  have hz : w0.heap.size = w.heap.size + 1 := by rw [hw0]; simp
  have hr : Blk w0 w.heap.size [.int .i64 0, .slice none 0 0] 26 := by rw [hw0]; exact Blk.newA _ _ _
  have hbw : Below w.heap.size w w0 := by rw [hw0]; exact below_al (Below.refl _ _)
  have h4 : Below w.heap.size w w2 := below_src (hbw.trans (hb.mono (by omega))) hG (by omega)
  exact ⟨((hr.under hb).kept1 hG (by intro e; injection e with e; omega)).alloc _, Blk.newA _ _ _, hO.alloc _, hR.below (below_al (Below.refl _ _)), hS.alloc _, below_al h4, hS.lt, by omega, h1, h2, h3⟩
end Go.Proofs.YtkgnejhflnekaaaGreat
namespace Go.Proofs.YtkgnejhflnekaaaGreat
open Go.RowKit
theorem OwnIX.appX {w w1 : World} {B N0 : Nat} {v : Value} {L : List (List Int)} (h : OwnIX w B (fun k => N0 ≤ k) v L) {r : Option Nat} (hg : w.grownBy w1 r) (hr : ∀ k, r = some k → N0 ≤ k) : OwnIX w1 B (fun k => N0 ≤ k) v L :=
  h.same fun k _ hk hx => hg.block k hk (fun e => hx (hr k e.symm))
/-- where l01DrawRows stands -/
structure DR (w wr : World) (g : Nat) (code : List Int) (c : Int) (n : Nat) (A : Option Addr) (cx : Nat) : Prop where
  box : Blk wr w.heap.size [.int .i64 c, .slice A n cx] 26
  src : Src wr g code
  sub : w.grownBy wr (some g)
  hg : g < w.heap.size
  sz : w.heap.size + 1 ≤ wr.heap.size
theorem DR.app {w wr W : World} {g : Nat} {code : List Int} {c : Int} {n : Nat} {A : Option Addr} {cx : Nat} (h : DR w wr g code c n A cx) {r : Option Nat} (hG : wr.grownBy W r) (hr : ∀ k, r = some k → w.heap.size + 1 ≤ k) : DR w W g code c n A cx :=
  ⟨h.box.kept1 hG (fun e => by have := hr _ (by first | exact e | exact e.symm); omega), h.src.app hG (fun k hk => by have := hr k hk; have := h.hg; omega), grown_app h.sub hG (fun k hk => by have := hr k hk; omega), h.hg, Nat.le_trans h.sz hG.size⟩
theorem DR.grow {w wr W : World} {g : Nat} {code : List Int} {c : Int} {n : Nat} {A : Option Addr} {cx : Nat} (h : DR w wr g code c n A cx) (hS : Src W g code) (hG : wr.grownBy W (some g)) : DR w W g code c n A cx :=
  ⟨h.box.kept1 hG (by have := h.hg; intro e; injection e with e; omega), hS, h.sub.trans hG, h.hg, Nat.le_trans h.sz hG.size⟩
theorem DR.below {w wr W : World} {g : Nat} {code : List Int} {c : Int} {n : Nat} {A : Option Addr} {cx : Nat} (h : DR w wr g code c n A cx) (hb : Below wr.heap.size wr W) : DR w W g code c n A cx :=
  h.grow (h.src.below hb) (grown_below hb _)
theorem DR.store {w wr : World} {g : Nat} {code : List Int} {c : Int} {n : Nat} {A : Option Addr} {cx : Nat} (h : DR w wr g code c n A cx) (b o : Nat) (v : Value) (hb : w.heap.size + 1 ≤ b) : DR w (wr.setCell ⟨b, o, none⟩ v) g code c n A cx :=
  ⟨h.box.other (a := ⟨b, o, none⟩) (by show w.heap.size ≠ b; omega) _, h.src.store (by have := h.hg; show g < b; omega), grown_store h.sub (by show w.heap.size ≤ b; omega), h.hg, by simpa [World.setCell] using h.sz⟩
def RowIn (n m : Nat) (row : List Int) : Prop := row.length = m ∧ ∀ x ∈ row, 0 ≤ x ∧ x < (n : Int)
theorem RowIn.at_ {n m : Nat} {row : List Int} (h : RowIn n m row) {j : Nat} (hj : j < row.length) : ∃ q : Nat, row[j] = (q : Int) ∧ q < n := by
  obtain ⟨a, b⟩ := h.2 _ (List.getElem_mem hj)
  exact ⟨row[j].toNat, by omega, by omega⟩
def DRows (w : World) (g : Nat) (code : List Int) (e : Ending) (w' : World) : Prop :=
  ∃ v L, e = .returned v ∧ OwnII w' (w.heap.size + 1) v L ∧ L.length ≤ 5 ∧ Short 4 L ∧ Src w' g code ∧ w.grownBy w' (some g)
end Go.Proofs.YtkgnejhflnekaaaGreat
