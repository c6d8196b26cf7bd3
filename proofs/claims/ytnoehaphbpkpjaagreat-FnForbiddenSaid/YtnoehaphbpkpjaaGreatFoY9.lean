/- Contracts and lemmas for the statements of this seat, written for this claim; each theorem states its own conditions. -/
import Derived.Deep.Cut
import Derived.Deep.CutBlock
import Derived.Deep.DeepCutAuto
import Derived.Test.YtnoehaphbpkpjaaGreatFoY7
import Derived.Test.YtnoehaphbpkpjaaGreatFoJ7
import Derived.Test.YtnoehaphbpkpjaaGreatFoBy
import Derived.Test.YtnoehaphbpkpjaaGreatFoBk
import Derived.Test.YtnoehaphbpkpjaaGreatFoAdd
import Derived.Test.YtnoehaphbpkpjaaGreatFoSe
set_option linter.unusedVariables false
set_option linter.unusedSimpArgs false
namespace Go.Proofs.YtnoehaphbpkpjaaGreat
open Go.RowKit
theorem OwnII.toX {w : World} {B : Nat} {v : Value} {L : List (List Int)} (h : OwnII w B v L) : OwnIX w B (fun k => w.heap.size ≤ k) v L := by
  obtain ⟨vs, h1, h2, h3, h4⟩ := h
  have hl : vs.length = L.length := by have := h1.1; omega
  exact ⟨vs, h1, h2, h3, h4, fun k hk hx => by have := (World.ownsRow.lt h1 k hk).2; omega, fun i hi k hk hx => by have := (World.ownsRow.lt (h2 i hi (by omega)) k hk).2; omega⟩
theorem OwnIX.grew {w w1 : World} {B g : Nat} {X : Nat → Prop} {v : Value} {L : List (List Int)} (h : OwnIX w B X v L) (hg : w.grownBy w1 (some g)) (hlt : g < B) : OwnIX w1 B X v L :=
  h.same fun k hB hk _ => hg.block k hk (fun e => by injection e with e; omega)
/-- append of a row that lies in none of the list's blocks -/
theorem wpl_app_rowA {ops : Array Oper} {rest : List Oper} {o : Oper} {a : Act} {W : World} {Q : Exit → Act → World → Prop} (hgd : o.guard = none) (s x : Operand)
    (ho : o.op = .call { callee := .builtin .append, args := #[s, x], argTypes := #[42, 42] }) (B N0 : Nat) (v : Value) (L : List (List Int)) (u : Value) (xs : List Int) (hs : a.eval s = v) (hown : OwnIX W B (fun k => N0 ≤ k) v L)
    (hu : OwnI W N0 u xs) (hBN : B ≤ N0)
    (b off : Nat) (hx : a.eval x = .slice (some ⟨b, off, none⟩) 1 1) (hc : W.cell? ⟨b, off, none⟩ = some u) (hl : L.length ≤ 1000000000000) (hB : B ≤ W.heap.size)
    (h : ∀ v' w', OwnII w' B v' (L ++ [xs]) → W.grownBy w' v.ownBlock → (∀ k, v.ownBlock = some k → B ≤ k) → wpList Tryz.prog ops Q rest (a.put o.dst v') w') : wpList Tryz.prog ops Q (o :: rest) a W := by
  refine wpList_plain hgd fun _ hK => ?_
  obtain ⟨vs, h1, h2, h3, h4, h5, h6⟩ := hown
  have hvl : vs.length = L.length := by have := h1.1; omega
  refine app_gen s x 42 39 (.slice none 0 0) 1 24 ho Tryz.underlying42 infoSl rfl (by decide) B v L.length vs hs h1 ⟨b, off, none⟩ 1 1 [u] hx rfl ?_ ?_ ?_ ?_ hB ?_
  · intro j z hj
    cases j with
    | zero => simp at hj; subst hj; simpa [Addr.add] using hc
    | succ j => simp at hj
  · intro z hz
    simp at hz; subst hz
    obtain ⟨A, cx, rfl, _⟩ := hu.shape
    rfl
  · simp [maxLen]; omega
  · omega
  · intro v' w' k1 k2 k3
    have hub := World.ownsRow.lt hu
    have huv : Apart u v := by
      cases eu : u.ownBlock with
      | none => exact .inl eu
      | some k =>
        right; rw [eu]; intro e
        exact h5 k e.symm (hub k eu).1
    have far : ∀ q (hq : q < vs.length), Apart vs[q] u := fun q hq => by
      cases eq : vs[q].ownBlock with
      | none => exact .inl eq
      | some k =>
        right; rw [eq]; intro e
        exact h6 q hq k eq (hub k e.symm).1
    refine hK _ _ (h v' w' ⟨vs ++ [u], by rw [List.length_append]; exact k1, fun i hi hi' => ?_, fun i j hi hj hij => ?_, fun i hi => ?_⟩ k2 (fun k hk => (World.ownsRow.lt h1 k hk).1))
    · by_cases e : i < vs.length
      · have e' : i < L.length := by omega
        rw [List.getElem_append_left e, List.getElem_append_left e']
        exact (h2 i e e').grown k2 (h4 i e)
      · have ei : i = vs.length := by simp at hi; omega
        subst ei
        rw [List.getElem_append_right (Nat.le_refl _), List.getElem_append_right (by omega)]
        simp only [Nat.sub_self, List.getElem_cons_zero, hvl]
        exact (hu.weaken hBN).grown k2 huv
    · by_cases e : i < vs.length
      · by_cases e2 : j < vs.length
        · rw [List.getElem_append_left e, List.getElem_append_left e2]; exact h3 i j e e2 hij
        · rw [List.getElem_append_left e, List.getElem_append_right (by omega)]
          simp only [show j - vs.length = 0 by simp at hj; omega, List.getElem_cons_zero]
          exact far i e
      · have e2 : j < vs.length := by simp at hi hj; omega
        rw [List.getElem_append_left e2, List.getElem_append_right (by omega)]
        simp only [show i - vs.length = 0 by simp at hi; omega, List.getElem_cons_zero]
        exact (far j e2).symm
    · by_cases e : i < vs.length
      · rw [List.getElem_append_left e]
        exact ((h4 i e).symm.app (fun k hk => (h2 i e (by omega)).blt k hk) k3).symm
      · rw [List.getElem_append_right (by omega)]
        simp only [show i - vs.length = 0 by simp at hi; omega, List.getElem_cons_zero]
        exact (huv.symm.app (hu.blt) k3).symm
end Go.Proofs.YtnoehaphbpkpjaaGreat
namespace Go.Proofs.YtnoehaphbpkpjaaGreat
open Go.RowKit
/-- a set and a list of lists that a draw hands out -/
def SetRows (w w' : World) (ts : List T4) (S : Option Addr) (L : List (List Int)) (P : Option Addr) : Prop :=
  TileCells w' S ts ∧ ts.length ≤ 101 ∧ RowsC w' P L ∧ CapsC w' P L ∧ L.length ≤ 101 ∧ Short 4 L ∧ Below w.heap.size w w'
/-- where a draw of a set and a list of blocks stands, behind l09With -/
structure W9 (w wr : World) (g : Nat) (code : List Int) (c : Int) (ts : List T4) (A : Option Addr) (cx gT : Nat) (L : List (List Int)) (P : Option Addr) (bc : List Value) : Prop where
  res : Blk wr w.heap.size [.int .i64 0, .slice none 0 0] 32
  box : Blk wr gT bc 32
  own : OwnT wr (g + 1) (.slice A ts.length cx) ts
  rws : RowsN wr (g + 1) P L
  src : Src wr g code
  sub : Below w.heap.size w wr
  hgT : g < gT
  hg : w.heap.size < g
  lt : ts.length ≤ 101
  ll : L.length ≤ 101
  sh : Short 4 L
theorem W9.grow {w wr W : World} {g : Nat} {code : List Int} {c : Int} {ts : List T4} {A : Option Addr} {cx gT : Nat} {L : List (List Int)} {P : Option Addr} {bc : List Value} (h : W9 w wr g code c ts A cx gT L P bc) (hS : Src W g code) (hG : wr.grownBy W (some g)) : W9 w W g code c ts A cx gT L P bc :=
  ⟨h.res.kept1 hG (by have := h.hg; intro e; injection e with e; omega), h.box.kept1 hG (by have := h.hgT; intro e; injection e with e; omega), h.own.grew hG (by omega), h.rws.grew hG (by omega), hS, below_src h.sub hG (by have := h.hg; omega), h.hgT, h.hg, h.lt, h.ll, h.sh⟩
theorem W9.below {w wr W : World} {g : Nat} {code : List Int} {c : Int} {ts : List T4} {A : Option Addr} {cx gT : Nat} {L : List (List Int)} {P : Option Addr} {bc : List Value} (h : W9 w wr g code c ts A cx gT L P bc) (hb : Below wr.heap.size wr W) : W9 w W g code c ts A cx gT L P bc :=
  h.grow (h.src.below hb) (grown_below hb _)
theorem W9.fin {w wr : World} {g : Nat} {code : List Int} {c : Int} {ts : List T4} {A : Option Addr} {cx gT : Nat} {L : List (List Int)} {P : Option Addr} {bc : List Value} (h : W9 w wr g code c ts A cx gT L P bc) (x y : Value) :
    SetRows w ((wr.setCell ⟨w.heap.size, 0, none⟩ x).setCell ⟨w.heap.size, 1, none⟩ y) ts A L P := by
  have hg := h.hg
  have h1 := (h.own.other w.heap.size 0 (by omega) x).other w.heap.size 1 (by omega) y
  have h2 := (h.rws.store (b := w.heap.size) (o := 0) (v := x) (by omega)).store (b := w.heap.size) (o := 1) (v := y) (by omega)
  exact ⟨OwnT.cells h1, h.lt, h2.rows, h2.caps, h.ll, h.sh, (h.sub.setCell (Nat.le_refl _) _).setCell (Nat.le_refl _) _⟩
theorem W9.turn {w wr : World} {g : Nat} {code : List Int} {c c' : Int} {ts ts' : List T4} {A A' : Option Addr} {cx cx' gT : Nat} {L L' : List (List Int)} {P P' : Option Addr} {bc : List Value} (h : W9 w wr g code c ts A cx gT L P bc) (hO : OwnT wr (g + 1) (.slice A' ts'.length cx') ts') (hR : RowsN wr (g + 1) P' L') (h1 : ts'.length ≤ 101) (h2 : L'.length ≤ 101) (h3 : Short 4 L') : W9 w wr g code c' ts' A' cx' gT L' P' bc :=
  ⟨h.res, h.box, hO, hR, h.src, h.sub, h.hgT, h.hg, h1, h2, h3⟩
theorem W9.start {w w0 w1 w2 : World} {g : Nat} {code : List Int} {c : Int} {ts : List T4} {A : Option Addr} {cx : Nat} {L : List (List Int)} {P : Option Addr} (hw0 : w0 = w.alloc (.cells #[.int .i64 0, .slice none 0 0] 32))
    (hb : Below w0.heap.size w0 w1) (hg : w0.heap.size ≤ g) (hO : OwnT w2 (g + 1) (.slice A ts.length cx) ts) (hR : RowsN w2 (g + 1) P L) (hS : Src w2 g code) (hG : w1.grownBy w2 (some g)) (h1 : ts.length ≤ 101) (h2 : L.length ≤ 101) (h3 : Short 4 L) :
    W9 w (w2.alloc (.cells #[.int .i64 c, .slice A ts.length cx] 32)) g code c ts A cx w2.heap.size L P [.int .i64 c, .slice A ts.length cx] := by
  have hz : w0.heap.size = w.heap.size + 1 := by rw [hw0]; simp
  have hr : Blk w0 w.heap.size [.int .i64 0, .slice none 0 0] 32 := by rw [hw0]; exact Blk.newA _ _ _
  have hbw : Below w.heap.size w w0 := by rw [hw0]; exact below_al (Below.refl _ _)
  have h4 : Below w.heap.size w w2 := below_src (hbw.trans (hb.mono (by omega))) hG (by omega)
  exact ⟨((hr.under hb).kept1 hG (by intro e; injection e with e; omega)).alloc _, Blk.newA _ _ _, hO.alloc _, hR.below (below_al (Below.refl _ _)), hS.alloc _, below_al h4, hS.lt, by omega, h1, h2, h3⟩
end Go.Proofs.YtnoehaphbpkpjaaGreat
namespace Go.Proofs.YtnoehaphbpkpjaaGreat
open Go.RowKit
theorem OwnIX.appX {w w1 : World} {B N0 : Nat} {v : Value} {L : List (List Int)} (h : OwnIX w B (fun k => N0 ≤ k) v L) {r : Option Nat} (hg : w.grownBy w1 r) (hr : ∀ k, r = some k → N0 ≤ k) : OwnIX w1 B (fun k => N0 ≤ k) v L :=
  h.same fun k _ hk hx => hg.block k hk (fun e => hx (hr k e.symm))
/-- where l01DrawRows stands -/
structure DR (w wr : World) (g : Nat) (code : List Int) (c : Int) (n : Nat) (A : Option Addr) (cx : Nat) : Prop where
  box : Blk wr w.heap.size [.int .i64 c, .slice A n cx] 32
  src : Src wr g code
  sub : w.grownBy wr (some g)
  hg : g < w.heap.size
  sz : w.heap.size + 1 ≤ wr.heap.size
theorem DR.app {w wr W : World} {g : Nat} {code : List Int} {c : Int} {n : Nat} {A : Option Addr} {cx : Nat} (h : DR w wr g code c n A cx) {r : Option Nat} (hG : wr.grownBy W r) (hr : ∀ k, r = some k → w.heap.size + 1 ≤ k) : DR w W g code c n A cx :=
  ⟨h.box.kept1 hG (fun e => by have := hr _ (by first | exact e | exact e.symm); omega), h.src.app hG (fun k hk => by have := hr k hk; have := h.hg; omega), grown_app h.sub hG (fun k hk => by have := hr k hk; omega), h.hg, Nat.le_trans h.sz hG.size⟩
theorem DR.grow {w wr W : World} {g : Nat} {code : List Int} {c : Int} {n : Nat} {A : Option Addr} {cx : Nat} (h : DR w wr g code c n A cx) (hS : Src W g code) (hG : wr.grownBy W (some g)) : DR w W g code c n A cx :=
  ⟨h.box.kept1 hG (by have := h.hg; intro e; injection e with e; omega), hS, h.sub.trans hG, h.hg, Nat.le_trans h.sz hG.size⟩
theorem DR.below {w wr W : World} {g : Nat} {code : List Int} {c : Int} {n : Nat} {A : Option Addr} {cx : Nat} (h : DR w wr g code c n A cx) (hb : Below wr.heap.size wr W) : DR w W g code c n A cx :=
  h.grow (h.src.below hb) (grown_below hb _)
theorem DR.store {w wr : World} {g : Nat} {code : List Int} {c : Int} {n : Nat} {A : Option Addr} {cx : Nat} (h : DR w wr g code c n A cx) (b o : Nat) (v : Value) (hb : w.heap.size + 1 ≤ b) : DR w (wr.setCell ⟨b, o, none⟩ v) g code c n A cx :=
  ⟨h.box.other (a := ⟨b, o, none⟩) (by show w.heap.size ≠ b; omega) _, h.src.store (by have := h.hg; show g < b; omega), grown_store h.sub (by show w.heap.size ≤ b; omega), h.hg, by simpa [World.setCell] using h.sz⟩
def RowIn (n m : Nat) (row : List Int) : Prop := row.length = m ∧ ∀ x ∈ row, 0 ≤ x ∧ x < (n : Int)
theorem RowIn.at_ {n m : Nat} {row : List Int} (h : RowIn n m row) {j : Nat} (hj : j < row.length) : ∃ q : Nat, row[j] = (q : Int) ∧ q < n := by
  obtain ⟨a, b⟩ := h.2 _ (List.getElem_mem hj)
  exact ⟨row[j].toNat, by omega, by omega⟩
def DRows (w : World) (g : Nat) (code : List Int) (e : Ending) (w' : World) : Prop :=
  ∃ v L, e = .returned v ∧ OwnII w' (w.heap.size + 1) v L ∧ L.length ≤ 5 ∧ Short 4 L ∧ Src w' g code ∧ w.grownBy w' (some g)
end Go.Proofs.YtnoehaphbpkpjaaGreat
