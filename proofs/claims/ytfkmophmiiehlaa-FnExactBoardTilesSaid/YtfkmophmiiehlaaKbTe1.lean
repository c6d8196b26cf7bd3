/- Contracts and lemmas for the statements of this seat, written for this claim; each theorem states its own conditions. -/
import Derived.Test.YtfkmophmiiehlaaKbTc1
import Derived.Test.YtfkmophmiiehlaaKbCp
set_option linter.unusedVariables false
set_option linter.unusedSimpArgs false
namespace Go.Proofs.Ytfkmophmiiehlaa
open Go.RowKit
/-- numbers from an address on, in a block that is not a given one -/
def BegOk (w : World) (o : Option Nat) (b off : Nat) (xs : List Int) : Prop := ∀ j (h : j < xs.length), b < w.heap.size ∧ some b ≠ o ∧ w.cell? ⟨b, off + j, none⟩ = some (.int .i64 xs[j])
def NowOk (w : World) (o : Option Nat) (A : Option Addr) (xs : List Bool) : Prop := ∀ j (h : j < xs.length), ∃ b off, A = some ⟨b, off, none⟩ ∧ b < w.heap.size ∧ some b ≠ o ∧ w.cell? ⟨b, off + j, none⟩ = some (.bool xs[j])
theorem BegOk.grown {w w' : World} {o : Option Nat} {b off : Nat} {xs : List Int} (h : BegOk w o b off xs) (hg : w.grownBy w' o) : BegOk w' o b off xs := fun j hj => by
  obtain ⟨h1, h2, h3⟩ := h j hj
  exact ⟨Nat.lt_of_lt_of_le h1 hg.size, h2, hg.cell h3 h2⟩
theorem NowOk.grown {w w' : World} {o : Option Nat} {A : Option Addr} {xs : List Bool} (h : NowOk w o A xs) (hg : w.grownBy w' o) : NowOk w' o A xs := fun j hj => by
  obtain ⟨b, off, e, h1, h2, h3⟩ := h j hj
  exact ⟨b, off, e, Nat.lt_of_lt_of_le h1 hg.size, h2, hg.cell h3 h2⟩
def OutAt (w : World) (o o' : Option Nat) : Prop := o' = o ∨ ∃ k, o' = some k ∧ w.heap.size ≤ k
theorem BegOk.hop {w w' : World} {o o' : Option Nat} {b off : Nat} {xs : List Int} (h : BegOk w o b off xs) (hg : w.grownBy w' o) (ha : OutAt w o o') : BegOk w' o' b off xs := fun j hj => by
  obtain ⟨h1, h2, h3⟩ := h j hj
  refine ⟨Nat.lt_of_lt_of_le h1 hg.size, ?_, hg.cell h3 h2⟩
  rcases ha with rfl | ⟨k, rfl, hk⟩
  · exact h2
  · intro e; injection e with e; omega
theorem NowOk.hop {w w' : World} {o o' : Option Nat} {A : Option Addr} {xs : List Bool} (h : NowOk w o A xs) (hg : w.grownBy w' o) (ha : OutAt w o o') : NowOk w' o' A xs := fun j hj => by
  obtain ⟨b, off, e, h1, h2, h3⟩ := h j hj
  refine ⟨b, off, e, Nat.lt_of_lt_of_le h1 hg.size, ?_, hg.cell h3 h2⟩
  rcases ha with rfl | ⟨k, rfl, hk⟩
  · exact h2
  · intro e; injection e with e; omega
theorem BegOk.below {w w' : World} {o : Option Nat} {b off : Nat} {xs : List Int} (h : BegOk w o b off xs) (hb : Below w.heap.size w w') : BegOk w' o b off xs := h.grown ⟨hb.os, hb.tape, hb.output, hb.size, fun k hk _ => hb.block k hk⟩
theorem NowOk.below {w w' : World} {o : Option Nat} {A : Option Addr} {xs : List Bool} (h : NowOk w o A xs) (hb : Below w.heap.size w w') : NowOk w' o A xs := h.grown ⟨hb.os, hb.tape, hb.output, hb.size, fun k hk _ => hb.block k hk⟩
def xstep (x : Int) (now far nx : List Bool) (k : Col) : List Bool := if ((x == k.n) && now.getD k.w.toNat false && far.getD k.e.toNat false) = true then nx.set k.e.toNat true else nx
def xgo (S : Nat) (cols : List Col) (x : Int) (now far : List Bool) : List Bool := cols.foldl (xstep x now far) (List.replicate S false)
def xsome (cols : List Col) (x : Int) (now far : List Bool) : Bool := cols.any fun k => (x == k.n) && now.getD k.w.toNat false && far.getD k.e.toNat false
theorem xstep_len (x : Int) (now far nx : List Bool) (k : Col) : (xstep x now far nx k).length = nx.length := by unfold xstep; split <;> simp
theorem xgo_len (S : Nat) (cols : List Col) (x : Int) (now far : List Bool) : (xgo S cols x now far).length = S := by
  unfold xgo
  suffices ∀ nx : List Bool, (cols.foldl (xstep x now far) nx).length = nx.length by rw [this]; simp
  intro nx
  induction cols generalizing nx with
  | nil => rfl
  | cons k l ih => rw [List.foldl_cons, ih, xstep_len]
theorem xgo_take (S : Nat) (cols : List Col) (x : Int) (now far : List Bool) (j : Nat) (hj : j < cols.length) : xgo S (cols.take (j + 1)) x now far = xstep x now far (xgo S (cols.take j) x now far) cols[j] := by
  unfold xgo; rw [List.take_succ_eq_append_getElem hj, List.foldl_append]; rfl
theorem xsome_take (cols : List Col) (x : Int) (now far : List Bool) (j : Nat) (hj : j < cols.length) : xsome (cols.take (j + 1)) x now far = (xsome (cols.take j) x now far || ((x == cols[j].n) && now.getD cols[j].w.toNat false && far.getD cols[j].e.toNat false)) := by
  unfold xsome; rw [List.take_succ_eq_append_getElem hj, List.any_append]; simp
/-- the words of so many colours that can be read on from some words, in order -/
def exts (S : Nat) (cols : List Col) (c : Nat) : Nat → List Bool → List (List Int)
  | 0, _ => [[]]
  | l + 1, now => (List.range c).flatMap fun x : Nat => if xsome cols x now (farAt S cols l) = true then (exts S cols c l (xgo S cols x now (farAt S cols l))).map ((x : Int) :: ·) else []
def extsTo (S : Nat) (cols : List Col) (c l : Nat) (now : List Bool) (m : Nat) : List (List Int) := (List.range m).flatMap fun x : Nat => if xsome cols x now (farAt S cols l) = true then (exts S cols c l (xgo S cols x now (farAt S cols l))).map ((x : Int) :: ·) else []
theorem extsTo_all (S : Nat) (cols : List Col) (c l : Nat) (now : List Bool) : extsTo S cols c l now c = exts S cols c (l + 1) now := rfl
theorem extsTo_succ (S : Nat) (cols : List Col) (c l : Nat) (now : List Bool) (m : Nat) : extsTo S cols c l now (m + 1) = extsTo S cols c l now m ++ if xsome cols m now (farAt S cols l) = true then (exts S cols c l (xgo S cols m now (farAt S cols l))).map ((m : Int) :: ·) else [] := by
  unfold extsTo; rw [List.range_succ, List.flatMap_append]; simp
/-- what is found, up to a number, when the words up to a colour are through -/
def outTo (S : Nat) (cols : List Col) (c l : Nat) (now : List Bool) (begin : List Int) (outs : List (List Int)) (most m : Nat) : List (List Int) := (outs ++ (extsTo S cols c l now m).map (begin ++ ·)).take most
theorem take_join {α : Type} (A F : List α) (m : Nat) : (A.take m ++ F).take m = (A ++ F).take m := by
  by_cases h : m ≤ A.length
  · rw [List.take_append_of_le_length h, List.take_append_of_le_length (by simp; omega), List.take_take, Nat.min_self]
  · rw [List.take_of_length_le (by omega : A.length ≤ m)]
theorem outTo_zero (S : Nat) (cols : List Col) (c l : Nat) (now : List Bool) (begin : List Int) (outs : List (List Int)) (most : Nat) (h : outs.length < most) : outTo S cols c l now begin outs most 0 = outs := by
  unfold outTo extsTo; simp [List.take_of_length_le (Nat.le_of_lt h)]
theorem outTo_no {S : Nat} {cols : List Col} {c l : Nat} {now : List Bool} {m : Nat} (begin : List Int) (outs : List (List Int)) (most : Nat) (h : xsome cols m now (farAt S cols l) = false) : outTo S cols c l now begin outs most (m + 1) = outTo S cols c l now begin outs most m := by
  unfold outTo; rw [extsTo_succ, h]; simp
theorem outTo_yes {S : Nat} {cols : List Col} {c l : Nat} {now : List Bool} {m : Nat} (begin : List Int) (outs : List (List Int)) (most : Nat) (h : xsome cols m now (farAt S cols l) = true) :
    outTo S cols c l now begin outs most (m + 1) = (outTo S cols c l now begin outs most m ++ (exts S cols c l (xgo S cols m now (farAt S cols l))).map ((begin ++ [(m : Int)]) ++ ·)).take most := by
  unfold outTo
  rw [take_join, extsTo_succ, if_pos h, List.map_append, List.append_assoc, List.map_map]
  congr 3
  apply List.map_congr_left
  intro a _
  simp
theorem outTo_full {S : Nat} {cols : List Col} {c l : Nat} {now : List Bool} {begin : List Int} {outs : List (List Int)} {most : Nat} : ∀ (d m : Nat), most ≤ (outTo S cols c l now begin outs most m).length → outTo S cols c l now begin outs most (m + d) = outTo S cols c l now begin outs most m
  | 0, _, _ => rfl
  | d + 1, m, h => by
    have ih := outTo_full d m h
    rw [show m + (d + 1) = (m + d) + 1 by omega]
    cases hx : xsome cols ((m + d : Nat) : Int) now (farAt S cols l) with
    | false => rw [outTo_no _ _ _ hx, ih]
    | true =>
      rw [outTo_yes _ _ _ hx, ih, List.take_append_of_le_length h, List.take_of_length_le]
      unfold outTo; rw [List.length_take]; exact Nat.min_le_left _ _
end Go.Proofs.Ytfkmophmiiehlaa
namespace Go.Proofs.Ytfkmophmiiehlaa
open Go.RowKit
theorem gr_below {w W : World} (h : Below w.heap.size w W) (r : Option Nat) : w.grownBy W r := ⟨h.os, h.tape, h.output, h.size, fun k hk _ => h.block k hk⟩
theorem gr_trans {a w w' : World} {row : Option Nat} (h : a.grownBy w row) (k : w.grownBy w' row) : a.grownBy w' row := ⟨k.os.trans h.os, k.tape.trans h.tape, k.output.trans h.output, Nat.le_trans h.size k.size, fun i hi hr => (k.block i (Nat.lt_of_lt_of_le hi h.size) hr).trans (h.block i hi hr)⟩
theorem grown_hop {w wj w' : World} {o o' : Option Nat} (h : w.grownBy wj o) (ha : OutAt w o o') (hg : wj.grownBy w' o') : w.grownBy w' o :=
  ⟨hg.os.trans h.os, hg.tape.trans h.tape, hg.output.trans h.output, Nat.le_trans h.size hg.size, fun k hk hne => by
    have e : some k ≠ o' := by
      rcases ha with rfl | ⟨q, rfl, hq⟩
      · exact hne
      · intro e; injection e with e; omega
    exact (hg.block k (Nat.lt_of_lt_of_le hk h.size) e).trans (h.block k hk hne)⟩
theorem OutAt.hop {w wj : World} {o o' o2 : Option Nat} (h : w.heap.size ≤ wj.heap.size) (ha : OutAt w o o') (hb : OutAt wj o' o2) : OutAt w o o2 := by
  rcases hb with rfl | ⟨q, rfl, hq⟩
  · exact ha
  · exact .inr ⟨q, rfl, Nat.le_trans h hq⟩
theorem xstep_eq (x : Int) (now far nx : List Bool) (k : Col) (h : k.w.toNat < now.length) (h2 : k.e.toNat < far.length) : xstep x now far nx k = if ((x == k.n) && now[k.w.toNat] && far[k.e.toNat]) = true then nx.set k.e.toNat true else nx := by
  unfold xstep; simp [h, h2]
theorem OwnI.beg {w : World} {B n cx : Nat} {A : Option Addr} {xs : List Int} (h : OwnI w B (.slice A n cx) xs) (hx : 0 < xs.length) (o : Option Nat) (ho : ∀ k, o = some k → k < B) : ∃ g, A = some ⟨g, 0, none⟩ ∧ BegOk w o g 0 xs := by
  obtain ⟨g, rfl, h1, h2, _⟩ := h.at_ 0 hx
  refine ⟨g, rfl, fun j hj => ?_⟩
  obtain ⟨g2, e, a1, a2, a3, _⟩ := h.at_ j hj
  injection e with e; injection e with e; subst e
  refine ⟨a2, ?_, by simpa using a3⟩
  intro e; have := ho _ e.symm; omega
theorem OwnB.nowOk {w : World} {B n cx : Nat} {A : Option Addr} {xs : List Bool} (h : OwnB w B (.slice A n cx) xs) (o : Option Nat) (ho : ∀ k, o = some k → k < B) : NowOk w o A xs := fun j hj => by
  obtain ⟨g, rfl, a1, a2, a3, _⟩ := h.at_ j hj
  exact ⟨g, 0, rfl, a2, (by intro e; have := ho _ e.symm; omega), by simpa using a3⟩
def GoSpec (wB : World) (cols : List Col) (Ac : Option Addr) (kc S c n most : Nat) (AF : Option Addr) (kF : Nat) (left : Nat) : Prop :=
  ∀ (begin : List Int) (bx ox kx : Nat) (now : List Bool) (An : Option Addr) (kn : Nat) (outs : List (List Int)) (v0 : Value) (w : World), begin.length + left = n → now.length = S → Below wB.heap.size wB w → OwnII w wB.heap.size v0 outs → outs.length < most → BegOk w v0.ownBlock bx ox begin → NowOk w v0.ownBlock An now →
    Calls Try.prog 142 #[.slice Ac cols.length kc, .int .i64 c, .slice (some ⟨bx, ox, none⟩) begin.length kx, .slice An S kn, .slice AF (n + 1) kF, v0, .int .i64 most] w fun e w' => ∃ v, e = .returned v ∧ OwnII w' wB.heap.size v ((outs ++ (exts S cols c left now).map (begin ++ ·)).take most) ∧ w.grownBy w' v0.ownBlock ∧ OutAt w v0.ownBlock v.ownBlock
end Go.Proofs.Ytfkmophmiiehlaa
