/- Contracts and lemmas for the statements of this seat, written for this claim; each theorem states its own conditions. -/
import Derived.Test.YtfkmophmiiehlaaVpTc1
import Derived.Test.YtfkmophmiiehlaaVpSy
import Derived.Test.YtfkmophmiiehlaaVpGr
set_option linter.unusedVariables false
set_option linter.unusedSimpArgs false
namespace Go.Proofs.Ytfkmophmiiehlaa
open Go.RowKit
theorem OwnBB.one {w : World} {B n cx : Nat} {A : Option Addr} {xs : List Bool} (hO : OwnB w B (.slice A n cx) xs) (hB : B ≤ w.heap.size) :
    OwnBB (w.alloc (.cells #[.slice A n cx] 115)) B (.slice (some ⟨w.heap.size, 0, none⟩) 1 1) [xs] := by
  refine ⟨[.slice A n cx], ?_, fun i h h' => ?_, fun i j h h' hij => ?_, fun i h => ?_⟩
  · have := World.ownsRow_lit (base := B) (e := 115) (size := 1) w #[.slice A n cx] 1 hB (by simp [maxLen]) (by simp)
    simpa using this
  · have hi : i = 0 := by simp at h; omega
    subst hi
    exact hO.below (below_al (Below.refl _ _))
  · simp at h h'; omega
  · have hi : i = 0 := by simp at h; omega
    subst hi
    cases e : (Value.slice A n cx).ownBlock with
    | none => exact .inl e
    | some k => right; rw [List.getElem_cons_zero, e]; intro e2; have h8 := (hO.lt k e).2; have e3 : some k = some w.heap.size := e2; injection e3 with e3; omega
/-- a step back: from where a column leads to one of some words -/
def bstep (far nx : List Bool) (k : Col) : List Bool := if far.getD k.e.toNat false = true then nx.set k.w.toNat true else nx
def bgo (S : Nat) (cols : List Col) (far : List Bool) : List Bool := cols.foldl (bstep far) (List.replicate S false)
def farAt (S : Nat) (cols : List Col) : Nat → List Bool
  | 0 => List.replicate S true
  | i + 1 => bgo S cols (farAt S cols i)
def farL (S : Nat) (cols : List Col) (n : Nat) : List (List Bool) := (List.range (n + 1)).map (farAt S cols)
theorem bstep_len (far nx : List Bool) (k : Col) : (bstep far nx k).length = nx.length := by unfold bstep; split <;> simp
theorem bgo_len (S : Nat) (cols : List Col) (far : List Bool) : (bgo S cols far).length = S := by
  unfold bgo
  suffices ∀ nx : List Bool, (cols.foldl (bstep far) nx).length = nx.length by rw [this]; simp
  intro nx
  induction cols generalizing nx with
  | nil => rfl
  | cons k l ih => rw [List.foldl_cons, ih, bstep_len]
theorem farAt_len (S : Nat) (cols : List Col) : ∀ i, (farAt S cols i).length = S
  | 0 => by simp [farAt]
  | _ + 1 => bgo_len ..
theorem farL_len (S : Nat) (cols : List Col) (n : Nat) : (farL S cols n).length = n + 1 := by simp [farL]
theorem farL_get (S : Nat) (cols : List Col) (n i : Nat) (h : i < (farL S cols n).length) : (farL S cols n)[i] = farAt S cols i := by simp [farL]
theorem farL_succ (S : Nat) (cols : List Col) (n : Nat) : farL S cols (n + 1) = farL S cols n ++ [farAt S cols (n + 1)] := by simp [farL, List.range_succ]
theorem bgo_take (S : Nat) (cols : List Col) (far : List Bool) (j : Nat) (hj : j < cols.length) : bgo S (cols.take (j + 1)) far = bstep far (bgo S (cols.take j) far) cols[j] := by
  unfold bgo; rw [List.take_succ_eq_append_getElem hj, List.foldl_append]; rfl
theorem bstep_eq (far nx : List Bool) (k : Col) (h : k.e.toNat < far.length) : bstep far nx k = if far[k.e.toNat] = true then nx.set k.w.toNat true else nx := by
  unfold bstep; simp [h]
end Go.Proofs.Ytfkmophmiiehlaa
namespace Go.Proofs.Ytfkmophmiiehlaa
open Go.RowKit
/-- numbers from an address on, in a block that is not a given one -/
def BegOk (w : World) (o : Option Nat) (b off : Nat) (xs : List Int) : Prop := ∀ j (h : j < xs.length), b < w.heap.size ∧ some b ≠ o ∧ w.cell? ⟨b, off + j, none⟩ = some (.int .i64 xs[j])
def NowOk (w : World) (o : Option Nat) (A : Option Addr) (xs : List Bool) : Prop := ∀ j (h : j < xs.length), ∃ b off, A = some ⟨b, off, none⟩ ∧ b < w.heap.size ∧ some b ≠ o ∧ w.cell? ⟨b, off + j, none⟩ = some (.bool xs[j])
theorem BegOk.grown {w w' : World} {o : Option Nat} {b off : Nat} {xs : List Int} (h : BegOk w o b off xs) (hg : w.grownBy w' o) : BegOk w' o b off xs := fun j hj => by
  obtain ⟨h1, h2, h3⟩ := h j hj
  exact ⟨Nat.lt_of_lt_of_le h1 hg.size, h2, hg.cell h3 h2⟩
theorem NowOk.grown {w w' : World} {o : Option Nat} {A : Option Addr} {xs : List Bool} (h : NowOk w o A xs) (hg : w.grownBy w' o) : NowOk w' o A xs := fun j hj => by
  obtain ⟨b, off, e, h1, h2, h3⟩ := h j hj
  exact ⟨b, off, e, Nat.lt_of_lt_of_le h1 hg.size, h2, hg.cell h3 h2⟩
def OutAt (w : World) (o o' : Option Nat) : Prop := o' = o ∨ ∃ k, o' = some k ∧ w.heap.size ≤ k
theorem BegOk.hop {w w' : World} {o o' : Option Nat} {b off : Nat} {xs : List Int} (h : BegOk w o b off xs) (hg : w.grownBy w' o) (ha : OutAt w o o') : BegOk w' o' b off xs := fun j hj => by
  obtain ⟨h1, h2, h3⟩ := h j hj
  refine ⟨Nat.lt_of_lt_of_le h1 hg.size, ?_, hg.cell h3 h2⟩
  rcases ha with rfl | ⟨k, rfl, hk⟩
  · exact h2
  · intro e; injection e with e; omega
theorem NowOk.hop {w w' : World} {o o' : Option Nat} {A : Option Addr} {xs : List Bool} (h : NowOk w o A xs) (hg : w.grownBy w' o) (ha : OutAt w o o') : NowOk w' o' A xs := fun j hj => by
  obtain ⟨b, off, e, h1, h2, h3⟩ := h j hj
  refine ⟨b, off, e, Nat.lt_of_lt_of_le h1 hg.size, ?_, hg.cell h3 h2⟩
  rcases ha with rfl | ⟨k, rfl, hk⟩
  · exact h2
  · intro e; injection e with e; omega
theorem BegOk.below {w w' : World} {o : Option Nat} {b off : Nat} {xs : List Int} (h : BegOk w o b off xs) (hb : Below w.heap.size w w') : BegOk w' o b off xs := h.grown ⟨hb.os, hb.tape, hb.output, hb.size, fun k hk _ => hb.block k hk⟩
theorem NowOk.below {w w' : World} {o : Option Nat} {A : Option Addr} {xs : List Bool} (h : NowOk w o A xs) (hb : Below w.heap.size w w') : NowOk w' o A xs := h.grown ⟨hb.os, hb.tape, hb.output, hb.size, fun k hk _ => hb.block k hk⟩
def xstep (x : Int) (now far nx : List Bool) (k : Col) : List Bool := if ((x == k.n) && now.getD k.w.toNat false && far.getD k.e.toNat false) = true then nx.set k.e.toNat true else nx
def xgo (S : Nat) (cols : List Col) (x : Int) (now far : List Bool) : List Bool := cols.foldl (xstep x now far) (List.replicate S false)
def xsome (cols : List Col) (x : Int) (now far : List Bool) : Bool := cols.any fun k => (x == k.n) && now.getD k.w.toNat false && far.getD k.e.toNat false
theorem xstep_len (x : Int) (now far nx : List Bool) (k : Col) : (xstep x now far nx k).length = nx.length := by unfold xstep; split <;> simp
theorem xgo_len (S : Nat) (cols : List Col) (x : Int) (now far : List Bool) : (xgo S cols x now far).length = S := by
  unfold xgo
  suffices ∀ nx : List Bool, (cols.foldl (xstep x now far) nx).length = nx.length by rw [this]; simp
  intro nx
  induction cols generalizing nx with
  | nil => rfl
  | cons k l ih => rw [List.foldl_cons, ih, xstep_len]
theorem xgo_take (S : Nat) (cols : List Col) (x : Int) (now far : List Bool) (j : Nat) (hj : j < cols.length) : xgo S (cols.take (j + 1)) x now far = xstep x now far (xgo S (cols.take j) x now far) cols[j] := by
  unfold xgo; rw [List.take_succ_eq_append_getElem hj, List.foldl_append]; rfl
theorem xsome_take (cols : List Col) (x : Int) (now far : List Bool) (j : Nat) (hj : j < cols.length) : xsome (cols.take (j + 1)) x now far = (xsome (cols.take j) x now far || ((x == cols[j].n) && now.getD cols[j].w.toNat false && far.getD cols[j].e.toNat false)) := by
  unfold xsome; rw [List.take_succ_eq_append_getElem hj, List.any_append]; simp
/-- the words of so many colours that can be read on from some words, in order -/
def exts (S : Nat) (cols : List Col) (c : Nat) : Nat → List Bool → List (List Int)
  | 0, _ => [[]]
  | l + 1, now => (List.range c).flatMap fun x : Nat => if xsome cols x now (farAt S cols l) = true then (exts S cols c l (xgo S cols x now (farAt S cols l))).map ((x : Int) :: ·) else []
def extsTo (S : Nat) (cols : List Col) (c l : Nat) (now : List Bool) (m : Nat) : List (List Int) := (List.range m).flatMap fun x : Nat => if xsome cols x now (farAt S cols l) = true then (exts S cols c l (xgo S cols x now (farAt S cols l))).map ((x : Int) :: ·) else []
theorem extsTo_all (S : Nat) (cols : List Col) (c l : Nat) (now : List Bool) : extsTo S cols c l now c = exts S cols c (l + 1) now := rfl
theorem extsTo_succ (S : Nat) (cols : List Col) (c l : Nat) (now : List Bool) (m : Nat) : extsTo S cols c l now (m + 1) = extsTo S cols c l now m ++ if xsome cols m now (farAt S cols l) = true then (exts S cols c l (xgo S cols m now (farAt S cols l))).map ((m : Int) :: ·) else [] := by
  unfold extsTo; rw [List.range_succ, List.flatMap_append]; simp
/-- what is found, up to a number, when the words up to a colour are through -/
def outTo (S : Nat) (cols : List Col) (c l : Nat) (now : List Bool) (begin : List Int) (outs : List (List Int)) (most m : Nat) : List (List Int) := (outs ++ (extsTo S cols c l now m).map (begin ++ ·)).take most
theorem take_join {α : Type} (A F : List α) (m : Nat) : (A.take m ++ F).take m = (A ++ F).take m := by
  by_cases h : m ≤ A.length
  · rw [List.take_append_of_le_length h, List.take_append_of_le_length (by simp; omega), List.take_take, Nat.min_self]
  · rw [List.take_of_length_le (by omega : A.length ≤ m)]
theorem outTo_zero (S : Nat) (cols : List Col) (c l : Nat) (now : List Bool) (begin : List Int) (outs : List (List Int)) (most : Nat) (h : outs.length < most) : outTo S cols c l now begin outs most 0 = outs := by
  unfold outTo extsTo; simp [List.take_of_length_le (Nat.le_of_lt h)]
theorem outTo_no {S : Nat} {cols : List Col} {c l : Nat} {now : List Bool} {m : Nat} (begin : List Int) (outs : List (List Int)) (most : Nat) (h : xsome cols m now (farAt S cols l) = false) : outTo S cols c l now begin outs most (m + 1) = outTo S cols c l now begin outs most m := by
  unfold outTo; rw [extsTo_succ, h]; simp
theorem outTo_yes {S : Nat} {cols : List Col} {c l : Nat} {now : List Bool} {m : Nat} (begin : List Int) (outs : List (List Int)) (most : Nat) (h : xsome cols m now (farAt S cols l) = true) :
    outTo S cols c l now begin outs most (m + 1) = (outTo S cols c l now begin outs most m ++ (exts S cols c l (xgo S cols m now (farAt S cols l))).map ((begin ++ [(m : Int)]) ++ ·)).take most := by
  unfold outTo
  rw [take_join, extsTo_succ, if_pos h, List.map_append, List.append_assoc, List.map_map]
  congr 3
  apply List.map_congr_left
  intro a _
  simp
theorem outTo_full {S : Nat} {cols : List Col} {c l : Nat} {now : List Bool} {begin : List Int} {outs : List (List Int)} {most : Nat} : ∀ (d m : Nat), most ≤ (outTo S cols c l now begin outs most m).length → outTo S cols c l now begin outs most (m + d) = outTo S cols c l now begin outs most m
  | 0, _, _ => rfl
  | d + 1, m, h => by
    have ih := outTo_full d m h
    rw [show m + (d + 1) = (m + d) + 1 by omega]
    cases hx : xsome cols ((m + d : Nat) : Int) now (farAt S cols l) with
    | false => rw [outTo_no _ _ _ hx, ih]
    | true =>
      rw [outTo_yes _ _ _ hx, ih, List.take_append_of_le_length h, List.take_of_length_le]
      unfold outTo; rw [List.length_take]; exact Nat.min_le_left _ _
end Go.Proofs.Ytfkmophmiiehlaa
