/- Contracts and lemmas for the statements of this seat, written for this claim; each theorem states its own conditions. -/
import Derived.Test.YtfkmophmiiehlaaVpTd1
set_option linter.unusedVariables false
set_option linter.unusedSimpArgs false
namespace Go.Proofs.Ytfkmophmiiehlaa
open Go.RowKit
theorem gr_below {w W : World} (h : Below w.heap.size w W) (r : Option Nat) : w.grownBy W r := ⟨h.os, h.tape, h.output, h.size, fun k hk _ => h.block k hk⟩
theorem gr_trans {a w w' : World} {row : Option Nat} (h : a.grownBy w row) (k : w.grownBy w' row) : a.grownBy w' row := ⟨k.os.trans h.os, k.tape.trans h.tape, k.output.trans h.output, Nat.le_trans h.size k.size, fun i hi hr => (k.block i (Nat.lt_of_lt_of_le hi h.size) hr).trans (h.block i hi hr)⟩
theorem grown_hop {w wj w' : World} {o o' : Option Nat} (h : w.grownBy wj o) (ha : OutAt w o o') (hg : wj.grownBy w' o') : w.grownBy w' o :=
  ⟨hg.os.trans h.os, hg.tape.trans h.tape, hg.output.trans h.output, Nat.le_trans h.size hg.size, fun k hk hne => by
    have e : some k ≠ o' := by
      rcases ha with rfl | ⟨q, rfl, hq⟩
      · exact hne
      · intro e; injection e with e; omega
    exact (hg.block k (Nat.lt_of_lt_of_le hk h.size) e).trans (h.block k hk hne)⟩
theorem OutAt.hop {w wj : World} {o o' o2 : Option Nat} (h : w.heap.size ≤ wj.heap.size) (ha : OutAt w o o') (hb : OutAt wj o' o2) : OutAt w o o2 := by
  rcases hb with rfl | ⟨q, rfl, hq⟩
  · exact ha
  · exact .inr ⟨q, rfl, Nat.le_trans h hq⟩
theorem xstep_eq (x : Int) (now far nx : List Bool) (k : Col) (h : k.w.toNat < now.length) (h2 : k.e.toNat < far.length) : xstep x now far nx k = if ((x == k.n) && now[k.w.toNat] && far[k.e.toNat]) = true then nx.set k.e.toNat true else nx := by
  unfold xstep; simp [h, h2]
theorem OwnI.beg {w : World} {B n cx : Nat} {A : Option Addr} {xs : List Int} (h : OwnI w B (.slice A n cx) xs) (hx : 0 < xs.length) (o : Option Nat) (ho : ∀ k, o = some k → k < B) : ∃ g, A = some ⟨g, 0, none⟩ ∧ BegOk w o g 0 xs := by
  obtain ⟨g, rfl, h1, h2, _⟩ := h.at_ 0 hx
  refine ⟨g, rfl, fun j hj => ?_⟩
  obtain ⟨g2, e, a1, a2, a3, _⟩ := h.at_ j hj
  injection e with e; injection e with e; subst e
  refine ⟨a2, ?_, by simpa using a3⟩
  intro e; have := ho _ e.symm; omega
theorem OwnB.nowOk {w : World} {B n cx : Nat} {A : Option Addr} {xs : List Bool} (h : OwnB w B (.slice A n cx) xs) (o : Option Nat) (ho : ∀ k, o = some k → k < B) : NowOk w o A xs := fun j hj => by
  obtain ⟨g, rfl, a1, a2, a3, _⟩ := h.at_ j hj
  exact ⟨g, 0, rfl, a2, (by intro e; have := ho _ e.symm; omega), by simpa using a3⟩
def GoSpec (wB : World) (cols : List Col) (Ac : Option Addr) (kc S c n most : Nat) (AF : Option Addr) (kF : Nat) (left : Nat) : Prop :=
  ∀ (begin : List Int) (bx ox kx : Nat) (now : List Bool) (An : Option Addr) (kn : Nat) (outs : List (List Int)) (v0 : Value) (w : World), begin.length + left = n → now.length = S → Below wB.heap.size wB w → OwnII w wB.heap.size v0 outs → outs.length < most → BegOk w v0.ownBlock bx ox begin → NowOk w v0.ownBlock An now →
    Calls Try.prog 142 #[.slice Ac cols.length kc, .int .i64 c, .slice (some ⟨bx, ox, none⟩) begin.length kx, .slice An S kn, .slice AF (n + 1) kF, v0, .int .i64 most] w fun e w' => ∃ v, e = .returned v ∧ OwnII w' wB.heap.size v ((outs ++ (exts S cols c left now).map (begin ++ ·)).take most) ∧ w.grownBy w' v0.ownBlock ∧ OutAt w v0.ownBlock v.ownBlock
end Go.Proofs.Ytfkmophmiiehlaa
