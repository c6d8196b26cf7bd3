/- Contracts and lemmas for the statements of this seat, written for this claim; each theorem states its own conditions. -/
import Derived.ArgAppend
import Derived.Deep.DeepAppendRoom
import Derived.Test.YtkgnejhflnekaaaGreatMuSy
import Derived.Test.YtkgnejhflnekaaaGreatMuCp
set_option linter.unusedVariables false
set_option linter.unusedSimpArgs false
namespace Go.Proofs.YtkgnejhflnekaaaGreat
open Go.RowKit
theorem app_rowH {o : Oper} {a : Act} {W0 W : World} {K : Act → World → Prop} {Q : Exit → Act → World → Prop} (s x : Operand)
    (ho : o.op = .call { callee := .builtin .append, args := #[s, x], argTypes := #[29, 29] }) (B : Nat) (v : Value) (L : List (List Int)) (u : Value) (xs : List Int) (hs : a.eval s = v) (hown : OwnII W0 B v L)
    (hW : Below W0.heap.size W0 W) (hu : OwnI W W0.heap.size u xs)
    (b off : Nat) (hx : a.eval x = .slice (some ⟨b, off, none⟩) 1 1) (hc : W.cell? ⟨b, off, none⟩ = some u) (hl : L.length ≤ 1000000000000) (hB : B ≤ W0.heap.size)
    (h : ∀ v' w', OwnII w' B v' (L ++ [xs]) → W.grownBy w' v.ownBlock → (∀ k, v.ownBlock = some k → B ≤ k) → (v'.ownBlock = v.ownBlock ∨ v'.ownBlock = some W.heap.size) → K (a.put o.dst v') w') : o.wp Tryz.prog a W K Q := by
  obtain ⟨vs, g1, g2, h3, h4⟩ := hown
  have h1 : W.ownsRow B 35 1 v L.length vs := World.ownsRow.kept (row := none) g1 ⟨hW.os, hW.tape, hW.output, hW.size, fun k hk _ => hW.block k hk⟩ (by cases h : v.ownBlock with | none => exact .inl rfl | some k => exact .inr (by simp))
  have h2 : ∀ i (h : i < vs.length) (h' : i < L.length), OwnI W B vs[i] L[i] := fun i h h' => (g2 i h h').below hW
  have hvl : vs.length = L.length := by have := h1.1; omega
  refine app_gen s x 29 35 (.slice none 0 0) 1 24 ho Tryz.underlying29 infoSl rfl (by decide) B v L.length vs hs h1 ⟨b, off, none⟩ 1 1 [u] hx rfl ?_ ?_ ?_ ?_ (Nat.le_trans hB hW.size) ?_
  · intro j z hj
    cases j with
    | zero => simp at hj; subst hj; simpa [Addr.add] using hc
    | succ j => simp at hj
  · intro z hz
    simp at hz; subst hz
    obtain ⟨A, cx, rfl, _⟩ := hu.shape
    rfl
  · simp [maxLen]; omega
  · omega
  · intro v' w' k1 k2 k3
    have hvb := World.ownsRow.lt h1
    have hub := World.ownsRow.lt hu
    have hvb0 : ∀ k, v.ownBlock = some k → k < W0.heap.size := fun k hk => (World.ownsRow.lt g1 k hk).2
    have huv : Apart u v := by
      cases eu : u.ownBlock with
      | none => exact .inl eu
      | some k =>
        right; rw [eu]; intro e
        have := (hub k eu).1
        have := hvb0 k e.symm
        omega
    refine h v' w' ⟨vs ++ [u], by rw [List.length_append]; exact k1, fun i hi hi' => ?_, fun i j hi hj hij => ?_, fun i hi => ?_⟩ k2 (fun k hk => (hvb k hk).1) k3
    · by_cases e : i < vs.length
      · have e' : i < L.length := by omega
        rw [List.getElem_append_left e, List.getElem_append_left e']
        exact (h2 i e e').grown k2 (h4 i e)
      · have ei : i = vs.length := by simp at hi; omega
        subst ei
        rw [List.getElem_append_right (Nat.le_refl _), List.getElem_append_right (by omega)]
        simp only [Nat.sub_self, List.getElem_cons_zero, hvl]
        exact (hu.weaken hB).grown k2 huv
    · have far : ∀ q (hq : q < vs.length), Apart vs[q] u := fun q hq => (own_apart (g2 q hq (by omega)) hu).1
      by_cases e : i < vs.length
      · by_cases e2 : j < vs.length
        · rw [List.getElem_append_left e, List.getElem_append_left e2]; exact h3 i j e e2 hij
        · rw [List.getElem_append_left e, List.getElem_append_right (by omega)]
          simp only [show j - vs.length = 0 by simp at hj; omega, List.getElem_cons_zero]
          exact far i e
      · have e2 : j < vs.length := by simp at hi hj; omega
        rw [List.getElem_append_left e2, List.getElem_append_right (by omega)]
        simp only [show i - vs.length = 0 by simp at hi; omega, List.getElem_cons_zero]
        exact (far j e2).symm
    · by_cases e : i < vs.length
      · rw [List.getElem_append_left e]
        exact ((h4 i e).symm.app (h2 i e (by omega)).blt k3).symm
      · rw [List.getElem_append_right (by omega)]
        simp only [show i - vs.length = 0 by simp at hi; omega, List.getElem_cons_zero]
        exact (huv.symm.app hu.blt k3).symm
theorem wpl_app_rowH {ops : Array Oper} {rest : List Oper} {o : Oper} {a : Act} {W0 W : World} {Q : Exit → Act → World → Prop} (hgd : o.guard = none) (s x : Operand)
    (ho : o.op = .call { callee := .builtin .append, args := #[s, x], argTypes := #[29, 29] }) (B : Nat) (v : Value) (L : List (List Int)) (u : Value) (xs : List Int) (hs : a.eval s = v) (hown : OwnII W0 B v L)
    (hW : Below W0.heap.size W0 W) (hu : OwnI W W0.heap.size u xs)
    (b off : Nat) (hx : a.eval x = .slice (some ⟨b, off, none⟩) 1 1) (hc : W.cell? ⟨b, off, none⟩ = some u) (hl : L.length ≤ 1000000000000) (hB : B ≤ W0.heap.size)
    (h : ∀ v' w', OwnII w' B v' (L ++ [xs]) → W.grownBy w' v.ownBlock → (∀ k, v.ownBlock = some k → B ≤ k) → (v'.ownBlock = v.ownBlock ∨ v'.ownBlock = some W.heap.size) → wpList Tryz.prog ops Q rest (a.put o.dst v') w') : wpList Tryz.prog ops Q (o :: rest) a W :=
  wpList_plain hgd fun _ hK => app_rowH s x ho B v L u xs hs hown hW hu b off hx hc hl hB fun v' w' h1 h2 h3 h4 => hK _ _ (h v' w' h1 h2 h3 h4)
theorem wpl_app_intsN {ops : Array Oper} {rest : List Oper} {o : Oper} {a : Act} {W : World} {Q : Exit → Act → World → Prop} (hgd : o.guard = none) (s x : Operand)
    (ho : o.op = .call { callee := .builtin .append, args := #[s, x], argTypes := #[35, 35] }) (B : Nat) (v : Value) (xs ys : List Int) (hs : a.eval s = v) (hown : OwnI W B v xs)
    (b off cap : Nat) (hx : a.eval x = .slice (some ⟨b, off, none⟩) ys.length cap) (hc : ∀ j (h : j < ys.length), W.cell? ⟨b, off + j, none⟩ = some (.int .i64 ys[j])) (hl : xs.length + ys.length ≤ 1000000000000) (hB : B ≤ W.heap.size)
    (h : ∀ v' w', OwnI w' B v' (xs ++ ys) → W.grownBy w' v.ownBlock → (v'.ownBlock = v.ownBlock ∨ v'.ownBlock = some W.heap.size) → wpList Tryz.prog ops Q rest (a.put o.dst v') w') : wpList Tryz.prog ops Q (o :: rest) a W :=
  wpList_plain hgd fun _ hK => app_intsN s x ho B v xs ys hs hown b off cap hx hc hl hB fun v' w' h1 h2 h3 => hK _ _ (h v' w' h1 h2 h3)
/-- numbers from an address on, in a block that is not a given one -/
def BegOk (w : World) (o : Option Nat) (b off : Nat) (xs : List Int) : Prop := ∀ j (h : j < xs.length), b < w.heap.size ∧ some b ≠ o ∧ w.cell? ⟨b, off + j, none⟩ = some (.int .i64 xs[j])
def NowOk (w : World) (o : Option Nat) (A : Option Addr) (xs : List Bool) : Prop := ∀ j (h : j < xs.length), ∃ b off, A = some ⟨b, off, none⟩ ∧ b < w.heap.size ∧ some b ≠ o ∧ w.cell? ⟨b, off + j, none⟩ = some (.bool xs[j])
theorem BegOk.grown {w w' : World} {o : Option Nat} {b off : Nat} {xs : List Int} (h : BegOk w o b off xs) (hg : w.grownBy w' o) : BegOk w' o b off xs := fun j hj => by
  obtain ⟨h1, h2, h3⟩ := h j hj
  exact ⟨Nat.lt_of_lt_of_le h1 hg.size, h2, hg.cell h3 h2⟩
theorem NowOk.grown {w w' : World} {o : Option Nat} {A : Option Addr} {xs : List Bool} (h : NowOk w o A xs) (hg : w.grownBy w' o) : NowOk w' o A xs := fun j hj => by
  obtain ⟨b, off, e, h1, h2, h3⟩ := h j hj
  exact ⟨b, off, e, Nat.lt_of_lt_of_le h1 hg.size, h2, hg.cell h3 h2⟩
def OutAt (w : World) (o o' : Option Nat) : Prop := o' = o ∨ ∃ k, o' = some k ∧ w.heap.size ≤ k
theorem BegOk.hop {w w' : World} {o o' : Option Nat} {b off : Nat} {xs : List Int} (h : BegOk w o b off xs) (hg : w.grownBy w' o) (ha : OutAt w o o') : BegOk w' o' b off xs := fun j hj => by
  obtain ⟨h1, h2, h3⟩ := h j hj
  refine ⟨Nat.lt_of_lt_of_le h1 hg.size, ?_, hg.cell h3 h2⟩
  rcases ha with rfl | ⟨k, rfl, hk⟩
  · exact h2
  · intro e; injection e with e; omega
theorem NowOk.hop {w w' : World} {o o' : Option Nat} {A : Option Addr} {xs : List Bool} (h : NowOk w o A xs) (hg : w.grownBy w' o) (ha : OutAt w o o') : NowOk w' o' A xs := fun j hj => by
  obtain ⟨b, off, e, h1, h2, h3⟩ := h j hj
  refine ⟨b, off, e, Nat.lt_of_lt_of_le h1 hg.size, ?_, hg.cell h3 h2⟩
  rcases ha with rfl | ⟨k, rfl, hk⟩
  · exact h2
  · intro e; injection e with e; omega
theorem BegOk.below {w w' : World} {o : Option Nat} {b off : Nat} {xs : List Int} (h : BegOk w o b off xs) (hb : Below w.heap.size w w') : BegOk w' o b off xs := h.grown ⟨hb.os, hb.tape, hb.output, hb.size, fun k hk _ => hb.block k hk⟩
theorem NowOk.below {w w' : World} {o : Option Nat} {A : Option Addr} {xs : List Bool} (h : NowOk w o A xs) (hb : Below w.heap.size w w') : NowOk w' o A xs := h.grown ⟨hb.os, hb.tape, hb.output, hb.size, fun k hk _ => hb.block k hk⟩
def xstep (x : Int) (now far nx : List Bool) (k : Col) : List Bool := if ((x == k.n) && now.getD k.w.toNat false && far.getD k.e.toNat false) = true then nx.set k.e.toNat true else nx
def xgo (S : Nat) (cols : List Col) (x : Int) (now far : List Bool) : List Bool := cols.foldl (xstep x now far) (List.replicate S false)
def xsome (cols : List Col) (x : Int) (now far : List Bool) : Bool := cols.any fun k => (x == k.n) && now.getD k.w.toNat false && far.getD k.e.toNat false
theorem xstep_len (x : Int) (now far nx : List Bool) (k : Col) : (xstep x now far nx k).length = nx.length := by unfold xstep; split <;> simp
theorem xgo_len (S : Nat) (cols : List Col) (x : Int) (now far : List Bool) : (xgo S cols x now far).length = S := by
  unfold xgo
  suffices ∀ nx : List Bool, (cols.foldl (xstep x now far) nx).length = nx.length by rw [this]; simp
  intro nx
  induction cols generalizing nx with
  | nil => rfl
  | cons k l ih => rw [List.foldl_cons, ih, xstep_len]
theorem xgo_take (S : Nat) (cols : List Col) (x : Int) (now far : List Bool) (j : Nat) (hj : j < cols.length) : xgo S (cols.take (j + 1)) x now far = xstep x now far (xgo S (cols.take j) x now far) cols[j] := by
  unfold xgo; rw [List.take_succ_eq_append_getElem hj, List.foldl_append]; rfl
theorem xsome_take (cols : List Col) (x : Int) (now far : List Bool) (j : Nat) (hj : j < cols.length) : xsome (cols.take (j + 1)) x now far = (xsome (cols.take j) x now far || ((x == cols[j].n) && now.getD cols[j].w.toNat false && far.getD cols[j].e.toNat false)) := by
  unfold xsome; rw [List.take_succ_eq_append_getElem hj, List.any_append]; simp
/-- the words of so many colours that can be read on from some words, in order -/
def exts (S : Nat) (cols : List Col) (c : Nat) : Nat → List Bool → List (List Int)
  | 0, _ => [[]]
  | l + 1, now => (List.range c).flatMap fun x : Nat => if xsome cols x now (farAt S cols l) = true then (exts S cols c l (xgo S cols x now (farAt S cols l))).map ((x : Int) :: ·) else []
def extsTo (S : Nat) (cols : List Col) (c l : Nat) (now : List Bool) (m : Nat) : List (List Int) := (List.range m).flatMap fun x : Nat => if xsome cols x now (farAt S cols l) = true then (exts S cols c l (xgo S cols x now (farAt S cols l))).map ((x : Int) :: ·) else []
theorem extsTo_all (S : Nat) (cols : List Col) (c l : Nat) (now : List Bool) : extsTo S cols c l now c = exts S cols c (l + 1) now := rfl
theorem extsTo_succ (S : Nat) (cols : List Col) (c l : Nat) (now : List Bool) (m : Nat) : extsTo S cols c l now (m + 1) = extsTo S cols c l now m ++ if xsome cols m now (farAt S cols l) = true then (exts S cols c l (xgo S cols m now (farAt S cols l))).map ((m : Int) :: ·) else [] := by
  unfold extsTo; rw [List.range_succ, List.flatMap_append]; simp
/-- what is found, up to a number, when the words up to a colour are through -/
def outTo (S : Nat) (cols : List Col) (c l : Nat) (now : List Bool) (begin : List Int) (outs : List (List Int)) (most m : Nat) : List (List Int) := (outs ++ (extsTo S cols c l now m).map (begin ++ ·)).take most
theorem take_join {α : Type} (A F : List α) (m : Nat) : (A.take m ++ F).take m = (A ++ F).take m := by
  by_cases h : m ≤ A.length
  · rw [List.take_append_of_le_length h, List.take_append_of_le_length (by simp; omega), List.take_take, Nat.min_self]
  · rw [List.take_of_length_le (by omega : A.length ≤ m)]
theorem outTo_zero (S : Nat) (cols : List Col) (c l : Nat) (now : List Bool) (begin : List Int) (outs : List (List Int)) (most : Nat) (h : outs.length < most) : outTo S cols c l now begin outs most 0 = outs := by
  unfold outTo extsTo; simp [List.take_of_length_le (Nat.le_of_lt h)]
theorem outTo_no {S : Nat} {cols : List Col} {c l : Nat} {now : List Bool} {m : Nat} (begin : List Int) (outs : List (List Int)) (most : Nat) (h : xsome cols m now (farAt S cols l) = false) : outTo S cols c l now begin outs most (m + 1) = outTo S cols c l now begin outs most m := by
  unfold outTo; rw [extsTo_succ, h]; simp
theorem outTo_yes {S : Nat} {cols : List Col} {c l : Nat} {now : List Bool} {m : Nat} (begin : List Int) (outs : List (List Int)) (most : Nat) (h : xsome cols m now (farAt S cols l) = true) :
    outTo S cols c l now begin outs most (m + 1) = (outTo S cols c l now begin outs most m ++ (exts S cols c l (xgo S cols m now (farAt S cols l))).map ((begin ++ [(m : Int)]) ++ ·)).take most := by
  unfold outTo
  rw [take_join, extsTo_succ, if_pos h, List.map_append, List.append_assoc, List.map_map]
  congr 3
  apply List.map_congr_left
  intro a _
  simp
theorem outTo_full {S : Nat} {cols : List Col} {c l : Nat} {now : List Bool} {begin : List Int} {outs : List (List Int)} {most : Nat} : ∀ (d m : Nat), most ≤ (outTo S cols c l now begin outs most m).length → outTo S cols c l now begin outs most (m + d) = outTo S cols c l now begin outs most m
  | 0, _, _ => rfl
  | d + 1, m, h => by
    have ih := outTo_full d m h
    rw [show m + (d + 1) = (m + d) + 1 by omega]
    cases hx : xsome cols ((m + d : Nat) : Int) now (farAt S cols l) with
    | false => rw [outTo_no _ _ _ hx, ih]
    | true =>
      rw [outTo_yes _ _ _ hx, ih, List.take_append_of_le_length h, List.take_of_length_le]
      unfold outTo; rw [List.length_take]; exact Nat.min_le_left _ _
set_option maxRecDepth 100000 in
set_option maxHeartbeats 1000000 in
theorem l01Own_c (xs : List Int) (b off cap : Nat) (w : World) (hc : ∀ j (h : j < xs.length), w.cell? ⟨b, off + j, none⟩ = some (.int .i64 xs[j])) (hl : xs.length ≤ 1000000) :
    Calls Tryz.prog 185 #[.slice (some ⟨b, off, none⟩) xs.length cap] w fun e w' => ∃ v, e = .returned v ∧ OwnI w' w.heap.size v xs ∧ Below w.heap.size w w' := by
  have HC := Lib.hid (fun j h => cell_alloc_old w (.cells #[] 2) _ _ _ (hc j h))
  clear hc
  go_enter Tryz.func185, Tryz.ntmps185
  go_wp2_with (at_builtin; refine Hold.of ?_)
  refine Hold.to ?_
  refine wpl_app_intsN rfl (.tmp 3) (.tmp 4) rfl w.heap.size _ [] xs rfl (OwnI.made w _ #[] [] rfl (Nat.le_refl _) (by simp)) b off cap rfl HC.out (by simp; omega) (by simp) (fun v' w' h1 h2 h3 => ?_)
  have hb : Below w.heap.size w w' := Below.grown (below_al (Below.refl _ _)) h2 (by simp) (fun k hk => by have e : some w.heap.size = some k := hk; injection e with e; omega)
  have HF := Lib.hid (And.intro h1 hb)
  clear h1 h2 h3 hb
  go_wp2
  go_ret
  exact ⟨_, rfl, by simpa using HF.out.1, HF.out.2⟩

end Go.Proofs.YtkgnejhflnekaaaGreat
namespace Go.Proofs.YtkgnejhflnekaaaGreat
open Go.RowKit
theorem gr_below {w W : World} (h : Below w.heap.size w W) (r : Option Nat) : w.grownBy W r := ⟨h.os, h.tape, h.output, h.size, fun k hk _ => h.block k hk⟩
theorem gr_trans {a w w' : World} {row : Option Nat} (h : a.grownBy w row) (k : w.grownBy w' row) : a.grownBy w' row := ⟨k.os.trans h.os, k.tape.trans h.tape, k.output.trans h.output, Nat.le_trans h.size k.size, fun i hi hr => (k.block i (Nat.lt_of_lt_of_le hi h.size) hr).trans (h.block i hi hr)⟩
theorem grown_hop {w wj w' : World} {o o' : Option Nat} (h : w.grownBy wj o) (ha : OutAt w o o') (hg : wj.grownBy w' o') : w.grownBy w' o :=
  ⟨hg.os.trans h.os, hg.tape.trans h.tape, hg.output.trans h.output, Nat.le_trans h.size hg.size, fun k hk hne => by
    have e : some k ≠ o' := by
      rcases ha with rfl | ⟨q, rfl, hq⟩
      · exact hne
      · intro e; injection e with e; omega
    exact (hg.block k (Nat.lt_of_lt_of_le hk h.size) e).trans (h.block k hk hne)⟩
theorem OutAt.hop {w wj : World} {o o' o2 : Option Nat} (h : w.heap.size ≤ wj.heap.size) (ha : OutAt w o o') (hb : OutAt wj o' o2) : OutAt w o o2 := by
  rcases hb with rfl | ⟨q, rfl, hq⟩
  · exact ha
  · exact .inr ⟨q, rfl, Nat.le_trans h hq⟩
theorem xstep_eq (x : Int) (now far nx : List Bool) (k : Col) (h : k.w.toNat < now.length) (h2 : k.e.toNat < far.length) : xstep x now far nx k = if ((x == k.n) && now[k.w.toNat] && far[k.e.toNat]) = true then nx.set k.e.toNat true else nx := by
  unfold xstep; simp [h, h2]
theorem OwnI.beg {w : World} {B n cx : Nat} {A : Option Addr} {xs : List Int} (h : OwnI w B (.slice A n cx) xs) (hx : 0 < xs.length) (o : Option Nat) (ho : ∀ k, o = some k → k < B) : ∃ g, A = some ⟨g, 0, none⟩ ∧ BegOk w o g 0 xs := by
  obtain ⟨g, rfl, h1, h2, _⟩ := h.at_ 0 hx
  refine ⟨g, rfl, fun j hj => ?_⟩
  obtain ⟨g2, e, a1, a2, a3, _⟩ := h.at_ j hj
  injection e with e; injection e with e; subst e
  refine ⟨a2, ?_, by simpa using a3⟩
  intro e; have := ho _ e.symm; omega
theorem OwnB.nowOk {w : World} {B n cx : Nat} {A : Option Addr} {xs : List Bool} (h : OwnB w B (.slice A n cx) xs) (o : Option Nat) (ho : ∀ k, o = some k → k < B) : NowOk w o A xs := fun j hj => by
  obtain ⟨g, rfl, a1, a2, a3, _⟩ := h.at_ j hj
  exact ⟨g, 0, rfl, a2, (by intro e; have := ho _ e.symm; omega), by simpa using a3⟩
def GoSpec (wB : World) (cols : List Col) (Ac : Option Addr) (kc S c n most : Nat) (AF : Option Addr) (kF : Nat) (left : Nat) : Prop :=
  ∀ (begin : List Int) (bx ox kx : Nat) (now : List Bool) (An : Option Addr) (kn : Nat) (outs : List (List Int)) (v0 : Value) (w : World), begin.length + left = n → now.length = S → Below wB.heap.size wB w → OwnII w wB.heap.size v0 outs → outs.length < most → BegOk w v0.ownBlock bx ox begin → NowOk w v0.ownBlock An now →
    Calls Tryz.prog 155 #[.slice Ac cols.length kc, .int .i64 c, .slice (some ⟨bx, ox, none⟩) begin.length kx, .slice An S kn, .slice AF (n + 1) kF, v0, .int .i64 most] w fun e w' => ∃ v, e = .returned v ∧ OwnII w' wB.heap.size v ((outs ++ (exts S cols c left now).map (begin ++ ·)).take most) ∧ w.grownBy w' v0.ownBlock ∧ OutAt w v0.ownBlock v.ownBlock
end Go.Proofs.YtkgnejhflnekaaaGreat
namespace Go.Proofs.YtkgnejhflnekaaaGreat
open Go.RowKit
theorem own_same {w w' : World} {B s : Nat} {e : TypeId} {v : Value} {n : Nat} {xs : List Value} (h : w.ownsRow B e s v n xs) (hk : ∀ k, v.ownBlock = some k → w'.heap[k]? = w.heap[k]?) : w'.ownsRow B e s v n xs := by
  obtain ⟨h1, h2⟩ := h
  refine ⟨h1, ?_⟩
  rcases h2 with h2 | ⟨g, cap, cur, rfl, e2, e3, e4⟩
  · exact .inl h2
  · exact .inr ⟨g, cap, cur, rfl, e2, (hk g rfl).trans e3, e4⟩
/-- blocks but some stay as they were -/
structure Fr (P : Nat → Prop) (w w' : World) : Prop where
  os : w'.os = w.os
  tape : w'.tape = w.tape
  output : w'.output = w.output
  size : w.heap.size ≤ w'.heap.size
  block : ∀ k, k < w.heap.size → ¬ P k → w'.heap[k]? = w.heap[k]?
theorem Fr.refl (P : Nat → Prop) (w : World) : Fr P w w := ⟨rfl, rfl, rfl, Nat.le_refl _, fun _ _ _ => rfl⟩
theorem Fr.trans {P : Nat → Prop} {w w1 w2 : World} (h : Fr P w w1) (g : Fr P w1 w2) : Fr P w w2 :=
  ⟨g.os.trans h.os, g.tape.trans h.tape, g.output.trans h.output, Nat.le_trans h.size g.size, fun k hk hp => (g.block k (Nat.lt_of_lt_of_le hk h.size) hp).trans (h.block k hk hp)⟩
/-- as trans, but what the second step may change is new or may change in the first one -/
theorem Fr.hop {P Q : Nat → Prop} {w w1 w2 : World} (h : Fr P w w1) (g : Fr Q w1 w2) (hq : ∀ k, Q k → P k ∨ w.heap.size ≤ k) : Fr P w w2 :=
  ⟨g.os.trans h.os, g.tape.trans h.tape, g.output.trans h.output, Nat.le_trans h.size g.size, fun k hk hp => (g.block k (Nat.lt_of_lt_of_le hk h.size) (fun q => by rcases hq k q with e | e; exact hp e; omega)).trans (h.block k hk hp)⟩
theorem Fr.mono {P Q : Nat → Prop} {w w1 : World} (h : Fr P w w1) (hq : ∀ k, k < w.heap.size → P k → Q k) : Fr Q w w1 :=
  ⟨h.os, h.tape, h.output, h.size, fun k hk hn => h.block k hk fun hp => hn (hq k hk hp)⟩
theorem Fr.grown {P : Nat → Prop} {w w1 : World} {o : Option Nat} (h : w.grownBy w1 o) (ho : ∀ k, o = some k → P k) : Fr P w w1 :=
  ⟨h.os, h.tape, h.output, h.size, fun k hk hn => h.block k hk fun e => hn (ho k e.symm)⟩
theorem Fr.below {P : Nat → Prop} {w w1 : World} (h : Below w.heap.size w w1) : Fr P w w1 := ⟨h.os, h.tape, h.output, h.size, fun k hk _ => h.block k hk⟩
theorem Fr.set {P : Nat → Prop} {w w1 : World} {g j : Nat} {v : Value} (h : Fr P w w1) (hg : P g) : Fr P w (w1.setCell ⟨g, j, none⟩ v) :=
  ⟨h.os, h.tape, h.output, by simpa using h.size, fun k hk hn => (Below.heap_setCell w1 ⟨g, j, none⟩ v k (fun e => hn (by have e : k = g := e; subst e; exact hg))).trans (h.block k hk hn)⟩
theorem Fr.setNew {P : Nat → Prop} {w w1 : World} {g j : Nat} {v : Value} (h : Fr P w w1) (hg : w.heap.size ≤ g) : Fr P w (w1.setCell ⟨g, j, none⟩ v) :=
  ⟨h.os, h.tape, h.output, by simpa using h.size, fun k hk hn => (Below.heap_setCell w1 ⟨g, j, none⟩ v k (fun e => by have e : k = g := e; omega)).trans (h.block k hk hn)⟩
theorem Fr.under {P : Nat → Prop} {w w1 : World} {B : Nat} (h : Fr P w w1) (hB : B ≤ w.heap.size) (hp : ∀ k, P k → B ≤ k) : Below B w w1 :=
  ⟨h.os, h.tape, h.output, h.size, fun k hk => h.block k (Nat.lt_of_lt_of_le hk hB) (fun e => by have := hp k e; omega)⟩
theorem Fr.cell {P : Nat → Prop} {w w1 : World} {p : Addr} (h : Fr P w w1) (hb : p.block < w.heap.size) (hp : ¬ P p.block) : w1.cell? p = w.cell? p := by
  unfold World.cell?; rw [h.block _ hb hp]
theorem Fr.frozen {P : Nat → Prop} {w w1 : World} {p : Addr} (h : Fr P w w1) (hb : p.block < w.heap.size) (hp : ¬ P p.block) : w1.frozen? p = w.frozen? p := by
  unfold World.frozen?; rw [h.block _ hb hp]
end Go.Proofs.YtkgnejhflnekaaaGreat
