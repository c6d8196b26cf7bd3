/- Contracts and lemmas for the statements of this seat, written for this claim; each theorem states its own conditions. -/
import Derived.Laws.BitsLemmas
import Derived.Laws.IdiomCopy
import Derived.Test.YtkgnejhflnekaaaGreatMuOb
import Derived.Test.YtkgnejhflnekaaaGreatMuMk
import Derived.Test.YtkgnejhflnekaaaGreatMuBr
set_option linter.unusedVariables false
set_option linter.unusedSimpArgs false
namespace Go.Proofs.YtkgnejhflnekaaaGreat
open Go.RowKit
theorem infoB : (Tryz.prog.info? 4).map (fun i => (i.zero, i.size, i.bytes)) = some (some (.bool false), 1, 1) := by kernel_rfl
def bcells (xs : List Bool) : List Value := xs.map fun x => .bool x
theorem bcells_length (xs : List Bool) : (bcells xs).length = xs.length := by simp [bcells]
theorem bcells_set (xs : List Bool) (k : Nat) (x : Bool) : (bcells xs).set k (.bool x) = bcells (xs.set k x) := by simp [bcells, List.map_set]
/-- a slice of truth values that the call made and owns -/
def OwnB (w : World) (B : Nat) (v : Value) (xs : List Bool) : Prop := w.ownsRow B 4 1 v xs.length (bcells xs)
theorem OwnB.below {w w1 : World} {B : Nat} {v : Value} {xs : List Bool} (h : OwnB w B v xs) (hb : Below w.heap.size w w1) : OwnB w1 B v xs :=
  World.ownsRow.kept (row := none) h ⟨hb.os, hb.tape, hb.output, hb.size, fun k hk _ => hb.block k hk⟩ (by cases h : v.ownBlock with | none => exact .inl rfl | some k => exact .inr (by simp))
theorem OwnB.weaken {w : World} {B B' : Nat} {v : Value} {xs : List Bool} (h : OwnB w B v xs) (hB : B' ≤ B) : OwnB w B' v xs := by
  obtain ⟨h1, h2⟩ := h
  refine ⟨h1, ?_⟩
  rcases h2 with h2 | ⟨g, cap, cur, e1, e2, e3⟩
  · exact .inl h2
  · exact .inr ⟨g, cap, cur, e1, Nat.le_trans hB e2, e3⟩
theorem OwnB.shape {w : World} {B : Nat} {v : Value} {xs : List Bool} (h : OwnB w B v xs) : ∃ A cx, v = .slice A xs.length cx := by
  obtain ⟨h1, h2⟩ := h
  rcases h2 with ⟨rfl, h2⟩ | ⟨g, cap, cur, rfl, _⟩
  · exact ⟨none, 0, by rw [h2]⟩
  · exact ⟨_, _, rfl⟩
theorem OwnB.lt {w : World} {B : Nat} {v : Value} {xs : List Bool} (h : OwnB w B v xs) : ∀ k, v.ownBlock = some k → B ≤ k ∧ k < w.heap.size := fun k hk => World.ownsRow.lt h k hk
theorem OwnB.at_ {w : World} {B n cx : Nat} {A : Option Addr} {xs : List Bool} (h : OwnB w B (.slice A n cx) xs) (j : Nat) (hj : j < xs.length) :
    ∃ g, A = some ⟨g, 0, none⟩ ∧ B ≤ g ∧ g < w.heap.size ∧ w.cell? ⟨g, j, none⟩ = some (.bool xs[j]) ∧ w.frozen? ⟨g, j, none⟩ = false := by
  have h0 := h
  obtain ⟨h1, h2⟩ := h
  rcases h2 with ⟨e1, e2⟩ | ⟨g, cap, cur, e1, e2, e3, _⟩
  · omega
  · injection e1 with a1 a2 a3
    subst a1 a2 a3
    have hc := World.ownsRow.cellAt h0 j (by omega)
    refine ⟨g, rfl, e2, (Array.getElem?_eq_some_iff.1 e3).1, ?_, World.ownsRow.frozenAt h0 j⟩
    rw [hc]; simp [bcells, hj]
theorem OwnB.set {w : World} {B n cx g : Nat} {xs : List Bool} (h : OwnB w B (.slice (some ⟨g, 0, none⟩) n cx) xs) (j : Nat) (y : Bool) :
    OwnB (w.setCell ⟨g, j, none⟩ (.bool y)) B (.slice (some ⟨g, 0, none⟩) n cx) (xs.set j y) ∧ w.grownBy (w.setCell ⟨g, j, none⟩ (.bool y)) (some g) := by
  have h0 := h
  obtain ⟨h1, h2⟩ := h
  rcases h2 with ⟨e1, e2⟩ | ⟨g', cap, cur, e1, _⟩
  · cases e1
  · injection e1 with a1 a2 a3
    subst a2
    obtain ⟨s1, s2⟩ := World.ownsRow.stored h0 j (.bool y)
    refine ⟨?_, s2⟩
    unfold OwnB
    rw [bcells_set] at s1
    rw [List.length_set]
    exact s1
theorem OwnB.made (w : World) (B n : Nat) (hB : B ≤ w.heap.size) (hn : n ≤ 1000000000) :
    OwnB (w.alloc (.cells (madeCells #[.bool false] n) 4)) B (.slice (some ⟨w.heap.size, 0, none⟩) n n) (List.replicate n false) := by
  have hs : (madeCells #[Value.bool false] n).size = n * 1 := by simp [madeCells]
  have := World.ownsRow_lit (base := B) (e := 4) (size := 1) w (madeCells #[.bool false] n) n hB (by simp [maxLen]; omega) hs
  rw [toList_madeCells_one] at this
  unfold OwnB
  simpa [bcells] using this
theorem OwnB.grown {w w1 : World} {B : Nat} {v : Value} {xs : List Bool} {row : Option Nat} (h : OwnB w B v xs) (hg : w.grownBy w1 row) (hne : v.ownBlock = none ∨ v.ownBlock ≠ row) : OwnB w1 B v xs := World.ownsRow.kept h hg hne
theorem make_b (n : Nat) (h : n ≤ 1000000000) (w : World) : (Instr.makeSlice 96 (.int .i64 (n : Int)) (.int .i64 (n : Int))).run Tryz.prog w = .ok (.slice (some ⟨w.heap.size, 0, none⟩) n n) (w.alloc (.cells (madeCells #[.bool false] n) 4)) := by
  have := make_k (P := Tryz.prog) 96 4 _ 1 1 Tryz.underlying96 infoB n (by omega) (by omega) w
  rw [Nat.mul_one] at this
  exact this
/-- truth values read as a list -/
def BoolC (w : World) (A : Option Addr) (xs : List Bool) : Prop := ∀ j (h : j < xs.length), ∃ b off, A = some ⟨b, off, none⟩ ∧ b < w.heap.size ∧ w.cell? ⟨b, off + j, none⟩ = some (.bool xs[j])
theorem BoolC.below {w w1 : World} {A : Option Addr} {xs : List Bool} (h : BoolC w A xs) (hb : Below w.heap.size w w1) : BoolC w1 A xs := by
  intro j hj
  obtain ⟨b, off, e, hlt, hc⟩ := h j hj
  exact ⟨b, off, e, Nat.lt_of_lt_of_le hlt hb.size, (hb.cell (p := ⟨b, _, none⟩) hlt).trans hc⟩
theorem OwnB.read {w : World} {B n cx : Nat} {A : Option Addr} {xs : List Bool} (h : OwnB w B (.slice A n cx) xs) : BoolC w A xs := by
  intro j hj
  obtain ⟨g, rfl, _, hlt, hc, _⟩ := h.at_ j hj
  exact ⟨g, 0, rfl, hlt, by rw [Nat.zero_add]; exact hc⟩
end Go.Proofs.YtkgnejhflnekaaaGreat
namespace Go.Proofs.YtkgnejhflnekaaaGreat
open Go.RowKit
theorem infoSlB : (Tryz.prog.info? 96).map (fun i => (i.zero, i.size, i.bytes)) = some (some (.slice none 0 0), 1, 24) := by kernel_rfl
theorem ownB_apart {w1 w2 : World} {B : Nat} {v u : Value} {xs ys : List Bool} (hv : OwnB w1 B v xs) (hu : OwnB w2 w1.heap.size u ys) : (v.ownBlock = none ∨ v.ownBlock ≠ u.ownBlock) ∧ (u.ownBlock = none ∨ u.ownBlock ≠ v.ownBlock) := by
  cases e1 : v.ownBlock with
  | none => exact ⟨.inl rfl, by cases e2 : u.ownBlock with | none => exact .inl rfl | some k => exact .inr (by simp)⟩
  | some j =>
    cases e2 : u.ownBlock with
    | none => exact ⟨.inr (by simp), .inl rfl⟩
    | some k =>
      have h1 := (World.ownsRow.lt hv j e1).2
      have h2 := (World.ownsRow.lt hu k e2).1
      exact ⟨.inr (by simp; omega), .inr (by simp; omega)⟩
def RowsB (w : World) (B : Option Addr) (L : List (List Bool)) : Prop :=
  ∀ k (h : k < L.length), ∃ b off A cx, B = some ⟨b, off, none⟩ ∧ b < w.heap.size ∧ w.cell? ⟨b, off + k, none⟩ = some (.slice A L[k].length cx) ∧ BoolC w A L[k]
theorem RowsB.below {w w1 : World} {B : Option Addr} {L : List (List Bool)} (h : RowsB w B L) (hb : Below w.heap.size w w1) : RowsB w1 B L := by
  intro k hk
  obtain ⟨b, off, A, cx, e, hlt, hc, hr⟩ := h k hk
  exact ⟨b, off, A, cx, e, Nat.lt_of_lt_of_le hlt hb.size, (hb.cell (p := ⟨b, _, none⟩) hlt).trans hc, hr.below hb⟩
def OwnBB (w : World) (B : Nat) (v : Value) (L : List (List Bool)) : Prop :=
  ∃ vs : List Value, w.ownsRow B 96 1 v L.length vs ∧ (∀ i (h : i < vs.length) (h' : i < L.length), OwnB w B vs[i] L[i]) ∧
    (∀ i j (h : i < vs.length) (h' : j < vs.length), i ≠ j → Apart vs[i] vs[j]) ∧ ∀ i (h : i < vs.length), Apart vs[i] v
theorem OwnBB.rows {w : World} {B : Nat} {v : Value} {L : List (List Bool)} (h : OwnBB w B v L) : ∃ A cx, v = .slice A L.length cx ∧ RowsB w A L := by
  obtain ⟨vs, h1, h2, _⟩ := h
  have hl : vs.length = L.length := by have := h1.1; omega
  obtain ⟨_, h3⟩ := h1
  rcases h3 with ⟨rfl, h3⟩ | ⟨g, cap, cur, rfl, e2, e3, e4, e5, e6, e7⟩
  · exact ⟨none, 0, by rw [h3], fun k hk => by omega⟩
  · refine ⟨some ⟨g, 0, none⟩, cap, rfl, fun k hk => ?_⟩
    obtain ⟨A, cx, e⟩ := (h2 k (by omega) hk).shape
    have hc : BoolC w A L[k] := by have h8 := h2 k (by omega) hk; rw [e] at h8; exact h8.read
    refine ⟨g, 0, A, cx, rfl, (Array.getElem?_eq_some_iff.1 e3).1, ?_, hc⟩
    rw [Nat.zero_add]
    unfold World.cell?
    simp only [e3]
    have hk2 : k < vs.length := by omega
    have h9 : (cur.toList.take (L.length * 1))[k]? = some (vs[k]'hk2) := by rw [e7]; exact List.getElem?_eq_getElem hk2
    rw [List.getElem?_take] at h9
    simp [hk] at h9
    simp [h9, e]
theorem OwnBB.kept {w w' : World} {B : Nat} {v : Value} {L : List (List Bool)} {row : Option Nat} (h : OwnBB w B v L) (hg : w.grownBy w' row) (hr : ∀ k, row = some k → k < B) : OwnBB w' B v L := by
  obtain ⟨vs, h1, h2, h3, h4⟩ := h
  have ne : ∀ (u : Value) (n : Nat) (xs : List Value) (e : TypeId) (s : Nat), w.ownsRow B e s u n xs → u.ownBlock = none ∨ u.ownBlock ≠ row := fun u n xs e s ho => by
    cases eu : u.ownBlock with
    | none => exact .inl rfl
    | some k =>
      right
      have := (World.ownsRow.lt ho k eu).1
      intro e2
      have := hr k e2.symm
      omega
  exact ⟨vs, World.ownsRow.kept h1 hg (ne _ _ _ _ _ h1), fun i hi hi' => World.ownsRow.kept (h2 i hi hi') hg (ne _ _ _ _ _ (h2 i hi hi')), h3, h4⟩
theorem OwnBB.below {w w1 : World} {B : Nat} {v : Value} {L : List (List Bool)} (h : OwnBB w B v L) (hb : Below w.heap.size w w1) : OwnBB w1 B v L := by
  obtain ⟨vs, h1, h2, h3, h4⟩ := h
  refine ⟨vs, ?_, fun i hi hi' => (h2 i hi hi').below hb, h3, h4⟩
  exact World.ownsRow.kept (row := none) h1 ⟨hb.os, hb.tape, hb.output, hb.size, fun k hk _ => hb.block k hk⟩ (by cases h : v.ownBlock with | none => exact .inl rfl | some k => exact .inr (by simp))
theorem OwnBB.weaken {w : World} {B B' : Nat} {v : Value} {L : List (List Bool)} (h : OwnBB w B v L) (hB : B' ≤ B) : OwnBB w B' v L := by
  obtain ⟨vs, ⟨a1, a2⟩, h2, h3, h4⟩ := h
  refine ⟨vs, ⟨a1, ?_⟩, fun i hi hi' => (h2 i hi hi').weaken hB, h3, h4⟩
  rcases a2 with a2 | ⟨g, cap, cur, e1, e2, e3⟩
  · exact .inl a2
  · exact .inr ⟨g, cap, cur, e1, Nat.le_trans hB e2, e3⟩
theorem OwnBB.empty {w : World} {B g : Nat} (hg : w.heap.size = g) (hB : B ≤ w.heap.size) : OwnBB (w.alloc (.cells #[] 96)) B (.slice (some ⟨g, 0, none⟩) 0 0) [] := by
  subst hg
  exact ⟨[], World.ownsRow_lit (base := B) (e := 96) (size := 1) w #[] 0 hB (by simp [maxLen]) (by simp), fun i h => by simp at h, fun i j h => by simp at h, fun i h => by simp at h⟩
theorem OwnBB.lt {w : World} {B : Nat} {v : Value} {L : List (List Bool)} (h : OwnBB w B v L) : ∀ k, v.ownBlock = some k → B ≤ k ∧ k < w.heap.size := by
  obtain ⟨vs, h1, _⟩ := h
  exact fun k hk => World.ownsRow.lt h1 k hk
theorem app_rowB {o : Oper} {a : Act} {W0 W : World} {K : Act → World → Prop} {Q : Exit → Act → World → Prop} (s x : Operand)
    (ho : o.op = .call { callee := .builtin .append, args := #[s, x], argTypes := #[145, 145] }) (B : Nat) (v : Value) (L : List (List Bool)) (u : Value) (xs : List Bool) (hs : a.eval s = v) (hown : OwnBB W0 B v L)
    (hW : Below W0.heap.size W0 W) (hu : OwnB W W0.heap.size u xs)
    (b off : Nat) (hx : a.eval x = .slice (some ⟨b, off, none⟩) 1 1) (hc : W.cell? ⟨b, off, none⟩ = some u) (hl : L.length ≤ 1000000000000) (hB : B ≤ W0.heap.size)
    (h : ∀ v' w', OwnBB w' B v' (L ++ [xs]) → W.grownBy w' v.ownBlock → (∀ k, v.ownBlock = some k → B ≤ k) → K (a.put o.dst v') w') : o.wp Tryz.prog a W K Q := by
  obtain ⟨vs, g1, g2, h3, h4⟩ := hown
  have h1 : W.ownsRow B 96 1 v L.length vs := World.ownsRow.kept (row := none) g1 ⟨hW.os, hW.tape, hW.output, hW.size, fun k hk _ => hW.block k hk⟩ (by cases h : v.ownBlock with | none => exact .inl rfl | some k => exact .inr (by simp))
  have h2 : ∀ i (h : i < vs.length) (h' : i < L.length), OwnB W B vs[i] L[i] := fun i h h' => (g2 i h h').below hW
  have hvl : vs.length = L.length := by have := h1.1; omega
  refine app_gen s x 145 96 (.slice none 0 0) 1 24 ho Tryz.underlying145 infoSlB rfl (by decide) B v L.length vs hs h1 ⟨b, off, none⟩ 1 1 [u] hx rfl ?_ ?_ ?_ ?_ (Nat.le_trans hB hW.size) ?_
  · intro j z hj
    cases j with
    | zero => simp at hj; subst hj; simpa [Addr.add] using hc
    | succ j => simp at hj
  · intro z hz
    simp at hz; subst hz
    obtain ⟨A, cx, rfl⟩ := hu.shape
    rfl
  · simp [maxLen]; omega
  · omega
  · intro v' w' k1 k2 k3
    have hvb := World.ownsRow.lt h1
    have hub := World.ownsRow.lt hu
    have hvb0 : ∀ k, v.ownBlock = some k → k < W0.heap.size := fun k hk => (World.ownsRow.lt g1 k hk).2
    have huv : Apart u v := by
      cases eu : u.ownBlock with
      | none => exact .inl eu
      | some k =>
        right; rw [eu]; intro e
        have := (hub k eu).1
        have := hvb0 k e.symm
        omega
    refine h v' w' ⟨vs ++ [u], by rw [List.length_append]; exact k1, fun i hi hi' => ?_, fun i j hi hj hij => ?_, fun i hi => ?_⟩ k2 (fun k hk => (hvb k hk).1)
    · by_cases e : i < vs.length
      · have e' : i < L.length := by omega
        rw [List.getElem_append_left e, List.getElem_append_left e']
        exact (h2 i e e').grown k2 (h4 i e)
      · have ei : i = vs.length := by simp at hi; omega
        subst ei
        rw [List.getElem_append_right (Nat.le_refl _), List.getElem_append_right (by omega)]
        simp only [Nat.sub_self, List.getElem_cons_zero, hvl]
        exact (hu.weaken hB).grown k2 huv
    · have far : ∀ q (hq : q < vs.length), Apart vs[q] u := fun q hq => (ownB_apart (g2 q hq (by omega)) hu).1
      by_cases e : i < vs.length
      · by_cases e2 : j < vs.length
        · rw [List.getElem_append_left e, List.getElem_append_left e2]; exact h3 i j e e2 hij
        · rw [List.getElem_append_left e, List.getElem_append_right (by omega)]
          simp only [show j - vs.length = 0 by simp at hj; omega, List.getElem_cons_zero]
          exact far i e
      · have e2 : j < vs.length := by simp at hi hj; omega
        rw [List.getElem_append_left e2, List.getElem_append_right (by omega)]
        simp only [show i - vs.length = 0 by simp at hi; omega, List.getElem_cons_zero]
        exact (far j e2).symm
    · by_cases e : i < vs.length
      · rw [List.getElem_append_left e]
        exact ((h4 i e).symm.app (fun k hk => ((h2 i e (by omega)).lt k hk).2) k3).symm
      · rw [List.getElem_append_right (by omega)]
        simp only [show i - vs.length = 0 by simp at hi; omega, List.getElem_cons_zero]
        exact (huv.symm.app (fun k hk => (hu.lt k hk).2) k3).symm
theorem wpl_app_rowB {ops : Array Oper} {rest : List Oper} {o : Oper} {a : Act} {W0 W : World} {Q : Exit → Act → World → Prop} (hgd : o.guard = none) (s x : Operand)
    (ho : o.op = .call { callee := .builtin .append, args := #[s, x], argTypes := #[145, 145] }) (B : Nat) (v : Value) (L : List (List Bool)) (u : Value) (xs : List Bool) (hs : a.eval s = v) (hown : OwnBB W0 B v L)
    (hW : Below W0.heap.size W0 W) (hu : OwnB W W0.heap.size u xs)
    (b off : Nat) (hx : a.eval x = .slice (some ⟨b, off, none⟩) 1 1) (hc : W.cell? ⟨b, off, none⟩ = some u) (hl : L.length ≤ 1000000000000) (hB : B ≤ W0.heap.size)
    (h : ∀ v' w', OwnBB w' B v' (L ++ [xs]) → W.grownBy w' v.ownBlock → (∀ k, v.ownBlock = some k → B ≤ k) → wpList Tryz.prog ops Q rest (a.put o.dst v') w') : wpList Tryz.prog ops Q (o :: rest) a W :=
  wpList_plain hgd fun _ hK => app_rowB s x ho B v L u xs hs hown hW hu b off hx hc hl hB fun v' w' h1 h2 h3 => hK _ _ (h v' w' h1 h2 h3)

end Go.Proofs.YtkgnejhflnekaaaGreat
namespace Go.Proofs.YtkgnejhflnekaaaGreat
open Go.RowKit
theorem OwnBB.one {w : World} {B n cx : Nat} {A : Option Addr} {xs : List Bool} (hO : OwnB w B (.slice A n cx) xs) (hB : B ≤ w.heap.size) :
    OwnBB (w.alloc (.cells #[.slice A n cx] 96)) B (.slice (some ⟨w.heap.size, 0, none⟩) 1 1) [xs] := by
  refine ⟨[.slice A n cx], ?_, fun i h h' => ?_, fun i j h h' hij => ?_, fun i h => ?_⟩
  · have := World.ownsRow_lit (base := B) (e := 96) (size := 1) w #[.slice A n cx] 1 hB (by simp [maxLen]) (by simp)
    simpa using this
  · have hi : i = 0 := by simp at h; omega
    subst hi
    exact hO.below (below_al (Below.refl _ _))
  · simp at h h'; omega
  · have hi : i = 0 := by simp at h; omega
    subst hi
    cases e : (Value.slice A n cx).ownBlock with
    | none => exact .inl e
    | some k => right; rw [List.getElem_cons_zero, e]; intro e2; have h8 := (hO.lt k e).2; have e3 : some k = some w.heap.size := e2; injection e3 with e3; omega
/-- a step back: from where a column leads to one of some words -/
def bstep (far nx : List Bool) (k : Col) : List Bool := if far.getD k.e.toNat false = true then nx.set k.w.toNat true else nx
def bgo (S : Nat) (cols : List Col) (far : List Bool) : List Bool := cols.foldl (bstep far) (List.replicate S false)
def farAt (S : Nat) (cols : List Col) : Nat → List Bool
  | 0 => List.replicate S true
  | i + 1 => bgo S cols (farAt S cols i)
def farL (S : Nat) (cols : List Col) (n : Nat) : List (List Bool) := (List.range (n + 1)).map (farAt S cols)
theorem bstep_len (far nx : List Bool) (k : Col) : (bstep far nx k).length = nx.length := by unfold bstep; split <;> simp
theorem bgo_len (S : Nat) (cols : List Col) (far : List Bool) : (bgo S cols far).length = S := by
  unfold bgo
  suffices ∀ nx : List Bool, (cols.foldl (bstep far) nx).length = nx.length by rw [this]; simp
  intro nx
  induction cols generalizing nx with
  | nil => rfl
  | cons k l ih => rw [List.foldl_cons, ih, bstep_len]
theorem farAt_len (S : Nat) (cols : List Col) : ∀ i, (farAt S cols i).length = S
  | 0 => by simp [farAt]
  | _ + 1 => bgo_len ..
theorem farL_len (S : Nat) (cols : List Col) (n : Nat) : (farL S cols n).length = n + 1 := by simp [farL]
theorem farL_get (S : Nat) (cols : List Col) (n i : Nat) (h : i < (farL S cols n).length) : (farL S cols n)[i] = farAt S cols i := by simp [farL]
theorem farL_succ (S : Nat) (cols : List Col) (n : Nat) : farL S cols (n + 1) = farL S cols n ++ [farAt S cols (n + 1)] := by simp [farL, List.range_succ]
theorem bgo_take (S : Nat) (cols : List Col) (far : List Bool) (j : Nat) (hj : j < cols.length) : bgo S (cols.take (j + 1)) far = bstep far (bgo S (cols.take j) far) cols[j] := by
  unfold bgo; rw [List.take_succ_eq_append_getElem hj, List.foldl_append]; rfl
theorem bstep_eq (far nx : List Bool) (k : Col) (h : k.e.toNat < far.length) : bstep far nx k = if far[k.e.toNat] = true then nx.set k.w.toNat true else nx := by
  unfold bstep; simp [h]
end Go.Proofs.YtkgnejhflnekaaaGreat
