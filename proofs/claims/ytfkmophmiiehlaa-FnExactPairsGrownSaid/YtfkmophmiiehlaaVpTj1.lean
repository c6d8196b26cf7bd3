/- Contracts and lemmas for the statements of this seat, written for this claim; each theorem states its own conditions. -/
import Derived.Test.YtfkmophmiiehlaaVpTi1
set_option linter.unusedVariables false
set_option linter.unusedSimpArgs false
namespace Go.Proofs.Ytfkmophmiiehlaa
open Go.RowKit
theorem make_bb (n : Nat) (h : n ≤ 1000) (w : World) : (Instr.makeSlice 132 (.int .i64 (n : Int)) (.int .i64 (n : Int))).run Try.prog w = .ok (.slice (some ⟨w.heap.size, 0, none⟩) n n) (w.alloc (.cells (madeCells #[.slice none 0 0] n) 115)) := by
  have := make_k (P := Try.prog) 132 115 _ 1 24 Try.underlying132 infoSlB n (by omega) (by omega) w
  rw [Nat.mul_one] at this
  exact this
/-- for each colour, the words that a column of this colour leads to, if there is a column -/
def NexS (w : World) (lo g S c : Nat) (F : Nat → Option (List Bool)) : Prop :=
  ∃ (vs : List Value) (bl : Nat → Nat), w.ownsRow lo 115 1 (.slice (some ⟨g, 0, none⟩) c c) c vs ∧
    (∀ x, x < c → (F x = none → vs[x]? = some (.slice none 0 0)) ∧ ∀ xs, F x = some xs → vs[x]? = some (.slice (some ⟨bl x, 0, none⟩) S S) ∧ bl x ≠ g ∧ OwnB w lo (.slice (some ⟨bl x, 0, none⟩) S S) xs) ∧
    ∀ x y, x < c → y < c → x ≠ y → F x ≠ none → F y ≠ none → bl x ≠ bl y
theorem NexS.move {w w' : World} {lo g S c : Nat} {F : Nat → Option (List Bool)} (h : NexS w lo g S c F) (hk : ∀ k, lo ≤ k → k < w.heap.size → w'.heap[k]? = w.heap[k]?) : NexS w' lo g S c F := by
  obtain ⟨vs, bl, h1, h3, h4⟩ := h
  refine ⟨vs, bl, own_same h1 fun k e => hk k (World.ownsRow.lt h1 k e).1 (World.ownsRow.lt h1 k e).2, fun x hx => ?_, h4⟩
  obtain ⟨f1, f2⟩ := h3 x hx
  refine ⟨f1, fun xs e => ?_⟩
  obtain ⟨g1, g2, g3⟩ := f2 xs e
  exact ⟨g1, g2, own_same g3 fun k hk2 => hk k (g3.lt k hk2).1 (g3.lt k hk2).2⟩
theorem NexS.below {w w' : World} {lo g S c : Nat} {F : Nat → Option (List Bool)} (h : NexS w lo g S c F) (hb : Below w.heap.size w w') : NexS w' lo g S c F := h.move fun k _ hk => hb.block k hk
theorem NexS.at_ {w : World} {lo g S c : Nat} {F : Nat → Option (List Bool)} (h : NexS w lo g S c F) {x : Nat} (hx : x < c) : lo ≤ g ∧ g < w.heap.size ∧ w.frozen? ⟨g, x, none⟩ = false ∧
    ((F x = none ∧ w.cell? ⟨g, x, none⟩ = some (.slice none 0 0)) ∨ ∃ b xs, F x = some xs ∧ w.cell? ⟨g, x, none⟩ = some (.slice (some ⟨b, 0, none⟩) S S) ∧ OwnB w lo (.slice (some ⟨b, 0, none⟩) S S) xs) := by
  obtain ⟨vs, bl, h1, h3, h4⟩ := h
  obtain ⟨f1, f2⟩ := h3 x hx
  obtain ⟨q1, q2⟩ := World.ownsRow.lt h1 g rfl
  have hc := World.ownsRow.cellAt h1 x (by omega)
  refine ⟨q1, q2, World.ownsRow.frozenAt h1 x, ?_⟩
  cases e : F x with
  | none => exact .inl ⟨rfl, hc.trans (f1 e)⟩
  | some xs => obtain ⟨g1, g2, g3⟩ := f2 xs e; exact .inr ⟨bl x, xs, rfl, hc.trans g1, g3⟩
theorem NexS.made (w : World) (S c : Nat) (hc : c ≤ 1000) : NexS (w.alloc (.cells (madeCells #[.slice none 0 0] c) 115)) w.heap.size w.heap.size S c (fun _ => none) := by
  have h := World.ownsRow_lit (base := w.heap.size) (e := 115) (size := 1) w (madeCells #[.slice none 0 0] c) c (Nat.le_refl _) (by simp [maxLen]; omega) (by simp [madeCells])
  rw [toList_madeCells_one] at h
  exact ⟨_, fun _ => 0, h, fun x hx => ⟨fun _ => by simp [hx], fun xs e => by cases e⟩, fun x y _ _ _ e => absurd rfl e⟩
/-- a new row of truth values, put in its place -/
theorem NexS.new {w : World} {lo g S c : Nat} {F : Nat → Option (List Bool)} (h : NexS w lo g S c F) {x : Nat} (hx : x < c) (hF : F x = none) (hS : S ≤ 1000000000) (hlo : lo ≤ w.heap.size) :
    NexS ((w.alloc (.cells (madeCells #[.bool false] S) 4)).setCell ⟨g, x, none⟩ (.slice (some ⟨w.heap.size, 0, none⟩) S S)) lo g S c (fun y => if y = x then some (List.replicate S false) else F y) := by
  obtain ⟨vs, bl, h1, h3, h4⟩ := h
  obtain ⟨q1, q2⟩ := World.ownsRow.lt h1 g rfl
  obtain ⟨s1, s2⟩ := World.ownsRow.stored (World.ownsRow.alloc h1 (.cells (madeCells #[.bool false] S) 4)) x (.slice (some ⟨w.heap.size, 0, none⟩) S S)
  have hvl : vs.length = c := by have := h1.1; omega
  have hold : ∀ y, y < c → y ≠ x → ∀ xs, F y = some xs → bl y < w.heap.size := fun y hy _ xs e => by
    obtain ⟨_, _, g3⟩ := (h3 y hy).2 xs e
    exact (g3.lt _ rfl).2
  refine ⟨_, fun y => if y = x then w.heap.size else bl y, s1, fun y hy => ?_, fun y z hy hz hyz e1 e2 => ?_⟩
  · by_cases e : y = x
    · subst e
      refine ⟨fun e => by simp at e, fun xs e => ?_⟩
      simp at e
      subst e
      refine ⟨by simp [List.getElem?_set, hvl, hy], by simp; omega, ?_⟩
      simp only [if_true]
      exact (OwnB.made w lo S hlo hS).grown s2 (.inr (by simp [Value.ownBlock]; omega))
    · obtain ⟨f1, f2⟩ := h3 y hy
      simp only [if_neg e]
      rw [List.getElem?_set_ne (Ne.symm e)]
      refine ⟨f1, fun xs e9 => ?_⟩
      obtain ⟨g1, g2, g3⟩ := f2 xs e9
      exact ⟨g1, g2, (g3.below (below_al (Below.refl _ _))).grown s2 (.inr (by simp [Value.ownBlock]; exact g2))⟩
  · by_cases ey : y = x
    · have ez : z ≠ x := fun e => hyz (ey.trans e.symm)
      simp only [if_neg ez] at e2
      simp only [if_pos ey, if_neg ez]
      obtain ⟨xs, e9⟩ := Option.ne_none_iff_exists'.1 e2
      have := hold z hz ez xs e9
      omega
    · simp only [if_neg ey] at e1
      by_cases ez : z = x
      · simp only [if_neg ey, if_pos ez]
        obtain ⟨xs, e9⟩ := Option.ne_none_iff_exists'.1 e1
        have := hold y hy ey xs e9
        omega
      · simp only [if_neg ez] at e2
        simp only [if_neg ey, if_neg ez]
        exact h4 y z hy hz hyz e1 e2
theorem NexS.set {w : World} {lo g S c b : Nat} {F : Nat → Option (List Bool)} {xs : List Bool} (h : NexS w lo g S c F) {x : Nat} (hx : x < c) (hF : F x = some xs) (hc : w.cell? ⟨g, x, none⟩ = some (.slice (some ⟨b, 0, none⟩) S S)) (e : Nat) :
    NexS (w.setCell ⟨b, e, none⟩ (.bool true)) lo g S c (fun y => if y = x then some (xs.set e true) else F y) := by
  obtain ⟨vs, bl, h1, h3, h4⟩ := h
  obtain ⟨g1, g2, g3⟩ := (h3 x hx).2 xs hF
  have hb : b = bl x := by
    have h9 := (World.ownsRow.cellAt h1 x (by omega)).symm.trans hc
    rw [g1] at h9
    injection h9 with h9; injection h9 with h9; injection h9 with h9; injection h9 with h9; exact h9.symm
  subst hb
  obtain ⟨s1, s2⟩ := g3.set e true
  refine ⟨vs, bl, World.ownsRow.kept h1 s2 (.inr (by simp [Value.ownBlock]; exact Ne.symm g2)), fun y hy => ?_, fun y z hy hz hyz e1 e2 => ?_⟩
  · by_cases ey : y = x
    · subst ey
      refine ⟨fun e => by simp at e, fun zs ez => ?_⟩
      simp at ez
      subst ez
      exact ⟨g1, g2, s1⟩
    · simp only [if_neg ey]
      obtain ⟨f1, f2⟩ := h3 y hy
      refine ⟨f1, fun zs ez => ?_⟩
      obtain ⟨k1, k2, k3⟩ := f2 zs ez
      exact ⟨k1, k2, k3.grown s2 (.inr (by simp [Value.ownBlock]; exact h4 y x hy hx ey (by rw [ez]; simp) (by rw [hF]; simp)))⟩
  · refine h4 y z hy hz hyz ?_ ?_
    · by_cases ey : y = x
      · subst ey; rw [hF]; simp
      · simpa only [if_neg ey] using e1
    · by_cases ez : z = x
      · subst ez; rw [hF]; simp
      · simpa only [if_neg ez] using e2
def nexF (S : Nat) (cols : List Col) (now far : List Bool) (x : Nat) : Option (List Bool) := if xsome cols x now far = true then some (xgo S cols x now far) else none
theorem xgo_none {S : Nat} {cols : List Col} {x : Int} {now far : List Bool} (h : xsome cols x now far = false) : xgo S cols x now far = List.replicate S false := by
  unfold xgo
  suffices ∀ nx : List Bool, cols.foldl (xstep x now far) nx = nx from this _
  unfold xsome at h
  intro nx
  induction cols generalizing nx with
  | nil => rfl
  | cons k l ih =>
    simp only [List.any_cons, Bool.or_eq_false_iff] at h
    rw [List.foldl_cons, ih h.2]
    unfold xstep
    rw [if_neg (by rw [h.1]; simp)]
theorem nexF_nil (S : Nat) (now far : List Bool) : nexF S [] now far = fun _ => none := by funext x; simp [nexF, xsome]
/-- a column that cannot be used changes nothing -/
theorem nexF_skip {S : Nat} {cols : List Col} {now far : List Bool} {j : Nat} (hj : j < cols.length) (h : (now.getD cols[j].w.toNat false && far.getD cols[j].e.toNat false) = false) : nexF S (cols.take (j + 1)) now far = nexF S (cols.take j) now far := by
  funext x
  have e1 := xsome_take cols x now far j hj
  have e2 := xgo_take S cols x now far j hj
  rw [Bool.and_assoc, h, Bool.and_false, Bool.or_false] at e1
  unfold xstep at e2
  rw [Bool.and_assoc, h, Bool.and_false, if_neg (by simp)] at e2
  unfold nexF
  rw [e1, e2]
/-- a column that can be used changes the words of its own colour -/
theorem nexF_use {S : Nat} {cols : List Col} {now far : List Bool} {j : Nat} (hj : j < cols.length) {n : Nat} (hn : cols[j].n = n) (h : (now.getD cols[j].w.toNat false && far.getD cols[j].e.toNat false) = true) :
    nexF S (cols.take (j + 1)) now far = fun x => if x = n then some (((nexF S (cols.take j) now far n).getD (List.replicate S false)).set cols[j].e.toNat true) else nexF S (cols.take j) now far x := by
  funext x
  have e1 := xsome_take cols x now far j hj
  have e2 := xgo_take S cols x now far j hj
  rw [Bool.and_assoc, h, Bool.and_true, hn] at e1
  unfold xstep at e2
  rw [Bool.and_assoc, h, Bool.and_true, hn] at e2
  by_cases hx : x = n
  · subst hx
    rw [if_pos rfl]
    rw [if_pos (by simp)] at e2
    unfold nexF
    rw [e1, e2]
    cases h9 : xsome (cols.take j) x now far
    · simp [xgo_none h9]
    · simp
  · rw [if_neg hx]
    have h8 : ((x : Int) == (n : Int)) = false := by simp; omega
    rw [h8, Bool.or_false] at e1
    rw [h8, if_neg (by simp)] at e2
    unfold nexF
    rw [e1, e2]

end Go.Proofs.Ytfkmophmiiehlaa
