/- Contracts and lemmas for the statements of this seat, written for this claim; each theorem states its own conditions. -/
import Derived.Test.YtkgnejhflnekaaaGreatMuBr
import Derived.Test.YtkgnejhflnekaaaGreatMuRw
set_option linter.unusedVariables false
set_option linter.unusedSimpArgs false
namespace Go.Proofs.YtkgnejhflnekaaaGreat
open Go.RowKit
theorem ownsRow_same {w w' : World} {B : Nat} {e : TypeId} {size : Nat} {v : Value} {n : Nat} {xs : List Value} (h : w.ownsRow B e size v n xs) (hs : ∀ k, v.ownBlock = some k → w'.heap[k]? = w.heap[k]?) : w'.ownsRow B e size v n xs := by
  obtain ⟨h1, h2⟩ := h
  refine ⟨h1, ?_⟩
  rcases h2 with h2 | ⟨g, cap, cur, rfl, e2, e3, e4⟩
  · exact .inl h2
  · exact .inr ⟨g, cap, cur, rfl, e2, (hs g rfl).trans e3, e4⟩
theorem OwnI.same {w w' : World} {B : Nat} {v : Value} {xs : List Int} (h : OwnI w B v xs) (hs : ∀ k, B ≤ k → k < w.heap.size → w'.heap[k]? = w.heap[k]?) : OwnI w' B v xs :=
  ownsRow_same h fun k hk => hs k (World.ownsRow.lt h k hk).1 (World.ownsRow.lt h k hk).2
/-- as OwnII, and the blocks of the rows lie ahead of N -/
def OwnN (w : World) (B N : Nat) (v : Value) (L : List (List Int)) : Prop :=
  ∃ vs : List Value, w.ownsRow B 35 1 v L.length vs ∧ (∀ i (h : i < vs.length) (h' : i < L.length), OwnI w B vs[i] L[i]) ∧
    (∀ i j (h : i < vs.length) (h' : j < vs.length), i ≠ j → Apart vs[i] vs[j]) ∧ (∀ i (h : i < vs.length), Apart vs[i] v) ∧ ∀ i (h : i < vs.length) k, vs[i].ownBlock = some k → k < N
theorem OwnII.toN {w : World} {B : Nat} {v : Value} {L : List (List Int)} (h : OwnII w B v L) : OwnN w B w.heap.size v L := by
  obtain ⟨vs, h1, h2, h3, h4⟩ := h
  have hl : vs.length = L.length := by have := h1.1; omega
  exact ⟨vs, h1, h2, h3, h4, fun i hi k hk => (World.ownsRow.lt (h2 i hi (by omega)) k hk).2⟩
theorem OwnN.toII {w : World} {B N : Nat} {v : Value} {L : List (List Int)} (h : OwnN w B N v L) : OwnII w B v L := by
  obtain ⟨vs, h1, h2, h3, h4, _⟩ := h
  exact ⟨vs, h1, h2, h3, h4⟩
theorem OwnN.same {w w' : World} {B N : Nat} {v : Value} {L : List (List Int)} (h : OwnN w B N v L) (hs : ∀ k, B ≤ k → k < w.heap.size → w'.heap[k]? = w.heap[k]?) : OwnN w' B N v L := by
  obtain ⟨vs, h1, h2, h3, h4, h5⟩ := h
  exact ⟨vs, ownsRow_same h1 fun k hk => hs k (World.ownsRow.lt h1 k hk).1 (World.ownsRow.lt h1 k hk).2, fun i hi hi' => (h2 i hi hi').same hs, h3, h4, h5⟩
theorem OwnII.same {w w' : World} {B : Nat} {v : Value} {L : List (List Int)} (h : OwnII w B v L) (hs : ∀ k, B ≤ k → k < w.heap.size → w'.heap[k]? = w.heap[k]?) : OwnII w' B v L := by
  obtain ⟨vs, h1, h2, h3, h4⟩ := h
  exact ⟨vs, ownsRow_same h1 fun k hk => hs k (World.ownsRow.lt h1 k hk).1 (World.ownsRow.lt h1 k hk).2, fun i hi hi' => (h2 i hi hi').same hs, h3, h4⟩
/-- only blocks from B on and ahead of N may have changed, and new ones may have come -/
structure Touch (B N : Nat) (w w' : World) : Prop where
  os : w'.os = w.os
  tape : w'.tape = w.tape
  output : w'.output = w.output
  size : w.heap.size ≤ w'.heap.size
  block : ∀ k, k < w.heap.size → (k < B ∨ N ≤ k) → w'.heap[k]? = w.heap[k]?
theorem Touch.refl (B N : Nat) (w : World) : Touch B N w w := ⟨rfl, rfl, rfl, Nat.le_refl _, fun _ _ _ => rfl⟩
theorem Touch.grow {B N : Nat} {w w1 w2 : World} {row : Option Nat} (h : Touch B N w w1) (hg : w1.grownBy w2 row) (hr : ∀ k, row = some k → B ≤ k ∧ k < N) : Touch B N w w2 := by
  obtain ⟨g1, g2, g3, g4, g5⟩ := hg
  refine ⟨g1.trans h.os, g2.trans h.tape, g3.trans h.output, Nat.le_trans h.size g4, fun k hk hkk => (g5 k (Nat.lt_of_lt_of_le hk h.size) fun e => ?_).trans (h.block k hk hkk)⟩
  have := hr k e.symm
  omega
theorem Touch.below {B N : Nat} {w w' : World} (h : Touch B N w w') (hB : B ≤ w.heap.size) : Below B w w' := ⟨h.os, h.tape, h.output, Nat.le_trans hB h.size |> fun _ => h.size, fun k hk => h.block k (by omega) (.inl hk)⟩
theorem Touch.one {w w' : World} {b : Nat} (h : w.grownBy w' (some b)) : Touch b (b + 1) w w' := (Touch.refl _ _ _).grow h (fun k hk => by injection hk with hk; omega)
theorem OwnII.kept {w w' : World} {B : Nat} {v : Value} {L : List (List Int)} {row : Option Nat} (h : OwnII w B v L) (hg : w.grownBy w' row) (hr : ∀ k, row = some k → k < B) : OwnII w' B v L := by
  obtain ⟨vs, h1, h2, h3, h4⟩ := h
  have ne : ∀ (u : Value) (n : Nat) (xs : List Value) (e : TypeId) (s : Nat), w.ownsRow B e s u n xs → u.ownBlock = none ∨ u.ownBlock ≠ row := fun u n xs e s ho => by
    cases eu : u.ownBlock with
    | none => exact .inl rfl
    | some k =>
      right
      have := (World.ownsRow.lt ho k eu).1
      intro e2
      have := hr k e2.symm
      omega
  exact ⟨vs, World.ownsRow.kept h1 hg (ne _ _ _ _ _ h1), fun i hi hi' => World.ownsRow.kept (h2 i hi hi') hg (ne _ _ _ _ _ (h2 i hi hi')), h3, h4⟩
theorem OwnII.below {w w1 : World} {B : Nat} {v : Value} {L : List (List Int)} (h : OwnII w B v L) (hb : Below w.heap.size w w1) : OwnII w1 B v L := by
  obtain ⟨vs, h1, h2, h3, h4⟩ := h
  refine ⟨vs, ?_, fun i hi hi' => (h2 i hi hi').below hb, h3, h4⟩
  exact World.ownsRow.kept (row := none) h1 ⟨hb.os, hb.tape, hb.output, hb.size, fun k hk _ => hb.block k hk⟩ (by cases h : v.ownBlock with | none => exact .inl rfl | some k => exact .inr (by simp))
theorem OwnII.weaken {w : World} {B B' : Nat} {v : Value} {L : List (List Int)} (h : OwnII w B v L) (hB : B' ≤ B) : OwnII w B' v L := by
  obtain ⟨vs, ⟨a1, a2⟩, h2, h3, h4⟩ := h
  refine ⟨vs, ⟨a1, ?_⟩, fun i hi hi' => (h2 i hi hi').weaken hB, h3, h4⟩
  rcases a2 with a2 | ⟨g, cap, cur, e1, e2, e3⟩
  · exact .inl a2
  · exact .inr ⟨g, cap, cur, e1, Nat.le_trans hB e2, e3⟩
theorem OwnII.nil (w : World) (B : Nat) : OwnII w B (.slice none 0 0) [] := ⟨[], World.ownsRow_nil _ _ _ _, fun i h => by simp at h, fun i j h => by simp at h, fun i h => by simp at h⟩
theorem OwnII.empty {w : World} {B g : Nat} (hg : w.heap.size = g) (hB : B ≤ w.heap.size) : OwnII (w.alloc (.cells #[] 35)) B (.slice (some ⟨g, 0, none⟩) 0 0) [] := by
  subst hg
  exact ⟨[], World.ownsRow_lit (base := B) (e := 35) (size := 1) w #[] 0 hB (by simp [maxLen]) (by simp), fun i h => by simp at h, fun i j h => by simp at h, fun i h => by simp at h⟩
theorem OwnI.to2 {w w1 : World} {B : Nat} {v : Value} {xs : List Int} (h : OwnI w B v xs) (hb : Below w.heap.size w w1) : OwnI w1 B v xs := h.below hb
/-- a list of numbers, new, is appended to an owned list of lists -/
theorem app_row {o : Oper} {a : Act} {W0 W : World} {K : Act → World → Prop} {Q : Exit → Act → World → Prop} (s x : Operand)
    (ho : o.op = .call { callee := .builtin .append, args := #[s, x], argTypes := #[29, 29] }) (B : Nat) (v : Value) (L : List (List Int)) (u : Value) (xs : List Int) (hs : a.eval s = v) (hown : OwnII W0 B v L)
    (hW : Below W0.heap.size W0 W) (hu : OwnI W W0.heap.size u xs)
    (b off : Nat) (hx : a.eval x = .slice (some ⟨b, off, none⟩) 1 1) (hc : W.cell? ⟨b, off, none⟩ = some u) (hl : L.length ≤ 1000000000000) (hB : B ≤ W0.heap.size)
    (h : ∀ v' w', OwnII w' B v' (L ++ [xs]) → W.grownBy w' v.ownBlock → (∀ k, v.ownBlock = some k → B ≤ k) → K (a.put o.dst v') w') : o.wp Tryz.prog a W K Q := by
  obtain ⟨vs, g1, g2, h3, h4⟩ := hown
  have h1 : W.ownsRow B 35 1 v L.length vs := World.ownsRow.kept (row := none) g1 ⟨hW.os, hW.tape, hW.output, hW.size, fun k hk _ => hW.block k hk⟩ (by cases h : v.ownBlock with | none => exact .inl rfl | some k => exact .inr (by simp))
  have h2 : ∀ i (h : i < vs.length) (h' : i < L.length), OwnI W B vs[i] L[i] := fun i h h' => (g2 i h h').below hW
  have hvl : vs.length = L.length := by have := h1.1; omega
  refine app_gen s x 29 35 (.slice none 0 0) 1 24 ho Tryz.underlying29 infoSl rfl (by decide) B v L.length vs hs h1 ⟨b, off, none⟩ 1 1 [u] hx rfl ?_ ?_ ?_ ?_ (Nat.le_trans hB hW.size) ?_
  · intro j z hj
    cases j with
    | zero => simp at hj; subst hj; simpa [Addr.add] using hc
    | succ j => simp at hj
  · intro z hz
    simp at hz; subst hz
    obtain ⟨A, cx, rfl, _⟩ := hu.shape
    rfl
  · simp [maxLen]; omega
  · omega
  · intro v' w' k1 k2 k3
    have hvb := World.ownsRow.lt h1
    have hub := World.ownsRow.lt hu
    have hvb0 : ∀ k, v.ownBlock = some k → k < W0.heap.size := fun k hk => (World.ownsRow.lt g1 k hk).2
    have huv : Apart u v := by
      cases eu : u.ownBlock with
      | none => exact .inl eu
      | some k =>
        right; rw [eu]; intro e
        have := (hub k eu).1
        have := hvb0 k e.symm
        omega
    refine h v' w' ⟨vs ++ [u], by rw [List.length_append]; exact k1, fun i hi hi' => ?_, fun i j hi hj hij => ?_, fun i hi => ?_⟩ k2 (fun k hk => (hvb k hk).1)
    · by_cases e : i < vs.length
      · have e' : i < L.length := by omega
        rw [List.getElem_append_left e, List.getElem_append_left e']
        exact (h2 i e e').grown k2 (h4 i e)
      · have ei : i = vs.length := by simp at hi; omega
        subst ei
        rw [List.getElem_append_right (Nat.le_refl _), List.getElem_append_right (by omega)]
        simp only [Nat.sub_self, List.getElem_cons_zero, hvl]
        exact (hu.weaken hB).grown k2 huv
    · have far : ∀ q (hq : q < vs.length), Apart vs[q] u := fun q hq => (own_apart (g2 q hq (by omega)) hu).1
      by_cases e : i < vs.length
      · by_cases e2 : j < vs.length
        · rw [List.getElem_append_left e, List.getElem_append_left e2]; exact h3 i j e e2 hij
        · rw [List.getElem_append_left e, List.getElem_append_right (by omega)]
          simp only [show j - vs.length = 0 by simp at hj; omega, List.getElem_cons_zero]
          exact far i e
      · have e2 : j < vs.length := by simp at hi hj; omega
        rw [List.getElem_append_left e2, List.getElem_append_right (by omega)]
        simp only [show i - vs.length = 0 by simp at hi; omega, List.getElem_cons_zero]
        exact (far j e2).symm
    · by_cases e : i < vs.length
      · rw [List.getElem_append_left e]
        exact ((h4 i e).symm.app (h2 i e (by omega)).blt k3).symm
      · rw [List.getElem_append_right (by omega)]
        simp only [show i - vs.length = 0 by simp at hi; omega, List.getElem_cons_zero]
        exact (huv.symm.app hu.blt k3).symm
theorem wpl_app_row {ops : Array Oper} {rest : List Oper} {o : Oper} {a : Act} {W0 W : World} {Q : Exit → Act → World → Prop} (hgd : o.guard = none) (s x : Operand)
    (ho : o.op = .call { callee := .builtin .append, args := #[s, x], argTypes := #[29, 29] }) (B : Nat) (v : Value) (L : List (List Int)) (u : Value) (xs : List Int) (hs : a.eval s = v) (hown : OwnII W0 B v L)
    (hW : Below W0.heap.size W0 W) (hu : OwnI W W0.heap.size u xs)
    (b off : Nat) (hx : a.eval x = .slice (some ⟨b, off, none⟩) 1 1) (hc : W.cell? ⟨b, off, none⟩ = some u) (hl : L.length ≤ 1000000000000) (hB : B ≤ W0.heap.size)
    (h : ∀ v' w', OwnII w' B v' (L ++ [xs]) → W.grownBy w' v.ownBlock → (∀ k, v.ownBlock = some k → B ≤ k) → wpList Tryz.prog ops Q rest (a.put o.dst v') w') : wpList Tryz.prog ops Q (o :: rest) a W :=
  wpList_plain hgd fun _ hK => app_row s x ho B v L u xs hs hown hW hu b off hx hc hl hB fun v' w' h1 h2 h3 => hK _ _ (h v' w' h1 h2 h3)
end Go.Proofs.YtkgnejhflnekaaaGreat
namespace Go.Proofs.YtkgnejhflnekaaaGreat
open Go.RowKit
def rowOk (n : Nat) (row : List Int) : Bool := row.length == 4 && row.all (inR 0 ((n : Int) - 1))
def areBlocksB (n : Nat) (L : List (List Int)) : Bool := L.all (rowOk n) && L.length == n
theorem areBlocksB_bad {n : Nat} {L : List (List Int)} {k : Nat} (hk : k < L.length) (h : rowOk n L[k] = false) : areBlocksB n L = false := by
  unfold areBlocksB
  have : L.all (rowOk n) = false := by
    rw [List.all_eq_false]
    exact ⟨L[k], List.getElem_mem hk, by simp [h]⟩
  simp [this]
theorem areBlocksB_all {n : Nat} {L : List (List Int)} (h : ∀ j (hj : j < L.length), rowOk n L[j] = true) : areBlocksB n L = (L.length == n) := by
  unfold areBlocksB
  have : L.all (rowOk n) = true := by
    rw [List.all_eq_true]
    intro x hx
    obtain ⟨j, hj, rfl⟩ := List.getElem_of_mem hx
    exact h j hj
  simp [this]
/-- blocks: as many as tiles, each of four numbers of tiles -/
def Blocks (n : Nat) (L : List (List Int)) : Prop := L.length = n ∧ ∀ k (h : k < L.length), ∃ hl : L[k].length = 4, ∀ j (hj : j < L[k].length), 0 ≤ L[k][j] ∧ L[k][j] < n
theorem areBlocksB_iff {n : Nat} {L : List (List Int)} (h : areBlocksB n L = true) : Blocks n L := by
  unfold areBlocksB at h
  rw [Bool.and_eq_true, List.all_eq_true] at h
  refine ⟨by simpa using h.2, fun k hk => ?_⟩
  have h1 := h.1 _ (List.getElem_mem hk)
  unfold rowOk at h1
  rw [Bool.and_eq_true, List.all_eq_true] at h1
  refine ⟨by simpa using h1.1, fun j hj => ?_⟩
  have h2 := h1.2 _ (List.getElem_mem hj)
  rw [inR_iff] at h2
  omega
set_option maxRecDepth 100000 in
set_option maxHeartbeats 1000000 in
theorem areBlocks1_c (c : Int) (A : Option Addr) (n cx : Nat) (x : Int) (b : Nat) (w : World) (hl : n ≤ 1000000000) (h0 : w.cell? ⟨b, 0, none⟩ = some (.int .i64 c)) (h1 : w.cell? ⟨b, 1, none⟩ = some (.slice A n cx)) :
    Calls Tryz.prog 215 #[.int .i64 x, .pointer (some ⟨b, 0, none⟩)] w fun e w' => e = .returned (.bool (!inR 0 ((n : Int) - 1) x)) ∧ Below w.heap.size w w' := by
  have H := Lib.hid (fun w => isNumber_c c A n cx x w hl)
  generalize inR 0 ((n : Int) - 1) x = r at *
  go_enter Tryz.func215, Tryz.ntmps215
  go_wp2_with fail
  refine (H.out _).mono ?_
  rintro e w1 ⟨rfl, hb1⟩
  go_wp2
  go_ret
  exact ⟨rfl, by (repeat (first | (with_reducible exact Below.refl _ _) | (with_reducible assumption) | (with_reducible refine below_al ?_) | (with_reducible refine below_dr ?_) | (with_reducible refine below_drN ?_) | (with_reducible refine below_set ?_ (by first | exact Nat.le_refl _ | (dsimp only; omega) | omega)) | (with_reducible refine below_tr (by with_reducible assumption) ?_)))⟩
theorem rowOk_eq {n : Nat} {row : List Int} : rowOk n row = (row.length == 4 && !row.any fun x => !inR 0 ((n : Int) - 1) x) := by
  unfold rowOk; congr 1; simp [List.any_eq_not_all_not]
set_option maxRecDepth 100000 in
set_option maxHeartbeats 1000000 in
theorem areBlocks_c (c : Int) (A : Option Addr) (n cx : Nat) (L : List (List Int)) (B : Option Addr) (cr : Nat) (w : World) (hR : RowsC w B L) (hl : n ≤ 1000000) (hn : L.length ≤ 1000000000) (hS : Short 1000000000 L) :
    Calls Tryz.prog 187 #[.agg #[.int .i64 c, .slice A n cx], .slice B L.length cr] w fun e w' => e = .returned (.bool (areBlocksB n L)) ∧ Below w.heap.size w w' := by
  go_enter Tryz.func187, Tryz.ntmps187
  go_wp2
  go_loopw [9] (fun i wr => ∃ k : Nat, k ≤ L.length ∧ i = .int .i64 k ∧ Hid (∀ j (hj : j < L.length), j < k → rowOk n L[j] = true) ∧ Below (w.heap.size + 1) (w.alloc (.cells #[.int .i64 c, .slice A n cx] 26)) wr) (fun i _ => L.length - (intOf i).toNat)
  case atStart => exact ⟨0, by omega, rfl, fun j _ hj => by omega, Below.refl _ _⟩
  case round =>
    obtain ⟨k, hk, rfl, Hn, hb⟩ := hrel
    have hbw : Below w.heap.size w wr := (((Below.refl w.heap.size w).alloc (Nat.le_refl _) _).trans (hb.mono (by omega)))
    have Hbw := Lib.hid hbw
    have Hb3 := Lib.hid hb
    have d0 : wr.cell? ⟨w.heap.size, 0, none⟩ = some (.int .i64 c) := (hb.cell (p := ⟨w.heap.size, 0, none⟩) (by simp)).trans (by simp)
    have d1 : wr.cell? ⟨w.heap.size, 1, none⟩ = some (.slice A n cx) := (hb.cell (p := ⟨w.heap.size, 1, none⟩) (by simp)).trans (by simp)
    have hN : w.heap.size < wr.heap.size := by have := hb.size; simp at this; omega
    by_cases h1 : k < L.length
    · obtain ⟨b, off, A1, c1, rfl, hlt, c0, r1⟩ := (hR.below hbw) k h1
      have HBad := Lib.hid (areBlocksB_bad (n := n) h1)
      have HE : Hid (rowOk n L[k] = true → ∀ j (h1 : j < L.length), j < k + 1 → rowOk n L[j] = true) := fun hE j h1 hj => by
        by_cases e : j = k
        · subst e; exact hE
        · exact Hn.out j h1 (by omega)
      have HQ := Lib.hid (rowOk_eq (n := n) (row := L[k]))
      have R1 := Lib.hid r1
      have hk9 := hS k h1
      have G0 := Lib.hid (keepC d0)
      have G1 := Lib.hid (keepC d1)
      clear hR hbw hb r1 hS
      generalize L[k] = row at *
      have HC := Lib.hid (fun wq h => containsFuncI_c row A1 c1 215 #[.pointer (some ⟨w.heap.size, 0, none⟩)] (fun x => !inR 0 ((n : Int) - 1) x) wq (fun _ _ => rfl) (R1.out.below h) hk9
        (fun x _ w1 hb => areBlocks1_c c A n cx x w.heap.size w1 (by omega) (G0.out _ ((h : Below wr.heap.size wr wq).trans (hb.mono h.size))) (G1.out _ (h.trans (hb.mono h.size)))))
      clear G0 G1
      by_cases h4 : row.length = 4
      · have h4' : ((row.length : Int) != 4) = false := by simp; omega
        generalize hq : (row.any fun x => !inR 0 ((n : Int) - 1) x) = q at *
        clear hq
        have hq2 : rowOk n row = !q := by rw [HQ.out]; simp [h4]
        cases q
        · have HF := Lib.hid (HE.out (by rw [hq2]; rfl))
          clear HE hq2 HBad h4
          go_wp2_with fail
          refine (HC.out _ (by (repeat (first | (with_reducible exact Below.refl _ _) | (with_reducible assumption) | (with_reducible refine below_al ?_) | (with_reducible refine below_dr ?_) | (with_reducible refine below_drN ?_) | (with_reducible refine below_set ?_ (by first | exact Nat.le_refl _ | (dsimp only; omega) | omega)) | (with_reducible refine below_tr (by with_reducible assumption) ?_))))).mono ?_
          rintro e w1 ⟨rfl, hb1⟩
          go_wp2
          go_roundw
          case rel => exact ⟨k + 1, by omega, by go_num, HF, by have h3 := Hb3.out; exact h3.trans ((show Below wr.heap.size wr _ by (repeat (first | (with_reducible exact Below.refl _ _) | (with_reducible assumption) | (with_reducible refine below_al ?_) | (with_reducible refine below_dr ?_) | (with_reducible refine below_drN ?_) | (with_reducible refine below_set ?_ (by first | exact Nat.le_refl _ | (dsimp only; omega) | omega)) | (with_reducible refine below_tr (by with_reducible assumption) ?_)))).mono (by omega))⟩
          case measure => simp [intOf]; omega
        · have HF := Lib.hid (HBad.out (by rw [hq2]; rfl))
          clear HE hq2 HBad h4
          go_wp2_with fail
          refine (HC.out _ (by (repeat (first | (with_reducible exact Below.refl _ _) | (with_reducible assumption) | (with_reducible refine below_al ?_) | (with_reducible refine below_dr ?_) | (with_reducible refine below_drN ?_) | (with_reducible refine below_set ?_ (by first | exact Nat.le_refl _ | (dsimp only; omega) | omega)) | (with_reducible refine below_tr (by with_reducible assumption) ?_))))).mono ?_
          rintro e w1 ⟨rfl, hb1⟩
          go_wp2
          go_ret
          exact ⟨ret_bool HF.out.symm, by have h2 := Hbw.out; (repeat (first | (with_reducible exact Below.refl _ _) | (with_reducible assumption) | (with_reducible refine below_al ?_) | (with_reducible refine below_dr ?_) | (with_reducible refine below_drN ?_) | (with_reducible refine below_set ?_ (by first | exact Nat.le_refl _ | (dsimp only; omega) | omega)) | (with_reducible refine below_tr (by with_reducible assumption) ?_)))⟩
      · have h4' : ((row.length : Int) != 4) = true := by simp; omega
        have HF := Lib.hid (HBad.out (by rw [HQ.out]; simp [h4]))
        clear h4
        go_wp2
        go_ret
        exact ⟨ret_bool HF.out.symm, Hbw.out⟩
    · have hfin := Lib.hid (areBlocksB_all (n := n) (L := L) (fun j hj => Hn.out j hj (by omega)))
      clear hR hb hbw hS
      by_cases he : L.length = n
      · have he' : ((L.length : Int) == (n : Int)) = true := by simp; omega
        have HF : Hid (areBlocksB n L = true) := by rw [Hid, hfin.out]; simp [he]
        clear he
        go_wp2
        go_ret
        exact ⟨ret_bool HF.out.symm, Hbw.out⟩
      · have he' : ((L.length : Int) == (n : Int)) = false := by simp; omega
        have HF : Hid (areBlocksB n L = false) := by rw [Hid, hfin.out]; simp [he]
        clear he
        go_wp2
        go_ret
        exact ⟨ret_bool HF.out.symm, Hbw.out⟩

end Go.Proofs.YtkgnejhflnekaaaGreat
namespace Go.Proofs.YtkgnejhflnekaaaGreat
open Go.RowKit
set_option maxRecDepth 100000 in
set_option maxHeartbeats 1000000 in
theorem blocksCode1_c (c : Int) (A : Option Addr) (n cx : Nat) (L : List (List Int)) (B : Option Addr) (cr : Nat) (k : FuncId) (caps : Array Value) (fine : Bool) (b1 b2 b3 : Nat) (w : World) (hk : ∀ args w, Sem.run Tryz.prog (callFunc k args) w = .ok (.enter k args) w)
    (hR : RowsC w B L) (hl : n ≤ 1000000) (hn : L.length ≤ 1000000000) (hS : Short 1000000000 L)
    (f0 : w.cell? ⟨b1, 0, none⟩ = some (.int .i64 c)) (f1 : w.cell? ⟨b1, 1, none⟩ = some (.slice A n cx)) (f2 : w.cell? ⟨b2, 0, none⟩ = some (.slice B L.length cr)) (f3 : w.cell? ⟨b3, 0, none⟩ = some (.func (.func k) #[] caps))
    (hf : areBlocksB n L = true → ∀ w1, Below w.heap.size w w1 → Calls Tryz.prog k caps w1 fun e w2 => e = .returned (.bool fine) ∧ Below w1.heap.size w1 w2) :
    Calls Tryz.prog 186 #[.pointer (some ⟨b1, 0, none⟩), .pointer (some ⟨b2, 0, none⟩), .pointer (some ⟨b3, 0, none⟩)] w fun e w' => e = .returned (.bool (areBlocksB n L && fine)) ∧ Below w.heap.size w w' := by
  have HR := Lib.hid (areBlocks_c c A n cx L B cr w hR hl hn hS)
  have G3 := Lib.hid (keepC f3)
  have HF := Lib.hid hf
  clear hR hf
  generalize areBlocksB n L = r at *
  cases r
  · go_enter Tryz.func186, Tryz.ntmps186
    go_wp2_with fail
    refine HR.out.mono ?_
    rintro e w1 ⟨rfl, hb1⟩
    clear f3
    go_wp2
    go_ret
    exact ⟨rfl, by (repeat (first | (with_reducible exact Below.refl _ _) | (with_reducible assumption) | (with_reducible refine below_al ?_) | (with_reducible refine below_dr ?_) | (with_reducible refine below_drN ?_) | (with_reducible refine below_set ?_ (by first | exact Nat.le_refl _ | (dsimp only; omega) | omega)) | (with_reducible refine below_tr (by with_reducible assumption) ?_)))⟩
  · have HF2 := Lib.hid (HF.out rfl)
    go_enter Tryz.func186, Tryz.ntmps186
    go_wp2_with fail
    refine HR.out.mono ?_
    rintro e w1 ⟨rfl, hb1⟩
    have f3 := G3.out _ hb1
    have Hb1 := Lib.hid hb1
    clear hb1
    go_wp2_with fail
    refine (HF2.out _ Hb1.out).mono ?_
    rintro e w2 ⟨rfl, hb2⟩
    go_wp2
    go_ret
    exact ⟨by first | rfl | simp, Hb1.out.trans (hb2.mono Hb1.out.size)⟩
set_option maxRecDepth 100000 in
set_option maxHeartbeats 1000000 in
theorem blocksCode_c (c : Int) (ts : List T4) (A : Option Addr) (cx : Nat) (L : List (List Int)) (B : Option Addr) (cr : Nat) (k : FuncId) (caps : Array Value) (fine : Bool) (w : World) (hk : ∀ args w, Sem.run Tryz.prog (callFunc k args) w = .ok (.enter k args) w)
    (hT : TileCells w A ts) (hl : ts.length ≤ 1000000000) (hR : RowsC w B L) (hn : L.length ≤ 1000000000) (hS : Short 1000000000 L)
    (hf : isSetB c ts = true → areBlocksB ts.length L = true → ∀ w1, Below w.heap.size w w1 → Calls Tryz.prog k caps w1 fun e w2 => e = .returned (.bool fine) ∧ Below w1.heap.size w1 w2) :
    Calls Tryz.prog 108 #[.agg #[.int .i64 c, .slice A ts.length cx], .slice B L.length cr, .func (.func k) #[] caps] w fun e w' => e = .returned (.int .i64 (codeB (isSetB c ts) (areBlocksB ts.length L && fine))) ∧ Below w.heap.size w w' := by
  have HC := Lib.hid (fun (wq : World) (hwq : Below w.heap.size w wq) (b1 b2 b3 : Nat) h0 h1 h2 h3 => setCode_c c ts A cx 186 #[.pointer (some ⟨b1, 0, none⟩), .pointer (some ⟨b2, 0, none⟩), .pointer (some ⟨b3, 0, none⟩)] (areBlocksB ts.length L && fine) wq (fun _ _ => rfl) (hT.below hwq) hl
    (fun hs w1 hb => blocksCode1_c c A ts.length cx L B cr k caps fine b1 b2 b3 w1 hk ((hR.below hwq).below hb) (by have := (isSetB_small hs).2; omega) hn hS (keepC h0 _ hb) (keepC h1 _ hb) (keepC h2 _ hb) (keepC h3 _ hb)
      (fun ha w2 hb2 => hf hs ha w2 (hwq.trans ((hb.trans (hb2.mono hb.size)).mono hwq.size)))))
  clear hT hR hf
  go_enter Tryz.func108, Tryz.ntmps108
  go_wp2_with fail
  refine (HC.out _ (by (repeat (first | (with_reducible exact Below.refl _ _) | (with_reducible assumption) | (with_reducible refine below_al ?_) | (with_reducible refine below_dr ?_) | (with_reducible refine below_drN ?_) | (with_reducible refine below_set ?_ (by first | exact Nat.le_refl _ | (dsimp only; omega) | omega)) | (with_reducible refine below_tr (by with_reducible assumption) ?_)))) _ _ _ ?_ ?_ ?_ ?_).mono ?_
  · (repeat (first | (exact cell_al _ _ _ _ _ _ (by simp) rfl) | (refine cell_alloc_old _ _ _ _ _ ?_)))
  · (repeat (first | (exact cell_al _ _ _ _ _ _ (by simp) rfl) | (refine cell_alloc_old _ _ _ _ _ ?_)))
  · (repeat (first | (exact cell_al _ _ _ _ _ _ (by simp) rfl) | (refine cell_alloc_old _ _ _ _ _ ?_)))
  · (repeat (first | (exact cell_al _ _ _ _ _ _ (by simp) rfl) | (refine cell_alloc_old _ _ _ _ _ ?_)))
  rintro e w1 ⟨rfl, hb1⟩
  go_wp2
  go_ret
  exact ⟨rfl, by (repeat (first | (with_reducible exact Below.refl _ _) | (with_reducible assumption) | (with_reducible refine below_al ?_) | (with_reducible refine below_dr ?_) | (with_reducible refine below_drN ?_) | (with_reducible refine below_set ?_ (by first | exact Nat.le_refl _ | (dsimp only; omega) | omega)) | (with_reducible refine below_tr (by with_reducible assumption) ?_)))⟩
end Go.Proofs.YtkgnejhflnekaaaGreat
