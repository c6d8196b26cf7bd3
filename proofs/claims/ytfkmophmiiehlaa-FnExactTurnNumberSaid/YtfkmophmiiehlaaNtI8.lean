/- Contracts and lemmas for the statements of this seat, written for this claim; each theorem states its own conditions. -/
import Derived.Test.YtfkmophmiiehlaaNtI7
set_option linter.unusedVariables false
set_option linter.unusedSimpArgs false
namespace Go.Proofs.Ytfkmophmiiehlaa
open Go.RowKit
theorem len_le_of_mem : ∀ (D E : List T4), D.Nodup → (∀ x ∈ D, x ∈ E) → D.length ≤ E.length
  | [], _, _, _ => Nat.zero_le _
  | d :: D, E, hn, h => by
    have hd : d ∈ E := h d (by simp)
    obtain ⟨h1, h2⟩ := List.nodup_cons.1 hn
    have := len_le_of_mem D (E.erase d) h2 (fun x hx => by
      have hne : x ≠ d := fun e => h1 (by rw [← e]; exact hx)
      exact (List.mem_erase_of_ne hne).2 (h x (by simp [hx])))
    have hl := List.length_erase_of_mem hd
    have h0 : 0 < E.length := List.length_pos_of_mem hd
    simp only [List.length_cons]
    omega
theorem len_eq_of_mem (D E : List T4) (h1 : D.Nodup) (h2 : E.Nodup) (h : ∀ x, x ∈ D ↔ x ∈ E) : D.length = E.length :=
  Nat.le_antisymm (len_le_of_mem D E h1 (fun x => (h x).1)) (len_le_of_mem E D h2 (fun x => (h x).2))
theorem ltT_of_ne {x y : T4} (h : ltT y x = false) (hne : y ≠ x) : ltT x y = true := by
  cases h2 : ltT x y
  · exact absurd (ltT_anti y x h h2) hne
  · rfl
theorem ddp_spec : ∀ (xs : List T4) (p : T4), (p :: xs).Pairwise (fun x y => ltT y x = false) →
    (ddp p xs).Pairwise (fun x y => ltT x y = true) ∧ (∀ x, x ∈ ddp p xs ↔ x ∈ xs ∧ x ≠ p) ∧ (∀ x ∈ ddp p xs, ltT p x = true)
  | [], p, _ => by simp [ddp]
  | y :: ys, p, h => by
    rw [List.pairwise_cons, List.pairwise_cons] at h
    obtain ⟨h1, h2, h3⟩ := h
    have hy := h1 y (by simp)
    unfold ddp
    by_cases e : y = p
    · rw [if_pos e]
      obtain ⟨i1, i2, i3⟩ := ddp_spec ys p (List.pairwise_cons.2 ⟨fun z hz => h1 z (by simp [hz]), h3⟩)
      refine ⟨i1, fun x => ?_, i3⟩
      rw [i2]
      constructor
      · rintro ⟨a, b⟩; exact ⟨by simp [a], b⟩
      · rintro ⟨a, b⟩
        rcases List.mem_cons.1 a with rfl | a
        · exact absurd e b
        · exact ⟨a, b⟩
    · rw [if_neg e]
      obtain ⟨i1, i2, i3⟩ := ddp_spec ys y (List.pairwise_cons.2 ⟨h2, h3⟩)
      have hpy : ltT p y = true := ltT_of_ne hy e
      refine ⟨List.pairwise_cons.2 ⟨i3, i1⟩, fun x => ?_, ?_⟩
      · rw [List.mem_cons, List.mem_cons, i2]
        constructor
        · rintro (rfl | ⟨a, b⟩)
          · exact ⟨.inl rfl, e⟩
          · refine ⟨.inr a, fun e' => ?_⟩
            subst e'
            have := h2 x a
            rw [hpy] at this
            cases this
        · rintro ⟨a, b⟩
          rcases a with rfl | a
          · exact .inl rfl
          · by_cases e2 : x = y
            · exact .inl e2
            · exact .inr ⟨a, e2⟩
      · intro x hx
        rcases List.mem_cons.1 hx with rfl | hx
        · exact hpy
        · exact ltT_swo.trans _ _ _ hpy (i3 x hx)
theorem ddT_spec (ss : List T4) (h : ss.Pairwise (fun x y => ltT y x = false)) : (ddT ss).Pairwise (fun x y => ltT x y = true) ∧ ∀ x, x ∈ ddT ss ↔ x ∈ ss := by
  cases ss with
  | nil => simp [ddT]
  | cons p xs =>
    obtain ⟨i1, i2, i3⟩ := ddp_spec xs p h
    refine ⟨List.pairwise_cons.2 ⟨i3, i1⟩, fun x => ?_⟩
    show x ∈ p :: ddp p xs ↔ _
    rw [List.mem_cons, List.mem_cons, i2]
    constructor
    · rintro (a | ⟨a, b⟩)
      · exact .inl a
      · exact .inr a
    · rintro (a | a)
      · exact .inl a
      · by_cases e : x = p
        · exact .inl e
        · exact .inr ⟨a, e⟩
/-- the different tiles of a list, by their order -/
def setT (ts : List T4) : List T4 := ddT (sortT ts)
theorem setT_mem (ts : List T4) (x : T4) : x ∈ setT ts ↔ x ∈ ts := ((ddT_spec _ (sortT_sorted ts)).2 x).trans (sortT_perm ts).mem_iff
theorem setT_asc (ts : List T4) : (setT ts).Pairwise (fun x y => ltT x y = true) := (ddT_spec _ (sortT_sorted ts)).1
theorem setT_nodup (ts : List T4) : (setT ts).Nodup := (setT_asc ts).imp (fun h e => by rw [e, ltT_swo.irrefl] at h; cases h)
theorem turnT_inj {s t : T4} (h : turnT s = turnT t) : s = t := by
  obtain ⟨a, b, c, d⟩ := s
  obtain ⟨a', b', c', d'⟩ := t
  simp only [turnT, T4.mk.injEq] at h ⊢
  omega
theorem turnNo_law (t : T4) : (ddT (sortT (turnsL t 4))).length = turnNo t := by
  have key : ∀ E : List T4, E.Nodup → (∀ x, x ∈ turnsL t 4 ↔ x ∈ E) → (ddT (sortT (turnsL t 4))).length = E.length := fun E hE h =>
    len_eq_of_mem _ _ (setT_nodup _) hE (fun x => (setT_mem _ x).trans (h x))
  have hL : turnsL t 4 = [t, turnN t 1, turnN t 2, turnN t 3] := rfl
  have s2 : turnN t 2 = turnT (turnN t 1) := rfl
  have s3 : turnN t 3 = turnT (turnN t 2) := rfl
  have s1 : turnN t 1 = turnT t := rfl
  have s4 : t = turnT (turnN t 3) := (turnN4 t).symm
  rw [hL] at key ⊢
  unfold turnNo
  by_cases h1 : turnN t 1 = t
  · rw [if_pos h1]
    have h2 : turnN t 2 = t := by rw [s2, h1, ← s1, h1]
    have h3 : turnN t 3 = t := by rw [s3, h2, ← s1, h1]
    exact key [t] (by simp) (fun x => by rw [h1, h2, h3]; simp)
  · rw [if_neg h1]
    by_cases h2 : turnN t 2 = t
    · rw [if_pos h2]
      have h3 : turnN t 3 = turnN t 1 := by rw [s3, h2, ← s1]
      exact key [t, turnN t 1] (by simp [Ne.symm h1]) (fun x => by
        rw [h2, h3]; simp only [List.mem_cons, List.not_mem_nil, or_false]
        constructor
        · rintro (h | h | h | h)
          · exact .inl h
          · exact .inr h
          · exact .inl h
          · exact .inr h
        · rintro (h | h)
          · exact .inl h
          · exact .inr (.inl h))
    · rw [if_neg h2]
      have h3 : turnN t 3 ≠ t := fun h => h1 (by rw [s1]; conv => rhs; rw [s4, h])
      rw [if_neg h3]
      have a12 : turnN t 1 ≠ turnN t 2 := fun h => h1 (turnT_inj (by rw [← s2, ← s1]; exact h.symm))
      have a13 : turnN t 1 ≠ turnN t 3 := fun h => h2 (turnT_inj (by rw [← s3, ← s1]; exact h.symm))
      have a23 : turnN t 2 ≠ turnN t 3 := fun h => a12 (turnT_inj (by rw [← s2, ← s3]; exact h))
      exact key [t, turnN t 1, turnN t 2, turnN t 3] (by simp [Ne.symm h1, Ne.symm h2, Ne.symm h3, a12, a13, a23]) (fun x => Iff.rfl)
set_option maxRecDepth 100000 in
set_option maxHeartbeats 1000000 in
theorem law_TurnNumber (t : T4) (w : World) :
    Calls Try.prog 5 #[.agg #[.int .i64 t.a, .int .i64 t.b, .int .i64 t.c, .int .i64 t.d]] w fun e w' => e = .returned (.bool true) ∧ Below w.heap.size w w' := by
  have HT := Lib.hid (fun w => toTile_c t w)
  have hs := fun w => specTurnNumber_c t w
  have hi := fun w => implTurnNumber_c t w
  rw [turnNo_law] at hi
  have HS := Lib.hid hs
  have HI := Lib.hid hi
  clear hs hi
  have hr : ∃ a b : Int, (if isTileB t 6 = true then Value.tuple #[.int .i64 (turnNo t : Nat), .int .i64 0] else .tuple #[.int .i64 0, .int .i64 2]) = .tuple #[.int .i64 a, .int .i64 b] := by
    cases isTileB t 6
    · exact ⟨_, _, rfl⟩
    · exact ⟨_, _, rfl⟩
  obtain ⟨a, b, hr⟩ := hr
  rw [hr] at HS HI
  clear hr
  go_enter Try.func5, Try.ntmps5
  go_wp2_with fail
  refine (HT.out _).mono ?_
  rintro e w1 ⟨rfl, hb1⟩
  go_wp2_with fail
  refine (HS.out _).mono ?_
  rintro e w2 ⟨rfl, hb2⟩
  have q := ((Blk.newA w #[.int .i64 t.a, .int .i64 t.b, .int .i64 t.c, .int .i64 t.d] 54).under hb1).under hb2
  have y0 := q.cell 0 (by simp)
  have y1 := q.cell 1 (by simp)
  have y2 := q.cell 2 (by simp)
  have y3 := q.cell 3 (by simp)
  simp only [List.getElem_cons_zero, List.getElem_cons_succ] at y0 y1 y2 y3
  clear q
  go_wp2_with fail
  refine (HT.out _).mono ?_
  rintro e w3 ⟨rfl, hb3⟩
  go_wp2_with fail
  refine (HI.out _).mono ?_
  rintro e w4 ⟨rfl, hb4⟩
  go_wp2
  go_ret
  exact ⟨rfl, by (repeat (first | (with_reducible exact Below.refl _ _) | (with_reducible assumption) | (with_reducible refine below_al ?_) | (with_reducible refine below_dr ?_) | (with_reducible refine below_drN ?_) | (with_reducible refine below_set ?_ (by first | exact Nat.le_refl _ | (dsimp only; omega) | omega)) | (with_reducible refine below_tr (by with_reducible assumption) ?_)))⟩

end Go.Proofs.Ytfkmophmiiehlaa
