/- Contracts and lemmas for the statements of this seat, written for this claim; each theorem states its own conditions. -/
import Derived.Test.YtfkmophmiiehlaaKoI6
set_option linter.unusedVariables false
set_option linter.unusedSimpArgs false
namespace Go.Proofs.Ytfkmophmiiehlaa
open Go.RowKit
theorem len_le_of_mem : ∀ (D E : List T4), D.Nodup → (∀ x ∈ D, x ∈ E) → D.length ≤ E.length
  | [], _, _, _ => Nat.zero_le _
  | d :: D, E, hn, h => by
    have hd : d ∈ E := h d (by simp)
    obtain ⟨h1, h2⟩ := List.nodup_cons.1 hn
    have := len_le_of_mem D (E.erase d) h2 (fun x hx => by
      have hne : x ≠ d := fun e => h1 (by rw [← e]; exact hx)
      exact (List.mem_erase_of_ne hne).2 (h x (by simp [hx])))
    have hl := List.length_erase_of_mem hd
    have h0 : 0 < E.length := List.length_pos_of_mem hd
    simp only [List.length_cons]
    omega
theorem len_eq_of_mem (D E : List T4) (h1 : D.Nodup) (h2 : E.Nodup) (h : ∀ x, x ∈ D ↔ x ∈ E) : D.length = E.length :=
  Nat.le_antisymm (len_le_of_mem D E h1 (fun x => (h x).1)) (len_le_of_mem E D h2 (fun x => (h x).2))
theorem ltT_of_ne {x y : T4} (h : ltT y x = false) (hne : y ≠ x) : ltT x y = true := by
  cases h2 : ltT x y
  · exact absurd (ltT_anti y x h h2) hne
  · rfl
theorem ddp_spec : ∀ (xs : List T4) (p : T4), (p :: xs).Pairwise (fun x y => ltT y x = false) →
    (ddp p xs).Pairwise (fun x y => ltT x y = true) ∧ (∀ x, x ∈ ddp p xs ↔ x ∈ xs ∧ x ≠ p) ∧ (∀ x ∈ ddp p xs, ltT p x = true)
  | [], p, _ => by simp [ddp]
  | y :: ys, p, h => by
    rw [List.pairwise_cons, List.pairwise_cons] at h
    obtain ⟨h1, h2, h3⟩ := h
    have hy := h1 y (by simp)
    unfold ddp
    by_cases e : y = p
    · rw [if_pos e]
      obtain ⟨i1, i2, i3⟩ := ddp_spec ys p (List.pairwise_cons.2 ⟨fun z hz => h1 z (by simp [hz]), h3⟩)
      refine ⟨i1, fun x => ?_, i3⟩
      rw [i2]
      constructor
      · rintro ⟨a, b⟩; exact ⟨by simp [a], b⟩
      · rintro ⟨a, b⟩
        rcases List.mem_cons.1 a with rfl | a
        · exact absurd e b
        · exact ⟨a, b⟩
    · rw [if_neg e]
      obtain ⟨i1, i2, i3⟩ := ddp_spec ys y (List.pairwise_cons.2 ⟨h2, h3⟩)
      have hpy : ltT p y = true := ltT_of_ne hy e
      refine ⟨List.pairwise_cons.2 ⟨i3, i1⟩, fun x => ?_, ?_⟩
      · rw [List.mem_cons, List.mem_cons, i2]
        constructor
        · rintro (rfl | ⟨a, b⟩)
          · exact ⟨.inl rfl, e⟩
          · refine ⟨.inr a, fun e' => ?_⟩
            subst e'
            have := h2 x a
            rw [hpy] at this
            cases this
        · rintro ⟨a, b⟩
          rcases a with rfl | a
          · exact .inl rfl
          · by_cases e2 : x = y
            · exact .inl e2
            · exact .inr ⟨a, e2⟩
      · intro x hx
        rcases List.mem_cons.1 hx with rfl | hx
        · exact hpy
        · exact ltT_swo.trans _ _ _ hpy (i3 x hx)
theorem ddT_spec (ss : List T4) (h : ss.Pairwise (fun x y => ltT y x = false)) : (ddT ss).Pairwise (fun x y => ltT x y = true) ∧ ∀ x, x ∈ ddT ss ↔ x ∈ ss := by
  cases ss with
  | nil => simp [ddT]
  | cons p xs =>
    obtain ⟨i1, i2, i3⟩ := ddp_spec xs p h
    refine ⟨List.pairwise_cons.2 ⟨i3, i1⟩, fun x => ?_⟩
    show x ∈ p :: ddp p xs ↔ _
    rw [List.mem_cons, List.mem_cons, i2]
    constructor
    · rintro (a | ⟨a, b⟩)
      · exact .inl a
      · exact .inr a
    · rintro (a | a)
      · exact .inl a
      · by_cases e : x = p
        · exact .inl e
        · exact .inr ⟨a, e⟩
/-- the different tiles of a list, by their order -/
def setT (ts : List T4) : List T4 := ddT (sortT ts)
theorem setT_mem (ts : List T4) (x : T4) : x ∈ setT ts ↔ x ∈ ts := ((ddT_spec _ (sortT_sorted ts)).2 x).trans (sortT_perm ts).mem_iff
theorem setT_asc (ts : List T4) : (setT ts).Pairwise (fun x y => ltT x y = true) := (ddT_spec _ (sortT_sorted ts)).1
theorem setT_nodup (ts : List T4) : (setT ts).Nodup := (setT_asc ts).imp (fun h e => by rw [e, ltT_swo.irrefl] at h; cases h)
end Go.Proofs.Ytfkmophmiiehlaa
