/- Contracts and lemmas for the statements of this seat, written for this claim; each theorem states its own conditions. -/
import Derived.Test.YtfkmophmiiehlaaKmSw
set_option linter.unusedVariables false
set_option linter.unusedSimpArgs false
namespace Go.Proofs.Ytfkmophmiiehlaa
open Go.RowKit
/-- one step of a way under a colour: which words are reached -/
def tstep (colour : Option Int) (now nx : List Bool) (k : Col) : List Bool := if colour.all (· == k.n) && now.getD k.w.toNat false then nx.set k.e.toNat true else nx
def tgo (S : Nat) (cols : List Col) (colour : Option Int) (now : List Bool) : List Bool := cols.foldl (tstep colour now) (List.replicate S false)
def trun (S : Nat) (cols : List Col) (now : List Bool) (word : List Int) : List Bool := word.foldl (fun now x => tgo S cols (some x) now) now
def Codes (S : Nat) (cols : List Col) : Prop := ∀ k ∈ cols, (0 ≤ k.w ∧ k.w < S) ∧ (0 ≤ k.e ∧ k.e < S)
theorem tstep_len (o : Option Int) (now nx : List Bool) (k : Col) : (tstep o now nx k).length = nx.length := by unfold tstep; split <;> simp
theorem tfold_len (o : Option Int) (now : List Bool) : ∀ (cols : List Col) (nx : List Bool), (cols.foldl (tstep o now) nx).length = nx.length
  | [], nx => rfl
  | k :: cols, nx => by rw [List.foldl_cons, tfold_len o now cols, tstep_len]
theorem tgo_len (S : Nat) (cols : List Col) (o : Option Int) (now : List Bool) : (tgo S cols o now).length = S := by unfold tgo; rw [tfold_len]; simp
theorem tgo_take (S : Nat) (cols : List Col) (o : Option Int) (now : List Bool) (j : Nat) (hj : j < cols.length) : tgo S (cols.take (j + 1)) o now = tstep o now (tgo S (cols.take j) o now) cols[j] := by
  unfold tgo; rw [List.take_succ_eq_append_getElem hj, List.foldl_append]; rfl
theorem trun_take (S : Nat) (cols : List Col) (now : List Bool) (word : List Int) (j : Nat) (hj : j < word.length) : trun S cols now (word.take (j + 1)) = tgo S cols (some word[j]) (trun S cols now (word.take j)) := by
  unfold trun; rw [List.take_succ_eq_append_getElem hj, List.foldl_append]; rfl
theorem trun_len (S : Nat) (cols : List Col) (now : List Bool) (word : List Int) (h : now.length = S) : (trun S cols now word).length = S := by
  unfold trun
  induction word generalizing now with
  | nil => exact h
  | cons x l ih => rw [List.foldl_cons]; exact ih _ (tgo_len ..)
/-- nothing is reached from nothing -/
theorem tfold_none (o : Option Int) (now : List Bool) (h : now.contains true = false) : ∀ (cols : List Col) (nx : List Bool), cols.foldl (tstep o now) nx = nx
  | [], nx => rfl
  | k :: cols, nx => by
    have hz : now.getD k.w.toNat false = false := by
      cases hg : now.getD k.w.toNat false with
      | false => rfl
      | true =>
        have : true ∈ now := by
          by_cases hlt : k.w.toNat < now.length
          · simp [hlt] at hg; rw [← hg]; exact List.getElem_mem _
          · simp [Nat.le_of_not_lt hlt] at hg
        rw [← List.contains_iff_mem] at this
        rw [h] at this; exact absurd this (by decide)
    rw [List.foldl_cons, show tstep o now nx k = nx by unfold tstep; rw [hz]; simp]
    exact tfold_none o now h cols nx
theorem tgo_none (S : Nat) (cols : List Col) (o : Option Int) (now : List Bool) (h : now.contains true = false) : (tgo S cols o now).contains true = false := by
  unfold tgo
  rw [tfold_none o now h]
  simp [List.contains_iff_mem]
theorem trun_none (S : Nat) (cols : List Col) : ∀ (word : List Int) (now : List Bool), now.contains true = false → (trun S cols now word).contains true = false
  | [], now, h => h
  | x :: l, now, h => trun_none S cols l _ (tgo_none S cols _ now h)
/-- whether some column is gone over -/
def tsome (cols : List Col) (o : Option Int) (now : List Bool) : Bool := cols.any fun k => o.all (· == k.n) && now.getD k.w.toNat false
theorem tfold_some (o : Option Int) (now : List Bool) {S : Nat} : ∀ (cols : List Col) (nx : List Bool), Codes S cols → nx.length = S → (cols.foldl (tstep o now) nx).contains true = (nx.contains true || tsome cols o now)
  | [], nx, _, _ => by simp [tsome]
  | k :: cols, nx, hc, hl => by
    have hk := hc k (List.mem_cons_self ..)
    rw [List.foldl_cons, tfold_some o now cols _ (fun x hx => hc x (List.mem_cons_of_mem _ hx)) (by rw [tstep_len]; exact hl)]
    unfold tstep tsome
    rw [List.any_cons]
    by_cases h : (o.all (· == k.n) && now.getD k.w.toNat false) = true
    · rw [if_pos h, h]
      have : (nx.set k.e.toNat true).contains true = true := by
        rw [List.contains_iff_mem]
        exact List.mem_iff_getElem.2 ⟨k.e.toNat, by rw [List.length_set]; omega, by simp⟩
      rw [this]
      simp
    · rw [if_neg h]
      simp only [Bool.not_eq_true] at h
      rw [h]
      simp
theorem tgo_some {S : Nat} {cols : List Col} (hc : Codes S cols) (o : Option Int) (now : List Bool) : (tgo S cols o now).contains true = tsome cols o now := by
  unfold tgo
  rw [tfold_some o now cols _ hc (by simp)]
  simp [List.contains_iff_mem]
def traceB (S : Nat) (cols : List Col) (word : List Int) : Bool := (trun S cols (List.replicate S true) word).contains true
theorem traceB_stop {S : Nat} {cols : List Col} {word : List Int} (hc : Codes S cols) (j : Nat) (hj : j < word.length) (h : tsome cols (some word[j]) (trun S cols (List.replicate S true) (word.take j)) = false) : traceB S cols word = false := by
  unfold traceB
  have h1 : (trun S cols (List.replicate S true) (word.take (j + 1))).contains true = false := by
    rw [trun_take _ _ _ _ _ hj, tgo_some hc]; exact h
  have h2 : trun S cols (List.replicate S true) word = trun S cols (trun S cols (List.replicate S true) (word.take (j + 1))) (word.drop (j + 1)) := by
    unfold trun; rw [← List.foldl_append, List.take_append_drop]
  rw [h2]
  exact trun_none S cols _ _ h1
end Go.Proofs.Ytfkmophmiiehlaa
