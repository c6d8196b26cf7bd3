/- Contracts and lemmas for the statements of this seat, written for this claim; each theorem states its own conditions. -/
import Derived.Deep.RegionHeld3
import Derived.Test.YtfkmophmiiehlaaLbTo1
import Derived.Test.YtfkmophmiiehlaaLbLw
import Derived.Test.YtfkmophmiiehlaaLbLi
import Derived.Test.YtfkmophmiiehlaaLbMk
set_option linter.unusedVariables false
set_option linter.unusedSimpArgs false
namespace Go.Proofs.Ytfkmophmiiehlaa
open Go.RowKit
theorem exts_len (S : Nat) (cols : List Col) (c : Nat) : ∀ (l : Nat) (now : List Bool), ∀ x ∈ exts S cols c l now, x.length = l
  | 0, now, x, hx => by simp only [exts, List.mem_singleton] at hx; subst hx; rfl
  | l + 1, now, x, hx => by
    simp only [exts, List.mem_flatMap] at hx
    obtain ⟨y, _, hx⟩ := hx
    split at hx
    · simp only [List.mem_map] at hx
      obtain ⟨z, hz, rfl⟩ := hx
      rw [List.length_cons, exts_len S cols c l _ z hz]
    · simp at hx
theorem tot_short {k : Nat} : ∀ {L : List (List Int)}, (∀ r ∈ L, r.length ≤ k) → tot L ≤ k * L.length
  | [], _ => by simp [tot]
  | r :: L, h => by
    rw [tot_cons, List.length_cons, Nat.mul_succ]
    have h1 := tot_short (L := L) fun x hx => h x (List.mem_cons_of_mem _ hx)
    have h2 := h r (List.mem_cons_self ..)
    omega
theorem twVal_short (c : Int) (ts : List T4) (h n : Int) : (twVal 200 c ts h n).length ≤ 200 ∧ Short 1000000000 (twVal 200 c ts h n) ∧ tot (twVal 200 c ts h n) ≤ 1600 := by
  have h1 : (twVal 200 c ts h n).length ≤ 200 := by
    unfold twVal
    split
    · rename_i hc
      unfold ctCode at hc
      split at hc
      · split at hc
        · cases hc
        · omega
      · rename_i h0; exact absurd hc h0
    · simp
  have h2 : ∀ r ∈ twVal 200 c ts h n, r.length ≤ 8 := by
    intro r hr
    unfold twVal at hr
    split at hr
    · rename_i hc
      unfold ctCode at hc
      split at hc
      · rename_i h0
        obtain ⟨_, hf, _⟩ := tsCode_zero h0
        have hn8 : 1 ≤ n ∧ n ≤ 8 := by unfold inR at hf; simpa using hf
        rw [exts_len _ _ _ _ _ r hr]
        omega
      · rename_i h0; exact absurd hc h0
    · simp at hr
  refine ⟨h1, fun k hk => ?_, ?_⟩
  · have := h2 _ (List.getElem_mem hk); omega
  · have := tot_short h2; omega
end Go.Proofs.Ytfkmophmiiehlaa
