/- Contracts and lemmas for the statements of this seat, written for this claim; each theorem states its own conditions. -/
import Derived.Test.YtkgnejhflnekaaaGreatNgJ4
import Derived.Test.YtkgnejhflnekaaaGreatNgCp
import Derived.Test.YtkgnejhflnekaaaGreatNgCq
import Derived.Test.YtkgnejhflnekaaaGreatNgNu
import Derived.Test.YtkgnejhflnekaaaGreatNgGt
import Derived.Test.YtkgnejhflnekaaaGreatNgTg
import Derived.Test.YtkgnejhflnekaaaGreatNgB
set_option linter.unusedVariables false
set_option linter.unusedSimpArgs false
namespace Go.Proofs.YtkgnejhflnekaaaGreat
open Go.RowKit
/-! plain laws of what is grown from a tile: sums -/
def isum : List Int → Int
  | [] => 0
  | x :: xs => x + isum xs
theorem isum_nonneg : ∀ {xs : List Int}, (∀ x ∈ xs, 0 ≤ x) → 0 ≤ isum xs
  | [], _ => Int.le_refl _
  | x :: xs, h => by
    have h1 := h x (by simp)
    have h2 := isum_nonneg (xs := xs) (fun y hy => h y (by simp [hy]))
    simp only [isum]; omega
theorem isum_set : ∀ (xs : List Int) (k : Nat) (v : Int), k < xs.length → isum (xs.set k v) = isum xs - xs.getD k 0 + v
  | [], k, v, h => by simp at h
  | x :: xs, 0, v, _ => by simp [isum]; omega
  | x :: xs, k + 1, v, h => by
    have := isum_set xs k v (by simpa using h)
    simp only [List.set_cons_succ, isum, List.getD_cons_succ]; omega
theorem isum_mem : ∀ {xs : List Int}, (∀ x ∈ xs, 0 ≤ x) → ∀ x ∈ xs, x ≤ isum xs
  | y :: ys, h, x, hx => by
    have h1 := h y (by simp)
    have h2 := isum_nonneg (xs := ys) (fun z hz => h z (by simp [hz]))
    rcases List.mem_cons.1 hx with rfl | hx
    · simp only [isum]; omega
    · have := isum_mem (xs := ys) (fun z hz => h z (by simp [hz])) x hx
      simp only [isum]; omega
theorem isum_take_succ (xs : List Int) (k : Nat) (h : k < xs.length) : isum (xs.take (k + 1)) = isum (xs.take k) + xs[k] := by
  induction xs generalizing k with
  | nil => simp at h
  | cons x xs ih =>
    cases k with
    | zero => simp [isum]
    | succ k => simp only [List.take_succ_cons, isum, List.getElem_cons_succ]; rw [ih k (by simpa using h)]; omega
theorem isum_rep : ∀ n, isum (List.replicate n 0) = 0
  | 0 => rfl
  | n + 1 => by simp [List.replicate_succ, isum, isum_rep n]
def NonNeg (xs : List Int) : Prop := ∀ x ∈ xs, 0 ≤ x
theorem addAt_sum {xs : List Int} {j y : Int} (h0 : 0 ≤ j) (h1 : j < xs.length) (hp : NonNeg xs) (hy : 0 ≤ y) (hs : isum xs + y ≤ 4611686018427387904) : isum (addAt xs j y) = isum xs + y ∧ NonNeg (addAt xs j y) := by
  obtain ⟨m, rfl⟩ := Int.eq_ofNat_of_zero_le h0
  have hm : m < xs.length := by omega
  have hx := hp _ (List.getElem_mem hm)
  have hle := isum_mem hp _ (List.getElem_mem hm)
  have hw : wrap64 (xs[m] + y) = xs[m] + y := by unfold wrap64; omega
  rw [addAt_at hm, hw]
  refine ⟨?_, fun z hz => ?_⟩
  · rw [isum_set _ _ _ hm, show xs.getD m 0 = xs[m] by simp [hm]]; omega
  · rcases List.mem_or_eq_of_mem_set hz with hz | rfl
    · exact hp z hz
    · omega
theorem addRow_sum {N : Nat} {row : List Int} (hr : ∀ x ∈ row, 0 ≤ x ∧ x < (N : Int)) {y : Int} (hy : 0 ≤ y) {xs : List Int} (hl : xs.length = N) (hp : NonNeg xs) : ∀ m, m ≤ row.length → isum xs + m * y ≤ 4611686018427387904 →
    isum (addRow row y xs m) = isum xs + m * y ∧ NonNeg (addRow row y xs m)
  | 0, _, _ => by rw [addRow_zero]; exact ⟨by simp, hp⟩
  | m + 1, hm, hs => by
    have e : ((m + 1 : Nat) : Int) * y = (m : Int) * y + y := by rw [Int.natCast_add, Int.add_mul]; simp
    rw [e] at hs ⊢
    obtain ⟨h1, h2⟩ := addRow_sum hr hy hl hp m (by omega) (by omega)
    have hx := hr _ (List.getElem_mem (show m < row.length by omega))
    rw [addRow_succ (by omega)]
    obtain ⟨h3, h4⟩ := addAt_sum (xs := addRow row y xs m) hx.1 (by rw [addRow_len, hl]; exact hx.2) h2 hy (by omega)
    exact ⟨by omega, h4⟩
theorem blocks_row {N : Nat} {L : List (List Int)} (hB : Blocks N L) {k : Nat} (hk : k < L.length) : L[k].length = 4 ∧ ∀ x ∈ L[k], 0 ≤ x ∧ x < (N : Int) := by
  obtain ⟨h4, hr⟩ := hB.2 k hk
  refine ⟨h4, fun x hx => ?_⟩
  obtain ⟨j, hj, rfl⟩ := List.getElem_of_mem hx
  exact hr j hj
theorem addAll_sum {N : Nat} {L : List (List Int)} (hB : Blocks N L) {now : List Int} (hn : now.length = L.length) (hp : NonNeg now) (hs : 4 * isum now ≤ 4611686018427387904) : ∀ m, m ≤ L.length →
    isum (addAll L now m) = 4 * isum (now.take m) ∧ NonNeg (addAll L now m)
  | 0, _ => by
    refine ⟨by simp [addAll, isum_rep, isum], fun x hx => ?_⟩
    simp [addAll] at hx; omega
  | m + 1, hm => by
    have hmL : m < L.length := by omega
    have hmn : m < now.length := by omega
    obtain ⟨h1, h2⟩ := addAll_sum hB hn hp hs m (by omega)
    obtain ⟨h4, hr⟩ := blocks_row hB hmL
    have hy := hp _ (List.getElem_mem hmn)
    have ht := isum_take_succ now m hmn
    have hle : isum (now.take (m + 1)) ≤ isum now := by
      have := isum_nonneg (xs := now.drop (m + 1)) (fun x hx => hp x (List.mem_of_mem_drop hx))
      have e : isum now = isum (now.take (m + 1)) + isum (now.drop (m + 1)) := by
        have app : ∀ a b : List Int, isum (a ++ b) = isum a + isum b := fun a b => by
          induction a with
          | nil => simp [isum]
          | cons x a ih => simp only [List.cons_append, isum, ih]; omega
        rw [← app, List.take_append_drop]
      omega
    rw [addAll_succ hmL hmn]
    obtain ⟨h5, h6⟩ := addRow_sum (N := N) hr hy (xs := addAll L now m) (by rw [addAll_len]; exact hB.1) h2 4 (by omega) (by rw [h1, show ((4 : Nat) : Int) = 4 from rfl]; omega)
    rw [show ((4 : Nat) : Int) = 4 from rfl] at h5
    exact ⟨by omega, h6⟩
theorem pow4_le {k : Nat} (h : k ≤ 20) : (4 : Int) ^ k ≤ 1099511627776 := by
  have := Nat.pow_le_pow_right (n := 4) (by omega) h
  have e : ((4 ^ k : Nat) : Int) = (4 : Int) ^ k := by simp
  rw [← e]; omega
/-- after k steps the numbers add up to 4^k -/
theorem numsAt_sum {N : Nat} {L : List (List Int)} (hB : Blocks N L) {i : Int} (h0 : 0 ≤ i) (h1 : i < N) : ∀ k, k ≤ 20 → isum (numsAt L i k) = 4 ^ k ∧ NonNeg (numsAt L i k)
  | 0, _ => by
    obtain ⟨m, rfl⟩ := Int.eq_ofNat_of_zero_le h0
    have hm : m < (List.replicate L.length (0 : Int)).length := by simp [hB.1]; omega
    refine ⟨?_, fun x hx => ?_⟩
    · simp only [numsAt, Int.toNat_natCast]
      rw [isum_set _ _ _ hm, isum_rep, show (List.replicate L.length (0 : Int)).getD m 0 = 0 by simp [List.getD_eq_getElem?_getD, List.getElem?_replicate]; split <;> rfl]
      simp
    · simp only [numsAt] at hx
      rcases List.mem_or_eq_of_mem_set hx with hx | rfl
      · simp at hx; omega
      · omega
  | k + 1, hk => by
    obtain ⟨h2, h3⟩ := numsAt_sum hB h0 h1 k (by omega)
    have hp := pow4_le (k := k) (by omega)
    obtain ⟨h4, h5⟩ := addAll_sum hB (numsAt_len L i k) h3 (by omega) L.length (Nat.le_refl _)
    refine ⟨?_, h5⟩
    show isum (addAll L (numsAt L i k) L.length) = _
    rw [h4, List.take_of_length_le (by rw [numsAt_len]; exact Nat.le_refl _), h2, Int.pow_succ]
    omega
/-! which tiles are met -/
/-- every tile that was met is on the list, and the blocks of those that were looked at are met -/
def MetCl (L : List (List Int)) (s : Met) (k : Nat) : Prop :=
  (∀ j : Nat, s.met.getD j false = true → (j : Int) ∈ s.list) ∧ ∀ a (h : a < s.list.length), a < k → ∀ x ∈ L.getD (s.list[a]).toNat [], s.met.getD x.toNat false = true
theorem metOne_mem {s : Met} (h : ∀ j : Nat, s.met.getD j false = true → (j : Int) ∈ s.list) {x : Int} (hx : 0 ≤ x) : ∀ j : Nat, (metOne s x).met.getD j false = true → (j : Int) ∈ (metOne s x).list := fun j hj => by
  obtain ⟨m, rfl⟩ := Int.eq_ofNat_of_zero_le hx
  unfold metOne at hj ⊢
  split
  · rename_i hm; rw [if_pos hm] at hj; exact h j hj
  · rename_i hm
    rw [if_neg hm] at hj
    simp only [Int.toNat_natCast] at hj
    by_cases e : m = j
    · subst e; simp
    · rw [getB_ne e] at hj
      exact List.mem_append_left _ (h j hj)
theorem metOne_self {s : Met} {x : Int} (hx : x.toNat < s.met.length) : (metOne s x).met.getD x.toNat false = true := by
  unfold metOne
  split
  · rename_i h; exact h
  · exact getB_self hx
theorem metOne_keepB {s : Met} (j : Int) {x : Nat} (h : s.met.getD x false = true) : (metOne s j).met.getD x false = true := by
  unfold metOne
  split
  · exact h
  · show (s.met.set j.toNat true).getD x false = true
    by_cases e : j.toNat = x
    · subst e
      refine getB_self ?_
      by_cases hx : j.toNat < s.met.length
      · exact hx
      · simp [hx] at h
    · rw [getB_ne e]; exact h
theorem metOne_mlen (s : Met) (x : Int) : (metOne s x).met.length = s.met.length := by unfold metOne; split <;> simp
theorem metFold {row : List Int} (hr : ∀ x ∈ row, 0 ≤ x) : ∀ (s : Met), (∀ x ∈ row, x.toNat < s.met.length) → (∀ j : Nat, s.met.getD j false = true → (j : Int) ∈ s.list) →
    (∀ j : Nat, (row.foldl metOne s).met.getD j false = true → (j : Int) ∈ (row.foldl metOne s).list) ∧ (∀ x ∈ row, (row.foldl metOne s).met.getD x.toNat false = true) ∧ (∀ j : Nat, s.met.getD j false = true → (row.foldl metOne s).met.getD j false = true) := by
  induction row with
  | nil => exact fun s _ h => ⟨h, fun x hx => by simp at hx, fun j hj => hj⟩
  | cons y row ih =>
    intro s hl h
    have hy := hr y (by simp)
    obtain ⟨h1, h2, h3⟩ := ih (fun x hx => hr x (by simp [hx])) (metOne s y) (fun x hx => by rw [metOne_mlen]; exact hl x (by simp [hx])) (metOne_mem h hy)
    refine ⟨h1, fun x hx => ?_, fun j hj => h3 j (metOne_keepB y hj)⟩
    rcases List.mem_cons.1 hx with rfl | hx
    · exact h3 _ (metOne_self (hl x (by simp)))
    · exact h2 x hx
theorem metTo_cl {N : Nat} {L : List (List Int)} (hB : Blocks N L) {i : Int} (h0 : 0 ≤ i) (h1 : i < N) : ∀ k, PreEnd L i k → MetCl L (metTo L i k) k
  | 0, _ => by
    obtain ⟨m, rfl⟩ := Int.eq_ofNat_of_zero_le h0
    refine ⟨fun j hj => ?_, fun a h ha => by omega⟩
    simp only [metTo, Int.toNat_natCast] at hj ⊢
    by_cases e : m = j
    · subst e; simp
    · rw [getB_ne e] at hj
      simp [List.getD_eq_getElem?_getD, List.getElem?_replicate] at hj
      split at hj <;> simp at hj
  | k + 1, hp => by
    have hp' : PreEnd L i k := fun j hj => hp j (by omega)
    obtain ⟨c1, c2⟩ := metTo_cl hB h0 h1 k hp'
    have ok := metTo_ok hB h0 h1 k hp'
    have hk := hp k (by omega)
    obtain ⟨m, hm, e1, e2⟩ := metTo_step hB h0 h1 hp' hk
    obtain ⟨h4, hr⟩ := blocks_row hB hm
    have et : L[m].take 4 = L[m] := List.take_of_length_le (by omega)
    have e3 : metTo L i (k + 1) = L[m].foldl metOne (metTo L i k) := by rw [e2]; unfold metRow; rw [et]
    obtain ⟨f1, f2, f3⟩ := metFold (row := L[m]) (fun x hx => (hr x hx).1) (metTo L i k) (fun x hx => by rw [ok.1]; have := hr x hx; omega) c1
    obtain ⟨t, ht⟩ := metRow_pre L[m] (metTo L i k) 4
    rw [← e2] at ht
    rw [e3] at ht ⊢
    refine ⟨f1, fun a ha hak x hx => ?_⟩
    have hal : a < (metTo L i k).list.length := by omega
    have ea : (L[m].foldl metOne (metTo L i k)).list[a] = (metTo L i k).list[a] := by
      apply Option.some.inj
      rw [← List.getElem?_eq_getElem, ht, List.getElem?_append_left hal, List.getElem?_eq_getElem hal]
    rw [ea] at hx
    by_cases e : a = k
    · subst e
      rw [e1, Int.toNat_natCast, show L.getD m [] = L[m] by simp [hm]] at hx
      exact f2 x hx
    · exact f3 _ (c2 a hal (by omega) x hx)
theorem end_ex {N : Nat} {L : List (List Int)} (hB : Blocks N L) {i : Int} (h0 : 0 ≤ i) (h1 : i < N) : ∃ k, IsEnd L i k := by
  refine Classical.byContradiction fun hne => ?_
  have hall : ∀ k, PreEnd L i k := fun k => by
    induction k with
    | zero => exact fun j hj => by omega
    | succ k ih =>
      intro j hj
      by_cases e : j < k
      · exact ih j e
      · have ej : j = k := by omega
        subst ej
        refine Nat.lt_of_not_le fun hle => hne ⟨j, ih, hle⟩
  have h2 := (metTo_ok hB h0 h1 (N + 1) (hall _)).len
  have h3 := hall (N + 2) (N + 1) (by omega)
  omega
/-- the tiles of the block of a tile that is met are met -/
theorem metV_cl {N : Nat} {L : List (List Int)} (hB : Blocks N L) {i : Int} (h0 : 0 ≤ i) (h1 : i < N) {j : Nat} (hj : (metV L i).getD j false = true) : ∀ x ∈ L.getD j [], (metV L i).getD x.toNat false = true := by
  obtain ⟨k, hk⟩ := end_ex hB h0 h1
  unfold metV at *
  rw [endOf_eq hk] at *
  obtain ⟨c1, c2⟩ := metTo_cl hB h0 h1 k hk.1
  obtain ⟨a, ha, e⟩ := List.getElem_of_mem (c1 j hj)
  have := c2 a ha (by have := hk.2; omega)
  rw [e, Int.toNat_natCast] at this
  exact this
theorem addAt_pos {xs : List Int} {j y : Int} {t : Nat} (h : (addAt xs j y).getD t 0 ≠ 0) : xs.getD t 0 ≠ 0 ∨ (j.toNat = t ∧ y ≠ 0) := by
  unfold addAt at h
  by_cases e : j.toNat = t
  · subst e
    by_cases hy : y = 0
    · left
      intro hx
      apply h
      rw [hx, hy]
      by_cases hl : j.toNat < xs.length
      · simp [hl, wrap64]
      · simp [hl]
    · exact .inr ⟨rfl, hy⟩
  · left
    rwa [show (xs.set j.toNat (wrap64 (xs.getD j.toNat 0 + y))).getD t 0 = xs.getD t 0 by simp [List.getElem?_set_ne e]] at h
theorem addRow_pos {row : List Int} {y : Int} {t : Nat} : ∀ {xs : List Int} (m : Nat), (addRow row y xs m).getD t 0 ≠ 0 → xs.getD t 0 ≠ 0 ∨ (y ≠ 0 ∧ ∃ x ∈ row, x.toNat = t) := by
  intro xs m h
  unfold addRow at h
  have hs : ∀ x ∈ row.take m, x ∈ row := fun x hx => List.mem_of_mem_take hx
  generalize row.take m = l at h hs
  induction l generalizing xs with
  | nil => exact .inl h
  | cons z l ih =>
    rcases ih (xs := addAt xs z y) h (fun x hx => hs x (by simp [hx])) with h | h
    · rcases addAt_pos h with h | ⟨h, hy⟩
      · exact .inl h
      · exact .inr ⟨hy, z, hs z (by simp), h⟩
    · exact .inr h
theorem addAll_pos {L : List (List Int)} {now : List Int} {t : Nat} (hn : now.length = L.length) : ∀ m, m ≤ L.length → (addAll L now m).getD t 0 ≠ 0 → ∃ j, now.getD j 0 ≠ 0 ∧ ∃ x ∈ L.getD j [], x.toNat = t
  | 0, _, h => by
    exfalso; apply h
    simp [addAll, List.getD_eq_getElem?_getD, List.getElem?_replicate]; split <;> rfl
  | m + 1, hm, h => by
    have hmL : m < L.length := by omega
    have hmn : m < now.length := by omega
    rw [addAll_succ hmL hmn] at h
    rcases addRow_pos 4 h with h | ⟨h1, x, hx, e⟩
    · exact addAll_pos hn m (by omega) h
    · exact ⟨m, by rw [show now.getD m 0 = now[m] by simp [hmn]]; exact h1, x, by rw [show L.getD m [] = L[m] by simp [hmL]]; exact hx, e⟩
theorem metFold_keepB (l : List Int) : ∀ {s : Met} {x : Nat}, s.met.getD x false = true → (l.foldl metOne s).met.getD x false = true := by
  induction l with
  | nil => exact fun h => h
  | cons y l ih => exact fun h => ih (metOne_keepB y h)
theorem metTo_self {L : List (List Int)} {i : Nat} (hi : i < L.length) : ∀ k, (metTo L (i : Int) k).met.getD i false = true
  | 0 => by simp only [metTo, Int.toNat_natCast]; exact getB_self (by simpa using hi)
  | k + 1 => metFold_keepB _ (metTo_self hi k)
theorem metV_me {L : List (List Int)} {i : Nat} (hi : i < L.length) : (metV L (i : Int)).getD i false = true := metTo_self hi _
/-- a tile that is met after k steps is one of the tiles that are grown -/
theorem numsAt_met {N : Nat} {L : List (List Int)} (hB : Blocks N L) {i : Nat} (h1 : i < N) : ∀ k t, (numsAt L (i : Int) k).getD t 0 ≠ 0 → (metV L (i : Int)).getD t false = true
  | 0, t, h => by
    simp only [numsAt, Int.toNat_natCast] at h
    by_cases e : i = t
    · subst e; exact metV_me (by rw [hB.1]; exact h1)
    · exfalso; apply h
      simp [List.getElem?_set_ne e, List.getElem?_replicate]; split <;> rfl
  | k + 1, t, h => by
    obtain ⟨j, hj, x, hx, e⟩ := addAll_pos (numsAt_len L i k) L.length (Nat.le_refl _) h
    have := numsAt_met hB h1 k j hj
    rw [← e]
    exact metV_cl hB (by omega) (by omega) this x hx
/-! corners come back -/
theorem cor_period {L : List (List Int)} {i : Int} {n k : Nat} (h : Rep (cornerAt L i) n k) : ∀ t, cornerAt L i (k + t) = cornerAt L i (n + t)
  | 0 => h.2.2
  | t + 1 => by
    have ih := cor_period h t
    show (L.getD (cornerAt L i (k + t)).toNat []).getD 0 0 = (L.getD (cornerAt L i (n + t)).toNat []).getD 0 0
    rw [ih]
theorem rep_ex {N : Nat} {L : List (List Int)} (hB : Blocks N L) {i : Int} (h0 : 0 ≤ i) (h1 : i < N) : ∃ n k, Rep (cornerAt L i) n k := by
  have hin := corner_in hB h0 h1
  have hex : ∃ n, ∃ k, k < n ∧ cornerAt L i k = cornerAt L i n := by
    refine Classical.byContradiction fun hne => ?_
    have := pigeon N (cornerAt L i) (N + 1) (fun a _ => hin a) (fun a b hab _ e => hne ⟨b, a, hab, e⟩)
    omega
  have hmin : ∃ n, (∃ k, k < n ∧ cornerAt L i k = cornerAt L i n) ∧ ∀ m, m < n → ¬ ∃ k, k < m ∧ cornerAt L i k = cornerAt L i m := by
    obtain ⟨n, hn⟩ := hex
    induction n using Nat.strongRecOn with
    | ind n ih =>
      by_cases hm : ∃ m, m < n ∧ ∃ k, k < m ∧ cornerAt L i k = cornerAt L i m
      · obtain ⟨m, hmn, hm⟩ := hm
        exact ih m hmn hm
      · exact ⟨n, hn, fun m hmn hk => hm ⟨m, hmn, hk⟩⟩
  obtain ⟨n, ⟨k, hk, e⟩, hmin⟩ := hmin
  exact ⟨n, k, fun a b hab hb e => hmin b hb ⟨a, hab, e⟩, hk, e⟩
/-! pairs that stand beside each other -/
def AdjL (R : Int → Int → Prop) : List Int → Prop
  | [] => True
  | [_] => True
  | a :: b :: r => R a b ∧ AdjL R (b :: r)
theorem AdjL.at {R : Int → Int → Prop} : ∀ {l : List Int}, AdjL R l → ∀ x (h : x + 1 < l.length), R l[x] l[x + 1]
  | [], _, x, h => by simp at h
  | [a], _, x, h => by simp at h
  | a :: b :: r, hA, 0, _ => hA.1
  | a :: b :: r, hA, x + 1, h => hA.2.at x (by simpa using h)
def PRz (L : List (List Int)) (T : List Bool) (a b : Int) : Prop := PR L T (a.toNat, b.toNat)
def MetZ (T : List Bool) (a : Int) : Prop := 0 ≤ a ∧ T.getD a.toNat false = true
theorem gTop_cons (L : List (List Int)) (x : Int) (r : List Int) : gTop L (x :: r) = (L.getD x.toNat []).take 2 ++ gTop L r := rfl
theorem gBot_cons (L : List (List Int)) (x : Int) (r : List Int) : gBot L (x :: r) = (L.getD x.toNat []).drop 2 ++ gBot L r := rfl
theorem blk_four {N : Nat} {L : List (List Int)} (hB : Blocks N L) {m : Nat} (hm : m < N) : ∃ b0 b1 b2 b3 : Int, L.getD m [] = [b0, b1, b2, b3] ∧ (∀ x ∈ [b0, b1, b2, b3], 0 ≤ x ∧ x < (N : Int)) ∧ qAt L m 0 = b0.toNat ∧ qAt L m 1 = b1.toNat ∧ qAt L m 2 = b2.toNat ∧ qAt L m 3 = b3.toNat := by
  have hmL : m < L.length := by rw [hB.1]; exact hm
  obtain ⟨h4, hr⟩ := blocks_row hB hmL
  have e : L.getD m [] = L[m] := by simp [hmL]
  match hL : L[m], h4 with
  | [b0, b1, b2, b3], _ =>
    rw [hL] at hr e
    exact ⟨b0, b1, b2, b3, e, hr, by unfold qAt; rw [e]; rfl, by unfold qAt; rw [e]; rfl, by unfold qAt; rw [e]; rfl, by unfold qAt; rw [e]; rfl⟩
theorem adj_grow {N : Nat} {L : List (List Int)} (hB : Blocks N L) {T : List Bool} (hT : ∀ j, T.getD j false = true → j < N) (hC : ∀ j, T.getD j false = true → ∀ x ∈ L.getD j [], T.getD x.toNat false = true) :
    ∀ (r : List Int), (∀ x ∈ r, MetZ T x) → AdjL (PRz L T) r → (AdjL (PRz L T) (gTop L r) ∧ ∀ x ∈ gTop L r, MetZ T x) ∧ (AdjL (PRz L T) (gBot L r) ∧ ∀ x ∈ gBot L r, MetZ T x)
  | [], _, _ => ⟨⟨trivial, fun x hx => by simp [gTop] at hx⟩, trivial, fun x hx => by simp [gBot] at hx⟩
  | [x], hm, _ => by
    obtain ⟨x0, xt⟩ := hm x (by simp)
    obtain ⟨b0, b1, b2, b3, e, hr, q0, q1, q2, q3⟩ := blk_four hB (hT _ xt)
    have hc := hC _ xt
    rw [e] at hc
    rw [gTop_cons, gBot_cons, e]
    simp only [List.take_succ_cons, List.take_zero, List.drop_succ_cons, List.drop_zero, List.cons_append, List.nil_append]
    have p1 : PRz L T b0 b1 := by have := PR.b1 (L := L) _ xt; unfold pb1 at this; rw [q0, q1] at this; exact this
    have p2 : PRz L T b2 b3 := by have := PR.b2 (L := L) _ xt; unfold pb2 at this; rw [q2, q3] at this; exact this
    have mm : ∀ z ∈ [b0, b1, b2, b3], MetZ T z := fun z hz => ⟨(hr z hz).1, hc z hz⟩
    refine ⟨⟨⟨p1, trivial⟩, fun z hz => mm z ?_⟩, ⟨p2, trivial⟩, fun z hz => mm z ?_⟩
    · simp [gTop] at hz; rcases hz with rfl | rfl <;> simp
    · simp [gBot] at hz; rcases hz with rfl | rfl <;> simp
  | x :: y :: r, hm, hA => by
    obtain ⟨ih1, ih2⟩ := adj_grow hB hT hC (y :: r) (fun z hz => hm z (by simp [hz])) hA.2
    obtain ⟨x0, xt⟩ := hm x (by simp)
    obtain ⟨y0, yt⟩ := hm y (by simp)
    obtain ⟨b0, b1, b2, b3, e, hr, q0, q1, q2, q3⟩ := blk_four hB (hT _ xt)
    obtain ⟨c0, c1, c2, c3, f, hs, s0, s1, s2, s3⟩ := blk_four hB (hT _ yt)
    have hc := hC _ xt
    rw [e] at hc
    rw [gTop_cons, gBot_cons, e]
    rw [gTop_cons, f] at ih1 ⊢
    rw [gBot_cons, f] at ih2 ⊢
    simp only [List.take_succ_cons, List.take_zero, List.drop_succ_cons, List.drop_zero, List.cons_append, List.nil_append] at ih1 ih2 ⊢
    have p1 : PRz L T b0 b1 := by have := PR.b1 (L := L) _ xt; unfold pb1 at this; rw [q0, q1] at this; exact this
    have p2 : PRz L T b2 b3 := by have := PR.b2 (L := L) _ xt; unfold pb2 at this; rw [q2, q3] at this; exact this
    have n1 : PRz L T b1 c0 := by have := PR.n1 _ hA.1; unfold pn1 at this; rw [q1, s0] at this; exact this
    have n2 : PRz L T b3 c2 := by have := PR.n2 _ hA.1; unfold pn2 at this; rw [q3, s2] at this; exact this
    have mm : ∀ z ∈ [b0, b1, b2, b3], MetZ T z := fun z hz => ⟨(hr z hz).1, hc z hz⟩
    refine ⟨⟨⟨p1, n1, ih1.1⟩, fun z hz => ?_⟩, ⟨p2, n2, ih2.1⟩, fun z hz => ?_⟩
    · rcases List.mem_cons.1 hz with rfl | hz
      · exact mm _ (by simp)
      · rcases List.mem_cons.1 hz with rfl | hz
        · exact mm _ (by simp)
        · exact ih1.2 z hz
    · rcases List.mem_cons.1 hz with rfl | hz
      · exact mm _ (by simp)
      · rcases List.mem_cons.1 hz with rfl | hz
        · exact mm _ (by simp)
        · exact ih2.2 z hz
theorem metV_lt {N : Nat} {L : List (List Int)} (hB : Blocks N L) {i : Int} (h0 : 0 ≤ i) (h1 : i < N) : ∀ j, (metV L i).getD j false = true → j < N := fun j hj => by
  obtain ⟨k, hk⟩ := end_ex hB h0 h1
  unfold metV at hj
  rw [endOf_eq hk] at hj
  have := (metTo_ok hB h0 h1 k hk.1).1
  by_cases h : j < (metTo L i k).met.length
  · omega
  · simp [h] at hj
theorem growAt_adj {N : Nat} {L : List (List Int)} (hB : Blocks N L) {i : Nat} (h1 : i < N) : ∀ k, ∀ r ∈ growAt L (i : Int) k, AdjL (PRz L (metV L (i : Int))) r ∧ ∀ x ∈ r, MetZ (metV L (i : Int)) x
  | 0, r, hr => by
    simp only [growAt, List.mem_singleton] at hr
    subst hr
    refine ⟨trivial, fun x hx => ?_⟩
    have := List.mem_singleton.1 hx
    subst this
    exact ⟨by omega, by rw [Int.toNat_natCast]; exact metV_me (by rw [hB.1]; exact h1)⟩
  | k + 1, r, hr => by
    simp only [growAt, grownL, List.mem_flatMap] at hr
    obtain ⟨q, hq, hr⟩ := hr
    obtain ⟨a, b⟩ := growAt_adj hB h1 k q hq
    obtain ⟨g1, g2⟩ := adj_grow hB (metV_lt hB (by omega) (by omega)) (fun j hj => metV_cl hB (by omega) (by omega) hj) q b a
    simp only [List.mem_cons, List.not_mem_nil, or_false] at hr
    rcases hr with rfl | rfl
    · exact g1
    · exact g2
theorem PR_in {N : Nat} {L : List (List Int)} (hB : Blocks N L) {T : List Bool} (hT : ∀ j, T.getD j false = true → j < N) {x : P22} (h : PR L T x) : InP N x := by
  induction h with
  | b1 k hk => exact pb1_in hB (hT k hk)
  | b2 k hk => exact pb2_in hB (hT k hk)
  | n1 x _ ih => exact pn1_in hB ih
  | n2 x _ ih => exact pn2_in hB ih
theorem PR_list {L : List (List Int)} (hB : Blocks L.length L) {T : List Bool} (hT : ∀ j, T.getD j false = true → j < L.length) {x : P22} (h : PR L T x) : x ∈ prV L T := by
  have hi := PR_in hB hT h
  unfold prV
  rw [prTo_mem]
  refine ⟨pkey L.length x, pkey_lt hi, ?_, pkey_back hi⟩
  rw [prB_get (pkey_lt hi), pkey_back hi]; exact h

end Go.Proofs.YtkgnejhflnekaaaGreat
