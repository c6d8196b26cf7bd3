/- Contracts and lemmas for the statements of this seat, written for this claim; each theorem states its own conditions. -/
import Derived.Test.YtkgnejhflnekaaaFrR1
set_option linter.unusedVariables false
set_option linter.unusedSimpArgs false
namespace Go.Proofs.Ytkgnejhflnekaaa
open Go.RowKit
/-! the numbers of the tiles in what is grown from one -/
def wsum (a g : Nat → Int) : Nat → Int
  | 0 => 0
  | m + 1 => wsum a g m + a m * g m
def lsum (g : Nat → Int) : List Int → Int
  | [] => 0
  | x :: xs => g x.toNat + lsum g xs
theorem wsum_congr {a b g : Nat → Int} : ∀ {m : Nat}, (∀ j, j < m → a j = b j) → wsum a g m = wsum b g m
  | 0, _ => rfl
  | m + 1, h => by simp only [wsum]; rw [wsum_congr (m := m) fun j hj => h j (by omega), h m (by omega)]
theorem wsum_one {a b g : Nat → Int} {x : Nat} (h : ∀ j, a j = b j + if j = x then 1 else 0) : ∀ m, wsum a g m = wsum b g m + if x < m then g x else 0
  | 0 => by simp [wsum]
  | m + 1 => by
    simp only [wsum]
    rw [wsum_one h m, h m, Int.add_mul]
    by_cases e : m = x
    · subst e; rw [if_pos rfl, if_neg (by omega), if_pos (by omega)]; omega
    · rw [if_neg e]
      by_cases e2 : x < m
      · rw [if_pos e2, if_pos (by omega)]; omega
      · rw [if_neg e2, if_neg (by omega)]; omega
theorem wsum_zero {g : Nat → Int} : ∀ m, wsum (fun _ => 0) g m = 0
  | 0 => rfl
  | m + 1 => by simp only [wsum]; rw [wsum_zero m]; omega
theorem lsum_app (g : Nat → Int) (a b : List Int) : lsum g (a ++ b) = lsum g a + lsum g b := by
  induction a with
  | nil => simp [lsum]
  | cons x a ih => simp only [List.cons_append, lsum, ih]; omega
theorem lsum_wsum {g : Nat → Int} {N : Nat} : ∀ {l : List Int}, (∀ x ∈ l, 0 ≤ x ∧ x < (N : Int)) → lsum g l = wsum (fun j => (l.count (j : Int) : Int)) g N
  | [], _ => by
    simp only [lsum, List.count_nil]
    exact (wsum_zero N).symm
  | x :: xs, h => by
    obtain ⟨h0, h1⟩ := h x (by simp)
    obtain ⟨m, rfl⟩ := Int.eq_ofNat_of_zero_le h0
    have hm : m < N := by omega
    rw [wsum_one (b := fun j => (xs.count (j : Int) : Int)) (x := m) (fun j => ?_) N, ← lsum_wsum (l := xs) fun y hy => h y (by simp [hy])]
    · simp only [lsum, Int.toNat_natCast]; rw [if_pos hm]; omega
    · rw [List.count_cons]
      by_cases e : j = m
      · subst e; simp
      · have : ((m : Int) == (j : Int)) = false := by simp; omega
        simp [this, e]
theorem count_grown (L : List (List Int)) (k : Nat) : ∀ rows : List (List Int), (((grownL L rows).flatten.count (k : Int) : Nat) : Int) = lsum (fun j => ((L.getD j []).count (k : Int) : Int)) rows.flatten
  | [] => rfl
  | r :: rs => by
    have e : grownL L (r :: rs) = gTop L r :: gBot L r :: grownL L rs := rfl
    have h1 : ∀ row : List Int, ((gTop L row).count (k : Int) : Int) + ((gBot L row).count (k : Int) : Int) = lsum (fun j => ((L.getD j []).count (k : Int) : Int)) row := fun row => by
      induction row with
      | nil => rfl
      | cons x xs ih =>
        have e1 : gTop L (x :: xs) = (L.getD x.toNat []).take 2 ++ gTop L xs := rfl
        have e2 : gBot L (x :: xs) = (L.getD x.toNat []).drop 2 ++ gBot L xs := rfl
        have e3 : (L.getD x.toNat []).count (k : Int) = ((L.getD x.toNat []).take 2).count (k : Int) + ((L.getD x.toNat []).drop 2).count (k : Int) := by rw [← List.count_append, List.take_append_drop]
        rw [e1, e2, List.count_append, List.count_append]
        simp only [lsum]
        rw [← ih, e3]
        omega
    rw [e, List.flatten_cons, List.flatten_cons, List.flatten_cons, List.count_append, List.count_append, lsum_app, ← h1, ← count_grown L k rs]
    omega
theorem addAt_get {xs : List Int} {j y : Int} (h0 : 0 ≤ j) (h1 : j < xs.length) (hp : NonNeg xs) (hy : 0 ≤ y) (hs : isum xs + y ≤ 4611686018427387904) (k : Nat) : (addAt xs j y).getD k 0 = xs.getD k 0 + if j = (k : Int) then y else 0 := by
  obtain ⟨m, rfl⟩ := Int.eq_ofNat_of_zero_le h0
  have hm : m < xs.length := by omega
  have hx := hp _ (List.getElem_mem hm)
  have hle := isum_mem hp _ (List.getElem_mem hm)
  have hw : wrap64 (xs[m] + y) = xs[m] + y := by unfold wrap64; omega
  rw [addAt_at hm, hw]
  by_cases e : m = k
  · subst e; simp [hm]
  · rw [if_neg (by omega)]
    simp [List.getD_eq_getElem?_getD, List.getElem?_set_ne e]
theorem addRow_get {N : Nat} {row : List Int} (hr : ∀ x ∈ row, 0 ≤ x ∧ x < (N : Int)) {y : Int} (hy : 0 ≤ y) {xs : List Int} (hl : xs.length = N) (hp : NonNeg xs) (k : Nat) : ∀ m, m ≤ row.length → isum xs + m * y ≤ 4611686018427387904 →
    (addRow row y xs m).getD k 0 = xs.getD k 0 + y * ((row.take m).count (k : Int) : Int)
  | 0, _, _ => by rw [addRow_zero]; simp
  | m + 1, hm, hs => by
    have e : ((m + 1 : Nat) : Int) * y = (m : Int) * y + y := by rw [Int.natCast_add, Int.add_mul]; simp
    rw [e] at hs
    obtain ⟨h1, h2⟩ := addRow_sum hr hy hl hp m (by omega) (by omega)
    have hx := hr _ (List.getElem_mem (show m < row.length by omega))
    rw [addRow_succ (by omega), addAt_get hx.1 (by rw [addRow_len, hl]; exact hx.2) h2 hy (by omega), addRow_get hr hy hl hp k m (by omega) (by omega), List.take_succ_eq_append_getElem (by omega), List.count_append, List.count_singleton]
    by_cases e2 : row[m] = (k : Int)
    · rw [if_pos e2]
      simp [e2]
      rw [Int.mul_add]; omega
    · rw [if_neg e2]
      simp [e2]
theorem addAll_get {N : Nat} {L : List (List Int)} (hB : Blocks N L) {now : List Int} (hn : now.length = L.length) (hp : NonNeg now) (hs : 4 * isum now ≤ 4611686018427387904) (k : Nat) : ∀ m, m ≤ L.length →
    (addAll L now m).getD k 0 = wsum (fun j => now.getD j 0) (fun j => ((L.getD j []).count (k : Int) : Int)) m
  | 0, _ => by simp [addAll, wsum, List.getD_eq_getElem?_getD, List.getElem?_replicate]; split <;> rfl
  | m + 1, hm => by
    have hmL : m < L.length := by omega
    have hmn : m < now.length := by omega
    obtain ⟨h1, h2⟩ := addAll_sum hB hn hp hs m (by omega)
    obtain ⟨h4, hr⟩ := blocks_row hB hmL
    have hy := hp _ (List.getElem_mem hmn)
    have ht := isum_take_succ now m hmn
    have hle : isum (now.take (m + 1)) ≤ isum now := by
      have := isum_nonneg (xs := now.drop (m + 1)) (fun x hx => hp x (List.mem_of_mem_drop hx))
      have e : isum now = isum (now.take (m + 1)) + isum (now.drop (m + 1)) := by
        have app : ∀ a b : List Int, isum (a ++ b) = isum a + isum b := fun a b => by
          induction a with
          | nil => simp [isum]
          | cons x a ih => simp only [List.cons_append, isum, ih]; omega
        rw [← app, List.take_append_drop]
      omega
    rw [addAll_succ hmL hmn, addRow_get (N := N) hr hy (xs := addAll L now m) (by rw [addAll_len]; exact hB.1) h2 k 4 (by omega) (by rw [h1, show ((4 : Nat) : Int) = 4 from rfl]; omega), addAll_get hB hn hp hs k m (by omega)]
    simp only [wsum]
    rw [List.take_of_length_le (by omega), show now.getD m 0 = now[m] by simp [hmn], show L.getD m [] = L[m] by simp [hmL]]
theorem flat_nums {N : Nat} {rows : List (List Int)} (h : NumsIn N rows) : ∀ x ∈ rows.flatten, 0 ≤ x ∧ x < (N : Int) := by
  intro x hx
  obtain ⟨r, hr, hx⟩ := List.mem_flatten.1 hx
  exact NumsIn_iff.1 h r hr x hx
/-- the numbers after m steps count the tiles of what is grown -/
theorem numsAt_count {N : Nat} {L : List (List Int)} (hB : Blocks N L) {i : Int} (h0 : 0 ≤ i) (h1 : i < N) : ∀ m, m ≤ 20 → ∀ k, k < N → (numsAt L i m).getD k 0 = ((growAt L i m).flatten.count (k : Int) : Int)
  | 0, _, k, hk => by
    obtain ⟨j, rfl⟩ := Int.eq_ofNat_of_zero_le h0
    have hN := hB.1
    simp only [numsAt, growAt, Int.toNat_natCast, List.flatten_cons, List.flatten_nil, List.append_nil]
    by_cases e : j = k
    · subst e
      have hj : j < (List.replicate L.length (0 : Int)).length := by simp; omega
      rw [List.getD_eq_getElem?_getD, List.getElem?_set_self hj]; simp
    · have e2 : ((j : Int) == (k : Int)) = false := by simp; omega
      rw [List.getD_eq_getElem?_getD, List.getElem?_set_ne e, show List.count (k : Int) [(j : Int)] = 0 by simp [List.count_singleton, e2]]
      simp [List.getElem?_replicate]
      split <;> rfl
  | m + 1, hm, k, hk => by
    obtain ⟨h2, h3⟩ := numsAt_sum hB h0 h1 m (by omega)
    have hp := pow4_le (k := m) (by omega)
    obtain ⟨g1, -, -⟩ := growAt_ok hB h0 h1 m
    have e1 : numsAt L i (m + 1) = addAll L (numsAt L i m) L.length := rfl
    have e2 : growAt L i (m + 1) = grownL L (growAt L i m) := rfl
    rw [e1, e2, addAll_get hB (numsAt_len L i m) h3 (by omega) k L.length (Nat.le_refl _), count_grown, lsum_wsum (N := L.length) (fun x hx => by have := flat_nums g1 x hx; have := hB.1; omega)]
    exact wsum_congr fun j hj => numsAt_count hB h0 h1 m (by omega) j (by have := hB.1; omega)
def cntTo (N : Nat) (rows : List (List Int)) (k : Nat) : List Int := (rows.take k).foldl (fun xs row => addRow row 1 xs row.length) (List.replicate N 0)
theorem cntTo_succ {N : Nat} {rows : List (List Int)} {k : Nat} (h : k < rows.length) : cntTo N rows (k + 1) = addRow rows[k] 1 (cntTo N rows k) rows[k].length := by
  unfold cntTo; rw [List.take_succ_eq_append_getElem h, List.foldl_append]; rfl
theorem cntTo_len (N : Nat) (rows : List (List Int)) : ∀ k, k ≤ rows.length → (cntTo N rows k).length = N
  | 0, _ => by simp [cntTo]
  | k + 1, h => by rw [cntTo_succ h, addRow_len]; exact cntTo_len N rows k (by omega)
theorem cntTo_ok {N : Nat} {rows : List (List Int)} (hI : NumsIn N rows) (ht : tot rows ≤ 1000000) : ∀ k, k ≤ rows.length → isum (cntTo N rows k) = (tot (rows.take k) : Int) ∧ NonNeg (cntTo N rows k) ∧ ∀ x, (cntTo N rows k).getD x 0 = ((rows.take k).flatten.count (x : Int) : Int)
  | 0, _ => by
    refine ⟨by simp [cntTo, isum_rep, tot], fun x hx => ?_, fun x => ?_⟩
    · simp [cntTo] at hx; omega
    · simp [cntTo, List.getD_eq_getElem?_getD, List.getElem?_replicate]; split <;> rfl
  | k + 1, h => by
    obtain ⟨h1, h2, h3⟩ := cntTo_ok hI ht k (by omega)
    have hk : k < rows.length := h
    have hr : ∀ x ∈ rows[k], 0 ≤ x ∧ x < (N : Int) := fun x hx => NumsIn_iff.1 hI _ (List.getElem_mem hk) x hx
    have e := tot_take (L := rows) hk
    have hle : tot (rows.take (k + 1)) ≤ tot rows := by
      have e2 : rows = rows.take (k + 1) ++ rows.drop (k + 1) := (List.take_append_drop _ _).symm
      have : tot rows = tot (rows.take (k + 1)) + tot (rows.drop (k + 1)) := by
        unfold tot
        rw [← List.sum_append, ← List.map_append, List.take_append_drop]
      omega
    have hb : isum (cntTo N rows k) + (rows[k].length : Int) * 1 ≤ 4611686018427387904 := by omega
    obtain ⟨h4, h5⟩ := addRow_sum hr (y := 1) (by omega) (cntTo_len N rows k (by omega)) h2 rows[k].length (Nat.le_refl _) hb
    rw [cntTo_succ hk]
    refine ⟨by rw [h4, h1, e]; omega, h5, fun x => ?_⟩
    rw [addRow_get hr (y := 1) (by omega) (cntTo_len N rows k (by omega)) h2 x rows[k].length (Nat.le_refl _) hb, h3, List.take_length, List.take_succ_eq_append_getElem hk, List.flatten_append, List.count_append]
    simp
theorem grow_facts {c : Int} {ts : List T4} {L : List (List Int)} {i n : Int} (h : growCode c ts L i n = 0) : numCode c ts L i n = 0 ∧ NumsIn ts.length (growV c ts L i n) ∧ cntTo ts.length (growV c ts L i n) (growV c ts L i n).length = numV c ts L i n := by
  obtain ⟨h1, h2⟩ := codeB_zero (show codeB (isSetB c ts) (stepB ts.length L i n 3) = 0 from h)
  obtain ⟨hB, ⟨i0, i1⟩, n0, n1⟩ := stepB_parts h2
  have h3 : stepB ts.length L i n 20 = true := by
    unfold stepB at h2 ⊢
    rw [Bool.and_eq_true, Bool.and_eq_true] at h2 ⊢
    exact ⟨h2.1, h2.2.1, inR_iff.2 ⟨by omega, by omega⟩⟩
  have hn : numCode c ts L i n = 0 := by unfold numCode; rw [h1, h3]; rfl
  have hv : growV c ts L i n = growAt L i n.toNat := by unfold growV; rw [if_pos h]
  have hw : numV c ts L i n = numsAt L i n.toNat := by unfold numV; rw [if_pos hn]
  have ht := (growV_len c ts L i n).2.2
  rw [hv] at ht
  obtain ⟨g1, -, -⟩ := growAt_ok hB i0 i1 n.toNat
  refine ⟨hn, by rw [hv]; exact g1, ?_⟩
  rw [hv, hw]
  obtain ⟨-, -, c3⟩ := cntTo_ok g1 (by omega) _ (Nat.le_refl _)
  refine List.ext_getElem (by rw [cntTo_len _ _ _ (Nat.le_refl _), numsAt_len]; exact hB.1.symm) fun k hk hk' => ?_
  have e1 := c3 k
  rw [List.take_length] at e1
  have hkN : k < ts.length := by rwa [cntTo_len _ _ _ (Nat.le_refl _)] at hk
  have e2 := numsAt_count hB i0 i1 n.toNat (by omega) k hkN
  have e3 : ∀ (l : List Int) (h : k < l.length), l[k] = l.getD k 0 := fun l h => by simp [h]
  rw [e3 _ hk, e3 _ hk', e1, e2]
theorem tot_mem : ∀ {L : List (List Int)} {r : List Int}, r ∈ L → r.length ≤ tot L
  | x :: xs, r, h => by
    have e : tot (x :: xs) = x.length + tot xs := by simp [tot]
    rcases List.mem_cons.1 h with rfl | h
    · omega
    · have := tot_mem h; omega

end Go.Proofs.Ytkgnejhflnekaaa
