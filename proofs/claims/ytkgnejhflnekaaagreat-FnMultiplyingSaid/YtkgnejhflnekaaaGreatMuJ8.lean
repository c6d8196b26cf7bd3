/- Contracts and lemmas for the statements of this seat, written for this claim; each theorem states its own conditions. -/
import Derived.BigQuiet
import Derived.Test.YtkgnejhflnekaaaGreatMuJ5
import Derived.Test.YtkgnejhflnekaaaGreatMuTg
import Derived.Test.YtkgnejhflnekaaaGreatMuN8
import Derived.Test.YtkgnejhflnekaaaGreatMuSe
set_option linter.unusedVariables false
set_option linter.unusedSimpArgs false
namespace Go.Proofs.YtkgnejhflnekaaaGreat
open Go.RowKit
def minL : List Int → Int
  | [] => 0
  | x :: xs => xs.foldl min x
def maxL : List Int → Int
  | [] => 0
  | x :: xs => xs.foldl max x
theorem minL_take {xs : List Int} {k : Nat} (h0 : 0 < k) (h : k < xs.length) : minL (xs.take (k + 1)) = min (minL (xs.take k)) xs[k] := by
  cases xs with
  | nil => simp at h
  | cons x xs =>
    obtain ⟨j, rfl⟩ : ∃ j, k = j + 1 := ⟨k - 1, by omega⟩
    rw [List.take_succ_cons, List.take_succ_cons]
    show (xs.take (j + 1)).foldl min x = min ((xs.take j).foldl min x) _
    rw [List.take_succ_eq_append_getElem (by simpa using h), List.foldl_append]
    rfl
theorem maxL_take {xs : List Int} {k : Nat} (h0 : 0 < k) (h : k < xs.length) : maxL (xs.take (k + 1)) = max (maxL (xs.take k)) xs[k] := by
  cases xs with
  | nil => simp at h
  | cons x xs =>
    obtain ⟨j, rfl⟩ : ∃ j, k = j + 1 := ⟨k - 1, by omega⟩
    rw [List.take_succ_cons, List.take_succ_cons]
    show (xs.take (j + 1)).foldl max x = max ((xs.take j).foldl max x) _
    rw [List.take_succ_eq_append_getElem (by simpa using h), List.foldl_append]
    rfl
theorem foldl_min : ∀ (xs : List Int) (x : Int), xs.foldl min x ≤ x ∧ (∀ y ∈ xs, xs.foldl min x ≤ y) ∧ (xs.foldl min x = x ∨ xs.foldl min x ∈ xs)
  | [], x => by simp
  | z :: xs, x => by
    obtain ⟨h1, h2, h3⟩ := foldl_min xs (min x z)
    refine ⟨by rw [List.foldl_cons]; omega, fun y hy => ?_, ?_⟩
    · rw [List.foldl_cons]
      rcases List.mem_cons.1 hy with rfl | hy
      · omega
      · exact h2 y hy
    · rw [List.foldl_cons]
      rcases h3 with h3 | h3
      · rw [h3]
        rcases Int.le_total x z with h | h
        · left; omega
        · right; rw [show min x z = z by omega]; simp
      · right; simp [h3]
theorem foldl_max : ∀ (xs : List Int) (x : Int), x ≤ xs.foldl max x ∧ (∀ y ∈ xs, y ≤ xs.foldl max x) ∧ (xs.foldl max x = x ∨ xs.foldl max x ∈ xs)
  | [], x => by simp
  | z :: xs, x => by
    obtain ⟨h1, h2, h3⟩ := foldl_max xs (max x z)
    refine ⟨by rw [List.foldl_cons]; omega, fun y hy => ?_, ?_⟩
    · rw [List.foldl_cons]
      rcases List.mem_cons.1 hy with rfl | hy
      · omega
      · exact h2 y hy
    · rw [List.foldl_cons]
      rcases h3 with h3 | h3
      · rw [h3]
        rcases Int.le_total x z with h | h
        · right; rw [show max x z = z by omega]; simp
        · left; omega
      · right; simp [h3]
theorem minL_le {xs : List Int} {y : Int} (h : y ∈ xs) : minL xs ≤ y := by
  cases xs with
  | nil => simp at h
  | cons x xs =>
    obtain ⟨h1, h2, _⟩ := foldl_min xs x
    rcases List.mem_cons.1 h with rfl | h
    · exact h1
    · exact h2 y h
theorem le_maxL {xs : List Int} {y : Int} (h : y ∈ xs) : y ≤ maxL xs := by
  cases xs with
  | nil => simp at h
  | cons x xs =>
    obtain ⟨h1, h2, _⟩ := foldl_max xs x
    rcases List.mem_cons.1 h with rfl | h
    · exact h1
    · exact h2 y h
theorem minL_mem {xs : List Int} (h : xs ≠ []) : minL xs ∈ xs := by
  cases xs with
  | nil => exact absurd rfl h
  | cons x xs =>
    rcases (foldl_min xs x).2.2 with h | h
    · show xs.foldl min x ∈ _; rw [h]; simp
    · exact List.mem_cons_of_mem _ h
theorem maxL_mem {xs : List Int} (h : xs ≠ []) : maxL xs ∈ xs := by
  cases xs with
  | nil => exact absurd rfl h
  | cons x xs =>
    rcases (foldl_max xs x).2.2 with h | h
    · show xs.foldl max x ∈ _; rw [h]; simp
    · exact List.mem_cons_of_mem _ h
set_option maxRecDepth 100000 in
set_option maxHeartbeats 1000000 in
theorem minI_c (xs : List Int) (A : Option Addr) (cx : Nat) (w : World) (hx : Cells w A (ints xs)) (h0 : 0 < xs.length) (hl : xs.length ≤ 1000000000) :
    Calls Tryz.prog 123 #[.slice A xs.length cx] w fun e w' => e = .returned (.int .i64 (minL xs)) ∧ w = w' := by
  obtain ⟨b, off, rfl, hlt, hc0⟩ := hx.int 0 h0
  have HX := Lib.hid hx
  clear hx
  simp only [Nat.add_zero] at hc0
  have HX0 : Hid (minL (xs.take 1) = xs[0]) := by
    show _ = _
    cases xs with
    | nil => simp at h0
    | cons x xs => rfl
  generalize hx0 : xs[0] = x0 at *
  clear hx0
  go_enter Tryz.func123, Tryz.ntmps123
  go_wp2
  go_loop [3, 4] (fun m i => ∃ k : Nat, 0 < k ∧ k ≤ xs.length ∧ i = .int .i64 k ∧ m = .int .i64 (minL (xs.take k))) (fun _ i => xs.length - (intOf i).toNat)
  case atStart => exact ⟨1, by omega, by omega, rfl, by rw [HX0.out]⟩
  case round =>
    obtain ⟨k, hk0, hk, rfl, rfl⟩ := hrel
    by_cases h1 : k < xs.length
    · obtain ⟨b', off', e, hlt', hc⟩ := HX.out.int k h1
      injection e with e
      injection e with e1 e2
      subst e1 e2
      have HS := Lib.hid (minL_take hk0 h1)
      generalize xs[k] = y at *
      generalize minL (xs.take k) = m at *
      clear hc0
      go_wp2
      all_goals
        go_round
        case rel => exact ⟨k + 1, by omega, by omega, by go_num, by rw [HS.out]⟩
        case measure => simp [intOf]; omega
    · have HE := Lib.hid (show xs.take k = xs by rw [show k = xs.length by omega, List.take_length])
      go_wp2
      go_ret
      exact ⟨by rw [HE.out]; rfl, rfl⟩
set_option maxRecDepth 100000 in
set_option maxHeartbeats 1000000 in
theorem maxI_c (xs : List Int) (A : Option Addr) (cx : Nat) (w : World) (hx : Cells w A (ints xs)) (h0 : 0 < xs.length) (hl : xs.length ≤ 1000000000) :
    Calls Tryz.prog 124 #[.slice A xs.length cx] w fun e w' => e = .returned (.int .i64 (maxL xs)) ∧ w = w' := by
  obtain ⟨b, off, rfl, hlt, hc0⟩ := hx.int 0 h0
  have HX := Lib.hid hx
  clear hx
  simp only [Nat.add_zero] at hc0
  have HX0 : Hid (maxL (xs.take 1) = xs[0]) := by
    show _ = _
    cases xs with
    | nil => simp at h0
    | cons x xs => rfl
  generalize hx0 : xs[0] = x0 at *
  clear hx0
  go_enter Tryz.func124, Tryz.ntmps124
  go_wp2
  go_loop [3, 4] (fun m i => ∃ k : Nat, 0 < k ∧ k ≤ xs.length ∧ i = .int .i64 k ∧ m = .int .i64 (maxL (xs.take k))) (fun _ i => xs.length - (intOf i).toNat)
  case atStart => exact ⟨1, by omega, by omega, rfl, by rw [HX0.out]⟩
  case round =>
    obtain ⟨k, hk0, hk, rfl, rfl⟩ := hrel
    by_cases h1 : k < xs.length
    · obtain ⟨b', off', e, hlt', hc⟩ := HX.out.int k h1
      injection e with e
      injection e with e1 e2
      subst e1 e2
      have HS := Lib.hid (maxL_take hk0 h1)
      generalize xs[k] = y at *
      generalize maxL (xs.take k) = m at *
      clear hc0
      go_wp2
      all_goals
        go_round
        case rel => exact ⟨k + 1, by omega, by omega, by go_num, by rw [HS.out]⟩
        case measure => simp [intOf]; omega
    · have HE := Lib.hid (show xs.take k = xs by rw [show k = xs.length by omega, List.take_length])
      go_wp2
      go_ret
      exact ⟨by rw [HE.out]; rfl, rfl⟩
set_option maxRecDepth 100000 in
set_option maxHeartbeats 1000000 in
theorem l08Ends_c (xs : List Int) (A : Option Addr) (cx : Nat) (w : World) (hx : Cells w A (ints xs)) (h0 : 0 < xs.length) (hl : xs.length ≤ 1000000000) :
    Calls Tryz.prog 130 #[.slice A xs.length cx] w fun e w' => e = .returned (.tuple #[.int .i64 (minL xs), .int .i64 (maxL xs)]) ∧ Below w.heap.size w w' := by
  obtain ⟨b, off, rfl, hlt, hc0⟩ := hx.int 0 h0
  have HX := Lib.hid hx
  clear hx
  simp only [Nat.add_zero] at hc0
  have HX0 : Hid (minL (xs.take 1) = xs[0] ∧ maxL (xs.take 1) = xs[0]) := by
    show _ ∧ _
    cases xs with
    | nil => simp at h0
    | cons x xs => exact ⟨rfl, rfl⟩
  generalize hx0 : xs[0] = x0 at *
  clear hx0
  go_enter Tryz.func130, Tryz.ntmps130
  go_wp2_with fail
  repeat (go_quiet (fail); try go_wp2_with fail)
  have hbw : Below w.heap.size w (w.drewN nq) := below_drN (Below.refl _ _)
  generalize w.drewN nq = wq at *
  clear hc0
  go_loopw [4, 5, 6] (fun m n i wr => ∃ k : Nat, 0 < k ∧ k ≤ xs.length ∧ i = .int .i64 k ∧ m = .int .i64 (minL (xs.take k)) ∧ n = .int .i64 (maxL (xs.take k)) ∧ Below w.heap.size w wr) (fun _ _ i _ => xs.length - (intOf i).toNat)
  case atStart => exact ⟨1, by omega, by omega, rfl, by rw [HX0.out.1], by rw [HX0.out.2], hbw⟩
  case round =>
    obtain ⟨k, hk0, hk, rfl, rfl, rfl, hb⟩ := hrel
    by_cases h1 : k < xs.length
    · obtain ⟨b', off', e, hlt', hc⟩ := (HX.out.below hb).int k h1
      injection e with e
      injection e with e1 e2
      subst e1 e2
      have HS := Lib.hid (minL_take hk0 h1)
      have HS2 := Lib.hid (maxL_take hk0 h1)
      generalize xs[k] = y at *
      generalize minL (xs.take k) = m at *
      generalize maxL (xs.take k) = n at *
      go_wp2
      all_goals
        go_roundw
        case rel => exact ⟨k + 1, by omega, by omega, by go_num, by rw [HS.out], by rw [HS2.out], hb⟩
        case measure => simp [intOf]; omega
    · have HE := Lib.hid (show xs.take k = xs by rw [show k = xs.length by omega, List.take_length])
      go_wp2
      go_ret2
      exact ⟨by rw [HE.out]; rfl, hb⟩
set_option maxRecDepth 100000 in
set_option maxHeartbeats 1000000 in
theorem indexTile_c (ts : List T4) (t : T4) (A : Option Addr) (cx : Nat) (w : World) (hT : TileCells w A ts) (hl : ts.length ≤ 1000000000) :
    Calls Tryz.prog 125 #[.slice A ts.length cx, .agg #[.int .i64 t.a, .int .i64 t.b, .int .i64 t.c, .int .i64 t.d]] w fun e w' => e = .returned (.int .i64 (idxT (fun x => decide (t = x)) ts)) ∧ Below w.heap.size w w' := by
  have HT := Lib.hid hT
  clear hT
  have heq := eql_tile
  have hgd := guard_tile
  have q := Lib.hid (Blk.newA w #[.int .i64 t.a, .int .i64 t.b, .int .i64 t.c, .int .i64 t.d] 127)
  go_enter Tryz.func125, Tryz.ntmps125
  go_wp2_with fail
  go_loopw [8] (fun i wr => ∃ k : Nat, k ≤ ts.length ∧ i = .int .i64 k ∧ Hid (∀ j (h : j < ts.length), j < k → decide (t = ts[j]) = false) ∧ Hid (Below (w.heap.size + 1) (w.alloc (.cells #[.int .i64 t.a, .int .i64 t.b, .int .i64 t.c, .int .i64 t.d] 127)) wr)) (fun i _ => ts.length - (intOf i).toNat)
  case atStart => exact ⟨0, by omega, rfl, fun j _ h => by omega, Below.refl _ _⟩
  case round =>
    obtain ⟨k, hk, rfl, HN, HB⟩ := hrel
    have HBw : Hid (Below w.heap.size w wr) := ((Below.refl w.heap.size w).alloc (Nat.le_refl _) _).trans (HB.out.mono (by omega))
    by_cases h1 : k < ts.length
    · obtain ⟨b, off, rfl, hlt, c0, c1, c2, c3⟩ := (HT.out.below HBw.out) k h1
      have q1 := q.out.below HB.out (by omega)
      have e0 := q1.cell 0 (by simp)
      have e1 := q1.cell 1 (by simp)
      have e2 := q1.cell 2 (by simp)
      have e3 := q1.cell 3 (by simp)
      simp only [List.getElem_cons_zero, List.getElem_cons_succ] at e0 e1 e2 e3
      clear q1
      have HX := Lib.hid (show ∀ x, ts[k] = x → ts[k] = x from fun _ h => h)
      generalize hx : ts[k] = x at c0 c1 c2 c3
      have HK := Lib.hid hx
      clear hx HX
      by_cases htx : t = x
      · have hd : decide (t = x) = true := by simp [htx]
        have HTX := Lib.hid htx
        clear htx
        go_wp2_with fail
        repeat (go_quiet (fail); try go_wp2)
        go_ret
        exact ⟨ret_int (idxT_some h1 HN.out (by rw [HK.out, HTX.out]; simp)).symm, by have h := HBw.out; (repeat (first | (with_reducible exact Below.refl _ _) | (with_reducible assumption) | (with_reducible refine below_al ?_) | (with_reducible refine below_dr ?_) | (with_reducible refine below_drN ?_) | (with_reducible refine below_set ?_ (by first | exact Nat.le_refl _ | (dsimp only; omega) | omega)) | (with_reducible refine below_tr (by with_reducible assumption) ?_)))⟩
      · have hd : decide (t = x) = false := by simp [htx]
        have HTX := Lib.hid htx
        clear htx
        go_wp2_with fail
        repeat (go_quiet (fail); try go_wp2)
        go_roundw
        case rel => exact ⟨k + 1, by omega, by go_num, (fun j h hj => by
          by_cases e : j = k
          · subst e; rw [HK.out]; simp [HTX.out]
          · exact HN.out j h (by omega)), (by have h := HB.out; exact ⟨h.os, h.tape, h.output, h.size, h.block⟩)⟩
        case measure => simp [intOf]; omega
    · go_wp2
      go_ret
      exact ⟨ret_int (idxT_none (fun j h => HN.out j h (by omega))).symm, HBw.out⟩

end Go.Proofs.YtkgnejhflnekaaaGreat
namespace Go.Proofs.YtkgnejhflnekaaaGreat
open Go.RowKit
def nOwn (p : Int) (D E B : List Int) (i : Nat) : T4 := ⟨B.getD i 0 + p - 1, D.getD i 0, B.getD (i + 1) 0 + p - 1, E.getD i 0⟩
def nIdx (ts : List T4) (t : T4) : Int := idxT (fun x => decide (t = x)) ts
def nRow (p : Int) (D E B : List Int) (ts : List T4) (k : Nat) : List Int := (List.range k).map fun i => nIdx ts (nOwn p D E B i)
theorem nRow_succ (p : Int) (D E B : List Int) (ts : List T4) (k : Nat) : nRow p D E B ts (k + 1) = nRow p D E B ts k ++ [nIdx ts (nOwn p D E B k)] := by simp [nRow, List.range_succ]
theorem nRow_len (p : Int) (D E B : List Int) (ts : List T4) (k : Nat) : (nRow p D E B ts k).length = k := by simp [nRow]
def nHits (ts : List T4) (t : T4) (k : Nat) : List Int := (List.range k).flatMap fun j : Nat => if ts[j]? = some t then [(j : Int)] else []
theorem nHits_succ (ts : List T4) (t : T4) (k : Nat) : nHits ts t (k + 1) = nHits ts t k ++ (if ts[k]? = some t then [(k : Int)] else []) := by simp [nHits, List.range_succ]
theorem nHits_len (ts : List T4) (t : T4) : ∀ k, (nHits ts t k).length ≤ k
  | 0 => by simp [nHits]
  | k + 1 => by rw [nHits_succ, List.length_append]; have := nHits_len ts t k; split <;> simp <;> omega
theorem nHits_all {ts : List T4} {t : T4} (hn : ts.Nodup) (ht : t ∈ ts) : nHits ts t ts.length = [nIdx ts t] := by
  obtain ⟨i, hi, rfl⟩ := List.getElem_of_mem ht
  have hinj : ∀ j (h : j < ts.length), ts[j] = ts[i] → j = i := fun j h e => by
    rcases Nat.lt_trichotomy j i with h1 | h1 | h1
    · exact absurd e (List.pairwise_iff_getElem.1 hn j i h hi h1)
    · exact h1
    · exact absurd e.symm (List.pairwise_iff_getElem.1 hn i j hi h h1)
  have key : ∀ k, k ≤ ts.length → nHits ts ts[i] k = if i < k then [(i : Int)] else [] := by
    intro k
    induction k with
    | zero => intro _; simp [nHits]
    | succ k ih =>
      intro hk
      rw [nHits_succ, ih (by omega), List.getElem?_eq_getElem (show k < ts.length by omega)]
      by_cases e : k = i
      · subst e
        rw [if_neg (by omega), if_pos rfl, if_pos (by omega)]; rfl
      · have e2 : ¬ some ts[k] = some ts[i] := by intro h; injection h with h; exact e (hinj k (by omega) h)
        by_cases h2 : i < k
        · rw [if_pos h2, if_pos (show i < k + 1 by omega), if_neg e2]; rfl
        · rw [if_neg h2, if_neg (show ¬ i < k + 1 by omega), if_neg e2]; rfl
  rw [key _ (Nat.le_refl _), if_pos hi]
  congr 1
  exact (idxT_some hi (fun j h hj => by
    rw [decide_eq_false_iff_not]
    intro e
    have := hinj j h e.symm
    omega) (by simp)).symm
theorem mem_mTiles {p q m n u v l d e : Int} (h1 : 1 - p ≤ l) (h2 : l ≤ q - 1) (h3 : m ≤ d) (h4 : d ≤ n) (h5 : u ≤ e) (h6 : e ≤ v) (h7 : 1 - p ≤ p * d + l - q * e) (h8 : p * d + l - q * e ≤ q - 1) :
    (⟨l + p - 1, d, p * d + l - q * e + p - 1, e⟩ : T4) ∈ mTiles p q m n u v := by
  unfold mTiles mAll
  refine List.mem_flatMap.2 ⟨(l - (1 - p)).toNat, List.mem_range.2 (by omega), ?_⟩
  unfold mDs
  refine List.mem_flatMap.2 ⟨(d - m).toNat, List.mem_range.2 (by omega), ?_⟩
  unfold mRow
  refine List.mem_flatMap.2 ⟨(e - u).toNat, List.mem_range.2 (by omega), ?_⟩
  rw [show 1 - p + ((l - (1 - p)).toNat : Int) = l by omega, show m + ((d - m).toNat : Int) = d by omega, show u + ((e - u).toNat : Int) = e by omega]
  unfold mCell
  rw [if_pos ⟨h7, h8⟩]
  simp
theorem digAt_five {a b i : Int} (hb : 1 ≤ b) (ha : 0 ≤ a) (h5 : a ≤ 5 * b) : 0 ≤ digAt a b i ∧ digAt a b i ≤ 5 := by
  have h := digAt_range (a := a) (b := b) (i := i) hb
  have h0 : 0 ≤ a / b := Int.ediv_nonneg ha (by omega)
  by_cases he : a = 5 * b
  · subst he
    refine ⟨by omega, ?_⟩
    unfold digAt
    have e1 : i * (5 * b) / b = i * 5 := by rw [← Int.mul_assoc]; exact Int.mul_ediv_cancel _ (by omega)
    have e2 : (i - 1) * (5 * b) / b = (i - 1) * 5 := by rw [← Int.mul_assoc]; exact Int.mul_ediv_cancel _ (by omega)
    rw [e1, e2]
    omega
  · have : a / b < 5 := Int.ediv_lt_of_lt_mul (by omega) (by omega)
    omega
theorem carAt_step (p q a b i : Int) : carAt p q a b (i + 1) = p * digAt a b (i + 1) + carAt p q a b i - q * digAt (a * p) (b * q) (i + 1) := by
  unfold carAt digAt
  rw [show i + 1 - 1 = i by omega, show (i + 1) * a * p = (i + 1) * (a * p) by rw [Int.mul_assoc], show i * a * p = i * (a * p) by rw [Int.mul_assoc], Int.mul_sub, Int.mul_sub]
  omega
/-- the tiles of a row of numbers are tiles of its multiplying set -/
theorem nOwn_mem {p q a b s : Int} {n : Nat} (hp : 1 ≤ p) (hq : 1 ≤ q) (hb : 1 ≤ b) (ha : 0 ≤ a) (hs : 1 ≤ s) (i : Nat) (hi : i < n) :
    nOwn p (digs a b s n) (digs (a * p) (b * q) s n) (cars p q a b (s - 1) (n + 1)) i ∈ mTiles p q (minL (digs a b s n)) (maxL (digs a b s n)) (minL (digs (a * p) (b * q) s n)) (maxL (digs (a * p) (b * q) s n)) := by
  have e1 : (digs a b s n).getD i 0 = digAt a b (s + i) := by simp [digs, hi]
  have e2 : (digs (a * p) (b * q) s n).getD i 0 = digAt (a * p) (b * q) (s + i) := by simp [digs, hi]
  have e3 : (cars p q a b (s - 1) (n + 1)).getD i 0 = carAt p q a b (s - 1 + i) := by simp [cars, show i < n + 1 by omega]
  have e4 : (cars p q a b (s - 1) (n + 1)).getD (i + 1) 0 = carAt p q a b (s - 1 + i + 1) := by
    simp [cars, show i + 1 < n + 1 by omega]; congr 1; omega
  have m1 : digAt a b (s + i) ∈ digs a b s n := List.mem_map.2 ⟨i, List.mem_range.2 hi, rfl⟩
  have m2 : digAt (a * p) (b * q) (s + i) ∈ digs (a * p) (b * q) s n := List.mem_map.2 ⟨i, List.mem_range.2 hi, rfl⟩
  have r1 := carAt_range (i := s - 1 + i) hp hq hb ha (by omega)
  have r2 := carAt_range (i := s - 1 + i + 1) hp hq hb ha (by omega)
  have st := carAt_step p q a b (s - 1 + i)
  rw [show s - 1 + (i : Int) + 1 = s + i by omega] at st r2 e4
  rw [st] at r2
  unfold nOwn
  rw [e1, e2, e3, e4, st]
  exact mem_mTiles r1.1 r1.2 (minL_le m1) (le_maxL m1) (minL_le m2) (le_maxL m2) r2.1 r2.2
theorem digs_five {a b s : Int} {n : Nat} (hb : 1 ≤ b) (ha : 0 ≤ a) (h5 : a ≤ 5 * b) : ∀ x ∈ digs a b s n, 0 ≤ x ∧ x ≤ 5 := by
  intro x hx
  obtain ⟨j, _, rfl⟩ := List.mem_map.1 hx
  exact digAt_five hb ha h5
theorem digs_ends {a b s : Int} {n : Nat} (hb : 1 ≤ b) (ha : 0 ≤ a) (h5 : a ≤ 5 * b) (hn : 0 < n) : 0 ≤ minL (digs a b s n) ∧ minL (digs a b s n) ≤ maxL (digs a b s n) ∧ maxL (digs a b s n) ≤ 5 := by
  have hne : digs a b s n ≠ [] := by intro h; have := digs_len a b s n; rw [h] at this; simp at this; omega
  exact ⟨(digs_five hb ha h5 _ (minL_mem hne)).1, minL_le (maxL_mem hne), (digs_five hb ha h5 _ (maxL_mem hne)).2⟩
def okN (p q a b s n : Int) : Prop := factB p q = true ∧ fracB a b = true ∧ placesB s n = true ∧ a * p ≤ 5 * b * q
instance (p q a b s n : Int) : Decidable (okN p q a b s n) := by unfold okN; infer_instance
def nD (a b s n : Int) : List Int := digs a b s n.toNat
def nB (p q a b s n : Int) : List Int := cars p q a b (s - 1) (n.toNat + 1)
def nC (p q a b s n : Int) : Int := mCol p q (minL (nD a b s n)) (maxL (nD a b s n)) (minL (nD (a * p) (b * q) s n)) (maxL (nD (a * p) (b * q) s n))
def nS (p q a b s n : Int) : List T4 := mSet p q (minL (nD a b s n)) (maxL (nD a b s n)) (minL (nD (a * p) (b * q) s n)) (maxL (nD (a * p) (b * q) s n))
def nK (p q a b s n : Int) : Int := mCode p q (minL (nD a b s n)) (maxL (nD a b s n)) (minL (nD (a * p) (b * q) s n)) (maxL (nD (a * p) (b * q) s n))
def nR (p q a b s n : Int) : List Int := nRow p (nD a b s n) (nD (a * p) (b * q) s n) (nB p q a b s n) (nS p q a b s n) n.toNat
def nrCol (p q a b s n : Int) : Int := if okN p q a b s n ∧ nK p q a b s n = 0 then nC p q a b s n else 0
def nrSet (p q a b s n : Int) : List T4 := if okN p q a b s n ∧ nK p q a b s n = 0 then nS p q a b s n else []
def nrRow (p q a b s n : Int) : List Int := if okN p q a b s n ∧ nK p q a b s n = 0 then nR p q a b s n else []
def nrCode (p q a b s n : Int) : Int := if okN p q a b s n then nK p q a b s n else 2
theorem mSet_mem {p q m n u v : Int} (hk : mCode p q m n u v = 0) {x : T4} (hx : x ∈ mTiles p q m n u v) : x ∈ mSet p q m n u v := by
  unfold mCode at hk
  unfold mSet
  split at hk
  · rename_i h
    rw [if_pos h, setT_mem]; exact hx
  · cases hk
theorem mSet_nodup (p q m n u v : Int) : (mSet p q m n u v).Nodup := by
  unfold mSet
  split
  · exact setT_nodup _
  · simp
theorem mSet_len (p q m n u v : Int) : (mSet p q m n u v).length ≤ 16 := by
  unfold mSet
  split
  · have := setT_take_len (mTiles p q m n u v); omega
  · simp
/-- what a call gives back that returns a new set, a new list of numbers apart from it, and a code -/
def RetSI (w : World) (c : Int) (ts : List T4) (row : List Int) (code : Int) (e : Ending) (w' : World) : Prop :=
  ∃ A cx u, e = .returned (.tuple #[.agg #[.int .i64 c, .slice A ts.length cx], u, .int .i64 code]) ∧ OwnT w' w.heap.size (.slice A ts.length cx) ts ∧ OwnI w' w.heap.size u row ∧ Apart u (.slice A ts.length cx) ∧ Below w.heap.size w w'

end Go.Proofs.YtkgnejhflnekaaaGreat
