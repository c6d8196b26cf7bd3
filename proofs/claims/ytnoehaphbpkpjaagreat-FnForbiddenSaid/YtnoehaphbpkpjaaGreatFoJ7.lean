/- Contracts and lemmas for the statements of this seat, written for this claim; each theorem states its own conditions. -/
import Derived.BigQuiet
import Derived.Test.YtnoehaphbpkpjaaGreatFoJ3
import Derived.Test.YtnoehaphbpkpjaaGreatFoSe
import Derived.Test.YtnoehaphbpkpjaaGreatFoBy
import Derived.Test.YtnoehaphbpkpjaaGreatFoBk
set_option linter.unusedVariables false
set_option linter.unusedSimpArgs false
namespace Go.Proofs.YtnoehaphbpkpjaaGreat
open Go.RowKit
theorem Blk.grownB {w w' : World} {b : Nat} {cs : List Value} {T : TypeId} {row : Option Nat} (h : Blk w b cs T) (hg : w.grownBy w' row) (hne : row ≠ some b) : Blk w' b cs T := (hg.block b h.lt (fun e => hne e.symm)).trans h
theorem OwnT.grown {w w1 : World} {B : Nat} {v : Value} {ts : List T4} {row : Option Nat} (h : OwnT w B v ts) (hg : w.grownBy w1 row) (hne : v.ownBlock = none ∨ v.ownBlock ≠ row) : OwnT w1 B v ts := World.ownsRow.kept h hg hne
theorem OwnT.blt {w : World} {B : Nat} {v : Value} {ts : List T4} (h : OwnT w B v ts) : ∀ k, v.ownBlock = some k → B ≤ k ∧ k < w.heap.size := fun k hk => World.ownsRow.lt h k hk
theorem OwnT.tilesAt {w : World} {B n cx : Nat} {A : Option Addr} {ts : List T4} (h : OwnT w B (.slice A n cx) ts) : TileCells w A ts := by
  obtain ⟨A', cx', e, hT⟩ := h.tiles
  injection e with a1 a2 a3
  subst a1
  exact hT
end Go.Proofs.YtnoehaphbpkpjaaGreat
namespace Go.Proofs.YtnoehaphbpkpjaaGreat
open Go.RowKit
def minL : List Int → Int
  | [] => 0
  | x :: xs => xs.foldl min x
def maxL : List Int → Int
  | [] => 0
  | x :: xs => xs.foldl max x
theorem minL_take {xs : List Int} {k : Nat} (h0 : 0 < k) (h : k < xs.length) : minL (xs.take (k + 1)) = min (minL (xs.take k)) xs[k] := by
  cases xs with
  | nil => simp at h
  | cons x xs =>
    obtain ⟨j, rfl⟩ : ∃ j, k = j + 1 := ⟨k - 1, by omega⟩
    rw [List.take_succ_cons, List.take_succ_cons]
    show (xs.take (j + 1)).foldl min x = min ((xs.take j).foldl min x) _
    rw [List.take_succ_eq_append_getElem (by simpa using h), List.foldl_append]
    rfl
theorem maxL_take {xs : List Int} {k : Nat} (h0 : 0 < k) (h : k < xs.length) : maxL (xs.take (k + 1)) = max (maxL (xs.take k)) xs[k] := by
  cases xs with
  | nil => simp at h
  | cons x xs =>
    obtain ⟨j, rfl⟩ : ∃ j, k = j + 1 := ⟨k - 1, by omega⟩
    rw [List.take_succ_cons, List.take_succ_cons]
    show (xs.take (j + 1)).foldl max x = max ((xs.take j).foldl max x) _
    rw [List.take_succ_eq_append_getElem (by simpa using h), List.foldl_append]
    rfl
theorem foldl_min : ∀ (xs : List Int) (x : Int), xs.foldl min x ≤ x ∧ (∀ y ∈ xs, xs.foldl min x ≤ y) ∧ (xs.foldl min x = x ∨ xs.foldl min x ∈ xs)
  | [], x => by simp
  | z :: xs, x => by
    obtain ⟨h1, h2, h3⟩ := foldl_min xs (min x z)
    refine ⟨by rw [List.foldl_cons]; omega, fun y hy => ?_, ?_⟩
    · rw [List.foldl_cons]
      rcases List.mem_cons.1 hy with rfl | hy
      · omega
      · exact h2 y hy
    · rw [List.foldl_cons]
      rcases h3 with h3 | h3
      · rw [h3]
        rcases Int.le_total x z with h | h
        · left; omega
        · right; rw [show min x z = z by omega]; simp
      · right; simp [h3]
theorem foldl_max : ∀ (xs : List Int) (x : Int), x ≤ xs.foldl max x ∧ (∀ y ∈ xs, y ≤ xs.foldl max x) ∧ (xs.foldl max x = x ∨ xs.foldl max x ∈ xs)
  | [], x => by simp
  | z :: xs, x => by
    obtain ⟨h1, h2, h3⟩ := foldl_max xs (max x z)
    refine ⟨by rw [List.foldl_cons]; omega, fun y hy => ?_, ?_⟩
    · rw [List.foldl_cons]
      rcases List.mem_cons.1 hy with rfl | hy
      · omega
      · exact h2 y hy
    · rw [List.foldl_cons]
      rcases h3 with h3 | h3
      · rw [h3]
        rcases Int.le_total x z with h | h
        · right; rw [show max x z = z by omega]; simp
        · left; omega
      · right; simp [h3]
theorem minL_le {xs : List Int} {y : Int} (h : y ∈ xs) : minL xs ≤ y := by
  cases xs with
  | nil => simp at h
  | cons x xs =>
    obtain ⟨h1, h2, _⟩ := foldl_min xs x
    rcases List.mem_cons.1 h with rfl | h
    · exact h1
    · exact h2 y h
theorem le_maxL {xs : List Int} {y : Int} (h : y ∈ xs) : y ≤ maxL xs := by
  cases xs with
  | nil => simp at h
  | cons x xs =>
    obtain ⟨h1, h2, _⟩ := foldl_max xs x
    rcases List.mem_cons.1 h with rfl | h
    · exact h1
    · exact h2 y h
theorem minL_mem {xs : List Int} (h : xs ≠ []) : minL xs ∈ xs := by
  cases xs with
  | nil => exact absurd rfl h
  | cons x xs =>
    rcases (foldl_min xs x).2.2 with h | h
    · show xs.foldl min x ∈ _; rw [h]; simp
    · exact List.mem_cons_of_mem _ h
theorem maxL_mem {xs : List Int} (h : xs ≠ []) : maxL xs ∈ xs := by
  cases xs with
  | nil => exact absurd rfl h
  | cons x xs =>
    rcases (foldl_max xs x).2.2 with h | h
    · show xs.foldl max x ∈ _; rw [h]; simp
    · exact List.mem_cons_of_mem _ h
end Go.Proofs.YtnoehaphbpkpjaaGreat
namespace Go.Proofs.YtnoehaphbpkpjaaGreat
open Go.RowKit
def nOwn (p : Int) (D E B : List Int) (i : Nat) : T4 := ⟨B.getD i 0 + p - 1, D.getD i 0, B.getD (i + 1) 0 + p - 1, E.getD i 0⟩
def nIdx (ts : List T4) (t : T4) : Int := idxT (fun x => decide (t = x)) ts
def nRow (p : Int) (D E B : List Int) (ts : List T4) (k : Nat) : List Int := (List.range k).map fun i => nIdx ts (nOwn p D E B i)
theorem nRow_succ (p : Int) (D E B : List Int) (ts : List T4) (k : Nat) : nRow p D E B ts (k + 1) = nRow p D E B ts k ++ [nIdx ts (nOwn p D E B k)] := by simp [nRow, List.range_succ]
theorem nRow_len (p : Int) (D E B : List Int) (ts : List T4) (k : Nat) : (nRow p D E B ts k).length = k := by simp [nRow]
def nHits (ts : List T4) (t : T4) (k : Nat) : List Int := (List.range k).flatMap fun j : Nat => if ts[j]? = some t then [(j : Int)] else []
theorem nHits_succ (ts : List T4) (t : T4) (k : Nat) : nHits ts t (k + 1) = nHits ts t k ++ (if ts[k]? = some t then [(k : Int)] else []) := by simp [nHits, List.range_succ]
theorem nHits_len (ts : List T4) (t : T4) : ∀ k, (nHits ts t k).length ≤ k
  | 0 => by simp [nHits]
  | k + 1 => by rw [nHits_succ, List.length_append]; have := nHits_len ts t k; split <;> simp <;> omega
theorem nHits_all {ts : List T4} {t : T4} (hn : ts.Nodup) (ht : t ∈ ts) : nHits ts t ts.length = [nIdx ts t] := by
  obtain ⟨i, hi, rfl⟩ := List.getElem_of_mem ht
  have hinj : ∀ j (h : j < ts.length), ts[j] = ts[i] → j = i := fun j h e => by
    rcases Nat.lt_trichotomy j i with h1 | h1 | h1
    · exact absurd e (List.pairwise_iff_getElem.1 hn j i h hi h1)
    · exact h1
    · exact absurd e.symm (List.pairwise_iff_getElem.1 hn i j hi h h1)
  have key : ∀ k, k ≤ ts.length → nHits ts ts[i] k = if i < k then [(i : Int)] else [] := by
    intro k
    induction k with
    | zero => intro _; simp [nHits]
    | succ k ih =>
      intro hk
      rw [nHits_succ, ih (by omega), List.getElem?_eq_getElem (show k < ts.length by omega)]
      by_cases e : k = i
      · subst e
        rw [if_neg (by omega), if_pos rfl, if_pos (by omega)]; rfl
      · have e2 : ¬ some ts[k] = some ts[i] := by intro h; injection h with h; exact e (hinj k (by omega) h)
        by_cases h2 : i < k
        · rw [if_pos h2, if_pos (show i < k + 1 by omega), if_neg e2]; rfl
        · rw [if_neg h2, if_neg (show ¬ i < k + 1 by omega), if_neg e2]; rfl
  rw [key _ (Nat.le_refl _), if_pos hi]
  congr 1
  exact (idxT_some hi (fun j h hj => by
    rw [decide_eq_false_iff_not]
    intro e
    have := hinj j h e.symm
    omega) (by simp)).symm
theorem mem_mTiles {p q m n u v l d e : Int} (h1 : 1 - p ≤ l) (h2 : l ≤ q - 1) (h3 : m ≤ d) (h4 : d ≤ n) (h5 : u ≤ e) (h6 : e ≤ v) (h7 : 1 - p ≤ p * d + l - q * e) (h8 : p * d + l - q * e ≤ q - 1) :
    (⟨l + p - 1, d, p * d + l - q * e + p - 1, e⟩ : T4) ∈ mTiles p q m n u v := by
  unfold mTiles mAll
  refine List.mem_flatMap.2 ⟨(l - (1 - p)).toNat, List.mem_range.2 (by omega), ?_⟩
  unfold mDs
  refine List.mem_flatMap.2 ⟨(d - m).toNat, List.mem_range.2 (by omega), ?_⟩
  unfold mRow
  refine List.mem_flatMap.2 ⟨(e - u).toNat, List.mem_range.2 (by omega), ?_⟩
  rw [show 1 - p + ((l - (1 - p)).toNat : Int) = l by omega, show m + ((d - m).toNat : Int) = d by omega, show u + ((e - u).toNat : Int) = e by omega]
  unfold mCell
  rw [if_pos ⟨h7, h8⟩]
  simp
theorem digAt_five {a b i : Int} (hb : 1 ≤ b) (ha : 0 ≤ a) (h5 : a ≤ 5 * b) : 0 ≤ digAt a b i ∧ digAt a b i ≤ 5 := by
  have h := digAt_range (a := a) (b := b) (i := i) hb
  have h0 : 0 ≤ a / b := Int.ediv_nonneg ha (by omega)
  by_cases he : a = 5 * b
  · subst he
    refine ⟨by omega, ?_⟩
    unfold digAt
    have e1 : i * (5 * b) / b = i * 5 := by rw [← Int.mul_assoc]; exact Int.mul_ediv_cancel _ (by omega)
    have e2 : (i - 1) * (5 * b) / b = (i - 1) * 5 := by rw [← Int.mul_assoc]; exact Int.mul_ediv_cancel _ (by omega)
    rw [e1, e2]
    omega
  · have : a / b < 5 := Int.ediv_lt_of_lt_mul (by omega) (by omega)
    omega
theorem carAt_step (p q a b i : Int) : carAt p q a b (i + 1) = p * digAt a b (i + 1) + carAt p q a b i - q * digAt (a * p) (b * q) (i + 1) := by
  unfold carAt digAt
  rw [show i + 1 - 1 = i by omega, show (i + 1) * a * p = (i + 1) * (a * p) by rw [Int.mul_assoc], show i * a * p = i * (a * p) by rw [Int.mul_assoc], Int.mul_sub, Int.mul_sub]
  omega
/-- the tiles of a row of numbers are tiles of its multiplying set -/
theorem nOwn_mem {p q a b s : Int} {n : Nat} (hp : 1 ≤ p) (hq : 1 ≤ q) (hb : 1 ≤ b) (ha : 0 ≤ a) (hs : 1 ≤ s) (i : Nat) (hi : i < n) :
    nOwn p (digs a b s n) (digs (a * p) (b * q) s n) (cars p q a b (s - 1) (n + 1)) i ∈ mTiles p q (minL (digs a b s n)) (maxL (digs a b s n)) (minL (digs (a * p) (b * q) s n)) (maxL (digs (a * p) (b * q) s n)) := by
  have e1 : (digs a b s n).getD i 0 = digAt a b (s + i) := by simp [digs, hi]
  have e2 : (digs (a * p) (b * q) s n).getD i 0 = digAt (a * p) (b * q) (s + i) := by simp [digs, hi]
  have e3 : (cars p q a b (s - 1) (n + 1)).getD i 0 = carAt p q a b (s - 1 + i) := by simp [cars, show i < n + 1 by omega]
  have e4 : (cars p q a b (s - 1) (n + 1)).getD (i + 1) 0 = carAt p q a b (s - 1 + i + 1) := by
    simp [cars, show i + 1 < n + 1 by omega]; congr 1; omega
  have m1 : digAt a b (s + i) ∈ digs a b s n := List.mem_map.2 ⟨i, List.mem_range.2 hi, rfl⟩
  have m2 : digAt (a * p) (b * q) (s + i) ∈ digs (a * p) (b * q) s n := List.mem_map.2 ⟨i, List.mem_range.2 hi, rfl⟩
  have r1 := carAt_range (i := s - 1 + i) hp hq hb ha (by omega)
  have r2 := carAt_range (i := s - 1 + i + 1) hp hq hb ha (by omega)
  have st := carAt_step p q a b (s - 1 + i)
  rw [show s - 1 + (i : Int) + 1 = s + i by omega] at st r2 e4
  rw [st] at r2
  unfold nOwn
  rw [e1, e2, e3, e4, st]
  exact mem_mTiles r1.1 r1.2 (minL_le m1) (le_maxL m1) (minL_le m2) (le_maxL m2) r2.1 r2.2
theorem digs_five {a b s : Int} {n : Nat} (hb : 1 ≤ b) (ha : 0 ≤ a) (h5 : a ≤ 5 * b) : ∀ x ∈ digs a b s n, 0 ≤ x ∧ x ≤ 5 := by
  intro x hx
  obtain ⟨j, _, rfl⟩ := List.mem_map.1 hx
  exact digAt_five hb ha h5
theorem digs_ends {a b s : Int} {n : Nat} (hb : 1 ≤ b) (ha : 0 ≤ a) (h5 : a ≤ 5 * b) (hn : 0 < n) : 0 ≤ minL (digs a b s n) ∧ minL (digs a b s n) ≤ maxL (digs a b s n) ∧ maxL (digs a b s n) ≤ 5 := by
  have hne : digs a b s n ≠ [] := by intro h; have := digs_len a b s n; rw [h] at this; simp at this; omega
  exact ⟨(digs_five hb ha h5 _ (minL_mem hne)).1, minL_le (maxL_mem hne), (digs_five hb ha h5 _ (maxL_mem hne)).2⟩
def okN (p q a b s n : Int) : Prop := factB p q = true ∧ fracB a b = true ∧ placesB s n = true ∧ a * p ≤ 5 * b * q
instance (p q a b s n : Int) : Decidable (okN p q a b s n) := by unfold okN; infer_instance
def nD (a b s n : Int) : List Int := digs a b s n.toNat
def nB (p q a b s n : Int) : List Int := cars p q a b (s - 1) (n.toNat + 1)
def nC (p q a b s n : Int) : Int := mCol p q (minL (nD a b s n)) (maxL (nD a b s n)) (minL (nD (a * p) (b * q) s n)) (maxL (nD (a * p) (b * q) s n))
def nS (p q a b s n : Int) : List T4 := mSet p q (minL (nD a b s n)) (maxL (nD a b s n)) (minL (nD (a * p) (b * q) s n)) (maxL (nD (a * p) (b * q) s n))
def nK (p q a b s n : Int) : Int := mCode p q (minL (nD a b s n)) (maxL (nD a b s n)) (minL (nD (a * p) (b * q) s n)) (maxL (nD (a * p) (b * q) s n))
def nR (p q a b s n : Int) : List Int := nRow p (nD a b s n) (nD (a * p) (b * q) s n) (nB p q a b s n) (nS p q a b s n) n.toNat
def nrCol (p q a b s n : Int) : Int := if okN p q a b s n ∧ nK p q a b s n = 0 then nC p q a b s n else 0
def nrSet (p q a b s n : Int) : List T4 := if okN p q a b s n ∧ nK p q a b s n = 0 then nS p q a b s n else []
def nrRow (p q a b s n : Int) : List Int := if okN p q a b s n ∧ nK p q a b s n = 0 then nR p q a b s n else []
def nrCode (p q a b s n : Int) : Int := if okN p q a b s n then nK p q a b s n else 2
theorem mSet_mem {p q m n u v : Int} (hk : mCode p q m n u v = 0) {x : T4} (hx : x ∈ mTiles p q m n u v) : x ∈ mSet p q m n u v := by
  unfold mCode at hk
  unfold mSet
  split at hk
  · rename_i h
    rw [if_pos h, setT_mem]; exact hx
  · cases hk
theorem mSet_nodup (p q m n u v : Int) : (mSet p q m n u v).Nodup := by
  unfold mSet
  split
  · exact setT_nodup _
  · simp
theorem mSet_len (p q m n u v : Int) : (mSet p q m n u v).length ≤ 16 := by
  unfold mSet
  split
  · have := setT_take_len (mTiles p q m n u v); omega
  · simp
/-- what a call gives back that returns a new set, a new list of numbers apart from it, and a code -/
def RetSI (w : World) (c : Int) (ts : List T4) (row : List Int) (code : Int) (e : Ending) (w' : World) : Prop :=
  ∃ A cx u, e = .returned (.tuple #[.agg #[.int .i64 c, .slice A ts.length cx], u, .int .i64 code]) ∧ OwnT w' w.heap.size (.slice A ts.length cx) ts ∧ OwnI w' w.heap.size u row ∧ Apart u (.slice A ts.length cx) ∧ Below w.heap.size w w'

end Go.Proofs.YtnoehaphbpkpjaaGreat
namespace Go.Proofs.YtnoehaphbpkpjaaGreat
open Go.RowKit
theorem OwnI.other {w : World} {B : Nat} {v : Value} {xs : List Int} (h : OwnI w B v xs) (b k : Nat) (hb : b < B) (u : Value) : OwnI (w.setCell ⟨b, k, none⟩ u) B v xs := by
  refine World.ownsRow.kept (row := some b) h ⟨rfl, rfl, rfl, (KeepsWalks.setCell w _ u).size, fun j _ hj => Below.heap_setCell _ _ _ j (fun e => hj (by rw [e]))⟩ ?_
  obtain ⟨h1, ⟨rfl, h2⟩ | ⟨g, cap, cur, rfl, e2, e3⟩⟩ := h
  · exact .inl rfl
  · refine .inr (fun e => ?_)
    have e' : g = b := Option.some.inj e
    omega
end Go.Proofs.YtnoehaphbpkpjaaGreat
namespace Go.Proofs.YtnoehaphbpkpjaaGreat
open Go.RowKit
/-! The pairs that are grown from a tile, told without the program. -/
abbrev P22 := Nat × Nat
def qAt (L : List (List Int)) (k m : Nat) : Nat := ((L.getD k []).getD m 0).toNat
def pb1 (L : List (List Int)) (k : Nat) : P22 := (qAt L k 0, qAt L k 1)
def pb2 (L : List (List Int)) (k : Nat) : P22 := (qAt L k 2, qAt L k 3)
def pn1 (L : List (List Int)) (x : P22) : P22 := (qAt L x.1 1, qAt L x.2 0)
def pn2 (L : List (List Int)) (x : P22) : P22 := (qAt L x.1 3, qAt L x.2 2)
inductive PR (L : List (List Int)) (T : List Bool) : P22 → Prop
  | b1 (k : Nat) (h : T.getD k false = true) : PR L T (pb1 L k)
  | b2 (k : Nat) (h : T.getD k false = true) : PR L T (pb2 L k)
  | n1 (x : P22) (h : PR L T x) : PR L T (pn1 L x)
  | n2 (x : P22) (h : PR L T x) : PR L T (pn2 L x)
def prow (x : P22) : List Int := [(x.1 : Int), (x.2 : Int)]
def prows (l : List P22) : List (List Int) := l.map prow
theorem prows_length (l : List P22) : (prows l).length = l.length := by simp [prows]
theorem prows_app (l : List P22) (x : P22) : prows (l ++ [x]) = prows l ++ [prow x] := by simp [prows]
theorem prows_app2 (l : List P22) (x y : P22) : prows (l ++ [x, y]) = prows l ++ [prow x, prow y] := by simp [prows]
def prTo (N : Nat) (met : List Bool) (k : Nat) : List P22 := ((List.range k).filter fun j => met.getD j false).map fun (j : Nat) => (j / N, j % N)
theorem prTo_succ (N : Nat) (met : List Bool) (k : Nat) : prTo N met (k + 1) = prTo N met k ++ (if met.getD k false = true then [(k / N, k % N)] else []) := by
  unfold prTo; rw [List.range_succ, List.filter_append, List.map_append]
  cases h : met.getD k false <;> simp [List.filter_cons, h] <;> simp_all
theorem prTo_len (N : Nat) (met : List Bool) (k : Nat) : (prTo N met k).length ≤ k := by
  unfold prTo; rw [List.length_map]
  exact Nat.le_trans (List.length_filter_le _ _) (by simp)
noncomputable def prB (L : List (List Int)) (T : List Bool) : List Bool := open Classical in (List.range (L.length * L.length)).map fun k => decide (PR L T (k / L.length, k % L.length))
noncomputable def prV (L : List (List Int)) (T : List Bool) : List P22 := prTo L.length (prB L T) (L.length * L.length)
theorem prB_length (L : List (List Int)) (T : List Bool) : (prB L T).length = L.length * L.length := by simp [prB]
theorem prB_get {L : List (List Int)} {T : List Bool} {k : Nat} (hk : k < L.length * L.length) : (prB L T).getD k false = true ↔ PR L T (k / L.length, k % L.length) := by
  simp [prB, hk]
/-! what holds of a list of blocks -/
theorem qAt_lt {N : Nat} {L : List (List Int)} (hB : Blocks N L) {k m : Nat} (hk : k < N) (hm : m < 4) : qAt L k m < N := by
  have hkL : k < L.length := by rw [hB.1]; exact hk
  obtain ⟨h4, hr⟩ := hB.2 k hkL
  have hmr : m < L[k].length := by omega
  obtain ⟨h1, h2⟩ := hr m hmr
  unfold qAt
  rw [show L.getD k [] = L[k] by simp [hkL], show L[k].getD m 0 = L[k][m] by simp [hmr]]
  omega
theorem qAt_eq {N : Nat} {L : List (List Int)} (hB : Blocks N L) {k m : Nat} (hk : k < L.length) (hm : m < L[k].length) : L[k][m] = (qAt L k m : Int) := by
  obtain ⟨h1, h2⟩ := (hB.2 k hk).2 m hm
  unfold qAt
  rw [show L.getD k [] = L[k] by simp [hk], show L[k].getD m 0 = L[k][m] by simp [hm]]
  omega
def InP (N : Nat) (x : P22) : Prop := x.1 < N ∧ x.2 < N
theorem pb1_in {N : Nat} {L : List (List Int)} (hB : Blocks N L) {k : Nat} (hk : k < N) : InP N (pb1 L k) := ⟨qAt_lt hB hk (by omega), qAt_lt hB hk (by omega)⟩
theorem pb2_in {N : Nat} {L : List (List Int)} (hB : Blocks N L) {k : Nat} (hk : k < N) : InP N (pb2 L k) := ⟨qAt_lt hB hk (by omega), qAt_lt hB hk (by omega)⟩
theorem pn1_in {N : Nat} {L : List (List Int)} (hB : Blocks N L) {x : P22} (hx : InP N x) : InP N (pn1 L x) := ⟨qAt_lt hB hx.1 (by omega), qAt_lt hB hx.2 (by omega)⟩
theorem pn2_in {N : Nat} {L : List (List Int)} (hB : Blocks N L) {x : P22} (hx : InP N x) : InP N (pn2 L x) := ⟨qAt_lt hB hx.1 (by omega), qAt_lt hB hx.2 (by omega)⟩
def pkey (N : Nat) (x : P22) : Nat := x.1 * N + x.2
theorem pkey_lt {N : Nat} {x : P22} (h : InP N x) : pkey N x < N * N := by
  have h1 : x.1 + 1 ≤ N := h.1
  have h2 := Nat.mul_le_mul_right N h1
  rw [Nat.add_mul, Nat.one_mul] at h2
  have := h.2
  unfold pkey; omega
theorem pkey_div {N : Nat} {x : P22} (h : InP N x) : pkey N x / N = x.1 := by
  have := h.2
  unfold pkey; rw [Nat.mul_comm, Nat.mul_add_div (by omega), Nat.div_eq_of_lt h.2]; omega
theorem pkey_mod {N : Nat} {x : P22} (h : InP N x) : pkey N x % N = x.2 := by
  unfold pkey; rw [Nat.mul_comm, Nat.mul_add_mod, Nat.mod_eq_of_lt h.2]
theorem pkey_back {N : Nat} {x : P22} (h : InP N x) : (pkey N x / N, pkey N x % N) = x := by rw [pkey_div h, pkey_mod h]
theorem pkey_of {N k : Nat} (hN : 0 < N) : pkey N (k / N, k % N) = k := by unfold pkey; exact Nat.div_add_mod' k N
theorem key_in {N k : Nat} (hk : k < N * N) : InP N (k / N, k % N) := by
  have hN : 0 < N := by rcases Nat.eq_zero_or_pos N with h | h; (subst h; omega); exact h
  exact ⟨Nat.div_lt_of_lt_mul hk, Nat.mod_lt _ hN⟩
theorem pkey_inj {N : Nat} {x y : P22} (hx : InP N x) (hy : InP N y) (h : pkey N x = pkey N y) : x = y := by rw [← pkey_back hx, ← pkey_back hy, h]
/-! the reference: a list with repeats, and which pairs were met -/
def pbase (L : List (List Int)) (T : List Bool) : Nat → List P22
  | 0 => []
  | k + 1 => pbase L T k ++ (if T.getD k false = true then [pb1 L k, pb2 L k] else [])
theorem pbase_len (L : List (List Int)) (T : List Bool) : ∀ k, (pbase L T k).length ≤ 2 * k
  | 0 => by simp [pbase]
  | k + 1 => by have := pbase_len L T k; unfold pbase; split <;> simp <;> omega
theorem pbase_mem {L : List (List Int)} {T : List Bool} : ∀ {k j : Nat}, j < k → T.getD j false = true → pb1 L j ∈ pbase L T k ∧ pb2 L j ∈ pbase L T k
  | k + 1, j, hj, h => by
    unfold pbase
    by_cases e : j = k
    · subst e; rw [if_pos h]; simp
    · obtain ⟨h1, h2⟩ := pbase_mem (L := L) (T := T) (k := k) (j := j) (by omega) h
      exact ⟨List.mem_append_left _ h1, List.mem_append_left _ h2⟩
theorem pbase_ok {N : Nat} {L : List (List Int)} (hB : Blocks N L) {T : List Bool} : ∀ k, k ≤ N → ∀ x ∈ pbase L T k, InP N x ∧ PR L T x
  | 0, _, x, hx => by simp [pbase] at hx
  | k + 1, hk, x, hx => by
    unfold pbase at hx
    rcases List.mem_append.1 hx with hx | hx
    · exact pbase_ok hB k (by omega) x hx
    · split at hx
      · rename_i ht
        rcases List.mem_cons.1 hx with rfl | hx
        · exact ⟨pb1_in hB (by omega), .b1 k ht⟩
        · have := List.mem_singleton.1 hx; subst this
          exact ⟨pb2_in hB (by omega), .b2 k ht⟩
      · simp at hx
structure PInv (N : Nat) (L : List (List Int)) (T : List Bool) (a : Nat) (met : List Bool) (list : List P22) : Prop where
  le : a ≤ list.length
  ml : met.length = N * N
  ok : ∀ x ∈ list, InP N x ∧ PR L T x
  mt : ∀ j, j < N * N → (met.getD j false = true ↔ ∃ b, ∃ h : b < list.length, b < a ∧ pkey N list[b] = j)
  cl : ∀ b (h : b < list.length), b < a → pn1 L list[b] ∈ list ∧ pn2 L list[b] ∈ list
  bs : ∀ k, k < N → T.getD k false = true → pb1 L k ∈ list ∧ pb2 L k ∈ list
  ln : list.length ≤ 2 * N + 2 * met.count true
theorem PInv.start {N : Nat} {L : List (List Int)} (hB : Blocks N L) (T : List Bool) : PInv N L T 0 (List.replicate (N * N) false) (pbase L T N) where
  le := by omega
  ml := by simp
  ok := pbase_ok hB N (Nat.le_refl _)
  mt := fun j hj => by simp [hj]
  cl := fun b h hb => by omega
  bs := fun k hk ht => pbase_mem hk ht
  ln := by have := pbase_len L T N; omega
theorem PInv.bound {N a : Nat} {L : List (List Int)} {T met : List Bool} {list : List P22} (h : PInv N L T a met list) : list.length ≤ 2 * N + 2 * (N * N) := by
  have h1 := h.ln
  have h2 : met.count true ≤ met.length := List.count_le_length
  have := h.ml; omega
theorem PInv.skip {N a : Nat} {L : List (List Int)} {T met : List Bool} {list : List P22} (h : PInv N L T a met list) (ha : a < list.length) (hm : met.getD (pkey N list[a]) false = true) : PInv N L T (a + 1) met list where
  le := ha
  ml := h.ml
  ok := h.ok
  mt := fun j hj => by
    rw [h.mt j hj]
    constructor
    · rintro ⟨b, hb, hba, e⟩; exact ⟨b, hb, by omega, e⟩
    · rintro ⟨b, hb, hba, e⟩
      by_cases hab : b = a
      · subst hab; rw [e] at hm; exact (h.mt j hj).1 hm
      · exact ⟨b, hb, by omega, e⟩
  cl := fun b hb hba => by
    by_cases hab : b = a
    · subst hab
      obtain ⟨c, hc, hca, e⟩ := (h.mt _ (pkey_lt (h.ok _ (List.getElem_mem ha)).1)).1 hm
      have := pkey_inj (h.ok _ (List.getElem_mem hc)).1 (h.ok _ (List.getElem_mem ha)).1 e
      rw [← this]; exact h.cl c hc hca
    · exact h.cl b hb (by omega)
  bs := h.bs
  ln := h.ln
theorem count_set_true : ∀ (xs : List Bool) (k : Nat), k < xs.length → xs.getD k false = false → (xs.set k true).count true = xs.count true + 1
  | [], k, h, _ => by simp at h
  | x :: xs, 0, _, h => by simp at h; subst h; simp
  | x :: xs, k + 1, h, hk => by
    have := count_set_true xs k (by simpa using h) (by simpa using hk)
    simp [List.count_cons, this]; omega
theorem PInv.next {N a : Nat} {L : List (List Int)} (hB : Blocks N L) {T met : List Bool} {list : List P22} (h : PInv N L T a met list) (ha : a < list.length) (hm : met.getD (pkey N list[a]) false = false) :
    PInv N L T (a + 1) (met.set (pkey N list[a]) true) (list ++ [pn1 L list[a], pn2 L list[a]]) where
  le := by simp; omega
  ml := by simp [h.ml]
  ok := fun x hx => by
    have ha' := h.ok _ (List.getElem_mem ha)
    rcases List.mem_append.1 hx with hx | hx
    · exact h.ok x hx
    · rcases List.mem_cons.1 hx with rfl | hx
      · exact ⟨pn1_in hB ha'.1, .n1 _ ha'.2⟩
      · have := List.mem_singleton.1 hx; subst this
        exact ⟨pn2_in hB ha'.1, .n2 _ ha'.2⟩
  mt := fun j hj => by
    have hk := pkey_lt (h.ok _ (List.getElem_mem ha)).1
    by_cases e : pkey N list[a] = j
    · rw [e, getB_self (by rw [h.ml]; exact hj)]
      refine ⟨fun _ => ⟨a, by simp; omega, by omega, ?_⟩, fun _ => rfl⟩
      rw [List.getElem_append_left ha]; exact e
    · rw [getB_ne e, h.mt j hj]
      constructor
      · rintro ⟨b, hb, hba, e'⟩
        exact ⟨b, by simp; omega, by omega, by rw [List.getElem_append_left hb]; exact e'⟩
      · rintro ⟨b, hb, hba, e'⟩
        have hbl : b < list.length := by omega
        rw [List.getElem_append_left hbl] at e'
        refine ⟨b, hbl, ?_, e'⟩
        by_cases hab : b = a
        · subst hab; exact absurd e' e
        · omega
  cl := fun b hb hba => by
    have hbl : b < list.length := by omega
    rw [List.getElem_append_left hbl]
    by_cases hab : b = a
    · subst hab; simp
    · obtain ⟨h1, h2⟩ := h.cl b hbl (by omega)
      exact ⟨List.mem_append_left _ h1, List.mem_append_left _ h2⟩
  bs := fun k hk ht => by
    obtain ⟨h1, h2⟩ := h.bs k hk ht
    exact ⟨List.mem_append_left _ h1, List.mem_append_left _ h2⟩
  ln := by
    have hk := pkey_lt (h.ok _ (List.getElem_mem ha)).1
    have h1 := h.ln
    rw [count_set_true _ _ (by rw [h.ml]; exact hk) hm]
    simp; omega
theorem PInv.all {N a : Nat} {L : List (List Int)} {T met : List Bool} {list : List P22} (h : PInv N L T a met list) (ha : list.length ≤ a) (hT : T.length ≤ N) {x : P22} (hx : PR L T x) : x ∈ list := by
  have ht : ∀ k, T.getD k false = true → k < N := fun k hk => by
    by_cases hkT : k < T.length
    · omega
    · simp [hkT] at hk
  induction hx with
  | b1 k hk => exact (h.bs k (ht k hk) hk).1
  | b2 k hk => exact (h.bs k (ht k hk) hk).2
  | n1 x _ ih => obtain ⟨b, hb, rfl⟩ := List.getElem_of_mem ih; exact (h.cl b hb (by omega)).1
  | n2 x _ ih => obtain ⟨b, hb, rfl⟩ := List.getElem_of_mem ih; exact (h.cl b hb (by omega)).2
theorem PInv.done {a : Nat} {L : List (List Int)} {T met : List Bool} {list : List P22} (h : PInv L.length L T a met list) (ha : list.length ≤ a) (hT : T.length ≤ L.length) : met = prB L T := by
  apply List.ext_getElem (by rw [h.ml, prB_length])
  intro j h1 h2
  have hj : j < L.length * L.length := by rw [← h.ml]; exact h1
  have e1 : met.getD j false = met[j] := by simp [h1]
  have e2 : (prB L T).getD j false = (prB L T)[j] := by simp [h2]
  rw [← e1, ← e2, Bool.eq_iff_iff, prB_get hj, h.mt j hj]
  constructor
  · rintro ⟨b, hb, -, e⟩
    have ho := h.ok _ (List.getElem_mem hb)
    have := pkey_back ho.1
    rw [e] at this
    rw [this]; exact ho.2
  · intro hp
    obtain ⟨b, hb, e⟩ := List.getElem_of_mem (h.all ha hT hp)
    refine ⟨b, hb, by omega, ?_⟩
    rw [e, pkey_of (by rcases Nat.eq_zero_or_pos L.length with h | h; (rw [h] at hj; omega); exact h)]
/-! the program: a list without repeats -/
def pput (l : List P22) (x : P22) : List P22 := if x ∈ l then l else l ++ [x]
theorem pput_mem {l : List P22} {x y : P22} : y ∈ pput l x ↔ y ∈ l ∨ y = x := by
  unfold pput
  split
  · rename_i h; exact ⟨.inl, fun h' => h'.elim id (fun e => e ▸ h)⟩
  · simp
theorem pput_pre (l : List P22) (x : P22) : ∃ t, pput l x = l ++ t := by unfold pput; split; exact ⟨[], by simp⟩; exact ⟨[x], rfl⟩
structure QOk (N : Nat) (L : List (List Int)) (T : List Bool) (list : List P22) : Prop where
  nd : list.Nodup
  ok : ∀ x ∈ list, InP N x ∧ PR L T x
theorem QOk.put {N : Nat} {L : List (List Int)} {T : List Bool} {list : List P22} (h : QOk N L T list) {x : P22} (h1 : InP N x) (h2 : PR L T x) : QOk N L T (pput list x) where
  nd := by
    unfold pput
    split
    · exact h.nd
    · rename_i hx
      rw [List.nodup_append]
      exact ⟨h.nd, by simp, fun a ha b hb e => by simp at hb; subst hb; subst e; exact hx ha⟩
  ok := fun y hy => by
    rcases pput_mem.1 hy with hy | rfl
    · exact h.ok y hy
    · exact ⟨h1, h2⟩
theorem QOk.len {N : Nat} {L : List (List Int)} {T : List Bool} {list : List P22} (h : QOk N L T list) : list.length ≤ N * N := by
  have hn : (list.map fun x => ((pkey N x : Nat) : Int)).Nodup := by
    refine List.Pairwise.map _ ?_ (List.Pairwise.and_mem.1 h.nd)
    rintro a b ⟨ha, hb, hab⟩ e
    exact hab (pkey_inj (h.ok a ha).1 (h.ok b hb).1 (by omega))
  have := nodup_pigeon (N := N * N) hn (fun x hx => by
    obtain ⟨y, hy, rfl⟩ := List.mem_map.1 hx
    have := pkey_lt (h.ok y hy).1
    omega)
  simpa using this
structure QBase (N : Nat) (L : List (List Int)) (T : List Bool) (k : Nat) (list : List P22) : Prop extends QOk N L T list where
  bs : ∀ j, j < k → T.getD j false = true → pb1 L j ∈ list ∧ pb2 L j ∈ list
structure QInv (N : Nat) (L : List (List Int)) (T : List Bool) (a : Nat) (list : List P22) : Prop extends QBase N L T N list where
  le : a ≤ list.length
  cl : ∀ b (h : b < list.length), b < a → pn1 L list[b] ∈ list ∧ pn2 L list[b] ∈ list
theorem QBase.start (N : Nat) (L : List (List Int)) (T : List Bool) : QBase N L T 0 [] where
  nd := by simp
  ok := fun x hx => by simp at hx
  bs := fun j hj => by omega
theorem QBase.skip {N : Nat} {L : List (List Int)} {T : List Bool} {k : Nat} {list : List P22} (h : QBase N L T k list) (ht : T.getD k false = false) : QBase N L T (k + 1) list where
  toQOk := h.toQOk
  bs := fun j hj hjt => by
    by_cases e : j = k
    · subst e; rw [ht] at hjt; cases hjt
    · exact h.bs j (by omega) hjt
theorem QBase.next {N : Nat} {L : List (List Int)} (hB : Blocks N L) {T : List Bool} {k : Nat} {list : List P22} (h : QBase N L T k list) (hk : k < N) (ht : T.getD k false = true) : QBase N L T (k + 1) (pput (pput list (pb1 L k)) (pb2 L k)) where
  toQOk := (h.toQOk.put (pb1_in hB hk) (.b1 k ht)).put (pb2_in hB hk) (.b2 k ht)
  bs := fun j hj hjt => by
    by_cases e : j = k
    · subst e; exact ⟨pput_mem.2 (.inl (pput_mem.2 (.inr rfl))), pput_mem.2 (.inr rfl)⟩
    · obtain ⟨h1, h2⟩ := h.bs j (by omega) hjt
      exact ⟨pput_mem.2 (.inl (pput_mem.2 (.inl h1))), pput_mem.2 (.inl (pput_mem.2 (.inl h2)))⟩
theorem QBase.inv {N : Nat} {L : List (List Int)} {T : List Bool} {list : List P22} (h : QBase N L T N list) : QInv N L T 0 list where
  toQBase := h
  le := by omega
  cl := fun b hb hba => by omega
theorem QInv.next {N a : Nat} {L : List (List Int)} (hB : Blocks N L) {T : List Bool} {list : List P22} (h : QInv N L T a list) (ha : a < list.length) : QInv N L T (a + 1) (pput (pput list (pn1 L list[a])) (pn2 L list[a])) := by
  have hx := h.ok _ (List.getElem_mem ha)
  have hm : ∀ y, y ∈ list → y ∈ pput (pput list (pn1 L list[a])) (pn2 L list[a]) := fun y hy => pput_mem.2 (.inl (pput_mem.2 (.inl hy)))
  obtain ⟨t, ht⟩ : ∃ t, pput (pput list (pn1 L list[a])) (pn2 L list[a]) = list ++ t := by
    obtain ⟨t, ht⟩ := pput_pre list (pn1 L list[a])
    obtain ⟨u, hu⟩ := pput_pre (pput list (pn1 L list[a])) (pn2 L list[a])
    exact ⟨t ++ u, by rw [hu, ht, List.append_assoc]⟩
  refine ⟨⟨(h.toQOk.put (pn1_in hB hx.1) (.n1 _ hx.2)).put (pn2_in hB hx.1) (.n2 _ hx.2), fun j hj hjt => ⟨hm _ (h.bs j hj hjt).1, hm _ (h.bs j hj hjt).2⟩⟩, by rw [ht]; simp; omega, fun b hb hba => ?_⟩
  have hbl : b < list.length := by omega
  have e : (pput (pput list (pn1 L list[a])) (pn2 L list[a]))[b] = list[b] := by
    apply Option.some.inj
    rw [← List.getElem?_eq_getElem, ht, List.getElem?_append_left hbl, List.getElem?_eq_getElem hbl]
  rw [e]
  by_cases hab : b = a
  · subst hab; exact ⟨pput_mem.2 (.inl (pput_mem.2 (.inr rfl))), pput_mem.2 (.inr rfl)⟩
  · obtain ⟨h1, h2⟩ := h.cl b hbl (by omega)
    exact ⟨hm _ h1, hm _ h2⟩
theorem QInv.all {N a : Nat} {L : List (List Int)} {T : List Bool} {list : List P22} (h : QInv N L T a list) (ha : list.length ≤ a) (hT : T.length ≤ N) {x : P22} (hx : PR L T x) : x ∈ list := by
  have ht : ∀ k, T.getD k false = true → k < N := fun k hk => by
    by_cases hkT : k < T.length
    · omega
    · simp [hkT] at hk
  induction hx with
  | b1 k hk => exact (h.bs k (ht k hk) hk).1
  | b2 k hk => exact (h.bs k (ht k hk) hk).2
  | n1 x _ ih => obtain ⟨b, hb, rfl⟩ := List.getElem_of_mem ih; exact (h.cl b hb (by omega)).1
  | n2 x _ ih => obtain ⟨b, hb, rfl⟩ := List.getElem_of_mem ih; exact (h.cl b hb (by omega)).2
/-! both are the same, once sorted -/
def ltP (x y : P22) : Bool := decide (x.1 < y.1 ∨ x.1 = y.1 ∧ x.2 < y.2)
theorem prTo_mem {N : Nat} {met : List Bool} {k : Nat} {x : P22} : x ∈ prTo N met k ↔ ∃ j, j < k ∧ met.getD j false = true ∧ (j / N, j % N) = x := by
  unfold prTo; simp only [List.mem_map, List.mem_filter, List.mem_range, and_assoc]
theorem prTo_asc (N : Nat) (met : List Bool) (k : Nat) : (prTo N met k).Pairwise fun x y => ltP x y = true := by
  unfold prTo
  refine List.Pairwise.map _ ?_ ((List.pairwise_lt_range (n := k)).filter _)
  intro a b hab
  simp only [ltP, decide_eq_true_eq]
  rcases Nat.lt_or_ge (a / N) (b / N) with h | h
  · exact .inl h
  · have h2 : a / N ≤ b / N := Nat.div_le_div_right (Nat.le_of_lt hab)
    have h3 : a / N = b / N := by omega
    refine .inr ⟨h3, ?_⟩
    have e1 := Nat.div_add_mod a N
    have e2 := Nat.div_add_mod b N
    rw [h3] at e1
    omega
theorem prV_mem {a : Nat} {L : List (List Int)} {T : List Bool} {list : List P22} (h : QInv L.length L T a list) (ha : list.length ≤ a) (hT : T.length ≤ L.length) (x : P22) : x ∈ prV L T ↔ x ∈ list := by
  unfold prV
  rw [prTo_mem]
  constructor
  · rintro ⟨j, hj, hm, rfl⟩
    exact h.all ha hT ((prB_get hj).1 hm)
  · intro hx
    obtain ⟨h1, h2⟩ := h.ok x hx
    refine ⟨pkey L.length x, pkey_lt h1, ?_, pkey_back h1⟩
    rw [prB_get (pkey_lt h1), pkey_back h1]; exact h2
theorem prV_nodup (L : List (List Int)) (T : List Bool) : (prV L T).Nodup := (prTo_asc _ _ _).imp fun h e => by subst e; simp [ltP] at h
theorem prV_perm {a : Nat} {L : List (List Int)} {T : List Bool} {list : List P22} (h : QInv L.length L T a list) (ha : list.length ≤ a) (hT : T.length ≤ L.length) : (prV L T).Perm list :=
  (List.perm_ext_iff_of_nodup (prV_nodup L T) h.nd).2 (prV_mem h ha hT)

end Go.Proofs.YtnoehaphbpkpjaaGreat
namespace Go.Proofs.YtnoehaphbpkpjaaGreat
open Go.RowKit
/-- an owned list of lists of numbers, and none of its blocks is one of X -/
def OwnIX (w : World) (B : Nat) (X : Nat → Prop) (v : Value) (L : List (List Int)) : Prop :=
  ∃ vs : List Value, w.ownsRow B 39 1 v L.length vs ∧ (∀ i (h : i < vs.length) (h' : i < L.length), OwnI w B vs[i] L[i]) ∧
    (∀ i j (h : i < vs.length) (h' : j < vs.length), i ≠ j → Apart vs[i] vs[j]) ∧ (∀ i (h : i < vs.length), Apart vs[i] v) ∧ (∀ k, v.ownBlock = some k → ¬ X k) ∧ ∀ i (h : i < vs.length) k, vs[i].ownBlock = some k → ¬ X k
theorem OwnIX.toII {w : World} {B : Nat} {X : Nat → Prop} {v : Value} {L : List (List Int)} (h : OwnIX w B X v L) : OwnII w B v L := by
  obtain ⟨vs, h1, h2, h3, h4, _⟩ := h
  exact ⟨vs, h1, h2, h3, h4⟩
theorem OwnIX.same {w w' : World} {B : Nat} {X : Nat → Prop} {v : Value} {L : List (List Int)} (h : OwnIX w B X v L) (f : ∀ k, B ≤ k → k < w.heap.size → ¬ X k → w'.heap[k]? = w.heap[k]?) : OwnIX w' B X v L := by
  obtain ⟨vs, h1, h2, h3, h4, h5, h6⟩ := h
  have hl : vs.length = L.length := by have := h1.1; omega
  refine ⟨vs, ownsRow_same h1 fun k hk => f k ?_ ?_ (h5 k hk), fun i hi hi' => ownsRow_same (h2 i hi hi') fun k hk => f k ?_ ?_ (h6 i hi k hk), h3, h4, h5, h6⟩
  · exact (World.ownsRow.lt h1 k hk).1
  · exact (World.ownsRow.lt h1 k hk).2
  · exact (World.ownsRow.lt (h2 i hi hi') k hk).1
  · exact (World.ownsRow.lt (h2 i hi hi') k hk).2
theorem OwnIX.below {w w1 : World} {B : Nat} {X : Nat → Prop} {v : Value} {L : List (List Int)} (h : OwnIX w B X v L) (hb : Below w.heap.size w w1) : OwnIX w1 B X v L := h.same fun k _ hk _ => hb.block k hk
theorem OwnIX.store {w : World} {B : Nat} {X : Nat → Prop} {v : Value} {L : List (List Int)} (h : OwnIX w B X v L) (p : Addr) (hp : X p.block) (u : Value) : OwnIX (w.setCell p u) B X v L := h.same fun k _ _ hk => Below.heap_setCell w p u k (fun e => hk (e ▸ hp))
theorem OwnIX.empty {w : World} {B b : Nat} {X : Nat → Prop} (hb : w.heap.size = b) (hB : B ≤ w.heap.size) (hg : ¬ X b) : OwnIX (w.alloc (.cells #[] 39)) B X (.slice (some ⟨b, 0, none⟩) 0 0) [] := by
  subst hb
  exact ⟨[], World.ownsRow_lit (base := B) (e := 39) (size := 1) w #[] 0 hB (by simp [maxLen]) (by simp), fun i h => by simp at h, fun i j h => by simp at h, fun i h => by simp at h, fun k hk => by have hk' : some w.heap.size = some k := hk; injection hk' with e; subst e; exact hg, fun i h => by simp at h⟩
theorem OwnIX.less {w : World} {B : Nat} {X Y : Nat → Prop} {v : Value} {L : List (List Int)} (h : OwnIX w B X v L) (hXY : ∀ k, k < w.heap.size → Y k → X k) : OwnIX w B Y v L := by
  obtain ⟨vs, h1, h2, h3, h4, h5, h6⟩ := h
  have hl : vs.length = L.length := by have := h1.1; omega
  exact ⟨vs, h1, h2, h3, h4, fun k hk hy => h5 k hk (hXY k (World.ownsRow.lt h1 k hk).2 hy), fun i hi k hk hy => h6 i hi k hk (hXY k (World.ownsRow.lt (h2 i hi (by omega)) k hk).2 hy)⟩
theorem OwnIX.shape {w : World} {B : Nat} {X : Nat → Prop} {v : Value} {L : List (List Int)} (h : OwnIX w B X v L) : ∃ A cx, v = .slice A L.length cx ∧ RowsC w A L := h.toII.rows
theorem OwnIX.off {w : World} {B : Nat} {X : Nat → Prop} {v : Value} {L : List (List Int)} (h : OwnIX w B X v L) {k : Nat} (hk : X k) : some k ≠ v.ownBlock := by
  obtain ⟨vs, h1, h2, h3, h4, h5, h6⟩ := h
  exact fun e => h5 k e.symm hk
theorem OwnIX.ge {w : World} {B : Nat} {X : Nat → Prop} {v : Value} {L : List (List Int)} (h : OwnIX w B X v L) (k : Nat) (hk : v.ownBlock = some k) : B ≤ k := by
  obtain ⟨vs, h1, _⟩ := h
  exact (World.ownsRow.lt h1 k hk).1
end Go.Proofs.YtnoehaphbpkpjaaGreat
