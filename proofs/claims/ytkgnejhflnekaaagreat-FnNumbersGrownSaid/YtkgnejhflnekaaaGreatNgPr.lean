/- Contracts and lemmas for the statements of this seat, written for this claim; each theorem states its own conditions. -/
import Derived.Test.YtkgnejhflnekaaaGreatNgB
set_option linter.unusedVariables false
set_option linter.unusedSimpArgs false
namespace Go.Proofs.YtkgnejhflnekaaaGreat
open Go.RowKit
/-- x is reached from i in just so many steps -/
def pa (E : Nat → Nat → Prop) : Nat → Nat → Nat → Prop
  | 0, i, x => i = x
  | s + 1, i, x => ∃ k, E i k ∧ pa E s k x
theorem pa_add {E : Nat → Nat → Prop} : ∀ (s t i x : Nat), pa E (s + t) i x ↔ ∃ y, pa E s i y ∧ pa E t y x
  | 0, t, i, x => by simp [pa]
  | s + 1, t, i, x => by
    rw [show s + 1 + t = (s + t) + 1 by omega]
    constructor
    · rintro ⟨k, h1, h2⟩
      obtain ⟨y, h3, h4⟩ := (pa_add s t k x).1 h2
      exact ⟨y, ⟨k, h1, h3⟩, h4⟩
    · rintro ⟨y, ⟨k, h1, h3⟩, h4⟩
      exact ⟨k, h1, (pa_add s t k x).2 ⟨y, h3, h4⟩⟩
theorem pa_one {E : Nat → Nat → Prop} {i x : Nat} : pa E 1 i x ↔ E i x := by
  constructor
  · rintro ⟨k, h, rfl⟩; exact h
  · intro h; exact ⟨x, h, rfl⟩
theorem pa_right {E : Nat → Nat → Prop} (s i x : Nat) : pa E (s + 1) i x ↔ ∃ y, pa E s i y ∧ E y x := by
  rw [pa_add]
  constructor
  · rintro ⟨y, h1, h2⟩; exact ⟨y, h1, pa_one.1 h2⟩
  · rintro ⟨y, h1, h2⟩; exact ⟨y, h1, pa_one.2 h2⟩
theorem pa_in {E : Nat → Nat → Prop} {n : Nat} (hE : ∀ i k, E i k → k < n) : ∀ (s i x : Nat), i < n → pa E s i x → x < n
  | 0, i, x, hi, h => by cases h; exact hi
  | s + 1, i, x, _, ⟨k, h1, h2⟩ => pa_in hE s k x (hE i k h1) h2
theorem count_le {p q : Nat → Bool} : ∀ (l : List Nat), (∀ x ∈ l, p x = true → q x = true) → l.countP p ≤ l.countP q := fun l h => List.countP_mono_left h
theorem count_eq {p q : Nat → Bool} : ∀ (l : List Nat), (∀ x ∈ l, p x = true → q x = true) → l.countP q ≤ l.countP p → ∀ x ∈ l, q x = true → p x = true
  | [], _, _, x, hx, _ => by simp at hx
  | y :: l, h, hc, x, hx, hq => by
    have hl : ∀ x ∈ l, p x = true → q x = true := fun x hx => h x (List.mem_cons_of_mem _ hx)
    have h1 := count_le l hl
    rw [List.countP_cons, List.countP_cons] at hc
    have hy := h y (List.mem_cons_self ..)
    rcases List.mem_cons.1 hx with e | hx
    · subst e
      rw [hq] at hc
      cases hp : p x
      · rw [hp] at hc; simp at hc; omega
      · rfl
    · refine count_eq l hl ?_ x hx hq
      cases hpy : p y
      · rw [hpy] at hc; simp at hc; omega
      · rw [hpy, hy hpy] at hc; simpa using hc
def Full (E : Nat → Nat → Prop) (n s : Nat) : Prop := ∀ i x, i < n → x < n → pa E s i x
theorem full_succ {E : Nat → Nat → Prop} {n s : Nat} (hE : ∀ i k, E i k → i < n ∧ k < n) (hs : 1 ≤ s) (h : Full E n s) : Full E n (s + 1) := by
  intro i x hi hx
  obtain ⟨s, rfl⟩ : ∃ t, s = t + 1 := ⟨s - 1, by omega⟩
  obtain ⟨y, _, h2⟩ := (pa_right s i x).1 (h i x hi hx)
  exact (pa_right (s + 1) i x).2 ⟨y, h i y hi (hE y x h2).1, h2⟩
theorem full_add {E : Nat → Nat → Prop} {n s : Nat} (hE : ∀ i k, E i k → i < n ∧ k < n) (hs : 1 ≤ s) (h : Full E n s) : ∀ t, Full E n (s + t)
  | 0 => h
  | t + 1 => full_succ (s := s + t) hE (by omega) (full_add hE hs h t)
theorem one_full_add {E : Nat → Nat → Prop} {n i : Nat} (hP : ∀ x, x < n → ∃ y, y < n ∧ E y x) {s : Nat} (h : ∀ x, x < n → pa E s i x) : ∀ t x, x < n → pa E (s + t) i x
  | 0, x, hx => h x hx
  | t + 1, x, hx => by
    obtain ⟨y, hy, he⟩ := hP x hx
    exact (pa_right (s + t) i x).2 ⟨y, one_full_add hP h t y hy, he⟩
open Classical in
theorem cycle_full {E : Nat → Nat → Prop} {n v s m : Nat} (hE : ∀ i k, E i k → i < n ∧ k < n) (hv : v < n) (hs : 1 ≤ s) (hc : pa E s v v) (hm : 1 ≤ m) (hF : Full E n m) : ∀ x, x < n → pa E ((n - 1) * s) v x := by
  have up : ∀ k x, pa E (k * s) v x → pa E ((k + 1) * s) v x := fun k x h => by
    rw [show (k + 1) * s = s + k * s by rw [Nat.succ_mul, Nat.add_comm]]
    exact (pa_add s (k * s) v x).2 ⟨v, hc, h⟩
  have key : ∀ k, (∀ x, x < n → pa E (k * s) v x) ∨ k + 1 ≤ (List.range n).countP (fun x => decide (pa E (k * s) v x)) := by
    intro k
    induction k with
    | zero =>
      right
      have : 0 < (List.range n).countP (fun x => decide (pa E (0 * s) v x)) := List.countP_pos_iff.2 ⟨v, List.mem_range.2 hv, by simp [pa]⟩
      omega
    | succ k ih =>
      rcases ih with ih | ih
      · exact .inl fun x hx => up k x (ih x hx)
      · by_cases hlt : (List.range n).countP (fun x => decide (pa E (k * s) v x)) < (List.range n).countP (fun x => decide (pa E ((k + 1) * s) v x))
        · right; omega
        · left
          have hst : ∀ x, x < n → pa E ((k + 1) * s) v x → pa E (k * s) v x := fun x hx h => by
            have := count_eq (p := fun x => decide (pa E (k * s) v x)) (q := fun x => decide (pa E ((k + 1) * s) v x)) (List.range n) (fun x _ h => by simp only [decide_eq_true_eq] at h ⊢; exact up k x h) (by omega) x (List.mem_range.2 hx) (by simpa using h)
            simpa using this
          have all : ∀ j x, x < n → pa E ((k + j) * s) v x → pa E (k * s) v x := by
            intro j
            induction j with
            | zero => intro x _ h; exact h
            | succ j ihj =>
              intro x hx h
              rw [show (k + (j + 1)) * s = (k + j) * s + s by rw [← Nat.add_assoc, Nat.succ_mul]] at h
              obtain ⟨y, h1, h2⟩ := (pa_add ((k + j) * s) s v x).1 h
              have hy : y < n := pa_in (fun i k h => (hE i k h).2) _ _ _ hv h1
              refine hst x hx ?_
              rw [show (k + 1) * s = k * s + s by rw [Nat.succ_mul]]
              exact (pa_add (k * s) s v x).2 ⟨y, ihj y hy h1, h2⟩
          intro x hx
          refine up k x (all m x hx ?_)
          have hge : m ≤ (k + m) * s := Nat.le_trans (by omega) (Nat.le_mul_of_pos_right (k + m) hs)
          obtain ⟨d, hd⟩ : ∃ d, (k + m) * s = m + d := ⟨(k + m) * s - m, by omega⟩
          rw [hd]
          exact full_add hE hm hF d v x hv hx
  rcases key (n - 1) with h | h
  · exact h
  · intro x hx
    have hl : (List.range n).countP (fun x => decide (pa E ((n - 1) * s) v x)) = (List.range n).length := by
      have := List.countP_le_length (p := fun x => decide (pa E ((n - 1) * s) v x)) (l := List.range n)
      rw [List.length_range] at this ⊢
      omega
    have := (List.countP_eq_length.1 hl) x (List.mem_range.2 hx)
    simpa using this
theorem prim_bound {E : Nat → Nat → Prop} {n m : Nat} (hE : ∀ i k, E i k → i < n ∧ k < n) (hc : ∀ i, i < n → ∃ k, E i k) (hm : 1 ≤ m) (hF : Full E n m) : Full E n (n * n) := by
  obtain ⟨c, hc⟩ : ∃ c : Nat → Nat, ∀ i, i < n → E i (c i) := by
    classical
    refine ⟨fun i => if h : i < n then Classical.choose (hc i h) else 0, fun i hi => ?_⟩
    simp only [hi, dif_pos]
    exact Classical.choose_spec (hc i hi)
  have hP : ∀ x, x < n → ∃ y, y < n ∧ E y x := fun x hx => by
    obtain ⟨m, rfl⟩ : ∃ t, m = t + 1 := ⟨m - 1, by omega⟩
    obtain ⟨y, _, h2⟩ := (pa_right m x x).1 (hF x x hx hx)
    exact ⟨y, (hE y x h2).1, h2⟩
  intro i x hi hx
  let f : Nat → Nat := fun a => Nat.repeat c a i
  have f0 : f 0 = i := rfl
  have fs : ∀ a, f (a + 1) = c (f a) := fun a => rfl
  have fin : ∀ a, f a < n := by
    intro a
    induction a with
    | zero => exact hi
    | succ a ih => rw [fs]; exact (hE _ _ (hc _ ih)).2
  have fpa : ∀ a d, pa E d (f a) (f (a + d)) := by
    intro a d
    induction d with
    | zero => rfl
    | succ d ih => exact (pa_right d _ _).2 ⟨f (a + d), ih, by rw [← Nat.add_assoc, fs]; exact hc _ (fin _)⟩
  obtain ⟨a, b, hab, hb, heq⟩ : ∃ a b, a < b ∧ b < n + 1 ∧ f a = f b := by
    refine Classical.byContradiction fun hn => ?_
    have := pigeon n (fun a => (f a : Int)) (n + 1) (fun a _ => ⟨by omega, by have := fin a; omega⟩) (fun a b hab hb e => hn ⟨a, b, hab, hb, by omega⟩)
    omega
  have hcy : pa E (b - a) (f a) (f a) := by
    have := fpa a (b - a)
    rw [show a + (b - a) = b by omega, ← heq] at this
    exact this
  have hful := cycle_full hE (fin a) (by omega : 1 ≤ b - a) hcy hm hF
  have hi0 : pa E a i (f a) := by have := fpa 0 a; rw [Nat.zero_add] at this; exact this
  have hone : ∀ x, x < n → pa E (a + (n - 1) * (b - a)) i x := fun x hx => (pa_add a _ i x).2 ⟨f a, hi0, hful x hx⟩
  have hle : a + (n - 1) * (b - a) ≤ n * n := by
    have h1 : (n - 1) * (b - a) ≤ (n - 1) * (n - a) := Nat.mul_le_mul_left _ (by omega)
    obtain ⟨q, hq⟩ : ∃ q, n = q + 1 := ⟨n - 1, by omega⟩
    have ha : a ≤ q := by omega
    obtain ⟨r, hr⟩ : ∃ r, q = a + r := ⟨q - a, by omega⟩
    have h2 : (n - 1) * (n - a) = q * (r + 1) := by rw [hq, show q + 1 - 1 = q by omega, show q + 1 - a = r + 1 by omega]
    have h3 : q * (r + 1) ≤ q * (q + 1) := Nat.mul_le_mul_left _ (by omega)
    have h4 : n * n = q * (q + 1) + (q + 1) := by rw [hq, Nat.succ_mul]
    omega
  obtain ⟨d, hd⟩ : ∃ d, n * n = a + (n - 1) * (b - a) + d := ⟨n * n - (a + (n - 1) * (b - a)), by omega⟩
  rw [hd]
  exact one_full_add hP hone d x hx
/-- tile k stands in the block of tile i -/
def Eb (L : List (List Int)) (i k : Nat) : Prop := ∃ h : i < L.length, (k : Int) ∈ L[i]
def BlkOk (L : List (List Int)) : Prop := ∀ r ∈ L, r.length = 4 ∧ ∀ x ∈ r, 0 ≤ x ∧ x < (L.length : Int)
theorem Eb_in {L : List (List Int)} (hB : BlkOk L) (i k : Nat) (h : Eb L i k) : i < L.length ∧ k < L.length := by
  obtain ⟨hi, hk⟩ := h
  have := (hB _ (List.getElem_mem hi)).2 _ hk
  exact ⟨hi, by omega⟩
theorem Eb_some {L : List (List Int)} (hB : BlkOk L) (i : Nat) (hi : i < L.length) : ∃ k, Eb L i k := by
  obtain ⟨h4, hr⟩ := hB _ (List.getElem_mem hi)
  have h0 : 0 < L[i].length := by omega
  obtain ⟨h1, h2⟩ := hr _ (List.getElem_mem h0)
  exact ⟨L[i][0].toNat, hi, by rw [Int.toNat_of_nonneg h1]; exact List.getElem_mem h0⟩
theorem foldl_or_bit {α : Type} (f : α → Nat) (x : Nat) : ∀ (l : List α) (a : Nat), (l.foldl (fun acc k => acc ||| f k) a).testBit x = (a.testBit x || l.any fun k => (f k).testBit x)
  | [], a => by simp
  | k :: l, a => by rw [List.foldl_cons, foldl_or_bit f x l, Nat.testBit_or, List.any_cons, Bool.or_assoc]
def rowI (S : List Nat) (b : List Int) : Nat := b.foldl (fun acc k => acc ||| S.getD k.toNat 0) 0
def setsI (L : List (List Int)) : Nat → List Nat
  | 0 => (List.range L.length).map (2 ^ ·)
  | s + 1 => L.map (rowI (setsI L s))
theorem setsI_len (L : List (List Int)) : ∀ s, (setsI L s).length = L.length
  | 0 => by simp [setsI]
  | s + 1 => by simp [setsI]
theorem setsI_bit {L : List (List Int)} (hB : BlkOk L) : ∀ (s i x : Nat), i < L.length → (((setsI L s).getD i 0).testBit x = true ↔ pa (Eb L) s i x)
  | 0, i, x, hi => by
    simp [setsI, hi, pa, Nat.testBit_two_pow]
  | s + 1, i, x, hi => by
    have e : (setsI L (s + 1)).getD i 0 = rowI (setsI L s) L[i] := by simp [setsI, hi]
    rw [e, rowI, foldl_or_bit]
    simp only [Nat.zero_testBit, Bool.false_or, List.any_eq_true]
    constructor
    · rintro ⟨k, hk, hx⟩
      have hr := (hB _ (List.getElem_mem hi)).2 k hk
      exact ⟨k.toNat, ⟨hi, by rw [Int.toNat_of_nonneg hr.1]; exact hk⟩, (setsI_bit hB s k.toNat x (by omega)).1 hx⟩
    · rintro ⟨k, ⟨_, hk⟩, hx⟩
      have hr := (hB _ (List.getElem_mem hi)).2 _ hk
      exact ⟨k, hk, by rw [Int.toNat_natCast]; exact (setsI_bit hB s k x (by omega)).2 hx⟩
def putS (b : List Int) (acc : Nat) : Nat := b.foldl (fun a j => a ||| 2 ^ j.toNat) acc
def rowS (L : List (List Int)) (x : Nat) (m : Nat) : Nat := (List.range m).foldl (fun acc k => if x.testBit k = true then putS (L.getD k []) acc else acc) 0
def setsS (L : List (List Int)) : Nat → List Nat
  | 0 => (List.range L.length).map (2 ^ ·)
  | s + 1 => (setsS L s).map fun x => rowS L x L.length
theorem setsS_len (L : List (List Int)) : ∀ s, (setsS L s).length = L.length
  | 0 => by simp [setsS]
  | s + 1 => by simp [setsS, setsS_len L s]
theorem rowS_succ (L : List (List Int)) (x m : Nat) : rowS L x (m + 1) = if x.testBit m = true then putS (L.getD m []) (rowS L x m) else rowS L x m := by
  unfold rowS; rw [List.range_succ, List.foldl_append]; rfl
theorem rowS_bit {L : List (List Int)} (hB : BlkOk L) (x y : Nat) : ∀ m, m ≤ L.length → ((rowS L x m).testBit y = true ↔ ∃ k, k < m ∧ x.testBit k = true ∧ Eb L k y)
  | 0, _ => by simp [rowS]
  | m + 1, hm => by
    have ih := rowS_bit hB x y m (by omega)
    have hp : ∀ a, (putS (L.getD m []) a).testBit y = true ↔ a.testBit y = true ∨ Eb L m y := by
      intro a
      have hL : L.getD m [] = L[m] := by simp [show m < L.length by omega]
      rw [hL, putS, foldl_or_bit, Bool.or_eq_true, List.any_eq_true]
      refine or_congr Iff.rfl ?_
      constructor
      · rintro ⟨k, hk, hx⟩
        have hr := (hB _ (List.getElem_mem (show m < L.length by omega))).2 k hk
        rw [Nat.testBit_two_pow, decide_eq_true_eq] at hx
        exact ⟨by omega, by rw [← hx, Int.toNat_of_nonneg hr.1]; exact hk⟩
      · rintro ⟨_, hk⟩
        exact ⟨y, hk, by rw [Int.toNat_natCast, Nat.testBit_two_pow]; simp⟩
    rw [rowS_succ]
    by_cases hx : x.testBit m = true
    · rw [if_pos hx, hp, ih]
      constructor
      · rintro (⟨k, h1, h2⟩ | h)
        · exact ⟨k, by omega, h2⟩
        · exact ⟨m, by omega, hx, h⟩
      · rintro ⟨k, h1, h2, h3⟩
        by_cases e : k = m
        · subst e; exact .inr h3
        · exact .inl ⟨k, by omega, h2, h3⟩
    · rw [if_neg hx, ih]
      constructor
      · rintro ⟨k, h1, h2⟩; exact ⟨k, by omega, h2⟩
      · rintro ⟨k, h1, h2, h3⟩
        by_cases e : k = m
        · subst e; exact absurd h2 hx
        · exact ⟨k, by omega, h2, h3⟩
theorem setsS_bit {L : List (List Int)} (hB : BlkOk L) : ∀ (s i x : Nat), i < L.length → (((setsS L s).getD i 0).testBit x = true ↔ pa (Eb L) s i x)
  | 0, i, x, hi => by simp [setsS, hi, pa, Nat.testBit_two_pow]
  | s + 1, i, x, hi => by
    have e : (setsS L (s + 1)).getD i 0 = rowS L ((setsS L s).getD i 0) L.length := by simp [setsS, hi, setsS_len]
    rw [e, rowS_bit hB _ _ _ (Nat.le_refl _), pa_right]
    constructor
    · rintro ⟨k, h1, h2, h3⟩; exact ⟨k, (setsS_bit hB s i k hi).1 h2, h3⟩
    · rintro ⟨k, h1, h2⟩; exact ⟨k, (Eb_in hB k x h2).1, (setsS_bit hB s i k hi).2 h1, h2⟩
/-- all bits below n: the number with just these -/
theorem all_bits {v n : Nat} (hv : ∀ y, v.testBit y = true → y < n) : v = 2 ^ n - 1 ↔ ∀ y, y < n → v.testBit y = true := by
  constructor
  · rintro rfl y hy; simp [hy]
  · intro h
    refine Nat.eq_of_testBit_eq fun y => ?_
    rw [Nat.testBit_two_pow_sub_one]
    by_cases hy : y < n
    · rw [h y hy]; simp [hy]
    · have : v.testBit y = false := by
        cases e : v.testBit y
        · rfl
        · exact absurd (hv y e) hy
      rw [this]; simp [hy]
theorem bits_lt {v n : Nat} (hv : ∀ y, v.testBit y = true → y < n) : v < 2 ^ n := Nat.lt_pow_two_of_testBit v fun y hy => by
  cases e : v.testBit y
  · rfl
  · have := hv y e; omega
theorem setsI_lt {L : List (List Int)} (hB : BlkOk L) (s i : Nat) (hi : i < L.length) : (setsI L s).getD i 0 < 2 ^ L.length :=
  bits_lt fun y h => pa_in (fun i k h => (Eb_in hB i k h).2) s i y hi ((setsI_bit hB s i y hi).1 h)
theorem setsS_lt {L : List (List Int)} (hB : BlkOk L) (s i : Nat) (hi : i < L.length) : (setsS L s).getD i 0 < 2 ^ L.length :=
  bits_lt fun y h => pa_in (fun i k h => (Eb_in hB i k h).2) s i y hi ((setsS_bit hB s i y hi).1 h)
theorem fullI {L : List (List Int)} (hB : BlkOk L) (s : Nat) : (∀ i, i < L.length → (setsI L s).getD i 0 = 2 ^ L.length - 1) ↔ Full (Eb L) L.length s := by
  have h1 : ∀ i, i < L.length → ((setsI L s).getD i 0 = 2 ^ L.length - 1 ↔ ∀ y, y < L.length → pa (Eb L) s i y) := fun i hi => by
    rw [all_bits fun y h => pa_in (fun i k h => (Eb_in hB i k h).2) s i y hi ((setsI_bit hB s i y hi).1 h)]
    exact forall_congr' fun y => imp_congr_right fun _ => setsI_bit hB s i y hi
  exact ⟨fun h i x hi hx => (h1 i hi).1 (h i hi) x hx, fun h i hi => (h1 i hi).2 fun y hy => h i y hi hy⟩
theorem fullS {L : List (List Int)} (hB : BlkOk L) (s : Nat) : (∀ i, i < L.length → (setsS L s).getD i 0 = 2 ^ L.length - 1) ↔ Full (Eb L) L.length s := by
  have h1 : ∀ i, i < L.length → ((setsS L s).getD i 0 = 2 ^ L.length - 1 ↔ ∀ y, y < L.length → pa (Eb L) s i y) := fun i hi => by
    rw [all_bits fun y h => pa_in (fun i k h => (Eb_in hB i k h).2) s i y hi ((setsS_bit hB s i y hi).1 h)]
    exact forall_congr' fun y => imp_congr_right fun _ => setsS_bit hB s i y hi
  exact ⟨fun h i x hi hx => (h1 i hi).1 (h i hi) x hx, fun h i hi => (h1 i hi).2 fun y hy => h i y hi hy⟩
def primP (L : List (List Int)) : Prop := ∃ s, 1 ≤ s ∧ s ≤ L.length * L.length + 1 ∧ Full (Eb L) L.length s
open Classical in
noncomputable def primB (L : List (List Int)) : Bool := decide (primP L)
theorem primB_true {L : List (List Int)} {s : Nat} (h1 : 1 ≤ s) (h2 : s ≤ L.length * L.length + 1) (h : Full (Eb L) L.length s) : primB L = true := by
  unfold primB; simp only [decide_eq_true_eq]; exact ⟨s, h1, h2, h⟩
theorem primB_false {L : List (List Int)} (h : ∀ s, 1 ≤ s → s ≤ L.length * L.length + 1 → ¬ Full (Eb L) L.length s) : primB L = false := by
  unfold primB; simp only [decide_eq_false_iff_not]; exact fun ⟨s, h1, h2, h3⟩ => h s h1 h2 h3
theorem primB_nil : primB [] = true := primB_true (s := 1) (by omega) (by simp) fun i x hi _ => by simp at hi
theorem primB_false' {L : List (List Int)} (hB : BlkOk L) (hn : 1 ≤ L.length) (h : ∀ s, 1 ≤ s → s ≤ L.length * L.length → ¬ Full (Eb L) L.length s) : primB L = false :=
  primB_false fun s h1 _ hf => h (L.length * L.length) (by have := Nat.mul_le_mul hn hn; omega) (Nat.le_refl _) (prim_bound (Eb_in hB) (Eb_some hB) h1 hf)

end Go.Proofs.YtkgnejhflnekaaaGreat
