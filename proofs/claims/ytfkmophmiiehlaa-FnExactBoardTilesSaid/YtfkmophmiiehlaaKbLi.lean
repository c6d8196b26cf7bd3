/- Contracts and lemmas for the statements of this seat, written for this claim; each theorem states its own conditions. -/
import Derived.Test.YtfkmophmiiehlaaKbSl
import Derived.Test.YtfkmophmiiehlaaKbBk
import Derived.Test.YtfkmophmiiehlaaKbL1
set_option linter.unusedVariables false
set_option linter.unusedSimpArgs false
namespace Go.Proofs.Ytfkmophmiiehlaa
open Go.RowKit
theorem OwnI.at_ {w : World} {B n cx : Nat} {A : Option Addr} {xs : List Int} (h : OwnI w B (.slice A n cx) xs) (j : Nat) (hj : j < xs.length) :
    ∃ g, A = some ⟨g, 0, none⟩ ∧ B ≤ g ∧ g < w.heap.size ∧ w.cell? ⟨g, j, none⟩ = some (.int .i64 xs[j]) ∧ w.frozen? ⟨g, j, none⟩ = false := by
  have h0 := h
  obtain ⟨h1, h2⟩ := h
  rcases h2 with ⟨e1, e2⟩ | ⟨g, cap, cur, e1, e2, e3, _⟩
  · omega
  · injection e1 with a1 a2 a3
    subst a1 a2 a3
    have hc := World.ownsRow.cellAt h0 j (by omega)
    refine ⟨g, rfl, e2, (Array.getElem?_eq_some_iff.1 e3).1, ?_, World.ownsRow.frozenAt h0 j⟩
    rw [hc]; simp [ints, hj]
theorem OwnI.set {w : World} {B n cx g : Nat} {xs : List Int} (h : OwnI w B (.slice (some ⟨g, 0, none⟩) n cx) xs) (j : Nat) (y : Int) :
    OwnI (w.setCell ⟨g, j, none⟩ (.int .i64 y)) B (.slice (some ⟨g, 0, none⟩) n cx) (xs.set j y) ∧ w.grownBy (w.setCell ⟨g, j, none⟩ (.int .i64 y)) (some g) := by
  have h0 := h
  obtain ⟨h1, h2⟩ := h
  rcases h2 with ⟨e1, e2⟩ | ⟨g', cap, cur, e1, _⟩
  · cases e1
  · injection e1 with a1 a2 a3
    subst a2
    obtain ⟨s1, s2⟩ := World.ownsRow.stored h0 j (.int .i64 y)
    refine ⟨?_, s2⟩
    unfold OwnI
    rw [ints_set] at s1
    rw [List.length_set]
    exact s1
theorem OwnI.len {w : World} {B n cx : Nat} {A : Option Addr} {xs : List Int} (h : OwnI w B (.slice A n cx) xs) : n = xs.length := by
  obtain ⟨h1, h2⟩ := h
  rcases h2 with ⟨e1, e2⟩ | ⟨g', cap, cur, e1, _⟩
  · injection e1 with a1 a2 a3; omega
  · injection e1 with a1 a2 a3
theorem OwnI.cells {w : World} {B n cx : Nat} {A : Option Addr} {xs : List Int} (h : OwnI w B (.slice A n cx) xs) : Cells w A (ints xs) := by
  obtain ⟨A', cx', e, hc, _⟩ := h.shape
  injection e with a1 a2 a3
  subst a1
  exact hc
theorem Blk.own {w : World} {b B : Nat} {xs : List Int} (h : Blk w b (ints xs) 2) (hB : B ≤ b) (hl : xs.length ≤ 9223372036854775807) : OwnI w B (.slice (some ⟨b, 0, none⟩) xs.length xs.length) xs := by
  refine ⟨by rw [ints_length, Nat.mul_one], .inr ⟨b, xs.length, (ints xs).toArray, rfl, hB, h, Nat.le_refl _, by simpa [maxLen] using hl, by simp [ints_length], ?_⟩⟩
  rw [Nat.mul_one]
  exact List.take_of_length_le (by rw [ints_length]; exact Nat.le_refl _)
theorem OwnI.grown {w w1 : World} {B : Nat} {v : Value} {xs : List Int} {row : Option Nat} (h : OwnI w B v xs) (hg : w.grownBy w1 row) (hne : v.ownBlock = none ∨ v.ownBlock ≠ row) : OwnI w1 B v xs := World.ownsRow.kept h hg hne
/-- a pair of numbers, new, in a slice -/
theorem OwnI.two {w : World} {B : Nat} {v : Value} {x y : Int} (h : OwnI w B v [x, y]) : ∃ g cx, v = .slice (some ⟨g, 0, none⟩) 2 cx ∧ B ≤ g ∧ g < w.heap.size ∧ w.cell? ⟨g, 0, none⟩ = some (.int .i64 x) ∧ w.cell? ⟨g, 1, none⟩ = some (.int .i64 y) := by
  obtain ⟨A, cx, rfl, _, _⟩ := h.shape
  obtain ⟨g, rfl, h1, h2, h3, _⟩ := h.at_ 0 (by simp)
  obtain ⟨g', e, _, _, h4, _⟩ := h.at_ 1 (by simp)
  injection e with e; injection e with e; subst e
  exact ⟨g, cx, rfl, h1, h2, h3, h4⟩
theorem own_far {w1 w : World} {v u : Value} {xs : List Int} (hv : ∀ k, v.ownBlock = some k → k < w.heap.size) (hu : OwnI w1 w.heap.size u xs) (hx : 0 < xs.length) : v.ownBlock ≠ u.ownBlock ∧ u.ownBlock ≠ v.ownBlock := by
  obtain ⟨A, cx, rfl, _, _⟩ := hu.shape
  obtain ⟨g, rfl, h1, _⟩ := hu.at_ 0 hx
  have : v.ownBlock ≠ some g := fun e => by have := hv g e; omega
  exact ⟨this, fun e => this e.symm⟩
theorem own_apart {w1 w2 : World} {B : Nat} {v u : Value} {xs ys : List Int} (hv : OwnI w1 B v xs) (hu : OwnI w2 w1.heap.size u ys) : (v.ownBlock = none ∨ v.ownBlock ≠ u.ownBlock) ∧ (u.ownBlock = none ∨ u.ownBlock ≠ v.ownBlock) := by
  cases e1 : v.ownBlock with
  | none => exact ⟨.inl rfl, by cases e2 : u.ownBlock with | none => exact .inl rfl | some k => exact .inr (by simp)⟩
  | some j =>
    cases e2 : u.ownBlock with
    | none => exact ⟨.inr (by simp), .inl rfl⟩
    | some k =>
      have h1 := (World.ownsRow.lt hv j e1).2
      have h2 := (World.ownsRow.lt hu k e2).1
      exact ⟨.inr (by simp; omega), .inr (by simp; omega)⟩
theorem apart_symm {v u : Value} (h : v.ownBlock = none ∨ v.ownBlock ≠ u.ownBlock) : u.ownBlock = none ∨ u.ownBlock ≠ v.ownBlock := by
  cases e2 : u.ownBlock with
  | none => exact .inl rfl
  | some k => rcases h with h | h
              · exact .inr (by rw [h]; simp)
              · exact .inr (by rw [e2] at h; exact fun e => h e.symm)
/-- what a call gives back that returns two new lists of numbers, apart from each other, and a code -/
def RetIIC (w : World) (xs ys : List Int) (c : Int) (e : Ending) (w' : World) : Prop :=
  ∃ v u, e = .returned (.tuple #[v, u, .int .i64 c]) ∧ OwnI w' w.heap.size v xs ∧ OwnI w' w.heap.size u ys ∧ (v.ownBlock = none ∨ v.ownBlock ≠ u.ownBlock) ∧ Below w.heap.size w w'
theorem ret_c3 {v u : Value} {a b : Int} (h : a = b) : Ending.returned (.tuple #[v, u, .int .i64 a]) = .returned (.tuple #[v, u, .int .i64 b]) := by rw [h]
def marks (k n : Nat) : List Int := (List.range n).map fun j => ((k + j : Nat) : Int)
theorem marks_len (k n : Nat) : (marks k n).length = n := by simp [marks]
theorem marks_get (k n j : Nat) (h : j < (marks k n).length) : (marks k n)[j] = ((k + j : Nat) : Int) := by simp [marks]
theorem marks_step (k j : Nat) (xs : List Int) (hj : j < xs.length) : (marks k j ++ xs.drop j).set j ((k + j : Nat) : Int) = marks k (j + 1) ++ xs.drop (j + 1) := by
  rw [List.set_append_right _ _ (by rw [marks_len]; exact Nat.le_refl _), marks_len, Nat.sub_self, List.drop_eq_getElem_cons hj, List.set_cons_zero]
  simp [marks, List.range_succ]
set_option maxRecDepth 100000 in
set_option maxHeartbeats 1000000 in
theorem markInt64S_c (v : Value) (xs : List Int) (k B : Nat) (w : World) (hO : OwnI w B v xs) (hl : xs.length ≤ 1000000000) (hk : k ≤ 1000000000000) :
    Calls Try.prog 40 #[v, .int .i64 k] w fun e w' => e = .returned (.int .i64 ((k + xs.length : Nat) : Int)) ∧ OwnI w' B v (marks k xs.length) ∧ w.grownBy w' v.ownBlock := by
  obtain ⟨A, cx, rfl, hC, _⟩ := hO.shape
  clear hC
  go_enter Try.func40, Try.ntmps40
  go_wp2
  go_loopw [1, 5] (fun m i wr => ∃ j : Nat, j ≤ xs.length ∧ m = .int .i64 ((k + j : Nat) : Int) ∧ i = .int .i64 j ∧ OwnI wr B (.slice A xs.length cx) (marks k j ++ xs.drop j) ∧ w.grownBy wr (Value.ownBlock (.slice A xs.length cx))) (fun _ i _ => xs.length - (intOf i).toNat)
  case atStart => exact ⟨0, by omega, by simp, by simp, by simpa [marks] using hO, World.grownBy.refl _ _⟩
  case round =>
    obtain ⟨j, hj, rfl, rfl, hO1, hg⟩ := hrel
    by_cases h1 : j < xs.length
    · obtain ⟨g, rfl, p1, p2, p3, p4⟩ := hO1.at_ j (by simp [marks]; omega)
      have HO := Lib.hid hO1
      have HG := Lib.hid hg
      clear hO1 hg hO
      have HS := Lib.hid (marks_step k j xs h1)
      go_wp2
      go_roundw
      case rel => exact ⟨j + 1, by omega, by go_num, by go_num, by rw [← HS.out]; exact (HO.out.set j _).1, HG.out.trans (HO.out.set j _).2⟩
      case measure => simp [intOf]; omega
    · obtain rfl : j = xs.length := by omega
      clear hO
      go_wp2
      go_ret
      exact ⟨rfl, by simpa using hO1, hg⟩
end Go.Proofs.Ytfkmophmiiehlaa
namespace Go.Proofs.Ytfkmophmiiehlaa
open Go.RowKit
def fracB (a b : Int) : Bool := inR 1 20 b && inR 0 (5 * b) a
theorem fracB_iff {a b : Int} : fracB a b = true ↔ (1 ≤ b ∧ b ≤ 20) ∧ 0 ≤ a ∧ a ≤ 5 * b := by simp [fracB, inR]
def placesB (p n : Int) : Bool := inR 1 1000 p && inR 1 20 n
theorem placesB_iff {p n : Int} : placesB p n = true ↔ (1 ≤ p ∧ p ≤ 1000) ∧ 1 ≤ n ∧ n ≤ 20 := by simp [placesB, inR]
def factB (p q : Int) : Bool := inR 1 3 p && inR 1 3 q
theorem factB_iff {p q : Int} : factB p q = true ↔ (1 ≤ p ∧ p ≤ 3) ∧ 1 ≤ q ∧ q ≤ 3 := by simp [factB, inR]
def digAt (a b i : Int) : Int := i * a / b - (i - 1) * a / b
def digs (a b p : Int) (n : Nat) : List Int := (List.range n).map fun j : Nat => digAt a b (p + j)
theorem digs_succ (a b p : Int) (n : Nat) : digs a b p (n + 1) = digs a b p n ++ [digAt a b (p + n)] := by simp [digs, List.range_succ]
theorem digs_len (a b p : Int) (n : Nat) : (digs a b p n).length = n := by simp [digs]
theorem digAt_wraps {a b i m1 : Int} (hb : 1 ≤ b) (ha : 0 ≤ a) (ha' : a ≤ 1000) (h1 : 1 ≤ i) (h2 : i ≤ 1020) (hm : m1 = i * a) :
    IntKind.i64.wrap (IntKind.i64.wrap (m1.tdiv b) - IntKind.i64.wrap ((IntKind.i64.wrap (IntKind.i64.wrap (i - 1) * a)).tdiv b)) = digAt a b i := by
  have b1 : 0 ≤ i * a := Int.mul_nonneg (by omega) ha
  have b2 : i * a ≤ 1020 * 1000 := Int.mul_le_mul h2 ha' ha (by omega)
  have b3 : 0 ≤ (i - 1) * a := Int.mul_nonneg (by omega) ha
  have b4 : (i - 1) * a ≤ 1020 * 1000 := Int.mul_le_mul (by omega) ha' ha (by omega)
  rw [IntWalk.i64_in (i - 1) (by omega), IntWalk.i64_in ((i - 1) * a) (by omega), hm, Int.tdiv_eq_ediv_of_nonneg b1, Int.tdiv_eq_ediv_of_nonneg b3]
  have d1 : 0 ≤ i * a / b := Int.ediv_nonneg b1 (by omega)
  have d2 : i * a / b ≤ i * a := Int.ediv_le_self _ b1
  have d3 : 0 ≤ (i - 1) * a / b := Int.ediv_nonneg b3 (by omega)
  have d4 : (i - 1) * a / b ≤ (i - 1) * a := Int.ediv_le_self _ b3
  rw [IntWalk.i64_in (i * a / b) (by omega), IntWalk.i64_in ((i - 1) * a / b) (by omega), IntWalk.i64_in _ (by omega)]
  rfl
def carAt (p q a b i : Int) : Int := p * (i * a / b) - q * (i * a * p / (b * q))
def cars (p q a b s : Int) (n : Nat) : List Int := (List.range n).map fun j : Nat => carAt p q a b (s + j)
theorem cars_succ (p q a b s : Int) (n : Nat) : cars p q a b s (n + 1) = cars p q a b s n ++ [carAt p q a b (s + n)] := by simp [cars, List.range_succ]
theorem cars_len (p q a b s : Int) (n : Nat) : (cars p q a b s n).length = n := by simp [cars]
theorem car_bounds {p q a b i : Int} (hp : 1 ≤ p) (hp' : p ≤ 3) (hq : 1 ≤ q) (hq' : q ≤ 3) (hb : 1 ≤ b) (hb' : b ≤ 20) (ha : 0 ≤ a) (ha' : a ≤ 100) (h1 : 0 ≤ i) (h2 : i ≤ 1020) :
    0 ≤ i * a ∧ i * a ≤ 1020 * 100 ∧ 1 ≤ b * q ∧ b * q ≤ 20 * 3 ∧ 0 ≤ i * a * p ∧ i * a * p ≤ 1020 * 100 * 3 := by
  have b1 : 0 ≤ i * a := Int.mul_nonneg h1 ha
  have b2 : i * a ≤ 1020 * 100 := Int.mul_le_mul h2 ha' ha (by omega)
  have b3 : 1 * 1 ≤ b * q := Int.mul_le_mul hb hq (by omega) (by omega)
  exact ⟨b1, b2, by omega, Int.mul_le_mul hb' hq' (by omega) (by omega), Int.mul_nonneg b1 (by omega), Int.mul_le_mul b2 hp' (by omega) (by omega)⟩
theorem carAt_wraps {p q a b i m1 m2 : Int} (hp : 1 ≤ p) (hp' : p ≤ 3) (hq : 1 ≤ q) (hq' : q ≤ 3) (hb : 1 ≤ b) (hb' : b ≤ 20) (ha : 0 ≤ a) (ha' : a ≤ 100) (h1 : 0 ≤ i) (h2 : i ≤ 1020) (hm : m1 = i * a) (hm2 : m2 = b * q) :
    IntKind.i64.wrap (IntKind.i64.wrap (p * IntKind.i64.wrap (m1.tdiv b)) - IntKind.i64.wrap (q * IntKind.i64.wrap ((IntKind.i64.wrap (m1 * p)).tdiv m2))) = carAt p q a b i := by
  obtain ⟨b1, b2, b3, b4, b5, b6⟩ := car_bounds hp hp' hq hq' hb hb' ha ha' h1 h2
  subst hm hm2
  rw [IntWalk.i64_in (i * a * p) (by omega), Int.tdiv_eq_ediv_of_nonneg b1, Int.tdiv_eq_ediv_of_nonneg b5]
  have d1 : 0 ≤ i * a / b := Int.ediv_nonneg b1 (by omega)
  have d2 : i * a / b ≤ i * a := Int.ediv_le_self _ b1
  have d3 : 0 ≤ i * a * p / (b * q) := Int.ediv_nonneg b5 (by omega)
  have d4 : i * a * p / (b * q) ≤ i * a * p := Int.ediv_le_self _ b5
  have e1 : 0 ≤ p * (i * a / b) := Int.mul_nonneg (by omega) d1
  have e2 : p * (i * a / b) ≤ 3 * (1020 * 100) := Int.mul_le_mul hp' (by omega) d1 (by omega)
  have e3 : 0 ≤ q * (i * a * p / (b * q)) := Int.mul_nonneg (by omega) d3
  have e4 : q * (i * a * p / (b * q)) ≤ 3 * (1020 * 100 * 3) := Int.mul_le_mul hq' (by omega) d3 (by omega)
  rw [IntWalk.i64_in (i * a / b) (by omega), IntWalk.i64_in (i * a * p / (b * q)) (by omega), IntWalk.i64_in (p * (i * a / b)) (by omega), IntWalk.i64_in (q * (i * a * p / (b * q))) (by omega), IntWalk.i64_in _ (by omega)]
  rfl
end Go.Proofs.Ytfkmophmiiehlaa
namespace Go.Proofs.Ytfkmophmiiehlaa
open Go.RowKit
def codeB (s b : Bool) : Int := if s = true then (if b = true then 0 else 2) else 1
set_option maxRecDepth 100000 in
set_option maxHeartbeats 1000000 in
theorem setCode_c (c : Int) (ts : List T4) (A : Option Addr) (cx : Nat) (k : FuncId) (caps : Array Value) (b : Bool) (w : World) (hk : ∀ args w, Sem.run Try.prog (callFunc k args) w = .ok (.enter k args) w)
    (hT : TileCells w A ts) (hl : ts.length ≤ 1000000000) (hf : isSetB c ts = true → ∀ w1, Below w.heap.size w w1 → Calls Try.prog k caps w1 fun e w2 => e = .returned (.bool b) ∧ Below w1.heap.size w1 w2) :
    Calls Try.prog 110 #[.agg #[.int .i64 c, .slice A ts.length cx], .func (.func k) #[] caps] w fun e w' => e = .returned (.int .i64 (codeB (isSetB c ts) b)) ∧ Below w.heap.size w w' := by
  have HI := Lib.hid (fun w h => isSet_c c ts A cx w h hl)
  have HT := Lib.hid hT
  have HF := Lib.hid hf
  clear hT hf
  cases hs : isSetB c ts
  · rw [hs] at HI
    clear hs
    go_enter Try.func110, Try.ntmps110
    go_wp2_with fail
    refine (HI.out _ (HT.out.below (by (repeat (first | (with_reducible exact Below.refl _ _) | (with_reducible assumption) | (with_reducible refine below_al ?_) | (with_reducible refine below_dr ?_) | (with_reducible refine below_drN ?_) | (with_reducible refine below_set ?_ (by first | exact Nat.le_refl _ | (dsimp only; omega) | omega)) | (with_reducible refine below_tr (by with_reducible assumption) ?_)))))).mono ?_
    rintro e w1 ⟨rfl, hb1⟩
    go_wp2
    go_ret
    exact ⟨rfl, by (repeat (first | (with_reducible exact Below.refl _ _) | (with_reducible assumption) | (with_reducible refine below_al ?_) | (with_reducible refine below_dr ?_) | (with_reducible refine below_drN ?_) | (with_reducible refine below_set ?_ (by first | exact Nat.le_refl _ | (dsimp only; omega) | omega)) | (with_reducible refine below_tr (by with_reducible assumption) ?_)))⟩
  · rw [hs] at HI
    have HF2 := Lib.hid (HF.out hs)
    clear hs HF
    cases b
    all_goals
      go_enter Try.func110, Try.ntmps110
      go_wp2_with fail
      refine (HI.out _ (HT.out.below (by (repeat (first | (with_reducible exact Below.refl _ _) | (with_reducible assumption) | (with_reducible refine below_al ?_) | (with_reducible refine below_dr ?_) | (with_reducible refine below_drN ?_) | (with_reducible refine below_set ?_ (by first | exact Nat.le_refl _ | (dsimp only; omega) | omega)) | (with_reducible refine below_tr (by with_reducible assumption) ?_)))))).mono ?_
      rintro e w1 ⟨rfl, hb1⟩
      have Hw1 : Hid (Below w.heap.size w w1) := by (show Below _ _ _); (repeat (first | (with_reducible exact Below.refl _ _) | (with_reducible assumption) | (with_reducible refine below_al ?_) | (with_reducible refine below_dr ?_) | (with_reducible refine below_drN ?_) | (with_reducible refine below_set ?_ (by first | exact Nat.le_refl _ | (dsimp only; omega) | omega)) | (with_reducible refine below_tr (by with_reducible assumption) ?_)))
      clear hb1
      go_wp2_with fail
      refine (HF2.out _ Hw1.out).mono ?_
      rintro e w2 ⟨rfl, hb2⟩
      go_wp2
      go_ret
      exact ⟨rfl, Hw1.out.trans (hb2.mono Hw1.out.size)⟩
end Go.Proofs.Ytfkmophmiiehlaa
