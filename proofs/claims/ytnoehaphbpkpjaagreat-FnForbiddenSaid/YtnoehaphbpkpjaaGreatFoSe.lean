/- Contracts and lemmas for the statements of this seat, written for this claim; each theorem states its own conditions. -/
import Derived.Test.YtnoehaphbpkpjaaGreatFoL1
import Derived.Test.YtnoehaphbpkpjaaGreatFoBk
set_option linter.unusedVariables false
set_option linter.unusedSimpArgs false
namespace Go.Proofs.YtnoehaphbpkpjaaGreat
open Go.RowKit
/-- a set as it lies in memory -/
structure SD where
  c : Int
  ts : List T4
  A : Option Addr
  cx : Nat
def SD.v (s : SD) : Value := .slice s.A s.ts.length s.cx
def SD.ok (w : World) (s : SD) : Prop := TileCells w s.A s.ts ∧ s.ts.length ≤ 1000000000
theorem SD.ok.below {w w1 : World} {s : SD} (h : s.ok w) (hb : Below w.heap.size w w1) : s.ok w1 := ⟨h.1.below hb, h.2⟩
def SetsCells (w : World) (A : Option Addr) (l : List SD) : Prop :=
  ∀ k (h : k < l.length), ∃ b off, A = some ⟨b, off, none⟩ ∧ b < w.heap.size ∧ w.cell? ⟨b, off + k * 2, none⟩ = some (.int .i64 l[k].c) ∧ w.cell? ⟨b, off + k * 2 + 1, none⟩ = some (.slice l[k].A l[k].ts.length l[k].cx)
theorem SetsCells.below {w w1 : World} {A : Option Addr} {l : List SD} (h : SetsCells w A l) (hb : Below w.heap.size w w1) : SetsCells w1 A l := by
  intro k hk
  obtain ⟨b, off, hA, hlt, h0, h1⟩ := h k hk
  exact ⟨b, off, hA, Nat.lt_of_lt_of_le hlt hb.size, (hb.cell (p := ⟨b, _, none⟩) hlt).trans h0, (hb.cell (p := ⟨b, _, none⟩) hlt).trans h1⟩
theorem setsCells2 {w : World} {b : Nat} {s t : SD} (hlt : b < w.heap.size) (h0 : w.cell? ⟨b, 0, none⟩ = some (.int .i64 s.c)) (h1 : w.cell? ⟨b, 1, none⟩ = some (.slice s.A s.ts.length s.cx))
    (h2 : w.cell? ⟨b, 2, none⟩ = some (.int .i64 t.c)) (h3 : w.cell? ⟨b, 3, none⟩ = some (.slice t.A t.ts.length t.cx)) : SetsCells w (some ⟨b, 0, none⟩) [s, t] := by
  intro k hk
  simp only [List.length_cons, List.length_nil] at hk
  rcases k with _ | _ | k
  · exact ⟨b, 0, rfl, hlt, h0, h1⟩
  · exact ⟨b, 0, rfl, hlt, h2, h3⟩
  · omega
def PredS (w : World) (k : FuncId) (caps : Array Value) (p : SD → Bool) (l : List SD) : Prop :=
  ∀ s ∈ l, ∀ w1, Below w.heap.size w w1 → Calls Tryz.prog k (#[.agg #[.int .i64 s.c, .slice s.A s.ts.length s.cx]] ++ caps) w1 fun e w2 => e = .returned (.bool (p s)) ∧ Below w1.heap.size w1 w2
def idxS (p : SD → Bool) (l : List SD) : Int := match l.findIdx? p with | some i => (i : Int) | none => -1
theorem idxS_none {p : SD → Bool} {xs : List SD} (h : ∀ j (h : j < xs.length), p xs[j] = false) : idxS p xs = -1 := by
  have : xs.findIdx? p = none := by
    rw [List.findIdx?_eq_none_iff]
    intro x hx
    obtain ⟨j, hj, rfl⟩ := List.getElem_of_mem hx
    exact h j hj
  simp [idxS, this]
theorem idxS_some {p : SD → Bool} {xs : List SD} {i : Nat} (hi : i < xs.length) (h : ∀ j (h : j < xs.length), j < i → p xs[j] = false) (hp : p xs[i] = true) : idxS p xs = i := by
  have : xs.findIdx? p = some i := by
    rw [List.findIdx?_eq_some_iff_getElem]
    exact ⟨hi, hp, fun j hj => by simp [h j (by omega) hj]⟩
  simp [idxS, this]
end Go.Proofs.YtnoehaphbpkpjaaGreat
namespace Go.Proofs.YtnoehaphbpkpjaaGreat
open Go.RowKit
theorem OwnI.at_ {w : World} {B n cx : Nat} {A : Option Addr} {xs : List Int} (h : OwnI w B (.slice A n cx) xs) (j : Nat) (hj : j < xs.length) :
    ∃ g, A = some ⟨g, 0, none⟩ ∧ B ≤ g ∧ g < w.heap.size ∧ w.cell? ⟨g, j, none⟩ = some (.int .i64 xs[j]) ∧ w.frozen? ⟨g, j, none⟩ = false := by
  have h0 := h
  obtain ⟨h1, h2⟩ := h
  rcases h2 with ⟨e1, e2⟩ | ⟨g, cap, cur, e1, e2, e3, _⟩
  · omega
  · injection e1 with a1 a2 a3
    subst a1 a2 a3
    have hc := World.ownsRow.cellAt h0 j (by omega)
    refine ⟨g, rfl, e2, (Array.getElem?_eq_some_iff.1 e3).1, ?_, World.ownsRow.frozenAt h0 j⟩
    rw [hc]; simp [ints, hj]
theorem OwnI.set {w : World} {B n cx g : Nat} {xs : List Int} (h : OwnI w B (.slice (some ⟨g, 0, none⟩) n cx) xs) (j : Nat) (y : Int) :
    OwnI (w.setCell ⟨g, j, none⟩ (.int .i64 y)) B (.slice (some ⟨g, 0, none⟩) n cx) (xs.set j y) ∧ w.grownBy (w.setCell ⟨g, j, none⟩ (.int .i64 y)) (some g) := by
  have h0 := h
  obtain ⟨h1, h2⟩ := h
  rcases h2 with ⟨e1, e2⟩ | ⟨g', cap, cur, e1, _⟩
  · cases e1
  · injection e1 with a1 a2 a3
    subst a2
    obtain ⟨s1, s2⟩ := World.ownsRow.stored h0 j (.int .i64 y)
    refine ⟨?_, s2⟩
    unfold OwnI
    rw [ints_set] at s1
    rw [List.length_set]
    exact s1
theorem OwnI.len {w : World} {B n cx : Nat} {A : Option Addr} {xs : List Int} (h : OwnI w B (.slice A n cx) xs) : n = xs.length := by
  obtain ⟨h1, h2⟩ := h
  rcases h2 with ⟨e1, e2⟩ | ⟨g', cap, cur, e1, _⟩
  · injection e1 with a1 a2 a3; omega
  · injection e1 with a1 a2 a3
theorem OwnI.cells {w : World} {B n cx : Nat} {A : Option Addr} {xs : List Int} (h : OwnI w B (.slice A n cx) xs) : Cells w A (ints xs) := by
  obtain ⟨A', cx', e, hc, _⟩ := h.shape
  injection e with a1 a2 a3
  subst a1
  exact hc
theorem Blk.own {w : World} {b B : Nat} {xs : List Int} (h : Blk w b (ints xs) 2) (hB : B ≤ b) (hl : xs.length ≤ 9223372036854775807) : OwnI w B (.slice (some ⟨b, 0, none⟩) xs.length xs.length) xs := by
  refine ⟨by rw [ints_length, Nat.mul_one], .inr ⟨b, xs.length, (ints xs).toArray, rfl, hB, h, Nat.le_refl _, by simpa [maxLen] using hl, by simp [ints_length], ?_⟩⟩
  rw [Nat.mul_one]
  exact List.take_of_length_le (by rw [ints_length]; exact Nat.le_refl _)
theorem OwnI.grown {w w1 : World} {B : Nat} {v : Value} {xs : List Int} {row : Option Nat} (h : OwnI w B v xs) (hg : w.grownBy w1 row) (hne : v.ownBlock = none ∨ v.ownBlock ≠ row) : OwnI w1 B v xs := World.ownsRow.kept h hg hne
/-- a pair of numbers, new, in a slice -/
theorem OwnI.two {w : World} {B : Nat} {v : Value} {x y : Int} (h : OwnI w B v [x, y]) : ∃ g cx, v = .slice (some ⟨g, 0, none⟩) 2 cx ∧ B ≤ g ∧ g < w.heap.size ∧ w.cell? ⟨g, 0, none⟩ = some (.int .i64 x) ∧ w.cell? ⟨g, 1, none⟩ = some (.int .i64 y) := by
  obtain ⟨A, cx, rfl, _, _⟩ := h.shape
  obtain ⟨g, rfl, h1, h2, h3, _⟩ := h.at_ 0 (by simp)
  obtain ⟨g', e, _, _, h4, _⟩ := h.at_ 1 (by simp)
  injection e with e; injection e with e; subst e
  exact ⟨g, cx, rfl, h1, h2, h3, h4⟩
theorem own_far {w1 w : World} {v u : Value} {xs : List Int} (hv : ∀ k, v.ownBlock = some k → k < w.heap.size) (hu : OwnI w1 w.heap.size u xs) (hx : 0 < xs.length) : v.ownBlock ≠ u.ownBlock ∧ u.ownBlock ≠ v.ownBlock := by
  obtain ⟨A, cx, rfl, _, _⟩ := hu.shape
  obtain ⟨g, rfl, h1, _⟩ := hu.at_ 0 hx
  have : v.ownBlock ≠ some g := fun e => by have := hv g e; omega
  exact ⟨this, fun e => this e.symm⟩
theorem own_apart {w1 w2 : World} {B : Nat} {v u : Value} {xs ys : List Int} (hv : OwnI w1 B v xs) (hu : OwnI w2 w1.heap.size u ys) : (v.ownBlock = none ∨ v.ownBlock ≠ u.ownBlock) ∧ (u.ownBlock = none ∨ u.ownBlock ≠ v.ownBlock) := by
  cases e1 : v.ownBlock with
  | none => exact ⟨.inl rfl, by cases e2 : u.ownBlock with | none => exact .inl rfl | some k => exact .inr (by simp)⟩
  | some j =>
    cases e2 : u.ownBlock with
    | none => exact ⟨.inr (by simp), .inl rfl⟩
    | some k =>
      have h1 := (World.ownsRow.lt hv j e1).2
      have h2 := (World.ownsRow.lt hu k e2).1
      exact ⟨.inr (by simp; omega), .inr (by simp; omega)⟩
theorem apart_symm {v u : Value} (h : v.ownBlock = none ∨ v.ownBlock ≠ u.ownBlock) : u.ownBlock = none ∨ u.ownBlock ≠ v.ownBlock := by
  cases e2 : u.ownBlock with
  | none => exact .inl rfl
  | some k => rcases h with h | h
              · exact .inr (by rw [h]; simp)
              · exact .inr (by rw [e2] at h; exact fun e => h e.symm)
/-- what a call gives back that returns two new lists of numbers, apart from each other, and a code -/
def RetIIC (w : World) (xs ys : List Int) (c : Int) (e : Ending) (w' : World) : Prop :=
  ∃ v u, e = .returned (.tuple #[v, u, .int .i64 c]) ∧ OwnI w' w.heap.size v xs ∧ OwnI w' w.heap.size u ys ∧ (v.ownBlock = none ∨ v.ownBlock ≠ u.ownBlock) ∧ Below w.heap.size w w'
theorem ret_c3 {v u : Value} {a b : Int} (h : a = b) : Ending.returned (.tuple #[v, u, .int .i64 a]) = .returned (.tuple #[v, u, .int .i64 b]) := by rw [h]
def eqI (xs ys : List Int) : Bool := decide (xs = ys)
theorem eqI_refl (xs : List Int) : eqI xs xs = true := by simp [eqI]
end Go.Proofs.YtnoehaphbpkpjaaGreat
namespace Go.Proofs.YtnoehaphbpkpjaaGreat
open Go.RowKit
def fracB (a b : Int) : Bool := inR 1 20 b && inR 0 (5 * b) a
theorem fracB_iff {a b : Int} : fracB a b = true ↔ (1 ≤ b ∧ b ≤ 20) ∧ 0 ≤ a ∧ a ≤ 5 * b := by simp [fracB, inR]
def placesB (p n : Int) : Bool := inR 1 1000 p && inR 1 20 n
theorem placesB_iff {p n : Int} : placesB p n = true ↔ (1 ≤ p ∧ p ≤ 1000) ∧ 1 ≤ n ∧ n ≤ 20 := by simp [placesB, inR]
def factB (p q : Int) : Bool := inR 1 3 p && inR 1 3 q
theorem factB_iff {p q : Int} : factB p q = true ↔ (1 ≤ p ∧ p ≤ 3) ∧ 1 ≤ q ∧ q ≤ 3 := by simp [factB, inR]
def digAt (a b i : Int) : Int := i * a / b - (i - 1) * a / b
def digs (a b p : Int) (n : Nat) : List Int := (List.range n).map fun j : Nat => digAt a b (p + j)
theorem digs_succ (a b p : Int) (n : Nat) : digs a b p (n + 1) = digs a b p n ++ [digAt a b (p + n)] := by simp [digs, List.range_succ]
theorem digs_len (a b p : Int) (n : Nat) : (digs a b p n).length = n := by simp [digs]
theorem digAt_wraps {a b i m1 : Int} (hb : 1 ≤ b) (ha : 0 ≤ a) (ha' : a ≤ 1000) (h1 : 1 ≤ i) (h2 : i ≤ 1020) (hm : m1 = i * a) :
    IntKind.i64.wrap (IntKind.i64.wrap (m1.tdiv b) - IntKind.i64.wrap ((IntKind.i64.wrap (IntKind.i64.wrap (i - 1) * a)).tdiv b)) = digAt a b i := by
  have b1 : 0 ≤ i * a := Int.mul_nonneg (by omega) ha
  have b2 : i * a ≤ 1020 * 1000 := Int.mul_le_mul h2 ha' ha (by omega)
  have b3 : 0 ≤ (i - 1) * a := Int.mul_nonneg (by omega) ha
  have b4 : (i - 1) * a ≤ 1020 * 1000 := Int.mul_le_mul (by omega) ha' ha (by omega)
  rw [IntWalk.i64_in (i - 1) (by omega), IntWalk.i64_in ((i - 1) * a) (by omega), hm, Int.tdiv_eq_ediv_of_nonneg b1, Int.tdiv_eq_ediv_of_nonneg b3]
  have d1 : 0 ≤ i * a / b := Int.ediv_nonneg b1 (by omega)
  have d2 : i * a / b ≤ i * a := Int.ediv_le_self _ b1
  have d3 : 0 ≤ (i - 1) * a / b := Int.ediv_nonneg b3 (by omega)
  have d4 : (i - 1) * a / b ≤ (i - 1) * a := Int.ediv_le_self _ b3
  rw [IntWalk.i64_in (i * a / b) (by omega), IntWalk.i64_in ((i - 1) * a / b) (by omega), IntWalk.i64_in _ (by omega)]
  rfl
def carAt (p q a b i : Int) : Int := p * (i * a / b) - q * (i * a * p / (b * q))
def cars (p q a b s : Int) (n : Nat) : List Int := (List.range n).map fun j : Nat => carAt p q a b (s + j)
theorem cars_succ (p q a b s : Int) (n : Nat) : cars p q a b s (n + 1) = cars p q a b s n ++ [carAt p q a b (s + n)] := by simp [cars, List.range_succ]
theorem cars_len (p q a b s : Int) (n : Nat) : (cars p q a b s n).length = n := by simp [cars]
theorem car_bounds {p q a b i : Int} (hp : 1 ≤ p) (hp' : p ≤ 3) (hq : 1 ≤ q) (hq' : q ≤ 3) (hb : 1 ≤ b) (hb' : b ≤ 20) (ha : 0 ≤ a) (ha' : a ≤ 100) (h1 : 0 ≤ i) (h2 : i ≤ 1020) :
    0 ≤ i * a ∧ i * a ≤ 1020 * 100 ∧ 1 ≤ b * q ∧ b * q ≤ 20 * 3 ∧ 0 ≤ i * a * p ∧ i * a * p ≤ 1020 * 100 * 3 := by
  have b1 : 0 ≤ i * a := Int.mul_nonneg h1 ha
  have b2 : i * a ≤ 1020 * 100 := Int.mul_le_mul h2 ha' ha (by omega)
  have b3 : 1 * 1 ≤ b * q := Int.mul_le_mul hb hq (by omega) (by omega)
  exact ⟨b1, b2, by omega, Int.mul_le_mul hb' hq' (by omega) (by omega), Int.mul_nonneg b1 (by omega), Int.mul_le_mul b2 hp' (by omega) (by omega)⟩
theorem carAt_wraps {p q a b i m1 m2 : Int} (hp : 1 ≤ p) (hp' : p ≤ 3) (hq : 1 ≤ q) (hq' : q ≤ 3) (hb : 1 ≤ b) (hb' : b ≤ 20) (ha : 0 ≤ a) (ha' : a ≤ 100) (h1 : 0 ≤ i) (h2 : i ≤ 1020) (hm : m1 = i * a) (hm2 : m2 = b * q) :
    IntKind.i64.wrap (IntKind.i64.wrap (p * IntKind.i64.wrap (m1.tdiv b)) - IntKind.i64.wrap (q * IntKind.i64.wrap ((IntKind.i64.wrap (m1 * p)).tdiv m2))) = carAt p q a b i := by
  obtain ⟨b1, b2, b3, b4, b5, b6⟩ := car_bounds hp hp' hq hq' hb hb' ha ha' h1 h2
  subst hm hm2
  rw [IntWalk.i64_in (i * a * p) (by omega), Int.tdiv_eq_ediv_of_nonneg b1, Int.tdiv_eq_ediv_of_nonneg b5]
  have d1 : 0 ≤ i * a / b := Int.ediv_nonneg b1 (by omega)
  have d2 : i * a / b ≤ i * a := Int.ediv_le_self _ b1
  have d3 : 0 ≤ i * a * p / (b * q) := Int.ediv_nonneg b5 (by omega)
  have d4 : i * a * p / (b * q) ≤ i * a * p := Int.ediv_le_self _ b5
  have e1 : 0 ≤ p * (i * a / b) := Int.mul_nonneg (by omega) d1
  have e2 : p * (i * a / b) ≤ 3 * (1020 * 100) := Int.mul_le_mul hp' (by omega) d1 (by omega)
  have e3 : 0 ≤ q * (i * a * p / (b * q)) := Int.mul_nonneg (by omega) d3
  have e4 : q * (i * a * p / (b * q)) ≤ 3 * (1020 * 100 * 3) := Int.mul_le_mul hq' (by omega) d3 (by omega)
  rw [IntWalk.i64_in (i * a / b) (by omega), IntWalk.i64_in (i * a * p / (b * q)) (by omega), IntWalk.i64_in (p * (i * a / b)) (by omega), IntWalk.i64_in (q * (i * a * p / (b * q))) (by omega), IntWalk.i64_in _ (by omega)]
  rfl
end Go.Proofs.YtnoehaphbpkpjaaGreat
namespace Go.Proofs.YtnoehaphbpkpjaaGreat
open Go.RowKit
def codeB (s b : Bool) : Int := if s = true then (if b = true then 0 else 2) else 1
set_option maxRecDepth 100000 in
set_option maxHeartbeats 1000000 in
theorem setCode_c (c : Int) (ts : List T4) (A : Option Addr) (cx : Nat) (k : FuncId) (caps : Array Value) (b : Bool) (w : World) (hk : ∀ args w, Sem.run Tryz.prog (callFunc k args) w = .ok (.enter k args) w)
    (hT : TileCells w A ts) (hl : ts.length ≤ 1000000000) (hf : isSetB c ts = true → ∀ w1, Below w.heap.size w w1 → Calls Tryz.prog k caps w1 fun e w2 => e = .returned (.bool b) ∧ Below w1.heap.size w1 w2) :
    Calls Tryz.prog 41 #[.agg #[.int .i64 c, .slice A ts.length cx], .func (.func k) #[] caps] w fun e w' => e = .returned (.int .i64 (codeB (isSetB c ts) b)) ∧ Below w.heap.size w w' := by
  have HI := Lib.hid (fun w h => isSet_c c ts A cx w h hl)
  have HT := Lib.hid hT
  have HF := Lib.hid hf
  clear hT hf
  cases hs : isSetB c ts
  · rw [hs] at HI
    clear hs
    go_enter Tryz.func41, Tryz.ntmps41
    go_wp2_with fail
    refine (HI.out _ (HT.out.below (by (repeat (first | (with_reducible exact Below.refl _ _) | (with_reducible assumption) | (with_reducible refine below_al ?_) | (with_reducible refine below_dr ?_) | (with_reducible refine below_drN ?_) | (with_reducible refine below_set ?_ (by first | exact Nat.le_refl _ | (dsimp only; omega) | omega)) | (with_reducible refine below_tr (by with_reducible assumption) ?_)))))).mono ?_
    rintro e w1 ⟨rfl, hb1⟩
    go_wp2
    go_ret
    exact ⟨rfl, by (repeat (first | (with_reducible exact Below.refl _ _) | (with_reducible assumption) | (with_reducible refine below_al ?_) | (with_reducible refine below_dr ?_) | (with_reducible refine below_drN ?_) | (with_reducible refine below_set ?_ (by first | exact Nat.le_refl _ | (dsimp only; omega) | omega)) | (with_reducible refine below_tr (by with_reducible assumption) ?_)))⟩
  · rw [hs] at HI
    have HF2 := Lib.hid (HF.out hs)
    clear hs HF
    cases b
    all_goals
      go_enter Tryz.func41, Tryz.ntmps41
      go_wp2_with fail
      refine (HI.out _ (HT.out.below (by (repeat (first | (with_reducible exact Below.refl _ _) | (with_reducible assumption) | (with_reducible refine below_al ?_) | (with_reducible refine below_dr ?_) | (with_reducible refine below_drN ?_) | (with_reducible refine below_set ?_ (by first | exact Nat.le_refl _ | (dsimp only; omega) | omega)) | (with_reducible refine below_tr (by with_reducible assumption) ?_)))))).mono ?_
      rintro e w1 ⟨rfl, hb1⟩
      have Hw1 : Hid (Below w.heap.size w w1) := by (show Below _ _ _); (repeat (first | (with_reducible exact Below.refl _ _) | (with_reducible assumption) | (with_reducible refine below_al ?_) | (with_reducible refine below_dr ?_) | (with_reducible refine below_drN ?_) | (with_reducible refine below_set ?_ (by first | exact Nat.le_refl _ | (dsimp only; omega) | omega)) | (with_reducible refine below_tr (by with_reducible assumption) ?_)))
      clear hb1
      go_wp2_with fail
      refine (HF2.out _ Hw1.out).mono ?_
      rintro e w2 ⟨rfl, hb2⟩
      go_wp2
      go_ret
      exact ⟨rfl, Hw1.out.trans (hb2.mono Hw1.out.size)⟩
end Go.Proofs.YtnoehaphbpkpjaaGreat
namespace Go.Proofs.YtnoehaphbpkpjaaGreat
open Go.RowKit
/-- every number of every tile is in 0..5 -/
def Small (ts : List T4) : Prop := ∀ k (h : k < ts.length), (0 ≤ ts[k].a ∧ ts[k].a ≤ 5) ∧ (0 ≤ ts[k].b ∧ ts[k].b ≤ 5) ∧ (0 ≤ ts[k].c ∧ ts[k].c ≤ 5) ∧ (0 ≤ ts[k].d ∧ ts[k].d ≤ 5)
theorem isSetB_parts {c : Int} {ts : List T4} (h : isSetB c ts = true) : (∀ j, j < ts.length → okAt c ts j = true) ∧ (1 ≤ c ∧ c ≤ 6) ∧ ts.length ≤ 16 := by
  unfold isSetB at h
  simp only [Bool.and_eq_true, List.all_eq_true, List.mem_range, inR_iff, decide_eq_true_eq] at h
  exact ⟨h.1.1, h.1.2, h.2⟩
theorem isSetB_small {c : Int} {ts : List T4} (h : isSetB c ts = true) : Small ts ∧ ts.length ≤ 16 := by
  obtain ⟨h1, h2, h3⟩ := isSetB_parts h
  refine ⟨fun k hk => ?_, h3⟩
  have h4 := h1 k hk
  unfold okAt at h4
  simp only [Bool.and_eq_true] at h4
  have h5 := h4.1
  rw [getD_at hk] at h5
  have hw : wrap64 (c - 1) = c - 1 := by unfold wrap64; omega
  simp only [isTileB, T4.l, List.all_cons, List.all_nil, Bool.and_eq_true, inR_iff, hw] at h5
  omega
def tA (ts : List T4) (k : Int) : T4 := ts.getD k.toNat default
def balAt (ts : List T4) (p q k : Int) : Int := p * (tA ts k).b - q * (tA ts k).d
def balSum (ts : List T4) (p q : Int) (row : List Int) : Int := (row.map (balAt ts p q)).sum
def balV (ts : List T4) (row : List Int) (p q : Int) : Int := (tA ts (row.getD 0 0)).a - (tA ts (row.getD (row.length - 1) 0)).c + balSum ts p q row
def InRow (ts : List T4) (row : List Int) : Prop := ∀ j (h : j < row.length), 0 ≤ row[j] ∧ row[j] < ts.length
theorem tA_nat (ts : List T4) (m : Nat) (h : m < ts.length) : tA ts (m : Int) = ts[m] := by simp [tA, h]
theorem balAt_bound {ts : List T4} (hS : Small ts) {p q k : Int} (hp : 1 ≤ p) (hp' : p ≤ 5) (hq : 1 ≤ q) (hq' : q ≤ 5) (hk : 0 ≤ k) (hk' : k < ts.length) : -25 ≤ balAt ts p q k ∧ balAt ts p q k ≤ 25 := by
  obtain ⟨m, rfl⟩ := Int.eq_ofNat_of_zero_le hk
  have hm : m < ts.length := by omega
  unfold balAt
  rw [tA_nat ts m hm]
  obtain ⟨_, ⟨b1, b2⟩, _, d1, d2⟩ := hS m hm
  have e1 : 0 ≤ p * ts[m].b := Int.mul_nonneg (by omega) b1
  have e2 : p * ts[m].b ≤ 5 * 5 := Int.mul_le_mul hp' b2 b1 (by omega)
  have e3 : 0 ≤ q * ts[m].d := Int.mul_nonneg (by omega) d1
  have e4 : q * ts[m].d ≤ 5 * 5 := Int.mul_le_mul hq' d2 d1 (by omega)
  omega
theorem balSum_succ (ts : List T4) (p q : Int) (row : List Int) (k : Nat) (hk : k < row.length) : balSum ts p q (row.take (k + 1)) = balSum ts p q (row.take k) + balAt ts p q row[k] := by
  unfold balSum
  rw [List.take_succ_eq_append_getElem hk, List.map_append, List.sum_append]
  simp
theorem balSum_bound {ts : List T4} (hS : Small ts) {p q : Int} (hp : 1 ≤ p) (hp' : p ≤ 5) (hq : 1 ≤ q) (hq' : q ≤ 5) {row : List Int} (hr : InRow ts row) : ∀ k, k ≤ row.length → -(25 * k : Int) ≤ balSum ts p q (row.take k) ∧ balSum ts p q (row.take k) ≤ 25 * k
  | 0, _ => by simp [balSum]
  | k + 1, hk => by
    have h1 := balSum_bound hS hp hp' hq hq' hr k (by omega)
    have h2 := hr k (by omega)
    have h3 := balAt_bound hS hp hp' hq hq' h2.1 h2.2
    rw [balSum_succ ts p q row k (by omega)]
    omega
end Go.Proofs.YtnoehaphbpkpjaaGreat
namespace Go.Proofs.YtnoehaphbpkpjaaGreat
open Go.RowKit
theorem infoSl : (Tryz.prog.info? 39).map (fun i => (i.zero, i.size, i.bytes)) = some (some (.slice none 0 0), 1, 24) := by kernel_rfl
/-- a slice of slices of numbers reads as a list of lists -/
def RowsC (w : World) (B : Option Addr) (L : List (List Int)) : Prop :=
  ∀ k (h : k < L.length), ∃ b off A cx, B = some ⟨b, off, none⟩ ∧ b < w.heap.size ∧ w.cell? ⟨b, off + k, none⟩ = some (.slice A L[k].length cx) ∧ Cells w A (ints L[k])
theorem RowsC.below {w w1 : World} {B : Option Addr} {L : List (List Int)} (h : RowsC w B L) (hb : Below w.heap.size w w1) : RowsC w1 B L := by
  intro k hk
  obtain ⟨b, off, A, cx, e, hlt, hc, hr⟩ := h k hk
  exact ⟨b, off, A, cx, e, Nat.lt_of_lt_of_le hlt hb.size, (hb.cell (p := ⟨b, _, none⟩) hlt).trans hc, hr.below hb⟩
theorem RowsC.pair {w : World} {b off : Nat} {L : List (List Int)} (h : RowsC w (some ⟨b, off, none⟩) L) (k : Nat) (hk : k < L.length) : ∃ A cx, w.cell? ⟨b, off + k, none⟩ = some (.slice A L[k].length cx) ∧ Cells w A (ints L[k]) := by
  obtain ⟨b', off', A, cx, e, hlt, hc, hr⟩ := h k hk
  injection e with e
  injection e with e1 e2
  subst e1 e2
  exact ⟨A, cx, hc, hr⟩
def tot (L : List (List Int)) : Nat := (L.map List.length).sum
theorem tot_take {L : List (List Int)} {k : Nat} (hk : k < L.length) : tot (L.take (k + 1)) = tot (L.take k) + L[k].length := by
  unfold tot; rw [List.take_succ_eq_append_getElem hk, List.map_append, List.sum_append]; simp
def Short (n : Nat) (L : List (List Int)) : Prop := ∀ k (h : k < L.length), L[k].length ≤ n
/-- a slice of slices of numbers that the call made and owns, its rows apart from each other -/
def OwnII (w : World) (B : Nat) (v : Value) (L : List (List Int)) : Prop :=
  ∃ vs : List Value, w.ownsRow B 39 1 v L.length vs ∧ (∀ i (h : i < vs.length) (h' : i < L.length), OwnI w B vs[i] L[i]) ∧
    (∀ i j (h : i < vs.length) (h' : j < vs.length), i ≠ j → Apart vs[i] vs[j]) ∧ ∀ i (h : i < vs.length), Apart vs[i] v
theorem OwnI.setOther {w : World} {B : Nat} {v : Value} {xs : List Int} (h : OwnI w B v xs) (a : Addr) (ha : a.block < B) (u : Value) : OwnI (w.setCell a u) B v xs :=
  World.ownsRow.kept (row := some a.block) h ⟨rfl, rfl, rfl, by simp, fun k hk hne => Below.heap_setCell w a u k (fun e => hne (by simp [e]))⟩ (by
    cases e : v.ownBlock with
    | none => exact .inl rfl
    | some k => right; have := (World.ownsRow.lt h k e).1; intro e2; injection e2 with e2; omega)
theorem OwnII.rows {w : World} {B : Nat} {v : Value} {L : List (List Int)} (h : OwnII w B v L) : ∃ A cx, v = .slice A L.length cx ∧ RowsC w A L := by
  obtain ⟨vs, h1, h2, _⟩ := h
  have hl : vs.length = L.length := by have := h1.1; omega
  obtain ⟨_, h3⟩ := h1
  rcases h3 with ⟨rfl, h3⟩ | ⟨g, cap, cur, rfl, e2, e3, e4, e5, e6, e7⟩
  · exact ⟨none, 0, by rw [h3], fun k hk => by omega⟩
  · refine ⟨some ⟨g, 0, none⟩, cap, rfl, fun k hk => ?_⟩
    obtain ⟨A, cx, e, hc, _⟩ := (h2 k (by omega) hk).shape
    refine ⟨g, 0, A, cx, rfl, (Array.getElem?_eq_some_iff.1 e3).1, ?_, hc⟩
    rw [Nat.zero_add]
    unfold World.cell?
    simp only [e3]
    have hk2 : k < vs.length := by omega
    have h9 : (cur.toList.take (L.length * 1))[k]? = some (vs[k]'hk2) := by rw [e7]; exact List.getElem?_eq_getElem hk2
    rw [List.getElem?_take] at h9
    simp [hk] at h9
    simp [h9, e]
def eqII (xs ys : List (List Int)) : Bool := decide (xs = ys)
theorem eqII_refl (xs : List (List Int)) : eqII xs xs = true := by simp [eqII]
theorem eqII_len {xs ys : List (List Int)} (h : xs.length ≠ ys.length) : eqII xs ys = false := by
  simp only [eqII, decide_eq_false_iff_not]; intro e; exact h (by rw [e])
theorem eqII_bad {xs ys : List (List Int)} {k : Nat} (h1 : k < xs.length) (h2 : k < ys.length) (h : eqI xs[k] ys[k] = false) : eqII xs ys = false := by
  simp only [eqII, decide_eq_false_iff_not]; intro e; subst e; simp [eqI] at h
theorem eqII_all {xs ys : List (List Int)} (hl : xs.length = ys.length) (h : ∀ j (h1 : j < xs.length) (h2 : j < ys.length), eqI xs[j] ys[j] = true) : eqII xs ys = true := by
  simp only [eqII, decide_eq_true_eq]
  exact List.ext_getElem hl fun j h1 h2 => by simpa [eqI] using h j h1 h2
end Go.Proofs.YtnoehaphbpkpjaaGreat
namespace Go.Proofs.YtnoehaphbpkpjaaGreat
open Go.RowKit
theorem ownsRow_same {w w' : World} {B : Nat} {e : TypeId} {size : Nat} {v : Value} {n : Nat} {xs : List Value} (h : w.ownsRow B e size v n xs) (hs : ∀ k, v.ownBlock = some k → w'.heap[k]? = w.heap[k]?) : w'.ownsRow B e size v n xs := by
  obtain ⟨h1, h2⟩ := h
  refine ⟨h1, ?_⟩
  rcases h2 with h2 | ⟨g, cap, cur, rfl, e2, e3, e4⟩
  · exact .inl h2
  · exact .inr ⟨g, cap, cur, rfl, e2, (hs g rfl).trans e3, e4⟩
theorem OwnI.same {w w' : World} {B : Nat} {v : Value} {xs : List Int} (h : OwnI w B v xs) (hs : ∀ k, B ≤ k → k < w.heap.size → w'.heap[k]? = w.heap[k]?) : OwnI w' B v xs :=
  ownsRow_same h fun k hk => hs k (World.ownsRow.lt h k hk).1 (World.ownsRow.lt h k hk).2
/-- as OwnII, and the blocks of the rows lie ahead of N -/
def OwnN (w : World) (B N : Nat) (v : Value) (L : List (List Int)) : Prop :=
  ∃ vs : List Value, w.ownsRow B 39 1 v L.length vs ∧ (∀ i (h : i < vs.length) (h' : i < L.length), OwnI w B vs[i] L[i]) ∧
    (∀ i j (h : i < vs.length) (h' : j < vs.length), i ≠ j → Apart vs[i] vs[j]) ∧ (∀ i (h : i < vs.length), Apart vs[i] v) ∧ ∀ i (h : i < vs.length) k, vs[i].ownBlock = some k → k < N
theorem OwnII.toN {w : World} {B : Nat} {v : Value} {L : List (List Int)} (h : OwnII w B v L) : OwnN w B w.heap.size v L := by
  obtain ⟨vs, h1, h2, h3, h4⟩ := h
  have hl : vs.length = L.length := by have := h1.1; omega
  exact ⟨vs, h1, h2, h3, h4, fun i hi k hk => (World.ownsRow.lt (h2 i hi (by omega)) k hk).2⟩
theorem OwnN.toII {w : World} {B N : Nat} {v : Value} {L : List (List Int)} (h : OwnN w B N v L) : OwnII w B v L := by
  obtain ⟨vs, h1, h2, h3, h4, _⟩ := h
  exact ⟨vs, h1, h2, h3, h4⟩
theorem OwnN.same {w w' : World} {B N : Nat} {v : Value} {L : List (List Int)} (h : OwnN w B N v L) (hs : ∀ k, B ≤ k → k < w.heap.size → w'.heap[k]? = w.heap[k]?) : OwnN w' B N v L := by
  obtain ⟨vs, h1, h2, h3, h4, h5⟩ := h
  exact ⟨vs, ownsRow_same h1 fun k hk => hs k (World.ownsRow.lt h1 k hk).1 (World.ownsRow.lt h1 k hk).2, fun i hi hi' => (h2 i hi hi').same hs, h3, h4, h5⟩
theorem OwnII.same {w w' : World} {B : Nat} {v : Value} {L : List (List Int)} (h : OwnII w B v L) (hs : ∀ k, B ≤ k → k < w.heap.size → w'.heap[k]? = w.heap[k]?) : OwnII w' B v L := by
  obtain ⟨vs, h1, h2, h3, h4⟩ := h
  exact ⟨vs, ownsRow_same h1 fun k hk => hs k (World.ownsRow.lt h1 k hk).1 (World.ownsRow.lt h1 k hk).2, fun i hi hi' => (h2 i hi hi').same hs, h3, h4⟩
/-- only blocks from B on and ahead of N may have changed, and new ones may have come -/
structure Touch (B N : Nat) (w w' : World) : Prop where
  os : w'.os = w.os
  tape : w'.tape = w.tape
  output : w'.output = w.output
  size : w.heap.size ≤ w'.heap.size
  block : ∀ k, k < w.heap.size → (k < B ∨ N ≤ k) → w'.heap[k]? = w.heap[k]?
theorem Touch.refl (B N : Nat) (w : World) : Touch B N w w := ⟨rfl, rfl, rfl, Nat.le_refl _, fun _ _ _ => rfl⟩
theorem Touch.grow {B N : Nat} {w w1 w2 : World} {row : Option Nat} (h : Touch B N w w1) (hg : w1.grownBy w2 row) (hr : ∀ k, row = some k → B ≤ k ∧ k < N) : Touch B N w w2 := by
  obtain ⟨g1, g2, g3, g4, g5⟩ := hg
  refine ⟨g1.trans h.os, g2.trans h.tape, g3.trans h.output, Nat.le_trans h.size g4, fun k hk hkk => (g5 k (Nat.lt_of_lt_of_le hk h.size) fun e => ?_).trans (h.block k hk hkk)⟩
  have := hr k e.symm
  omega
theorem Touch.below {B N : Nat} {w w' : World} (h : Touch B N w w') (hB : B ≤ w.heap.size) : Below B w w' := ⟨h.os, h.tape, h.output, Nat.le_trans hB h.size |> fun _ => h.size, fun k hk => h.block k (by omega) (.inl hk)⟩
theorem Touch.one {w w' : World} {b : Nat} (h : w.grownBy w' (some b)) : Touch b (b + 1) w w' := (Touch.refl _ _ _).grow h (fun k hk => by injection hk with hk; omega)
theorem OwnII.kept {w w' : World} {B : Nat} {v : Value} {L : List (List Int)} {row : Option Nat} (h : OwnII w B v L) (hg : w.grownBy w' row) (hr : ∀ k, row = some k → k < B) : OwnII w' B v L := by
  obtain ⟨vs, h1, h2, h3, h4⟩ := h
  have ne : ∀ (u : Value) (n : Nat) (xs : List Value) (e : TypeId) (s : Nat), w.ownsRow B e s u n xs → u.ownBlock = none ∨ u.ownBlock ≠ row := fun u n xs e s ho => by
    cases eu : u.ownBlock with
    | none => exact .inl rfl
    | some k =>
      right
      have := (World.ownsRow.lt ho k eu).1
      intro e2
      have := hr k e2.symm
      omega
  exact ⟨vs, World.ownsRow.kept h1 hg (ne _ _ _ _ _ h1), fun i hi hi' => World.ownsRow.kept (h2 i hi hi') hg (ne _ _ _ _ _ (h2 i hi hi')), h3, h4⟩
theorem OwnII.below {w w1 : World} {B : Nat} {v : Value} {L : List (List Int)} (h : OwnII w B v L) (hb : Below w.heap.size w w1) : OwnII w1 B v L := by
  obtain ⟨vs, h1, h2, h3, h4⟩ := h
  refine ⟨vs, ?_, fun i hi hi' => (h2 i hi hi').below hb, h3, h4⟩
  exact World.ownsRow.kept (row := none) h1 ⟨hb.os, hb.tape, hb.output, hb.size, fun k hk _ => hb.block k hk⟩ (by cases h : v.ownBlock with | none => exact .inl rfl | some k => exact .inr (by simp))
theorem OwnII.weaken {w : World} {B B' : Nat} {v : Value} {L : List (List Int)} (h : OwnII w B v L) (hB : B' ≤ B) : OwnII w B' v L := by
  obtain ⟨vs, ⟨a1, a2⟩, h2, h3, h4⟩ := h
  refine ⟨vs, ⟨a1, ?_⟩, fun i hi hi' => (h2 i hi hi').weaken hB, h3, h4⟩
  rcases a2 with a2 | ⟨g, cap, cur, e1, e2, e3⟩
  · exact .inl a2
  · exact .inr ⟨g, cap, cur, e1, Nat.le_trans hB e2, e3⟩
theorem OwnII.nil (w : World) (B : Nat) : OwnII w B (.slice none 0 0) [] := ⟨[], World.ownsRow_nil _ _ _ _, fun i h => by simp at h, fun i j h => by simp at h, fun i h => by simp at h⟩
theorem OwnII.empty {w : World} {B g : Nat} (hg : w.heap.size = g) (hB : B ≤ w.heap.size) : OwnII (w.alloc (.cells #[] 39)) B (.slice (some ⟨g, 0, none⟩) 0 0) [] := by
  subst hg
  exact ⟨[], World.ownsRow_lit (base := B) (e := 39) (size := 1) w #[] 0 hB (by simp [maxLen]) (by simp), fun i h => by simp at h, fun i j h => by simp at h, fun i h => by simp at h⟩
theorem OwnI.to2 {w w1 : World} {B : Nat} {v : Value} {xs : List Int} (h : OwnI w B v xs) (hb : Below w.heap.size w w1) : OwnI w1 B v xs := h.below hb
/-- a list of numbers, new, is appended to an owned list of lists -/
theorem app_row {o : Oper} {a : Act} {W0 W : World} {K : Act → World → Prop} {Q : Exit → Act → World → Prop} (s x : Operand)
    (ho : o.op = .call { callee := .builtin .append, args := #[s, x], argTypes := #[42, 42] }) (B : Nat) (v : Value) (L : List (List Int)) (u : Value) (xs : List Int) (hs : a.eval s = v) (hown : OwnII W0 B v L)
    (hW : Below W0.heap.size W0 W) (hu : OwnI W W0.heap.size u xs)
    (b off : Nat) (hx : a.eval x = .slice (some ⟨b, off, none⟩) 1 1) (hc : W.cell? ⟨b, off, none⟩ = some u) (hl : L.length ≤ 1000000000000) (hB : B ≤ W0.heap.size)
    (h : ∀ v' w', OwnII w' B v' (L ++ [xs]) → W.grownBy w' v.ownBlock → (∀ k, v.ownBlock = some k → B ≤ k) → K (a.put o.dst v') w') : o.wp Tryz.prog a W K Q := by
  obtain ⟨vs, g1, g2, h3, h4⟩ := hown
  have h1 : W.ownsRow B 39 1 v L.length vs := World.ownsRow.kept (row := none) g1 ⟨hW.os, hW.tape, hW.output, hW.size, fun k hk _ => hW.block k hk⟩ (by cases h : v.ownBlock with | none => exact .inl rfl | some k => exact .inr (by simp))
  have h2 : ∀ i (h : i < vs.length) (h' : i < L.length), OwnI W B vs[i] L[i] := fun i h h' => (g2 i h h').below hW
  have hvl : vs.length = L.length := by have := h1.1; omega
  refine app_gen s x 42 39 (.slice none 0 0) 1 24 ho Tryz.underlying42 infoSl rfl (by decide) B v L.length vs hs h1 ⟨b, off, none⟩ 1 1 [u] hx rfl ?_ ?_ ?_ ?_ (Nat.le_trans hB hW.size) ?_
  · intro j z hj
    cases j with
    | zero => simp at hj; subst hj; simpa [Addr.add] using hc
    | succ j => simp at hj
  · intro z hz
    simp at hz; subst hz
    obtain ⟨A, cx, rfl, _⟩ := hu.shape
    rfl
  · simp [maxLen]; omega
  · omega
  · intro v' w' k1 k2 k3
    have hvb := World.ownsRow.lt h1
    have hub := World.ownsRow.lt hu
    have hvb0 : ∀ k, v.ownBlock = some k → k < W0.heap.size := fun k hk => (World.ownsRow.lt g1 k hk).2
    have huv : Apart u v := by
      cases eu : u.ownBlock with
      | none => exact .inl eu
      | some k =>
        right; rw [eu]; intro e
        have := (hub k eu).1
        have := hvb0 k e.symm
        omega
    refine h v' w' ⟨vs ++ [u], by rw [List.length_append]; exact k1, fun i hi hi' => ?_, fun i j hi hj hij => ?_, fun i hi => ?_⟩ k2 (fun k hk => (hvb k hk).1)
    · by_cases e : i < vs.length
      · have e' : i < L.length := by omega
        rw [List.getElem_append_left e, List.getElem_append_left e']
        exact (h2 i e e').grown k2 (h4 i e)
      · have ei : i = vs.length := by simp at hi; omega
        subst ei
        rw [List.getElem_append_right (Nat.le_refl _), List.getElem_append_right (by omega)]
        simp only [Nat.sub_self, List.getElem_cons_zero, hvl]
        exact (hu.weaken hB).grown k2 huv
    · have far : ∀ q (hq : q < vs.length), Apart vs[q] u := fun q hq => (own_apart (g2 q hq (by omega)) hu).1
      by_cases e : i < vs.length
      · by_cases e2 : j < vs.length
        · rw [List.getElem_append_left e, List.getElem_append_left e2]; exact h3 i j e e2 hij
        · rw [List.getElem_append_left e, List.getElem_append_right (by omega)]
          simp only [show j - vs.length = 0 by simp at hj; omega, List.getElem_cons_zero]
          exact far i e
      · have e2 : j < vs.length := by simp at hi hj; omega
        rw [List.getElem_append_left e2, List.getElem_append_right (by omega)]
        simp only [show i - vs.length = 0 by simp at hi; omega, List.getElem_cons_zero]
        exact (far j e2).symm
    · by_cases e : i < vs.length
      · rw [List.getElem_append_left e]
        exact ((h4 i e).symm.app (h2 i e (by omega)).blt k3).symm
      · rw [List.getElem_append_right (by omega)]
        simp only [show i - vs.length = 0 by simp at hi; omega, List.getElem_cons_zero]
        exact (huv.symm.app hu.blt k3).symm
theorem wpl_app_row {ops : Array Oper} {rest : List Oper} {o : Oper} {a : Act} {W0 W : World} {Q : Exit → Act → World → Prop} (hgd : o.guard = none) (s x : Operand)
    (ho : o.op = .call { callee := .builtin .append, args := #[s, x], argTypes := #[42, 42] }) (B : Nat) (v : Value) (L : List (List Int)) (u : Value) (xs : List Int) (hs : a.eval s = v) (hown : OwnII W0 B v L)
    (hW : Below W0.heap.size W0 W) (hu : OwnI W W0.heap.size u xs)
    (b off : Nat) (hx : a.eval x = .slice (some ⟨b, off, none⟩) 1 1) (hc : W.cell? ⟨b, off, none⟩ = some u) (hl : L.length ≤ 1000000000000) (hB : B ≤ W0.heap.size)
    (h : ∀ v' w', OwnII w' B v' (L ++ [xs]) → W.grownBy w' v.ownBlock → (∀ k, v.ownBlock = some k → B ≤ k) → wpList Tryz.prog ops Q rest (a.put o.dst v') w') : wpList Tryz.prog ops Q (o :: rest) a W :=
  wpList_plain hgd fun _ hK => app_row s x ho B v L u xs hs hown hW hu b off hx hc hl hB fun v' w' h1 h2 h3 => hK _ _ (h v' w' h1 h2 h3)
/-- a number of a list of lists that the call owns: where it lies, and what a store into it makes -/
theorem OwnII.at2 {w : World} {B n cx : Nat} {A : Option Addr} {L : List (List Int)} (h : OwnII w B (.slice A n cx) L) (i : Nat) (hi : i < L.length) (j : Nat) (hj : j < L[i].length) :
    ∃ gv g cr, A = some ⟨gv, 0, none⟩ ∧ B ≤ gv ∧ gv < w.heap.size ∧ w.cell? ⟨gv, i, none⟩ = some (.slice (some ⟨g, 0, none⟩) L[i].length cr) ∧ B ≤ g ∧ g < w.heap.size ∧ w.cell? ⟨g, j, none⟩ = some (.int .i64 L[i][j]) ∧ w.frozen? ⟨g, j, none⟩ = false ∧
      ∀ y, OwnII (w.setCell ⟨g, j, none⟩ (.int .i64 y)) B (.slice A n cx) (L.set i (L[i].set j y)) := by
  obtain ⟨vs, h1, h2, h3, h4⟩ := h
  have hvl : vs.length = L.length := by have := h1.1; omega
  have hO := h2 i (by omega) hi
  obtain ⟨Ai, ci, ei, _⟩ := hO.shape
  have hO' : OwnI w B (.slice Ai L[i].length ci) L[i] := by rw [← ei]; exact hO
  obtain ⟨g, rfl, hg1, hg2, hc, hf⟩ := hO'.at_ j hj
  obtain ⟨gv, rfl, hgv1, hgv2⟩ : ∃ gv, A = some ⟨gv, 0, none⟩ ∧ B ≤ gv ∧ gv < w.heap.size := by
    rcases h1.2 with ⟨_, e0⟩ | ⟨gv, cap, cur, e1, e2, e3, _⟩
    · omega
    · injection e1 with a1 _ _
      exact ⟨gv, a1, e2, (Array.getElem?_eq_some_iff.1 e3).1⟩
  have hn : n = L.length := by
    rcases h1.2 with ⟨e0, _⟩ | ⟨gv', cap, cur, e1, _⟩
    · cases e0
    · injection e1
  subst hn
  refine ⟨gv, g, ci, rfl, hgv1, hgv2, ?_, hg1, hg2, hc, hf, fun y => ?_⟩
  · rw [World.ownsRow.cellAt h1 i (by omega), List.getElem?_eq_getElem (by omega), ei]
  · have hb : vs[i].ownBlock = some g := by rw [ei]; rfl
    have hgr := grownBy_store w g j (.int .i64 y)
    refine ⟨vs, ?_, fun k hk hk' => ?_, h3, h4⟩
    · rw [List.length_set]
      refine World.ownsRow.kept h1 hgr (.inr ?_)
      rcases h4 i (by omega) with e | e
      · rw [hb] at e; cases e
      · rw [hb] at e; exact fun e2 => e e2.symm
    · by_cases e : k = i
      · subst e
        have hs := (hO'.set j y).1
        rw [List.getElem_set_self]
        rw [← ei] at hs
        exact hs
      · rw [List.getElem_set_ne (fun e2 => e e2.symm)]
        refine World.ownsRow.kept (h2 k hk (by simpa using hk')) hgr ?_
        rcases h3 k i hk (by omega) e with e3 | e3
        · exact .inl e3
        · rw [hb] at e3; exact .inr e3

end Go.Proofs.YtnoehaphbpkpjaaGreat
namespace Go.Proofs.YtnoehaphbpkpjaaGreat
open Go.RowKit
def rowOk (n : Nat) (row : List Int) : Bool := row.length == 4 && row.all (inR 0 ((n : Int) - 1))
def areBlocksB (n : Nat) (L : List (List Int)) : Bool := L.all (rowOk n) && L.length == n
theorem areBlocksB_bad {n : Nat} {L : List (List Int)} {k : Nat} (hk : k < L.length) (h : rowOk n L[k] = false) : areBlocksB n L = false := by
  unfold areBlocksB
  have : L.all (rowOk n) = false := by
    rw [List.all_eq_false]
    exact ⟨L[k], List.getElem_mem hk, by simp [h]⟩
  simp [this]
theorem areBlocksB_all {n : Nat} {L : List (List Int)} (h : ∀ j (hj : j < L.length), rowOk n L[j] = true) : areBlocksB n L = (L.length == n) := by
  unfold areBlocksB
  have : L.all (rowOk n) = true := by
    rw [List.all_eq_true]
    intro x hx
    obtain ⟨j, hj, rfl⟩ := List.getElem_of_mem hx
    exact h j hj
  simp [this]
/-- blocks: as many as tiles, each of four numbers of tiles -/
def Blocks (n : Nat) (L : List (List Int)) : Prop := L.length = n ∧ ∀ k (h : k < L.length), ∃ hl : L[k].length = 4, ∀ j (hj : j < L[k].length), 0 ≤ L[k][j] ∧ L[k][j] < n
theorem areBlocksB_iff {n : Nat} {L : List (List Int)} (h : areBlocksB n L = true) : Blocks n L := by
  unfold areBlocksB at h
  rw [Bool.and_eq_true, List.all_eq_true] at h
  refine ⟨by simpa using h.2, fun k hk => ?_⟩
  have h1 := h.1 _ (List.getElem_mem hk)
  unfold rowOk at h1
  rw [Bool.and_eq_true, List.all_eq_true] at h1
  refine ⟨by simpa using h1.1, fun j hj => ?_⟩
  have h2 := h1.2 _ (List.getElem_mem hj)
  rw [inR_iff] at h2
  omega
end Go.Proofs.YtnoehaphbpkpjaaGreat
