/- Contracts and lemmas for the statements of this seat, written for this claim; each theorem states its own conditions. -/
import Derived.Test.YtkgnejhflnekaaaGreatTcL1
import Derived.Test.YtkgnejhflnekaaaGreatTcBk
set_option linter.unusedVariables false
set_option linter.unusedSimpArgs false
namespace Go.Proofs.YtkgnejhflnekaaaGreat
open Go.RowKit
/-- a set as it lies in memory -/
structure SD where
  c : Int
  ts : List T4
  A : Option Addr
  cx : Nat
def SD.v (s : SD) : Value := .slice s.A s.ts.length s.cx
def SD.ok (w : World) (s : SD) : Prop := TileCells w s.A s.ts ∧ s.ts.length ≤ 1000000000
theorem SD.ok.below {w w1 : World} {s : SD} (h : s.ok w) (hb : Below w.heap.size w w1) : s.ok w1 := ⟨h.1.below hb, h.2⟩
def SetsCells (w : World) (A : Option Addr) (l : List SD) : Prop :=
  ∀ k (h : k < l.length), ∃ b off, A = some ⟨b, off, none⟩ ∧ b < w.heap.size ∧ w.cell? ⟨b, off + k * 2, none⟩ = some (.int .i64 l[k].c) ∧ w.cell? ⟨b, off + k * 2 + 1, none⟩ = some (.slice l[k].A l[k].ts.length l[k].cx)
theorem SetsCells.below {w w1 : World} {A : Option Addr} {l : List SD} (h : SetsCells w A l) (hb : Below w.heap.size w w1) : SetsCells w1 A l := by
  intro k hk
  obtain ⟨b, off, hA, hlt, h0, h1⟩ := h k hk
  exact ⟨b, off, hA, Nat.lt_of_lt_of_le hlt hb.size, (hb.cell (p := ⟨b, _, none⟩) hlt).trans h0, (hb.cell (p := ⟨b, _, none⟩) hlt).trans h1⟩
theorem setsCells2 {w : World} {b : Nat} {s t : SD} (hlt : b < w.heap.size) (h0 : w.cell? ⟨b, 0, none⟩ = some (.int .i64 s.c)) (h1 : w.cell? ⟨b, 1, none⟩ = some (.slice s.A s.ts.length s.cx))
    (h2 : w.cell? ⟨b, 2, none⟩ = some (.int .i64 t.c)) (h3 : w.cell? ⟨b, 3, none⟩ = some (.slice t.A t.ts.length t.cx)) : SetsCells w (some ⟨b, 0, none⟩) [s, t] := by
  intro k hk
  simp only [List.length_cons, List.length_nil] at hk
  rcases k with _ | _ | k
  · exact ⟨b, 0, rfl, hlt, h0, h1⟩
  · exact ⟨b, 0, rfl, hlt, h2, h3⟩
  · omega
def PredS (w : World) (k : FuncId) (caps : Array Value) (p : SD → Bool) (l : List SD) : Prop :=
  ∀ s ∈ l, ∀ w1, Below w.heap.size w w1 → Calls Tryz.prog k (#[.agg #[.int .i64 s.c, .slice s.A s.ts.length s.cx]] ++ caps) w1 fun e w2 => e = .returned (.bool (p s)) ∧ Below w1.heap.size w1 w2
def idxS (p : SD → Bool) (l : List SD) : Int := match l.findIdx? p with | some i => (i : Int) | none => -1
theorem idxS_none {p : SD → Bool} {xs : List SD} (h : ∀ j (h : j < xs.length), p xs[j] = false) : idxS p xs = -1 := by
  have : xs.findIdx? p = none := by
    rw [List.findIdx?_eq_none_iff]
    intro x hx
    obtain ⟨j, hj, rfl⟩ := List.getElem_of_mem hx
    exact h j hj
  simp [idxS, this]
theorem idxS_some {p : SD → Bool} {xs : List SD} {i : Nat} (hi : i < xs.length) (h : ∀ j (h : j < xs.length), j < i → p xs[j] = false) (hp : p xs[i] = true) : idxS p xs = i := by
  have : xs.findIdx? p = some i := by
    rw [List.findIdx?_eq_some_iff_getElem]
    exact ⟨hi, hp, fun j hj => by simp [h j (by omega) hj]⟩
  simp [idxS, this]
set_option maxRecDepth 100000 in
set_option maxHeartbeats 1000000 in
theorem indexFuncS_c (xs : List SD) (A : Option Addr) (cx : Nat) (k : FuncId) (caps : Array Value) (p : SD → Bool) (w : World)
    (hk : ∀ args w, Sem.run Tryz.prog (callFunc k args) w = .ok (.enter k args) w) (hx : SetsCells w A xs) (hl : xs.length ≤ 1000000000) (hp : PredS w k caps p xs) :
    Calls Tryz.prog 203 #[.slice A xs.length cx, .func (.func k) #[] caps] w fun e w' =>
      e = .returned (.int .i64 (idxS p xs)) ∧ Below w.heap.size w w' := by
  go_enter Tryz.func203, Tryz.ntmps203
  go_wp2
  go_loopw [8] (fun i wr => ∃ k : Nat, k ≤ xs.length ∧ i = .int .i64 k ∧ Hid (∀ j (h : j < xs.length), j < k → p xs[j] = false) ∧ Below w.heap.size w wr) (fun i _ => xs.length - (intOf i).toNat)
  case atStart => exact ⟨0, by omega, rfl, fun j _ h => by omega, Below.refl _ _⟩
  case round =>
    obtain ⟨i, hi, rfl, Hn, hb⟩ := hrel
    by_cases h1 : i < xs.length
    · obtain ⟨b, off, rfl, hlt, c0, c1⟩ := (hx.below hb) i h1
      have Hc := Lib.hid (hp xs[i] (List.getElem_mem h1) wr hb)
      clear hp hx
      cases hpx : p xs[i]
      · have Hpx := Lib.hid hpx
        rw [hpx] at Hc
        clear hpx
        go_wp2_with fail
        refine Hc.out.mono ?_
        rintro e w1 ⟨rfl, hb1⟩
        go_wp2
        go_roundw
        case rel => exact ⟨i + 1, by omega, by go_num, fun j h hj => by
          by_cases e : j = i
          · subst e; exact Hpx.out
          · exact Hn.out j h (by omega), by (repeat (first | (with_reducible exact Below.refl _ _) | (with_reducible assumption) | (with_reducible refine below_al ?_) | (with_reducible refine below_dr ?_) | (with_reducible refine below_drN ?_) | (with_reducible refine below_set ?_ (by first | exact Nat.le_refl _ | (dsimp only; omega) | omega)) | (with_reducible refine below_tr (by with_reducible assumption) ?_)))⟩
        case measure => simp [intOf]; omega
      · have Hpx := Lib.hid hpx
        rw [hpx] at Hc
        clear hpx
        go_wp2_with fail
        refine Hc.out.mono ?_
        rintro e w1 ⟨rfl, hb1⟩
        go_wp2
        go_ret
        exact ⟨ret_int (idxS_some h1 Hn.out Hpx.out).symm, by (repeat (first | (with_reducible exact Below.refl _ _) | (with_reducible assumption) | (with_reducible refine below_al ?_) | (with_reducible refine below_dr ?_) | (with_reducible refine below_drN ?_) | (with_reducible refine below_set ?_ (by first | exact Nat.le_refl _ | (dsimp only; omega) | omega)) | (with_reducible refine below_tr (by with_reducible assumption) ?_)))⟩
    · go_wp2
      go_ret
      exact ⟨ret_int (idxS_none (fun j h => Hn.out j h (by omega))).symm, hb⟩
set_option maxRecDepth 100000 in
set_option maxHeartbeats 1000000 in
theorem containsFuncS_c (xs : List SD) (A : Option Addr) (cx : Nat) (k : FuncId) (caps : Array Value) (p : SD → Bool) (w : World)
    (hk : ∀ args w, Sem.run Tryz.prog (callFunc k args) w = .ok (.enter k args) w) (hx : SetsCells w A xs) (hl : xs.length ≤ 1000000000) (hp : PredS w k caps p xs) :
    Calls Tryz.prog 172 #[.slice A xs.length cx, .func (.func k) #[] caps] w fun e w' =>
      e = .returned (.bool (xs.any p)) ∧ Below w.heap.size w w' := by
  have hr : decide (0 ≤ idxS p xs) = xs.any p := by
    unfold idxS
    cases h : xs.findIdx? p with
    | none => simp [List.findIdx?_eq_none_iff] at h; simp; simpa using h
    | some i => obtain ⟨hi, h1, h2⟩ := List.findIdx?_eq_some_iff_getElem.1 h; simp; exact ⟨xs[i], List.getElem_mem hi, h1⟩
  have Hr := Lib.hid hr; clear hr
  have Hp := Lib.hid hp; clear hp
  have Hx := Lib.hid hx; clear hx
  go_enter Tryz.func172, Tryz.ntmps172
  go_wp2_with (go_at_call 203; refine (indexFuncS_c xs A cx k caps p w hk Hx.out hl Hp.out).mono ?_; rintro e w1 ⟨rfl, hb1⟩)
  go_ret
  exact ⟨ret_bool Hr.out, hb1⟩
set_option maxRecDepth 100000 in
set_option maxHeartbeats 1000000 in
theorem areSets1_c (c : Int) (ts : List T4) (A : Option Addr) (cx : Nat) (w : World) (hT : TileCells w A ts) (hl : ts.length ≤ 1000000000) :
    Calls Tryz.prog 173 #[.agg #[.int .i64 c, .slice A ts.length cx]] w fun e w' => e = .returned (.bool (!isSetB c ts)) ∧ Below w.heap.size w w' := by
  have H1 := Lib.hid (fun w h => isSet_c c ts A cx w h hl)
  have X1 := Lib.hid hT
  clear hT
  generalize isSetB c ts = p at *
  go_enter Tryz.func173, Tryz.ntmps173
  go_wp2_with fail
  refine (H1.out _ (X1.out.below (by (repeat (first | (with_reducible exact Below.refl _ _) | (with_reducible assumption) | (with_reducible refine below_al ?_) | (with_reducible refine below_dr ?_) | (with_reducible refine below_drN ?_) | (with_reducible refine below_set ?_ (by first | exact Nat.le_refl _ | (dsimp only; omega) | omega)) | (with_reducible refine below_tr (by with_reducible assumption) ?_)))))).mono ?_
  rintro e w1 ⟨rfl, hb1⟩
  go_wp2
  go_ret
  exact ⟨rfl, by (repeat (first | (with_reducible exact Below.refl _ _) | (with_reducible assumption) | (with_reducible refine below_al ?_) | (with_reducible refine below_dr ?_) | (with_reducible refine below_drN ?_) | (with_reducible refine below_set ?_ (by first | exact Nat.le_refl _ | (dsimp only; omega) | omega)) | (with_reducible refine below_tr (by with_reducible assumption) ?_)))⟩
set_option maxRecDepth 100000 in
set_option maxHeartbeats 1000000 in
theorem areSets_c (l : List SD) (A : Option Addr) (cx : Nat) (w : World) (hA : SetsCells w A l) (hl : l.length ≤ 1000000000) (hs : ∀ s ∈ l, s.ok w) :
    Calls Tryz.prog 82 #[.slice A l.length cx] w fun e w' => e = .returned (.bool (l.all fun s => isSetB s.c s.ts)) ∧ Below w.heap.size w w' := by
  have H := Lib.hid (fun hk hp => containsFuncS_c l A cx 173 #[] (fun s => !isSetB s.c s.ts) w hk hA hl hp)
  have hp : PredS w 173 #[] (fun s => !isSetB s.c s.ts) l := fun s hs' w1 hb => areSets1_c s.c s.ts s.A s.cx w1 ((hs s hs').1.below hb) (hs s hs').2
  have Hp := Lib.hid hp
  have hr : (!l.any fun s => !isSetB s.c s.ts) = l.all fun s => isSetB s.c s.ts := by simp [List.any_eq_not_all_not]
  have Hr := Lib.hid hr
  clear hp hr hA hs
  generalize (l.any fun s => !isSetB s.c s.ts) = p at *
  go_enter Tryz.func82, Tryz.ntmps82
  go_wp2_with fail
  refine (H.out (fun _ _ => rfl) Hp.out).mono ?_
  rintro e w1 ⟨rfl, hb1⟩
  go_wp2
  go_ret
  exact ⟨ret_bool Hr.out, by (repeat (first | (with_reducible exact Below.refl _ _) | (with_reducible assumption) | (with_reducible refine below_al ?_) | (with_reducible refine below_dr ?_) | (with_reducible refine below_drN ?_) | (with_reducible refine below_set ?_ (by first | exact Nat.le_refl _ | (dsimp only; omega) | omega)) | (with_reducible refine below_tr (by with_reducible assumption) ?_)))⟩
end Go.Proofs.YtkgnejhflnekaaaGreat
namespace Go.Proofs.YtkgnejhflnekaaaGreat
open Go.RowKit
theorem OwnI.at_ {w : World} {B n cx : Nat} {A : Option Addr} {xs : List Int} (h : OwnI w B (.slice A n cx) xs) (j : Nat) (hj : j < xs.length) :
    ∃ g, A = some ⟨g, 0, none⟩ ∧ B ≤ g ∧ g < w.heap.size ∧ w.cell? ⟨g, j, none⟩ = some (.int .i64 xs[j]) ∧ w.frozen? ⟨g, j, none⟩ = false := by
  have h0 := h
  obtain ⟨h1, h2⟩ := h
  rcases h2 with ⟨e1, e2⟩ | ⟨g, cap, cur, e1, e2, e3, _⟩
  · omega
  · injection e1 with a1 a2 a3
    subst a1 a2 a3
    have hc := World.ownsRow.cellAt h0 j (by omega)
    refine ⟨g, rfl, e2, (Array.getElem?_eq_some_iff.1 e3).1, ?_, World.ownsRow.frozenAt h0 j⟩
    rw [hc]; simp [ints, hj]
theorem OwnI.set {w : World} {B n cx g : Nat} {xs : List Int} (h : OwnI w B (.slice (some ⟨g, 0, none⟩) n cx) xs) (j : Nat) (y : Int) :
    OwnI (w.setCell ⟨g, j, none⟩ (.int .i64 y)) B (.slice (some ⟨g, 0, none⟩) n cx) (xs.set j y) ∧ w.grownBy (w.setCell ⟨g, j, none⟩ (.int .i64 y)) (some g) := by
  have h0 := h
  obtain ⟨h1, h2⟩ := h
  rcases h2 with ⟨e1, e2⟩ | ⟨g', cap, cur, e1, _⟩
  · cases e1
  · injection e1 with a1 a2 a3
    subst a2
    obtain ⟨s1, s2⟩ := World.ownsRow.stored h0 j (.int .i64 y)
    refine ⟨?_, s2⟩
    unfold OwnI
    rw [ints_set] at s1
    rw [List.length_set]
    exact s1
theorem OwnI.len {w : World} {B n cx : Nat} {A : Option Addr} {xs : List Int} (h : OwnI w B (.slice A n cx) xs) : n = xs.length := by
  obtain ⟨h1, h2⟩ := h
  rcases h2 with ⟨e1, e2⟩ | ⟨g', cap, cur, e1, _⟩
  · injection e1 with a1 a2 a3; omega
  · injection e1 with a1 a2 a3
theorem OwnI.cells {w : World} {B n cx : Nat} {A : Option Addr} {xs : List Int} (h : OwnI w B (.slice A n cx) xs) : Cells w A (ints xs) := by
  obtain ⟨A', cx', e, hc, _⟩ := h.shape
  injection e with a1 a2 a3
  subst a1
  exact hc
theorem Blk.own {w : World} {b B : Nat} {xs : List Int} (h : Blk w b (ints xs) 2) (hB : B ≤ b) (hl : xs.length ≤ 9223372036854775807) : OwnI w B (.slice (some ⟨b, 0, none⟩) xs.length xs.length) xs := by
  refine ⟨by rw [ints_length, Nat.mul_one], .inr ⟨b, xs.length, (ints xs).toArray, rfl, hB, h, Nat.le_refl _, by simpa [maxLen] using hl, by simp [ints_length], ?_⟩⟩
  rw [Nat.mul_one]
  exact List.take_of_length_le (by rw [ints_length]; exact Nat.le_refl _)
theorem OwnI.grown {w w1 : World} {B : Nat} {v : Value} {xs : List Int} {row : Option Nat} (h : OwnI w B v xs) (hg : w.grownBy w1 row) (hne : v.ownBlock = none ∨ v.ownBlock ≠ row) : OwnI w1 B v xs := World.ownsRow.kept h hg hne
/-- a pair of numbers, new, in a slice -/
theorem OwnI.two {w : World} {B : Nat} {v : Value} {x y : Int} (h : OwnI w B v [x, y]) : ∃ g cx, v = .slice (some ⟨g, 0, none⟩) 2 cx ∧ B ≤ g ∧ g < w.heap.size ∧ w.cell? ⟨g, 0, none⟩ = some (.int .i64 x) ∧ w.cell? ⟨g, 1, none⟩ = some (.int .i64 y) := by
  obtain ⟨A, cx, rfl, _, _⟩ := h.shape
  obtain ⟨g, rfl, h1, h2, h3, _⟩ := h.at_ 0 (by simp)
  obtain ⟨g', e, _, _, h4, _⟩ := h.at_ 1 (by simp)
  injection e with e; injection e with e; subst e
  exact ⟨g, cx, rfl, h1, h2, h3, h4⟩
theorem own_far {w1 w : World} {v u : Value} {xs : List Int} (hv : ∀ k, v.ownBlock = some k → k < w.heap.size) (hu : OwnI w1 w.heap.size u xs) (hx : 0 < xs.length) : v.ownBlock ≠ u.ownBlock ∧ u.ownBlock ≠ v.ownBlock := by
  obtain ⟨A, cx, rfl, _, _⟩ := hu.shape
  obtain ⟨g, rfl, h1, _⟩ := hu.at_ 0 hx
  have : v.ownBlock ≠ some g := fun e => by have := hv g e; omega
  exact ⟨this, fun e => this e.symm⟩
theorem own_apart {w1 w2 : World} {B : Nat} {v u : Value} {xs ys : List Int} (hv : OwnI w1 B v xs) (hu : OwnI w2 w1.heap.size u ys) : (v.ownBlock = none ∨ v.ownBlock ≠ u.ownBlock) ∧ (u.ownBlock = none ∨ u.ownBlock ≠ v.ownBlock) := by
  cases e1 : v.ownBlock with
  | none => exact ⟨.inl rfl, by cases e2 : u.ownBlock with | none => exact .inl rfl | some k => exact .inr (by simp)⟩
  | some j =>
    cases e2 : u.ownBlock with
    | none => exact ⟨.inr (by simp), .inl rfl⟩
    | some k =>
      have h1 := (World.ownsRow.lt hv j e1).2
      have h2 := (World.ownsRow.lt hu k e2).1
      exact ⟨.inr (by simp; omega), .inr (by simp; omega)⟩
theorem apart_symm {v u : Value} (h : v.ownBlock = none ∨ v.ownBlock ≠ u.ownBlock) : u.ownBlock = none ∨ u.ownBlock ≠ v.ownBlock := by
  cases e2 : u.ownBlock with
  | none => exact .inl rfl
  | some k => rcases h with h | h
              · exact .inr (by rw [h]; simp)
              · exact .inr (by rw [e2] at h; exact fun e => h e.symm)
/-- what a call gives back that returns two new lists of numbers, apart from each other, and a code -/
def RetIIC (w : World) (xs ys : List Int) (c : Int) (e : Ending) (w' : World) : Prop :=
  ∃ v u, e = .returned (.tuple #[v, u, .int .i64 c]) ∧ OwnI w' w.heap.size v xs ∧ OwnI w' w.heap.size u ys ∧ (v.ownBlock = none ∨ v.ownBlock ≠ u.ownBlock) ∧ Below w.heap.size w w'
theorem ret_c3 {v u : Value} {a b : Int} (h : a = b) : Ending.returned (.tuple #[v, u, .int .i64 a]) = .returned (.tuple #[v, u, .int .i64 b]) := by rw [h]
def eqI (xs ys : List Int) : Bool := decide (xs = ys)
theorem eqI_refl (xs : List Int) : eqI xs xs = true := by simp [eqI]
end Go.Proofs.YtkgnejhflnekaaaGreat
namespace Go.Proofs.YtkgnejhflnekaaaGreat
open Go.RowKit
def fracB (a b : Int) : Bool := inR 1 20 b && inR 0 (5 * b) a
theorem fracB_iff {a b : Int} : fracB a b = true ↔ (1 ≤ b ∧ b ≤ 20) ∧ 0 ≤ a ∧ a ≤ 5 * b := by simp [fracB, inR]
def placesB (p n : Int) : Bool := inR 1 1000 p && inR 1 20 n
theorem placesB_iff {p n : Int} : placesB p n = true ↔ (1 ≤ p ∧ p ≤ 1000) ∧ 1 ≤ n ∧ n ≤ 20 := by simp [placesB, inR]
def factB (p q : Int) : Bool := inR 1 3 p && inR 1 3 q
theorem factB_iff {p q : Int} : factB p q = true ↔ (1 ≤ p ∧ p ≤ 3) ∧ 1 ≤ q ∧ q ≤ 3 := by simp [factB, inR]
def digAt (a b i : Int) : Int := i * a / b - (i - 1) * a / b
def digs (a b p : Int) (n : Nat) : List Int := (List.range n).map fun j : Nat => digAt a b (p + j)
theorem digs_succ (a b p : Int) (n : Nat) : digs a b p (n + 1) = digs a b p n ++ [digAt a b (p + n)] := by simp [digs, List.range_succ]
theorem digs_len (a b p : Int) (n : Nat) : (digs a b p n).length = n := by simp [digs]
theorem digAt_wraps {a b i m1 : Int} (hb : 1 ≤ b) (ha : 0 ≤ a) (ha' : a ≤ 1000) (h1 : 1 ≤ i) (h2 : i ≤ 1020) (hm : m1 = i * a) :
    IntKind.i64.wrap (IntKind.i64.wrap (m1.tdiv b) - IntKind.i64.wrap ((IntKind.i64.wrap (IntKind.i64.wrap (i - 1) * a)).tdiv b)) = digAt a b i := by
  have b1 : 0 ≤ i * a := Int.mul_nonneg (by omega) ha
  have b2 : i * a ≤ 1020 * 1000 := Int.mul_le_mul h2 ha' ha (by omega)
  have b3 : 0 ≤ (i - 1) * a := Int.mul_nonneg (by omega) ha
  have b4 : (i - 1) * a ≤ 1020 * 1000 := Int.mul_le_mul (by omega) ha' ha (by omega)
  rw [IntWalk.i64_in (i - 1) (by omega), IntWalk.i64_in ((i - 1) * a) (by omega), hm, Int.tdiv_eq_ediv_of_nonneg b1, Int.tdiv_eq_ediv_of_nonneg b3]
  have d1 : 0 ≤ i * a / b := Int.ediv_nonneg b1 (by omega)
  have d2 : i * a / b ≤ i * a := Int.ediv_le_self _ b1
  have d3 : 0 ≤ (i - 1) * a / b := Int.ediv_nonneg b3 (by omega)
  have d4 : (i - 1) * a / b ≤ (i - 1) * a := Int.ediv_le_self _ b3
  rw [IntWalk.i64_in (i * a / b) (by omega), IntWalk.i64_in ((i - 1) * a / b) (by omega), IntWalk.i64_in _ (by omega)]
  rfl
def carAt (p q a b i : Int) : Int := p * (i * a / b) - q * (i * a * p / (b * q))
def cars (p q a b s : Int) (n : Nat) : List Int := (List.range n).map fun j : Nat => carAt p q a b (s + j)
theorem cars_succ (p q a b s : Int) (n : Nat) : cars p q a b s (n + 1) = cars p q a b s n ++ [carAt p q a b (s + n)] := by simp [cars, List.range_succ]
theorem cars_len (p q a b s : Int) (n : Nat) : (cars p q a b s n).length = n := by simp [cars]
theorem car_bounds {p q a b i : Int} (hp : 1 ≤ p) (hp' : p ≤ 3) (hq : 1 ≤ q) (hq' : q ≤ 3) (hb : 1 ≤ b) (hb' : b ≤ 20) (ha : 0 ≤ a) (ha' : a ≤ 100) (h1 : 0 ≤ i) (h2 : i ≤ 1020) :
    0 ≤ i * a ∧ i * a ≤ 1020 * 100 ∧ 1 ≤ b * q ∧ b * q ≤ 20 * 3 ∧ 0 ≤ i * a * p ∧ i * a * p ≤ 1020 * 100 * 3 := by
  have b1 : 0 ≤ i * a := Int.mul_nonneg h1 ha
  have b2 : i * a ≤ 1020 * 100 := Int.mul_le_mul h2 ha' ha (by omega)
  have b3 : 1 * 1 ≤ b * q := Int.mul_le_mul hb hq (by omega) (by omega)
  exact ⟨b1, b2, by omega, Int.mul_le_mul hb' hq' (by omega) (by omega), Int.mul_nonneg b1 (by omega), Int.mul_le_mul b2 hp' (by omega) (by omega)⟩
theorem carAt_wraps {p q a b i m1 m2 : Int} (hp : 1 ≤ p) (hp' : p ≤ 3) (hq : 1 ≤ q) (hq' : q ≤ 3) (hb : 1 ≤ b) (hb' : b ≤ 20) (ha : 0 ≤ a) (ha' : a ≤ 100) (h1 : 0 ≤ i) (h2 : i ≤ 1020) (hm : m1 = i * a) (hm2 : m2 = b * q) :
    IntKind.i64.wrap (IntKind.i64.wrap (p * IntKind.i64.wrap (m1.tdiv b)) - IntKind.i64.wrap (q * IntKind.i64.wrap ((IntKind.i64.wrap (m1 * p)).tdiv m2))) = carAt p q a b i := by
  obtain ⟨b1, b2, b3, b4, b5, b6⟩ := car_bounds hp hp' hq hq' hb hb' ha ha' h1 h2
  subst hm hm2
  rw [IntWalk.i64_in (i * a * p) (by omega), Int.tdiv_eq_ediv_of_nonneg b1, Int.tdiv_eq_ediv_of_nonneg b5]
  have d1 : 0 ≤ i * a / b := Int.ediv_nonneg b1 (by omega)
  have d2 : i * a / b ≤ i * a := Int.ediv_le_self _ b1
  have d3 : 0 ≤ i * a * p / (b * q) := Int.ediv_nonneg b5 (by omega)
  have d4 : i * a * p / (b * q) ≤ i * a * p := Int.ediv_le_self _ b5
  have e1 : 0 ≤ p * (i * a / b) := Int.mul_nonneg (by omega) d1
  have e2 : p * (i * a / b) ≤ 3 * (1020 * 100) := Int.mul_le_mul hp' (by omega) d1 (by omega)
  have e3 : 0 ≤ q * (i * a * p / (b * q)) := Int.mul_nonneg (by omega) d3
  have e4 : q * (i * a * p / (b * q)) ≤ 3 * (1020 * 100 * 3) := Int.mul_le_mul hq' (by omega) d3 (by omega)
  rw [IntWalk.i64_in (i * a / b) (by omega), IntWalk.i64_in (i * a * p / (b * q)) (by omega), IntWalk.i64_in (p * (i * a / b)) (by omega), IntWalk.i64_in (q * (i * a * p / (b * q))) (by omega), IntWalk.i64_in _ (by omega)]
  rfl
end Go.Proofs.YtkgnejhflnekaaaGreat
namespace Go.Proofs.YtkgnejhflnekaaaGreat
open Go.RowKit
def codeB (s b : Bool) : Int := if s = true then (if b = true then 0 else 2) else 1
set_option maxRecDepth 100000 in
set_option maxHeartbeats 1000000 in
theorem setCode_c (c : Int) (ts : List T4) (A : Option Addr) (cx : Nat) (k : FuncId) (caps : Array Value) (b : Bool) (w : World) (hk : ∀ args w, Sem.run Tryz.prog (callFunc k args) w = .ok (.enter k args) w)
    (hT : TileCells w A ts) (hl : ts.length ≤ 1000000000) (hf : isSetB c ts = true → ∀ w1, Below w.heap.size w w1 → Calls Tryz.prog k caps w1 fun e w2 => e = .returned (.bool b) ∧ Below w1.heap.size w1 w2) :
    Calls Tryz.prog 85 #[.agg #[.int .i64 c, .slice A ts.length cx], .func (.func k) #[] caps] w fun e w' => e = .returned (.int .i64 (codeB (isSetB c ts) b)) ∧ Below w.heap.size w w' := by
  have HI := Lib.hid (fun w h => isSet_c c ts A cx w h hl)
  have HT := Lib.hid hT
  have HF := Lib.hid hf
  clear hT hf
  cases hs : isSetB c ts
  · rw [hs] at HI
    clear hs
    go_enter Tryz.func85, Tryz.ntmps85
    go_wp2_with fail
    refine (HI.out _ (HT.out.below (by (repeat (first | (with_reducible exact Below.refl _ _) | (with_reducible assumption) | (with_reducible refine below_al ?_) | (with_reducible refine below_dr ?_) | (with_reducible refine below_drN ?_) | (with_reducible refine below_set ?_ (by first | exact Nat.le_refl _ | (dsimp only; omega) | omega)) | (with_reducible refine below_tr (by with_reducible assumption) ?_)))))).mono ?_
    rintro e w1 ⟨rfl, hb1⟩
    go_wp2
    go_ret
    exact ⟨rfl, by (repeat (first | (with_reducible exact Below.refl _ _) | (with_reducible assumption) | (with_reducible refine below_al ?_) | (with_reducible refine below_dr ?_) | (with_reducible refine below_drN ?_) | (with_reducible refine below_set ?_ (by first | exact Nat.le_refl _ | (dsimp only; omega) | omega)) | (with_reducible refine below_tr (by with_reducible assumption) ?_)))⟩
  · rw [hs] at HI
    have HF2 := Lib.hid (HF.out hs)
    clear hs HF
    cases b
    all_goals
      go_enter Tryz.func85, Tryz.ntmps85
      go_wp2_with fail
      refine (HI.out _ (HT.out.below (by (repeat (first | (with_reducible exact Below.refl _ _) | (with_reducible assumption) | (with_reducible refine below_al ?_) | (with_reducible refine below_dr ?_) | (with_reducible refine below_drN ?_) | (with_reducible refine below_set ?_ (by first | exact Nat.le_refl _ | (dsimp only; omega) | omega)) | (with_reducible refine below_tr (by with_reducible assumption) ?_)))))).mono ?_
      rintro e w1 ⟨rfl, hb1⟩
      have Hw1 : Hid (Below w.heap.size w w1) := by (show Below _ _ _); (repeat (first | (with_reducible exact Below.refl _ _) | (with_reducible assumption) | (with_reducible refine below_al ?_) | (with_reducible refine below_dr ?_) | (with_reducible refine below_drN ?_) | (with_reducible refine below_set ?_ (by first | exact Nat.le_refl _ | (dsimp only; omega) | omega)) | (with_reducible refine below_tr (by with_reducible assumption) ?_)))
      clear hb1
      go_wp2_with fail
      refine (HF2.out _ Hw1.out).mono ?_
      rintro e w2 ⟨rfl, hb2⟩
      go_wp2
      go_ret
      exact ⟨rfl, Hw1.out.trans (hb2.mono Hw1.out.size)⟩
end Go.Proofs.YtkgnejhflnekaaaGreat
namespace Go.Proofs.YtkgnejhflnekaaaGreat
open Go.RowKit
/-- every number of every tile is in 0..5 -/
def Small (ts : List T4) : Prop := ∀ k (h : k < ts.length), (0 ≤ ts[k].a ∧ ts[k].a ≤ 5) ∧ (0 ≤ ts[k].b ∧ ts[k].b ≤ 5) ∧ (0 ≤ ts[k].c ∧ ts[k].c ≤ 5) ∧ (0 ≤ ts[k].d ∧ ts[k].d ≤ 5)
theorem isSetB_parts {c : Int} {ts : List T4} (h : isSetB c ts = true) : (∀ j, j < ts.length → okAt c ts j = true) ∧ (1 ≤ c ∧ c ≤ 6) ∧ ts.length ≤ 16 := by
  unfold isSetB at h
  simp only [Bool.and_eq_true, List.all_eq_true, List.mem_range, inR_iff, decide_eq_true_eq] at h
  exact ⟨h.1.1, h.1.2, h.2⟩
theorem isSetB_small {c : Int} {ts : List T4} (h : isSetB c ts = true) : Small ts ∧ ts.length ≤ 16 := by
  obtain ⟨h1, h2, h3⟩ := isSetB_parts h
  refine ⟨fun k hk => ?_, h3⟩
  have h4 := h1 k hk
  unfold okAt at h4
  simp only [Bool.and_eq_true] at h4
  have h5 := h4.1
  rw [getD_at hk] at h5
  have hw : wrap64 (c - 1) = c - 1 := by unfold wrap64; omega
  simp only [isTileB, T4.l, List.all_cons, List.all_nil, Bool.and_eq_true, inR_iff, hw] at h5
  omega
def tA (ts : List T4) (k : Int) : T4 := ts.getD k.toNat default
def balAt (ts : List T4) (p q k : Int) : Int := p * (tA ts k).b - q * (tA ts k).d
def balSum (ts : List T4) (p q : Int) (row : List Int) : Int := (row.map (balAt ts p q)).sum
def balV (ts : List T4) (row : List Int) (p q : Int) : Int := (tA ts (row.getD 0 0)).a - (tA ts (row.getD (row.length - 1) 0)).c + balSum ts p q row
def InRow (ts : List T4) (row : List Int) : Prop := ∀ j (h : j < row.length), 0 ≤ row[j] ∧ row[j] < ts.length
theorem tA_nat (ts : List T4) (m : Nat) (h : m < ts.length) : tA ts (m : Int) = ts[m] := by simp [tA, h]
theorem balAt_bound {ts : List T4} (hS : Small ts) {p q k : Int} (hp : 1 ≤ p) (hp' : p ≤ 5) (hq : 1 ≤ q) (hq' : q ≤ 5) (hk : 0 ≤ k) (hk' : k < ts.length) : -25 ≤ balAt ts p q k ∧ balAt ts p q k ≤ 25 := by
  obtain ⟨m, rfl⟩ := Int.eq_ofNat_of_zero_le hk
  have hm : m < ts.length := by omega
  unfold balAt
  rw [tA_nat ts m hm]
  obtain ⟨_, ⟨b1, b2⟩, _, d1, d2⟩ := hS m hm
  have e1 : 0 ≤ p * ts[m].b := Int.mul_nonneg (by omega) b1
  have e2 : p * ts[m].b ≤ 5 * 5 := Int.mul_le_mul hp' b2 b1 (by omega)
  have e3 : 0 ≤ q * ts[m].d := Int.mul_nonneg (by omega) d1
  have e4 : q * ts[m].d ≤ 5 * 5 := Int.mul_le_mul hq' d2 d1 (by omega)
  omega
theorem balSum_succ (ts : List T4) (p q : Int) (row : List Int) (k : Nat) (hk : k < row.length) : balSum ts p q (row.take (k + 1)) = balSum ts p q (row.take k) + balAt ts p q row[k] := by
  unfold balSum
  rw [List.take_succ_eq_append_getElem hk, List.map_append, List.sum_append]
  simp
theorem balSum_bound {ts : List T4} (hS : Small ts) {p q : Int} (hp : 1 ≤ p) (hp' : p ≤ 5) (hq : 1 ≤ q) (hq' : q ≤ 5) {row : List Int} (hr : InRow ts row) : ∀ k, k ≤ row.length → -(25 * k : Int) ≤ balSum ts p q (row.take k) ∧ balSum ts p q (row.take k) ≤ 25 * k
  | 0, _ => by simp [balSum]
  | k + 1, hk => by
    have h1 := balSum_bound hS hp hp' hq hq' hr k (by omega)
    have h2 := hr k (by omega)
    have h3 := balAt_bound hS hp hp' hq hq' h2.1 h2.2
    rw [balSum_succ ts p q row k (by omega)]
    omega
end Go.Proofs.YtkgnejhflnekaaaGreat
namespace Go.Proofs.YtkgnejhflnekaaaGreat
open Go.RowKit
def norths (ts : List T4) (row : List Int) : List Int := row.map fun k => (tA ts k).b
def souths (ts : List T4) (row : List Int) : List Int := row.map fun k => (tA ts k).d
theorem norths_succ {ts : List T4} {row : List Int} {k m : Nat} (hk : k < row.length) (hm : row[k] = (m : Int)) (h : m < ts.length) : norths ts (row.take (k + 1)) = norths ts (row.take k) ++ [ts[m].b] := by
  unfold norths; rw [List.take_succ_eq_append_getElem hk, List.map_append]; simp [hm, tA_nat ts m h]
theorem souths_succ {ts : List T4} {row : List Int} {k m : Nat} (hk : k < row.length) (hm : row[k] = (m : Int)) (h : m < ts.length) : souths ts (row.take (k + 1)) = souths ts (row.take k) ++ [ts[m].d] := by
  unfold souths; rw [List.take_succ_eq_append_getElem hk, List.map_append]; simp [hm, tA_nat ts m h]
/-- what a call gives back that returns two new lists of numbers, apart from each other -/
def RetII (w : World) (xs ys : List Int) (e : Ending) (w' : World) : Prop :=
  ∃ v u, e = .returned (.tuple #[v, u]) ∧ OwnI w' w.heap.size v xs ∧ OwnI w' w.heap.size u ys ∧ Apart v u ∧ Below w.heap.size w w'
set_option maxRecDepth 100000 in
set_option maxHeartbeats 1000000 in
theorem l02Words_c (c : Int) (ts : List T4) (A : Option Addr) (cx : Nat) (row : List Int) (B : Option Addr) (cr : Nat) (w : World) (hT : TileCells w A ts) (hR : Cells w B (ints row)) (hl : ts.length ≤ 1000000)
    (hr : InRow ts row) (hn : row.length ≤ 1000000) :
    Calls Tryz.prog 192 #[.agg #[.int .i64 c, .slice A ts.length cx], .slice B row.length cr] w (RetII w (norths ts row) (souths ts row)) := by
  go_enter Tryz.func192, Tryz.ntmps192
  go_wp2_with fail
  go_loopw [6, 7, 8] (fun v u i wr => ∃ k : Nat, k ≤ row.length ∧ i = .int .i64 k ∧ OwnI wr (w.heap.size + 1) v (norths ts (row.take k)) ∧ OwnI wr (w.heap.size + 1) u (souths ts (row.take k)) ∧ Apart v u ∧ Below (w.heap.size + 1) (w.alloc (.cells #[.int .i64 c, .slice A ts.length cx] 26)) wr) (fun _ _ i _ => row.length - (intOf i).toNat)
  case atStart => exact ⟨0, by omega, rfl, (OwnI.newly (by simp) rfl rfl (by simp) (by simp [norths])).alloc _, OwnI.newly (by simp) rfl rfl (by simp) (by simp [souths]), Apart.blk (by omega), by
    refine Below.alloc (Below.alloc (Below.refl _ _) ?_ _) ?_ _ <;> simp⟩
  case round =>
    obtain ⟨k, hk, rfl, hO, hU, hAp, hbw⟩ := hrel
    have hW : Below w.heap.size w (w.alloc (.cells #[.int .i64 c, .slice A ts.length cx] 26)) := by (repeat (first | (with_reducible exact Below.refl _ _) | (with_reducible assumption) | (with_reducible refine below_al ?_) | (with_reducible refine below_dr ?_) | (with_reducible refine below_drN ?_) | (with_reducible refine below_set ?_ (by first | exact Nat.le_refl _ | (dsimp only; omega) | omega)) | (with_reducible refine below_tr (by with_reducible assumption) ?_)))
    have hWs : (w.alloc (.cells #[.int .i64 c, .slice A ts.length cx] 26)).heap.size = w.heap.size + 1 := by simp
    by_cases h1 : k < row.length
    · obtain ⟨x2, y2⟩ := hr k h1
      obtain ⟨m2, g2⟩ := Int.eq_ofNat_of_zero_le x2
      have k2 : m2 < ts.length := by omega
      obtain ⟨b3, off3, rfl, hlt3, c0⟩ := (hR.below hW).int k h1
      obtain ⟨b4, off4, rfl, hlt4, _, tb, _, td⟩ := (hT.below hW) m2 k2
      rw [g2] at c0
      have HN := Lib.hid (norths_succ h1 g2 k2)
      have HS := Lib.hid (souths_succ h1 g2 k2)
      have LN : (norths ts (row.take k)).length ≤ 1000000 := by simp [norths]; omega
      have LS : (souths ts (row.take k)).length ≤ 1000000 := by simp [souths]; omega
      have f0 := keepC c0
      have f1 := keepC tb
      have f2 := keepC td
      have f3 := keepC (cell_alloc_at w #[.int .i64 c, .slice (some ⟨b4, off4, none⟩) ts.length cx] 26 1 _ rfl)
      generalize ts[m2].b = vb at *
      generalize ts[m2].d = vd at *
      clear c0 tb td x2 y2 g2 hT hR hr
      generalize w.alloc (.cells #[.int .i64 c, .slice (some ⟨b4, off4, none⟩) ts.length cx] 26) = W at *
      rw [← hWs] at hbw hO hU
      have hws := hbw.size
      have HWs := Lib.hid hWs
      clear hWs
      go_wp2_with fail
      refine wp_region_mix [(0, true), (1, true), (2, true), (3, true), (4, true), (5, true), (6, true), (7, true), (8, true), (9, true), (10, false), (11, false), (12, false)] (fun w' => Below (W).heap.size (W) w') (by kernel_rfl) (by kernel_rfl) (fun _ _ d _ _ h => by cases d <;> exact h) (hbw.drew) ?_
      repeat (first
        | (refine mix_skip rfl rfl (fun K' hK' => ?_); go_simp; refine hK' _ ?_; clear hK' K')
        | (refine mix_do (v := ?_) rfl rfl (fun w1 hb => ?_) (fun K' hK' => ?_); rotate_left
           · go_simp
             rfl
           go_simp; refine hK' _ ?_; clear hK' K'))
      refine mix_call rfl rfl (fun K' hK' => ?_)
      go_simp
      refine hK' _ _ (Below.alloc hbw.drew hws _) ?_; clear hK' K'
      refine mix_call rfl rfl (fun K' hK' => ?_)
      refine app_int2 (.tmp 17) (.tmp 27) rfl W.heap.size u6 _ _ rfl (hO.drew.alloc _) wr.heap.size 0 rfl (cell_alloc_at _ _ _ _ _ rfl) (by omega) (by simp; omega) (fun v' w' h1 h2 h3 => ?_)
      rw [← HN.out] at h1
      have hU2 : OwnI w' W.heap.size u7 (souths ts (row.take k)) := (hU.drew.alloc _).grown h2 hAp.symm
      have hAp2 : Apart v' u7 := hAp.app (hU.drew.alloc _).blt h3
      have h4 : Below W.heap.size W w' := Below.grown (Below.alloc hbw.drew hws _) h2 (by simp; omega) (fun j hj => (World.ownsRow.lt hO j hj).1)
      have hws4 := h4.size
      clear h2 h3 hO hU hAp
      refine hK' _ _ h4 ?_
      clear hK' K'
      refine mix_call rfl rfl (fun K' hK' => ?_)
      go_simp
      refine hK' _ _ (h4) ?_; clear hK' K'
      refine mix_nil ?_
      go_wp2_with fail
      refine wp_region_mix [(0, true), (1, true), (2, true), (3, true), (4, true), (5, true), (6, true), (7, true), (8, true), (9, true), (10, false), (11, false), (12, false)] (fun w' => Below (W).heap.size (W) w') (by kernel_rfl) (by kernel_rfl) (fun _ _ d _ _ h => by cases d <;> exact h) (h4.drew) ?_
      repeat (first
        | (refine mix_skip rfl rfl (fun K' hK' => ?_); go_simp; refine hK' _ ?_; clear hK' K')
        | (refine mix_do (v := ?_) rfl rfl (fun w1 hb => ?_) (fun K' hK' => ?_); rotate_left
           · go_simp
             rfl
           go_simp; refine hK' _ ?_; clear hK' K'))
      refine mix_call rfl rfl (fun K' hK' => ?_)
      go_simp
      refine hK' _ _ (Below.alloc h4.drew hws4 _) ?_; clear hK' K'
      refine mix_call rfl rfl (fun K' hK' => ?_)
      refine app_int2 (.tmp 29) (.tmp 39) rfl W.heap.size u7 _ _ rfl (hU2.drew.alloc _) w'.heap.size 0 rfl (cell_alloc_at _ _ _ _ _ rfl) (by omega) (by simp; omega) (fun v2 w2 k1 k2 k3 => ?_)
      rw [← HS.out] at k1
      have hO2 : OwnI w2 W.heap.size v' (norths ts (row.take (k + 1))) := (h1.drew.alloc _).grown k2 hAp2
      have hAp3 : Apart v' v2 := (hAp2.symm.app (h1.drew.alloc _).blt k3).symm
      have h5 : Below W.heap.size W w2 := Below.grown (Below.alloc h4.drew hws4 _) k2 (by simp; omega) (fun j hj => (World.ownsRow.lt hU2 j hj).1)
      clear k2 k3 h1 hU2 hAp2
      refine hK' _ _ h5 ?_
      clear hK' K'
      refine mix_call rfl rfl (fun K' hK' => ?_)
      go_simp
      refine hK' _ _ (h5) ?_; clear hK' K'
      refine mix_nil ?_
      go_wp2_with fail
      go_roundw
      case rel => exact ⟨k + 1, by omega, by go_num, by rw [← HWs.out]; exact hO2, by rw [← HWs.out]; exact k1, hAp3, by rw [← HWs.out]; exact h5⟩
      case measure => simp [intOf]; omega
    · obtain rfl : k = row.length := by omega
      rw [List.take_length] at hO hU
      go_wp2
      go_ret2
      exact ⟨_, _, rfl, hO.weaken (by omega), hU.weaken (by omega), hAp, hW.trans (hbw.mono (by omega))⟩
end Go.Proofs.YtkgnejhflnekaaaGreat
