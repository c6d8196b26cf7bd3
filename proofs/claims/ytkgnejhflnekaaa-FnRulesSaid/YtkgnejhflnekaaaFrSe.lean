/- Contracts and lemmas for the statements of this seat, written for this claim; each theorem states its own conditions. -/
import Derived.Test.YtkgnejhflnekaaaFrL1
import Derived.Test.YtkgnejhflnekaaaFrSl
import Derived.Test.YtkgnejhflnekaaaFrB
set_option linter.unusedVariables false
set_option linter.unusedSimpArgs false
namespace Go.Proofs.Ytkgnejhflnekaaa
open Go.RowKit
/-- a set as it lies in memory -/
structure SD where
  c : Int
  ts : List T4
  A : Option Addr
  cx : Nat
def SD.v (s : SD) : Value := .slice s.A s.ts.length s.cx
def SD.ok (w : World) (s : SD) : Prop := TileCells w s.A s.ts ∧ s.ts.length ≤ 1000000000
theorem SD.ok.below {w w1 : World} {s : SD} (h : s.ok w) (hb : Below w.heap.size w w1) : s.ok w1 := ⟨h.1.below hb, h.2⟩
def SetsCells (w : World) (A : Option Addr) (l : List SD) : Prop :=
  ∀ k (h : k < l.length), ∃ b off, A = some ⟨b, off, none⟩ ∧ b < w.heap.size ∧ w.cell? ⟨b, off + k * 2, none⟩ = some (.int .i64 l[k].c) ∧ w.cell? ⟨b, off + k * 2 + 1, none⟩ = some (.slice l[k].A l[k].ts.length l[k].cx)
theorem SetsCells.below {w w1 : World} {A : Option Addr} {l : List SD} (h : SetsCells w A l) (hb : Below w.heap.size w w1) : SetsCells w1 A l := by
  intro k hk
  obtain ⟨b, off, hA, hlt, h0, h1⟩ := h k hk
  exact ⟨b, off, hA, Nat.lt_of_lt_of_le hlt hb.size, (hb.cell (p := ⟨b, _, none⟩) hlt).trans h0, (hb.cell (p := ⟨b, _, none⟩) hlt).trans h1⟩
theorem setsCells2 {w : World} {b : Nat} {s t : SD} (hlt : b < w.heap.size) (h0 : w.cell? ⟨b, 0, none⟩ = some (.int .i64 s.c)) (h1 : w.cell? ⟨b, 1, none⟩ = some (.slice s.A s.ts.length s.cx))
    (h2 : w.cell? ⟨b, 2, none⟩ = some (.int .i64 t.c)) (h3 : w.cell? ⟨b, 3, none⟩ = some (.slice t.A t.ts.length t.cx)) : SetsCells w (some ⟨b, 0, none⟩) [s, t] := by
  intro k hk
  simp only [List.length_cons, List.length_nil] at hk
  rcases k with _ | _ | k
  · exact ⟨b, 0, rfl, hlt, h0, h1⟩
  · exact ⟨b, 0, rfl, hlt, h2, h3⟩
  · omega
def PredS (w : World) (k : FuncId) (caps : Array Value) (p : SD → Bool) (l : List SD) : Prop :=
  ∀ s ∈ l, ∀ w1, Below w.heap.size w w1 → Calls Try.prog k (#[.agg #[.int .i64 s.c, .slice s.A s.ts.length s.cx]] ++ caps) w1 fun e w2 => e = .returned (.bool (p s)) ∧ Below w1.heap.size w1 w2
def idxS (p : SD → Bool) (l : List SD) : Int := match l.findIdx? p with | some i => (i : Int) | none => -1
theorem idxS_none {p : SD → Bool} {xs : List SD} (h : ∀ j (h : j < xs.length), p xs[j] = false) : idxS p xs = -1 := by
  have : xs.findIdx? p = none := by
    rw [List.findIdx?_eq_none_iff]
    intro x hx
    obtain ⟨j, hj, rfl⟩ := List.getElem_of_mem hx
    exact h j hj
  simp [idxS, this]
theorem idxS_some {p : SD → Bool} {xs : List SD} {i : Nat} (hi : i < xs.length) (h : ∀ j (h : j < xs.length), j < i → p xs[j] = false) (hp : p xs[i] = true) : idxS p xs = i := by
  have : xs.findIdx? p = some i := by
    rw [List.findIdx?_eq_some_iff_getElem]
    exact ⟨hi, hp, fun j hj => by simp [h j (by omega) hj]⟩
  simp [idxS, this]
end Go.Proofs.Ytkgnejhflnekaaa
namespace Go.Proofs.Ytkgnejhflnekaaa
open Go.RowKit
theorem OwnI.at_ {w : World} {B n cx : Nat} {A : Option Addr} {xs : List Int} (h : OwnI w B (.slice A n cx) xs) (j : Nat) (hj : j < xs.length) :
    ∃ g, A = some ⟨g, 0, none⟩ ∧ B ≤ g ∧ g < w.heap.size ∧ w.cell? ⟨g, j, none⟩ = some (.int .i64 xs[j]) ∧ w.frozen? ⟨g, j, none⟩ = false := by
  have h0 := h
  obtain ⟨h1, h2⟩ := h
  rcases h2 with ⟨e1, e2⟩ | ⟨g, cap, cur, e1, e2, e3, _⟩
  · omega
  · injection e1 with a1 a2 a3
    subst a1 a2 a3
    have hc := World.ownsRow.cellAt h0 j (by omega)
    refine ⟨g, rfl, e2, (Array.getElem?_eq_some_iff.1 e3).1, ?_, World.ownsRow.frozenAt h0 j⟩
    rw [hc]; simp [ints, hj]
theorem OwnI.set {w : World} {B n cx g : Nat} {xs : List Int} (h : OwnI w B (.slice (some ⟨g, 0, none⟩) n cx) xs) (j : Nat) (y : Int) :
    OwnI (w.setCell ⟨g, j, none⟩ (.int .i64 y)) B (.slice (some ⟨g, 0, none⟩) n cx) (xs.set j y) ∧ w.grownBy (w.setCell ⟨g, j, none⟩ (.int .i64 y)) (some g) := by
  have h0 := h
  obtain ⟨h1, h2⟩ := h
  rcases h2 with ⟨e1, e2⟩ | ⟨g', cap, cur, e1, _⟩
  · cases e1
  · injection e1 with a1 a2 a3
    subst a2
    obtain ⟨s1, s2⟩ := World.ownsRow.stored h0 j (.int .i64 y)
    refine ⟨?_, s2⟩
    unfold OwnI
    rw [ints_set] at s1
    rw [List.length_set]
    exact s1
theorem OwnI.len {w : World} {B n cx : Nat} {A : Option Addr} {xs : List Int} (h : OwnI w B (.slice A n cx) xs) : n = xs.length := by
  obtain ⟨h1, h2⟩ := h
  rcases h2 with ⟨e1, e2⟩ | ⟨g', cap, cur, e1, _⟩
  · injection e1 with a1 a2 a3; omega
  · injection e1 with a1 a2 a3
theorem OwnI.cells {w : World} {B n cx : Nat} {A : Option Addr} {xs : List Int} (h : OwnI w B (.slice A n cx) xs) : Cells w A (ints xs) := by
  obtain ⟨A', cx', e, hc, _⟩ := h.shape
  injection e with a1 a2 a3
  subst a1
  exact hc
theorem Blk.own {w : World} {b B : Nat} {xs : List Int} (h : Blk w b (ints xs) 2) (hB : B ≤ b) (hl : xs.length ≤ 9223372036854775807) : OwnI w B (.slice (some ⟨b, 0, none⟩) xs.length xs.length) xs := by
  refine ⟨by rw [ints_length, Nat.mul_one], .inr ⟨b, xs.length, (ints xs).toArray, rfl, hB, h, Nat.le_refl _, by simpa [maxLen] using hl, by simp [ints_length], ?_⟩⟩
  rw [Nat.mul_one]
  exact List.take_of_length_le (by rw [ints_length]; exact Nat.le_refl _)
theorem OwnI.grown {w w1 : World} {B : Nat} {v : Value} {xs : List Int} {row : Option Nat} (h : OwnI w B v xs) (hg : w.grownBy w1 row) (hne : v.ownBlock = none ∨ v.ownBlock ≠ row) : OwnI w1 B v xs := World.ownsRow.kept h hg hne
/-- a pair of numbers, new, in a slice -/
theorem OwnI.two {w : World} {B : Nat} {v : Value} {x y : Int} (h : OwnI w B v [x, y]) : ∃ g cx, v = .slice (some ⟨g, 0, none⟩) 2 cx ∧ B ≤ g ∧ g < w.heap.size ∧ w.cell? ⟨g, 0, none⟩ = some (.int .i64 x) ∧ w.cell? ⟨g, 1, none⟩ = some (.int .i64 y) := by
  obtain ⟨A, cx, rfl, _, _⟩ := h.shape
  obtain ⟨g, rfl, h1, h2, h3, _⟩ := h.at_ 0 (by simp)
  obtain ⟨g', e, _, _, h4, _⟩ := h.at_ 1 (by simp)
  injection e with e; injection e with e; subst e
  exact ⟨g, cx, rfl, h1, h2, h3, h4⟩
theorem own_far {w1 w : World} {v u : Value} {xs : List Int} (hv : ∀ k, v.ownBlock = some k → k < w.heap.size) (hu : OwnI w1 w.heap.size u xs) (hx : 0 < xs.length) : v.ownBlock ≠ u.ownBlock ∧ u.ownBlock ≠ v.ownBlock := by
  obtain ⟨A, cx, rfl, _, _⟩ := hu.shape
  obtain ⟨g, rfl, h1, _⟩ := hu.at_ 0 hx
  have : v.ownBlock ≠ some g := fun e => by have := hv g e; omega
  exact ⟨this, fun e => this e.symm⟩
theorem own_apart {w1 w2 : World} {B : Nat} {v u : Value} {xs ys : List Int} (hv : OwnI w1 B v xs) (hu : OwnI w2 w1.heap.size u ys) : (v.ownBlock = none ∨ v.ownBlock ≠ u.ownBlock) ∧ (u.ownBlock = none ∨ u.ownBlock ≠ v.ownBlock) := by
  cases e1 : v.ownBlock with
  | none => exact ⟨.inl rfl, by cases e2 : u.ownBlock with | none => exact .inl rfl | some k => exact .inr (by simp)⟩
  | some j =>
    cases e2 : u.ownBlock with
    | none => exact ⟨.inr (by simp), .inl rfl⟩
    | some k =>
      have h1 := (World.ownsRow.lt hv j e1).2
      have h2 := (World.ownsRow.lt hu k e2).1
      exact ⟨.inr (by simp; omega), .inr (by simp; omega)⟩
theorem apart_symm {v u : Value} (h : v.ownBlock = none ∨ v.ownBlock ≠ u.ownBlock) : u.ownBlock = none ∨ u.ownBlock ≠ v.ownBlock := by
  cases e2 : u.ownBlock with
  | none => exact .inl rfl
  | some k => rcases h with h | h
              · exact .inr (by rw [h]; simp)
              · exact .inr (by rw [e2] at h; exact fun e => h e.symm)
/-- what a call gives back that returns two new lists of numbers, apart from each other, and a code -/
def RetIIC (w : World) (xs ys : List Int) (c : Int) (e : Ending) (w' : World) : Prop :=
  ∃ v u, e = .returned (.tuple #[v, u, .int .i64 c]) ∧ OwnI w' w.heap.size v xs ∧ OwnI w' w.heap.size u ys ∧ (v.ownBlock = none ∨ v.ownBlock ≠ u.ownBlock) ∧ Below w.heap.size w w'
theorem ret_c3 {v u : Value} {a b : Int} (h : a = b) : Ending.returned (.tuple #[v, u, .int .i64 a]) = .returned (.tuple #[v, u, .int .i64 b]) := by rw [h]
def eqI (xs ys : List Int) : Bool := decide (xs = ys)
theorem eqI_refl (xs : List Int) : eqI xs xs = true := by simp [eqI]
end Go.Proofs.Ytkgnejhflnekaaa
namespace Go.Proofs.Ytkgnejhflnekaaa
open Go.RowKit
def codeB (s b : Bool) : Int := if s = true then (if b = true then 0 else 2) else 1
set_option maxRecDepth 100000 in
set_option maxHeartbeats 1000000 in
theorem setCode_c (c : Int) (ts : List T4) (A : Option Addr) (cx : Nat) (k : FuncId) (caps : Array Value) (b : Bool) (w : World) (hk : ∀ args w, Sem.run Try.prog (callFunc k args) w = .ok (.enter k args) w)
    (hT : TileCells w A ts) (hl : ts.length ≤ 1000000000) (hf : isSetB c ts = true → ∀ w1, Below w.heap.size w w1 → Calls Try.prog k caps w1 fun e w2 => e = .returned (.bool b) ∧ Below w1.heap.size w1 w2) :
    Calls Try.prog 34 #[.agg #[.int .i64 c, .slice A ts.length cx], .func (.func k) #[] caps] w fun e w' => e = .returned (.int .i64 (codeB (isSetB c ts) b)) ∧ Below w.heap.size w w' := by
  have HI := Lib.hid (fun w h => isSet_c c ts A cx w h hl)
  have HT := Lib.hid hT
  have HF := Lib.hid hf
  clear hT hf
  cases hs : isSetB c ts
  · rw [hs] at HI
    clear hs
    go_enter Try.func34, Try.ntmps34
    go_wp2_with fail
    refine (HI.out _ (HT.out.below (by (repeat (first | (with_reducible exact Below.refl _ _) | (with_reducible assumption) | (with_reducible refine below_al ?_) | (with_reducible refine below_dr ?_) | (with_reducible refine below_drN ?_) | (with_reducible refine below_set ?_ (by first | exact Nat.le_refl _ | (dsimp only; omega) | omega)) | (with_reducible refine below_tr (by with_reducible assumption) ?_)))))).mono ?_
    rintro e w1 ⟨rfl, hb1⟩
    go_wp2
    go_ret
    exact ⟨rfl, by (repeat (first | (with_reducible exact Below.refl _ _) | (with_reducible assumption) | (with_reducible refine below_al ?_) | (with_reducible refine below_dr ?_) | (with_reducible refine below_drN ?_) | (with_reducible refine below_set ?_ (by first | exact Nat.le_refl _ | (dsimp only; omega) | omega)) | (with_reducible refine below_tr (by with_reducible assumption) ?_)))⟩
  · rw [hs] at HI
    have HF2 := Lib.hid (HF.out hs)
    clear hs HF
    cases b
    all_goals
      go_enter Try.func34, Try.ntmps34
      go_wp2_with fail
      refine (HI.out _ (HT.out.below (by (repeat (first | (with_reducible exact Below.refl _ _) | (with_reducible assumption) | (with_reducible refine below_al ?_) | (with_reducible refine below_dr ?_) | (with_reducible refine below_drN ?_) | (with_reducible refine below_set ?_ (by first | exact Nat.le_refl _ | (dsimp only; omega) | omega)) | (with_reducible refine below_tr (by with_reducible assumption) ?_)))))).mono ?_
      rintro e w1 ⟨rfl, hb1⟩
      have Hw1 : Hid (Below w.heap.size w w1) := by (show Below _ _ _); (repeat (first | (with_reducible exact Below.refl _ _) | (with_reducible assumption) | (with_reducible refine below_al ?_) | (with_reducible refine below_dr ?_) | (with_reducible refine below_drN ?_) | (with_reducible refine below_set ?_ (by first | exact Nat.le_refl _ | (dsimp only; omega) | omega)) | (with_reducible refine below_tr (by with_reducible assumption) ?_)))
      clear hb1
      go_wp2_with fail
      refine (HF2.out _ Hw1.out).mono ?_
      rintro e w2 ⟨rfl, hb2⟩
      go_wp2
      go_ret
      exact ⟨rfl, Hw1.out.trans (hb2.mono Hw1.out.size)⟩
end Go.Proofs.Ytkgnejhflnekaaa
namespace Go.Proofs.Ytkgnejhflnekaaa
open Go.RowKit
/-- every number of every tile is in 0..5 -/
def Small (ts : List T4) : Prop := ∀ k (h : k < ts.length), (0 ≤ ts[k].a ∧ ts[k].a ≤ 5) ∧ (0 ≤ ts[k].b ∧ ts[k].b ≤ 5) ∧ (0 ≤ ts[k].c ∧ ts[k].c ≤ 5) ∧ (0 ≤ ts[k].d ∧ ts[k].d ≤ 5)
theorem isSetB_parts {c : Int} {ts : List T4} (h : isSetB c ts = true) : (∀ j, j < ts.length → okAt c ts j = true) ∧ (1 ≤ c ∧ c ≤ 6) ∧ ts.length ≤ 16 := by
  unfold isSetB at h
  simp only [Bool.and_eq_true, List.all_eq_true, List.mem_range, inR_iff, decide_eq_true_eq] at h
  exact ⟨h.1.1, h.1.2, h.2⟩
theorem isSetB_small {c : Int} {ts : List T4} (h : isSetB c ts = true) : Small ts ∧ ts.length ≤ 16 := by
  obtain ⟨h1, h2, h3⟩ := isSetB_parts h
  refine ⟨fun k hk => ?_, h3⟩
  have h4 := h1 k hk
  unfold okAt at h4
  simp only [Bool.and_eq_true] at h4
  have h5 := h4.1
  rw [getD_at hk] at h5
  have hw : wrap64 (c - 1) = c - 1 := by unfold wrap64; omega
  simp only [isTileB, T4.l, List.all_cons, List.all_nil, Bool.and_eq_true, inR_iff, hw] at h5
  omega
def tA (ts : List T4) (k : Int) : T4 := ts.getD k.toNat default
def balAt (ts : List T4) (p q k : Int) : Int := p * (tA ts k).b - q * (tA ts k).d
def balSum (ts : List T4) (p q : Int) (row : List Int) : Int := (row.map (balAt ts p q)).sum
def balV (ts : List T4) (row : List Int) (p q : Int) : Int := (tA ts (row.getD 0 0)).a - (tA ts (row.getD (row.length - 1) 0)).c + balSum ts p q row
def InRow (ts : List T4) (row : List Int) : Prop := ∀ j (h : j < row.length), 0 ≤ row[j] ∧ row[j] < ts.length
theorem tA_nat (ts : List T4) (m : Nat) (h : m < ts.length) : tA ts (m : Int) = ts[m] := by simp [tA, h]
theorem balAt_bound {ts : List T4} (hS : Small ts) {p q k : Int} (hp : 1 ≤ p) (hp' : p ≤ 5) (hq : 1 ≤ q) (hq' : q ≤ 5) (hk : 0 ≤ k) (hk' : k < ts.length) : -25 ≤ balAt ts p q k ∧ balAt ts p q k ≤ 25 := by
  obtain ⟨m, rfl⟩ := Int.eq_ofNat_of_zero_le hk
  have hm : m < ts.length := by omega
  unfold balAt
  rw [tA_nat ts m hm]
  obtain ⟨_, ⟨b1, b2⟩, _, d1, d2⟩ := hS m hm
  have e1 : 0 ≤ p * ts[m].b := Int.mul_nonneg (by omega) b1
  have e2 : p * ts[m].b ≤ 5 * 5 := Int.mul_le_mul hp' b2 b1 (by omega)
  have e3 : 0 ≤ q * ts[m].d := Int.mul_nonneg (by omega) d1
  have e4 : q * ts[m].d ≤ 5 * 5 := Int.mul_le_mul hq' d2 d1 (by omega)
  omega
theorem balSum_succ (ts : List T4) (p q : Int) (row : List Int) (k : Nat) (hk : k < row.length) : balSum ts p q (row.take (k + 1)) = balSum ts p q (row.take k) + balAt ts p q row[k] := by
  unfold balSum
  rw [List.take_succ_eq_append_getElem hk, List.map_append, List.sum_append]
  simp
theorem balSum_bound {ts : List T4} (hS : Small ts) {p q : Int} (hp : 1 ≤ p) (hp' : p ≤ 5) (hq : 1 ≤ q) (hq' : q ≤ 5) {row : List Int} (hr : InRow ts row) : ∀ k, k ≤ row.length → -(25 * k : Int) ≤ balSum ts p q (row.take k) ∧ balSum ts p q (row.take k) ≤ 25 * k
  | 0, _ => by simp [balSum]
  | k + 1, hk => by
    have h1 := balSum_bound hS hp hp' hq hq' hr k (by omega)
    have h2 := hr k (by omega)
    have h3 := balAt_bound hS hp hp' hq hq' h2.1 h2.2
    rw [balSum_succ ts p q row k (by omega)]
    omega
end Go.Proofs.Ytkgnejhflnekaaa
namespace Go.Proofs.Ytkgnejhflnekaaa
open Go.RowKit
set_option maxRecDepth 100000 in
set_option maxHeartbeats 1000000 in
theorem isNumber_c (c : Int) (A : Option Addr) (n cx : Nat) (x : Int) (w : World) (hl : n ≤ 1000000000) :
    Calls Try.prog 54 #[.agg #[.int .i64 c, .slice A n cx], .int .i64 x] w fun e w' => e = .returned (.bool (inR 0 ((n : Int) - 1) x)) ∧ Below w.heap.size w w' := by
  have q : IntKind.i64.wrap ((n : Int) - 1) = (n : Int) - 1 := IntWalk.i64_in _ (by omega)
  have H := Lib.hid (fun w => within_c x 0 ((n : Int) - 1) w)
  generalize inR 0 ((n : Int) - 1) x = r at *
  go_enter Try.func54, Try.ntmps54
  go_wp2_with fail
  refine (H.out _).mono ?_
  rintro e w1 ⟨rfl, rfl⟩
  go_wp2
  go_ret
  exact ⟨rfl, by (repeat (first | (with_reducible exact Below.refl _ _) | (with_reducible assumption) | (with_reducible refine below_al ?_) | (with_reducible refine below_dr ?_) | (with_reducible refine below_drN ?_) | (with_reducible refine below_set ?_ (by first | exact Nat.le_refl _ | (dsimp only; omega) | omega)) | (with_reducible refine below_tr (by with_reducible assumption) ?_)))⟩
end Go.Proofs.Ytkgnejhflnekaaa
namespace Go.Proofs.Ytkgnejhflnekaaa
open Go.RowKit
theorem infoSl : (Try.prog.info? 40).map (fun i => (i.zero, i.size, i.bytes)) = some (some (.slice none 0 0), 1, 24) := by kernel_rfl
/-- a slice of slices of numbers reads as a list of lists -/
def RowsC (w : World) (B : Option Addr) (L : List (List Int)) : Prop :=
  ∀ k (h : k < L.length), ∃ b off A cx, B = some ⟨b, off, none⟩ ∧ b < w.heap.size ∧ w.cell? ⟨b, off + k, none⟩ = some (.slice A L[k].length cx) ∧ Cells w A (ints L[k])
theorem RowsC.below {w w1 : World} {B : Option Addr} {L : List (List Int)} (h : RowsC w B L) (hb : Below w.heap.size w w1) : RowsC w1 B L := by
  intro k hk
  obtain ⟨b, off, A, cx, e, hlt, hc, hr⟩ := h k hk
  exact ⟨b, off, A, cx, e, Nat.lt_of_lt_of_le hlt hb.size, (hb.cell (p := ⟨b, _, none⟩) hlt).trans hc, hr.below hb⟩
theorem RowsC.pair {w : World} {b off : Nat} {L : List (List Int)} (h : RowsC w (some ⟨b, off, none⟩) L) (k : Nat) (hk : k < L.length) : ∃ A cx, w.cell? ⟨b, off + k, none⟩ = some (.slice A L[k].length cx) ∧ Cells w A (ints L[k]) := by
  obtain ⟨b', off', A, cx, e, hlt, hc, hr⟩ := h k hk
  injection e with e
  injection e with e1 e2
  subst e1 e2
  exact ⟨A, cx, hc, hr⟩
def tot (L : List (List Int)) : Nat := (L.map List.length).sum
theorem tot_take {L : List (List Int)} {k : Nat} (hk : k < L.length) : tot (L.take (k + 1)) = tot (L.take k) + L[k].length := by
  unfold tot; rw [List.take_succ_eq_append_getElem hk, List.map_append, List.sum_append]; simp
def Short (n : Nat) (L : List (List Int)) : Prop := ∀ k (h : k < L.length), L[k].length ≤ n
/-- a slice of slices of numbers that the call made and owns, its rows apart from each other -/
def OwnII (w : World) (B : Nat) (v : Value) (L : List (List Int)) : Prop :=
  ∃ vs : List Value, w.ownsRow B 40 1 v L.length vs ∧ (∀ i (h : i < vs.length) (h' : i < L.length), OwnI w B vs[i] L[i]) ∧
    (∀ i j (h : i < vs.length) (h' : j < vs.length), i ≠ j → Apart vs[i] vs[j]) ∧ ∀ i (h : i < vs.length), Apart vs[i] v
theorem OwnI.setOther {w : World} {B : Nat} {v : Value} {xs : List Int} (h : OwnI w B v xs) (a : Addr) (ha : a.block < B) (u : Value) : OwnI (w.setCell a u) B v xs :=
  World.ownsRow.kept (row := some a.block) h ⟨rfl, rfl, rfl, by simp, fun k hk hne => Below.heap_setCell w a u k (fun e => hne (by simp [e]))⟩ (by
    cases e : v.ownBlock with
    | none => exact .inl rfl
    | some k => right; have := (World.ownsRow.lt h k e).1; intro e2; injection e2 with e2; omega)
theorem OwnII.rows {w : World} {B : Nat} {v : Value} {L : List (List Int)} (h : OwnII w B v L) : ∃ A cx, v = .slice A L.length cx ∧ RowsC w A L := by
  obtain ⟨vs, h1, h2, _⟩ := h
  have hl : vs.length = L.length := by have := h1.1; omega
  obtain ⟨_, h3⟩ := h1
  rcases h3 with ⟨rfl, h3⟩ | ⟨g, cap, cur, rfl, e2, e3, e4, e5, e6, e7⟩
  · exact ⟨none, 0, by rw [h3], fun k hk => by omega⟩
  · refine ⟨some ⟨g, 0, none⟩, cap, rfl, fun k hk => ?_⟩
    obtain ⟨A, cx, e, hc, _⟩ := (h2 k (by omega) hk).shape
    refine ⟨g, 0, A, cx, rfl, (Array.getElem?_eq_some_iff.1 e3).1, ?_, hc⟩
    rw [Nat.zero_add]
    unfold World.cell?
    simp only [e3]
    have hk2 : k < vs.length := by omega
    have h9 : (cur.toList.take (L.length * 1))[k]? = some (vs[k]'hk2) := by rw [e7]; exact List.getElem?_eq_getElem hk2
    rw [List.getElem?_take] at h9
    simp [hk] at h9
    simp [h9, e]
end Go.Proofs.Ytkgnejhflnekaaa
