/- Contracts and lemmas for the statements of this seat, written for this claim; each theorem states its own conditions. -/
import Derived.Test.YtfkmophmiiehlaaKbLi
import Derived.Test.YtfkmophmiiehlaaKbAp
import Derived.Test.YtfkmophmiiehlaaKbSe
set_option linter.unusedVariables false
set_option linter.unusedSimpArgs false
namespace Go.Proofs.Ytfkmophmiiehlaa
open Go.RowKit
/-- every number of every tile is in 0..5 -/
def Small (ts : List T4) : Prop := ∀ k (h : k < ts.length), (0 ≤ ts[k].a ∧ ts[k].a ≤ 5) ∧ (0 ≤ ts[k].b ∧ ts[k].b ≤ 5) ∧ (0 ≤ ts[k].c ∧ ts[k].c ≤ 5) ∧ (0 ≤ ts[k].d ∧ ts[k].d ≤ 5)
theorem isSetB_parts {c : Int} {ts : List T4} (h : isSetB c ts = true) : (∀ j, j < ts.length → okAt c ts j = true) ∧ (1 ≤ c ∧ c ≤ 6) ∧ ts.length ≤ 16 := by
  unfold isSetB at h
  simp only [Bool.and_eq_true, List.all_eq_true, List.mem_range, inR_iff, decide_eq_true_eq] at h
  exact ⟨h.1.1, h.1.2, h.2⟩
theorem isSetB_small {c : Int} {ts : List T4} (h : isSetB c ts = true) : Small ts ∧ ts.length ≤ 16 := by
  obtain ⟨h1, h2, h3⟩ := isSetB_parts h
  refine ⟨fun k hk => ?_, h3⟩
  have h4 := h1 k hk
  unfold okAt at h4
  simp only [Bool.and_eq_true] at h4
  have h5 := h4.1
  rw [getD_at hk] at h5
  have hw : wrap64 (c - 1) = c - 1 := by unfold wrap64; omega
  simp only [isTileB, T4.l, List.all_cons, List.all_nil, Bool.and_eq_true, inR_iff, hw] at h5
  omega
def tA (ts : List T4) (k : Int) : T4 := ts.getD k.toNat default
def balAt (ts : List T4) (p q k : Int) : Int := p * (tA ts k).b - q * (tA ts k).d
def balSum (ts : List T4) (p q : Int) (row : List Int) : Int := (row.map (balAt ts p q)).sum
def balV (ts : List T4) (row : List Int) (p q : Int) : Int := (tA ts (row.getD 0 0)).a - (tA ts (row.getD (row.length - 1) 0)).c + balSum ts p q row
def InRow (ts : List T4) (row : List Int) : Prop := ∀ j (h : j < row.length), 0 ≤ row[j] ∧ row[j] < ts.length
theorem tA_nat (ts : List T4) (m : Nat) (h : m < ts.length) : tA ts (m : Int) = ts[m] := by simp [tA, h]
theorem balAt_bound {ts : List T4} (hS : Small ts) {p q k : Int} (hp : 1 ≤ p) (hp' : p ≤ 5) (hq : 1 ≤ q) (hq' : q ≤ 5) (hk : 0 ≤ k) (hk' : k < ts.length) : -25 ≤ balAt ts p q k ∧ balAt ts p q k ≤ 25 := by
  obtain ⟨m, rfl⟩ := Int.eq_ofNat_of_zero_le hk
  have hm : m < ts.length := by omega
  unfold balAt
  rw [tA_nat ts m hm]
  obtain ⟨_, ⟨b1, b2⟩, _, d1, d2⟩ := hS m hm
  have e1 : 0 ≤ p * ts[m].b := Int.mul_nonneg (by omega) b1
  have e2 : p * ts[m].b ≤ 5 * 5 := Int.mul_le_mul hp' b2 b1 (by omega)
  have e3 : 0 ≤ q * ts[m].d := Int.mul_nonneg (by omega) d1
  have e4 : q * ts[m].d ≤ 5 * 5 := Int.mul_le_mul hq' d2 d1 (by omega)
  omega
theorem balSum_succ (ts : List T4) (p q : Int) (row : List Int) (k : Nat) (hk : k < row.length) : balSum ts p q (row.take (k + 1)) = balSum ts p q (row.take k) + balAt ts p q row[k] := by
  unfold balSum
  rw [List.take_succ_eq_append_getElem hk, List.map_append, List.sum_append]
  simp
theorem balSum_bound {ts : List T4} (hS : Small ts) {p q : Int} (hp : 1 ≤ p) (hp' : p ≤ 5) (hq : 1 ≤ q) (hq' : q ≤ 5) {row : List Int} (hr : InRow ts row) : ∀ k, k ≤ row.length → -(25 * k : Int) ≤ balSum ts p q (row.take k) ∧ balSum ts p q (row.take k) ≤ 25 * k
  | 0, _ => by simp [balSum]
  | k + 1, hk => by
    have h1 := balSum_bound hS hp hp' hq hq' hr k (by omega)
    have h2 := hr k (by omega)
    have h3 := balAt_bound hS hp hp' hq hq' h2.1 h2.2
    rw [balSum_succ ts p q row k (by omega)]
    omega
end Go.Proofs.Ytfkmophmiiehlaa
namespace Go.Proofs.Ytfkmophmiiehlaa
open Go.RowKit
set_option maxRecDepth 100000 in
set_option maxHeartbeats 1000000 in
theorem isNumber_c (c : Int) (A : Option Addr) (n cx : Nat) (x : Int) (w : World) (hl : n ≤ 1000000000) :
    Calls Try.prog 136 #[.agg #[.int .i64 c, .slice A n cx], .int .i64 x] w fun e w' => e = .returned (.bool (inR 0 ((n : Int) - 1) x)) ∧ Below w.heap.size w w' := by
  have q : IntKind.i64.wrap ((n : Int) - 1) = (n : Int) - 1 := IntWalk.i64_in _ (by omega)
  have H := Lib.hid (fun w => within_c x 0 ((n : Int) - 1) w)
  generalize inR 0 ((n : Int) - 1) x = r at *
  go_enter Try.func136, Try.ntmps136
  go_wp2_with fail
  refine (H.out _).mono ?_
  rintro e w1 ⟨rfl, rfl⟩
  go_wp2
  go_ret
  exact ⟨rfl, by (repeat (first | (with_reducible exact Below.refl _ _) | (with_reducible assumption) | (with_reducible refine below_al ?_) | (with_reducible refine below_dr ?_) | (with_reducible refine below_drN ?_) | (with_reducible refine below_set ?_ (by first | exact Nat.le_refl _ | (dsimp only; omega) | omega)) | (with_reducible refine below_tr (by with_reducible assumption) ?_)))⟩
end Go.Proofs.Ytfkmophmiiehlaa
namespace Go.Proofs.Ytfkmophmiiehlaa
open Go.RowKit
theorem infoSl : (Try.prog.info? 63).map (fun i => (i.zero, i.size, i.bytes)) = some (some (.slice none 0 0), 1, 24) := by kernel_rfl
/-- a slice of slices of numbers reads as a list of lists -/
def RowsC (w : World) (B : Option Addr) (L : List (List Int)) : Prop :=
  ∀ k (h : k < L.length), ∃ b off A cx, B = some ⟨b, off, none⟩ ∧ b < w.heap.size ∧ w.cell? ⟨b, off + k, none⟩ = some (.slice A L[k].length cx) ∧ Cells w A (ints L[k])
theorem RowsC.below {w w1 : World} {B : Option Addr} {L : List (List Int)} (h : RowsC w B L) (hb : Below w.heap.size w w1) : RowsC w1 B L := by
  intro k hk
  obtain ⟨b, off, A, cx, e, hlt, hc, hr⟩ := h k hk
  exact ⟨b, off, A, cx, e, Nat.lt_of_lt_of_le hlt hb.size, (hb.cell (p := ⟨b, _, none⟩) hlt).trans hc, hr.below hb⟩
theorem RowsC.pair {w : World} {b off : Nat} {L : List (List Int)} (h : RowsC w (some ⟨b, off, none⟩) L) (k : Nat) (hk : k < L.length) : ∃ A cx, w.cell? ⟨b, off + k, none⟩ = some (.slice A L[k].length cx) ∧ Cells w A (ints L[k]) := by
  obtain ⟨b', off', A, cx, e, hlt, hc, hr⟩ := h k hk
  injection e with e
  injection e with e1 e2
  subst e1 e2
  exact ⟨A, cx, hc, hr⟩
def tot (L : List (List Int)) : Nat := (L.map List.length).sum
theorem tot_take {L : List (List Int)} {k : Nat} (hk : k < L.length) : tot (L.take (k + 1)) = tot (L.take k) + L[k].length := by
  unfold tot; rw [List.take_succ_eq_append_getElem hk, List.map_append, List.sum_append]; simp
def Short (n : Nat) (L : List (List Int)) : Prop := ∀ k (h : k < L.length), L[k].length ≤ n
/-- a slice of slices of numbers that the call made and owns, its rows apart from each other -/
def OwnII (w : World) (B : Nat) (v : Value) (L : List (List Int)) : Prop :=
  ∃ vs : List Value, w.ownsRow B 63 1 v L.length vs ∧ (∀ i (h : i < vs.length) (h' : i < L.length), OwnI w B vs[i] L[i]) ∧
    (∀ i j (h : i < vs.length) (h' : j < vs.length), i ≠ j → Apart vs[i] vs[j]) ∧ ∀ i (h : i < vs.length), Apart vs[i] v
theorem OwnI.setOther {w : World} {B : Nat} {v : Value} {xs : List Int} (h : OwnI w B v xs) (a : Addr) (ha : a.block < B) (u : Value) : OwnI (w.setCell a u) B v xs :=
  World.ownsRow.kept (row := some a.block) h ⟨rfl, rfl, rfl, by simp, fun k hk hne => Below.heap_setCell w a u k (fun e => hne (by simp [e]))⟩ (by
    cases e : v.ownBlock with
    | none => exact .inl rfl
    | some k => right; have := (World.ownsRow.lt h k e).1; intro e2; injection e2 with e2; omega)
theorem OwnII.rows {w : World} {B : Nat} {v : Value} {L : List (List Int)} (h : OwnII w B v L) : ∃ A cx, v = .slice A L.length cx ∧ RowsC w A L := by
  obtain ⟨vs, h1, h2, _⟩ := h
  have hl : vs.length = L.length := by have := h1.1; omega
  obtain ⟨_, h3⟩ := h1
  rcases h3 with ⟨rfl, h3⟩ | ⟨g, cap, cur, rfl, e2, e3, e4, e5, e6, e7⟩
  · exact ⟨none, 0, by rw [h3], fun k hk => by omega⟩
  · refine ⟨some ⟨g, 0, none⟩, cap, rfl, fun k hk => ?_⟩
    obtain ⟨A, cx, e, hc, _⟩ := (h2 k (by omega) hk).shape
    refine ⟨g, 0, A, cx, rfl, (Array.getElem?_eq_some_iff.1 e3).1, ?_, hc⟩
    rw [Nat.zero_add]
    unfold World.cell?
    simp only [e3]
    have hk2 : k < vs.length := by omega
    have h9 : (cur.toList.take (L.length * 1))[k]? = some (vs[k]'hk2) := by rw [e7]; exact List.getElem?_eq_getElem hk2
    rw [List.getElem?_take] at h9
    simp [hk] at h9
    simp [h9, e]
end Go.Proofs.Ytfkmophmiiehlaa
