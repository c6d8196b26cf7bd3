/- Contracts and lemmas for the statements of this seat, written for this claim; each theorem states its own conditions. -/
import Derived.Test.YtfkmophmiiehlaaVpL1
import Derived.Test.YtfkmophmiiehlaaVpLi
import Derived.Test.YtfkmophmiiehlaaVpOw
set_option linter.unusedVariables false
set_option linter.unusedSimpArgs false
namespace Go.Proofs.Ytfkmophmiiehlaa
open Go.RowKit
def codeB (s b : Bool) : Int := if s = true then (if b = true then 0 else 2) else 1
set_option maxRecDepth 100000 in
set_option maxHeartbeats 1000000 in
theorem setCode_c (c : Int) (ts : List T4) (A : Option Addr) (cx : Nat) (k : FuncId) (caps : Array Value) (b : Bool) (w : World) (hk : ∀ args w, Sem.run Try.prog (callFunc k args) w = .ok (.enter k args) w)
    (hT : TileCells w A ts) (hl : ts.length ≤ 1000000000) (hf : isSetB c ts = true → ∀ w1, Below w.heap.size w w1 → Calls Try.prog k caps w1 fun e w2 => e = .returned (.bool b) ∧ Below w1.heap.size w1 w2) :
    Calls Try.prog 110 #[.agg #[.int .i64 c, .slice A ts.length cx], .func (.func k) #[] caps] w fun e w' => e = .returned (.int .i64 (codeB (isSetB c ts) b)) ∧ Below w.heap.size w w' := by
  have HI := Lib.hid (fun w h => isSet_c c ts A cx w h hl)
  have HT := Lib.hid hT
  have HF := Lib.hid hf
  clear hT hf
  cases hs : isSetB c ts
  · rw [hs] at HI
    clear hs
    go_enter Try.func110, Try.ntmps110
    go_wp2_with fail
    refine (HI.out _ (HT.out.below (by (repeat (first | (with_reducible exact Below.refl _ _) | (with_reducible assumption) | (with_reducible refine below_al ?_) | (with_reducible refine below_dr ?_) | (with_reducible refine below_drN ?_) | (with_reducible refine below_set ?_ (by first | exact Nat.le_refl _ | (dsimp only; omega) | omega)) | (with_reducible refine below_tr (by with_reducible assumption) ?_)))))).mono ?_
    rintro e w1 ⟨rfl, hb1⟩
    go_wp2
    go_ret
    exact ⟨rfl, by (repeat (first | (with_reducible exact Below.refl _ _) | (with_reducible assumption) | (with_reducible refine below_al ?_) | (with_reducible refine below_dr ?_) | (with_reducible refine below_drN ?_) | (with_reducible refine below_set ?_ (by first | exact Nat.le_refl _ | (dsimp only; omega) | omega)) | (with_reducible refine below_tr (by with_reducible assumption) ?_)))⟩
  · rw [hs] at HI
    have HF2 := Lib.hid (HF.out hs)
    clear hs HF
    cases b
    all_goals
      go_enter Try.func110, Try.ntmps110
      go_wp2_with fail
      refine (HI.out _ (HT.out.below (by (repeat (first | (with_reducible exact Below.refl _ _) | (with_reducible assumption) | (with_reducible refine below_al ?_) | (with_reducible refine below_dr ?_) | (with_reducible refine below_drN ?_) | (with_reducible refine below_set ?_ (by first | exact Nat.le_refl _ | (dsimp only; omega) | omega)) | (with_reducible refine below_tr (by with_reducible assumption) ?_)))))).mono ?_
      rintro e w1 ⟨rfl, hb1⟩
      have Hw1 : Hid (Below w.heap.size w w1) := by (show Below _ _ _); (repeat (first | (with_reducible exact Below.refl _ _) | (with_reducible assumption) | (with_reducible refine below_al ?_) | (with_reducible refine below_dr ?_) | (with_reducible refine below_drN ?_) | (with_reducible refine below_set ?_ (by first | exact Nat.le_refl _ | (dsimp only; omega) | omega)) | (with_reducible refine below_tr (by with_reducible assumption) ?_)))
      clear hb1
      go_wp2_with fail
      refine (HF2.out _ Hw1.out).mono ?_
      rintro e w2 ⟨rfl, hb2⟩
      go_wp2
      go_ret
      exact ⟨rfl, Hw1.out.trans (hb2.mono Hw1.out.size)⟩
end Go.Proofs.Ytfkmophmiiehlaa
namespace Go.Proofs.Ytfkmophmiiehlaa
open Go.RowKit
/-- every number of every tile is in 0..5 -/
def Small (ts : List T4) : Prop := ∀ k (h : k < ts.length), (0 ≤ ts[k].a ∧ ts[k].a ≤ 5) ∧ (0 ≤ ts[k].b ∧ ts[k].b ≤ 5) ∧ (0 ≤ ts[k].c ∧ ts[k].c ≤ 5) ∧ (0 ≤ ts[k].d ∧ ts[k].d ≤ 5)
theorem isSetB_parts {c : Int} {ts : List T4} (h : isSetB c ts = true) : (∀ j, j < ts.length → okAt c ts j = true) ∧ (1 ≤ c ∧ c ≤ 6) ∧ ts.length ≤ 16 := by
  unfold isSetB at h
  simp only [Bool.and_eq_true, List.all_eq_true, List.mem_range, inR_iff, decide_eq_true_eq] at h
  exact ⟨h.1.1, h.1.2, h.2⟩
theorem isSetB_small {c : Int} {ts : List T4} (h : isSetB c ts = true) : Small ts ∧ ts.length ≤ 16 := by
  obtain ⟨h1, h2, h3⟩ := isSetB_parts h
  refine ⟨fun k hk => ?_, h3⟩
  have h4 := h1 k hk
  unfold okAt at h4
  simp only [Bool.and_eq_true] at h4
  have h5 := h4.1
  rw [getD_at hk] at h5
  have hw : wrap64 (c - 1) = c - 1 := by unfold wrap64; omega
  simp only [isTileB, T4.l, List.all_cons, List.all_nil, Bool.and_eq_true, inR_iff, hw] at h5
  omega
def tA (ts : List T4) (k : Int) : T4 := ts.getD k.toNat default
def balAt (ts : List T4) (p q k : Int) : Int := p * (tA ts k).b - q * (tA ts k).d
def balSum (ts : List T4) (p q : Int) (row : List Int) : Int := (row.map (balAt ts p q)).sum
def balV (ts : List T4) (row : List Int) (p q : Int) : Int := (tA ts (row.getD 0 0)).a - (tA ts (row.getD (row.length - 1) 0)).c + balSum ts p q row
def InRow (ts : List T4) (row : List Int) : Prop := ∀ j (h : j < row.length), 0 ≤ row[j] ∧ row[j] < ts.length
theorem tA_nat (ts : List T4) (m : Nat) (h : m < ts.length) : tA ts (m : Int) = ts[m] := by simp [tA, h]
theorem balAt_bound {ts : List T4} (hS : Small ts) {p q k : Int} (hp : 1 ≤ p) (hp' : p ≤ 5) (hq : 1 ≤ q) (hq' : q ≤ 5) (hk : 0 ≤ k) (hk' : k < ts.length) : -25 ≤ balAt ts p q k ∧ balAt ts p q k ≤ 25 := by
  obtain ⟨m, rfl⟩ := Int.eq_ofNat_of_zero_le hk
  have hm : m < ts.length := by omega
  unfold balAt
  rw [tA_nat ts m hm]
  obtain ⟨_, ⟨b1, b2⟩, _, d1, d2⟩ := hS m hm
  have e1 : 0 ≤ p * ts[m].b := Int.mul_nonneg (by omega) b1
  have e2 : p * ts[m].b ≤ 5 * 5 := Int.mul_le_mul hp' b2 b1 (by omega)
  have e3 : 0 ≤ q * ts[m].d := Int.mul_nonneg (by omega) d1
  have e4 : q * ts[m].d ≤ 5 * 5 := Int.mul_le_mul hq' d2 d1 (by omega)
  omega
theorem balSum_succ (ts : List T4) (p q : Int) (row : List Int) (k : Nat) (hk : k < row.length) : balSum ts p q (row.take (k + 1)) = balSum ts p q (row.take k) + balAt ts p q row[k] := by
  unfold balSum
  rw [List.take_succ_eq_append_getElem hk, List.map_append, List.sum_append]
  simp
theorem balSum_bound {ts : List T4} (hS : Small ts) {p q : Int} (hp : 1 ≤ p) (hp' : p ≤ 5) (hq : 1 ≤ q) (hq' : q ≤ 5) {row : List Int} (hr : InRow ts row) : ∀ k, k ≤ row.length → -(25 * k : Int) ≤ balSum ts p q (row.take k) ∧ balSum ts p q (row.take k) ≤ 25 * k
  | 0, _ => by simp [balSum]
  | k + 1, hk => by
    have h1 := balSum_bound hS hp hp' hq hq' hr k (by omega)
    have h2 := hr k (by omega)
    have h3 := balAt_bound hS hp hp' hq hq' h2.1 h2.2
    rw [balSum_succ ts p q row k (by omega)]
    omega
end Go.Proofs.Ytfkmophmiiehlaa
namespace Go.Proofs.Ytfkmophmiiehlaa
open Go.RowKit
set_option maxRecDepth 100000 in
set_option maxHeartbeats 1000000 in
theorem isNumber_c (c : Int) (A : Option Addr) (n cx : Nat) (x : Int) (w : World) (hl : n ≤ 1000000000) :
    Calls Try.prog 136 #[.agg #[.int .i64 c, .slice A n cx], .int .i64 x] w fun e w' => e = .returned (.bool (inR 0 ((n : Int) - 1) x)) ∧ Below w.heap.size w w' := by
  have q : IntKind.i64.wrap ((n : Int) - 1) = (n : Int) - 1 := IntWalk.i64_in _ (by omega)
  have H := Lib.hid (fun w => within_c x 0 ((n : Int) - 1) w)
  generalize inR 0 ((n : Int) - 1) x = r at *
  go_enter Try.func136, Try.ntmps136
  go_wp2_with fail
  refine (H.out _).mono ?_
  rintro e w1 ⟨rfl, rfl⟩
  go_wp2
  go_ret
  exact ⟨rfl, by (repeat (first | (with_reducible exact Below.refl _ _) | (with_reducible assumption) | (with_reducible refine below_al ?_) | (with_reducible refine below_dr ?_) | (with_reducible refine below_drN ?_) | (with_reducible refine below_set ?_ (by first | exact Nat.le_refl _ | (dsimp only; omega) | omega)) | (with_reducible refine below_tr (by with_reducible assumption) ?_)))⟩
end Go.Proofs.Ytfkmophmiiehlaa
