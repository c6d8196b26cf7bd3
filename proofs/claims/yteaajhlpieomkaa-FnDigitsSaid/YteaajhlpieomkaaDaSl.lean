/- Contracts and lemmas for the statements of this seat, written for this claim; each theorem states its own conditions. -/
import Derived.StillTailTactics
import Derived.Test.YteaajhlpieomkaaDaBk
set_option linter.unusedVariables false
set_option linter.unusedSimpArgs false
namespace Go.Proofs.Yteaajhlpieomkaa
open Go.RowKit
def inR (lo hi n : Int) : Bool := decide (lo ≤ n ∧ n ≤ hi)
theorem inR_iff {lo hi n : Int} : inR lo hi n = true ↔ lo ≤ n ∧ n ≤ hi := by simp [inR]

set_option maxRecDepth 100000 in
set_option maxHeartbeats 1000000 in
theorem within_c (n lo hi : Int) (w : World) :
    Calls Try.prog 26 #[.int .i64 n, .int .i64 lo, .int .i64 hi] w fun e w' => e = .returned (.bool (inR lo hi n)) ∧ w = w' := by
  by_cases h : lo ≤ n
  · have h' : decide (lo ≤ n) = true := by simpa using h
    clear h
    go_enter Try.func26, Try.ntmps26
    go_wp2
    go_ret
    exact ⟨by have := of_decide_eq_true h'; simp [inR, this], rfl⟩
  · have h' : decide (lo ≤ n) = false := by simpa using h
    clear h
    go_enter Try.func26, Try.ntmps26
    go_wp2
    go_ret
    exact ⟨by have := of_decide_eq_false h'; simp [inR, this], rfl⟩

/-- what a function value f does as a predicate over ints, in every world that grows out of w -/
def PredI (w : World) (k : FuncId) (caps : Array Value) (p : Int → Bool) (xs : List Int) : Prop :=
  ∀ x ∈ xs, ∀ w1, Below w.heap.size w w1 → Calls Try.prog k (#[.int .i64 x] ++ caps) w1 fun e w2 => e = .returned (.bool (p x)) ∧ Below w1.heap.size w1 w2


def idxI (p : Int → Bool) (xs : List Int) : Int := match xs.findIdx? p with | some i => (i : Int) | none => -1
theorem idxI_none {p : Int → Bool} {xs : List Int} (h : ∀ j (h : j < xs.length), p xs[j] = false) : idxI p xs = -1 := by
  have : xs.findIdx? p = none := by
    rw [List.findIdx?_eq_none_iff]
    intro x hx
    obtain ⟨j, hj, rfl⟩ := List.getElem_of_mem hx
    exact h j hj
  simp [idxI, this]
theorem idxI_some {p : Int → Bool} {xs : List Int} {i : Nat} (hi : i < xs.length) (h : ∀ j (h : j < xs.length), j < i → p xs[j] = false) (hp : p xs[i] = true) : idxI p xs = i := by
  have : xs.findIdx? p = some i := by
    rw [List.findIdx?_eq_some_iff_getElem]
    exact ⟨hi, hp, fun j hj => by simp [h j (by omega) hj]⟩
  simp [idxI, this]

set_option maxRecDepth 100000 in
set_option maxHeartbeats 1000000 in
theorem indexFuncI_c (xs : List Int) (A : Option Addr) (cx : Nat) (k : FuncId) (caps : Array Value) (p : Int → Bool) (w : World)
    (hk : ∀ args w, Sem.run Try.prog (callFunc k args) w = .ok (.enter k args) w) (hx : Cells w A (ints xs)) (hl : xs.length ≤ 1000000000) (hp : PredI w k caps p xs) :
    Calls Try.prog 37 #[.slice A xs.length cx, .func (.func k) #[] caps] w fun e w' =>
      e = .returned (.int .i64 (idxI p xs)) ∧ Below w.heap.size w w' := by
  go_enter Try.func37, Try.ntmps37
  go_wp2
  go_loopw [8] (fun i wr => ∃ k : Nat, k ≤ xs.length ∧ i = .int .i64 k ∧ Hid (∀ j (h : j < xs.length), j < k → p xs[j] = false) ∧ Below w.heap.size w wr) (fun i _ => xs.length - (intOf i).toNat)
  case atStart => exact ⟨0, by omega, rfl, fun j _ h => by omega, Below.refl _ _⟩
  case round =>
    obtain ⟨i, hi, rfl, Hn, hb⟩ := hrel
    by_cases h1 : i < xs.length
    · obtain ⟨b, off, rfl, hc⟩ := hx i (by simpa [ints] using h1)
      simp only [ints, List.getElem_map] at hc
      have hbl : b < w.heap.size := World.block_lt_of_cell? w _ hc
      have hc' := (hb.cell (p := ⟨b, off + i, none⟩) hbl).trans hc
      have hcall := hp xs[i] (List.getElem_mem h1) wr hb
      have Hc := Lib.hid hcall; clear hcall hp
      cases hpx : p xs[i]
      · have Hpx := Lib.hid hpx
        rw [hpx] at Hc
        clear hpx
        go_wp2_with fail
        refine Hc.out.mono ?_
        rintro e w1 ⟨rfl, hb1⟩
        go_wp2
        go_roundw
        case rel => exact ⟨i + 1, by omega, by go_num, fun j h hj => by
          by_cases e : j = i
          · subst e; exact Hpx.out
          · exact Hn.out j h (by omega), hb.trans (hb1.mono hb.size)⟩
        case measure => simp [intOf]; omega
      · have Hpx := Lib.hid hpx
        rw [hpx] at Hc
        clear hpx
        go_wp2_with fail
        refine Hc.out.mono ?_
        rintro e w1 ⟨rfl, hb1⟩
        go_wp2
        go_ret
        exact ⟨ret_int (idxI_some h1 Hn.out Hpx.out).symm, hb.trans (hb1.mono hb.size)⟩
    · go_wp2
      go_ret
      exact ⟨ret_int (idxI_none (fun j h => Hn.out j h (by omega))).symm, hb⟩

set_option maxRecDepth 100000 in
set_option maxHeartbeats 1000000 in
theorem containsFuncI_c (xs : List Int) (A : Option Addr) (cx : Nat) (k : FuncId) (caps : Array Value) (p : Int → Bool) (w : World)
    (hk : ∀ args w, Sem.run Try.prog (callFunc k args) w = .ok (.enter k args) w) (hx : Cells w A (ints xs)) (hl : xs.length ≤ 1000000000) (hp : PredI w k caps p xs) :
    Calls Try.prog 27 #[.slice A xs.length cx, .func (.func k) #[] caps] w fun e w' =>
      e = .returned (.bool (xs.any p)) ∧ Below w.heap.size w w' := by
  have hr : decide (0 ≤ idxI p xs) = xs.any p := by
    unfold idxI
    cases h : xs.findIdx? p with
    | none => simp [List.findIdx?_eq_none_iff] at h; simp; simpa using h
    | some i => obtain ⟨hi, h1, h2⟩ := List.findIdx?_eq_some_iff_getElem.1 h; simp; exact ⟨xs[i], List.getElem_mem hi, h1⟩
  have Hr := Lib.hid hr; clear hr
  have Hp := Lib.hid hp; clear hp
  have Hx := Lib.hid hx; clear hx
  go_enter Try.func27, Try.ntmps27
  go_wp2_with (go_at_call 37; refine (indexFuncI_c xs A cx k caps p w hk Hx.out hl Hp.out).mono ?_; rintro e w1 ⟨rfl, hb1⟩)
  go_ret
  exact ⟨ret_bool Hr.out, hb1⟩


end Go.Proofs.Yteaajhlpieomkaa
