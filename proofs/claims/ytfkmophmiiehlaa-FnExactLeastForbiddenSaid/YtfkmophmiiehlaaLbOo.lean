/- Contracts and lemmas for the statements of this seat, written for this claim; each theorem states its own conditions. -/
import Derived.Test.YtfkmophmiiehlaaLbBy
set_option linter.unusedVariables false
set_option linter.unusedSimpArgs false
namespace Go.Proofs.Ytfkmophmiiehlaa
open Go.RowKit
attribute [local go_sem] addUpon_value addUpon_skip addUpon_enter
set_option maxRecDepth 100000 in
set_option maxHeartbeats 1000000 in
theorem slicesEqual_c (xs ys : List Int) (A B : Option Addr) (cx cy : Nat) (w : World) (hx : Cells w A (ints xs)) (hy : Cells w B (ints ys)) (lx : xs.length ≤ 1000000000) (ly : ys.length ≤ 1000000000) :
    Calls Try.prog 58 #[.slice A xs.length cx, .slice B ys.length cy] w fun e w' => e = .returned (.bool (eqI xs ys)) ∧ Below w.heap.size w w' := by
  by_cases hl : xs.length = ys.length
  · have HL := Lib.hid hl
    have hl' : ((xs.length : Int) != (ys.length : Int)) = false := by simp; omega
    have hl2 : ys.length ≤ xs.length := by omega
    have hl3 : xs.length ≤ ys.length := by omega
    clear hl
    go_enter Try.func58, Try.ntmps58
    go_wp2
    go_loopw [13] (fun i wr => ∃ k : Nat, k ≤ xs.length ∧ i = .int .i64 k ∧ Hid (∀ j (h1 : j < xs.length) (h2 : j < ys.length), j < k → xs[j] = ys[j]) ∧ Below w.heap.size w wr) (fun i _ => xs.length - (intOf i).toNat)
    case atStart => exact ⟨0, by omega, rfl, fun j _ _ h => by omega, Below.refl _ _⟩
    case round =>
      obtain ⟨k, hk, rfl, Hn, hb⟩ := hrel
      have Hb := Lib.hid hb
      by_cases h1 : k < xs.length
      · have h2 : k < ys.length := by omega
        obtain ⟨b, off, rfl, hlt, c0⟩ := (hx.below hb).int k h1
        obtain ⟨b', off', rfl, hlt', d0⟩ := (hy.below hb).int k h2
        have e0 := keepC c0
        have f0 := keepC d0
        clear c0 d0 hx hy hb
        by_cases hE : xs[k] = ys[k]
        · have hE' : (xs[k] != ys[k]) = false := by simpa using hE
          have HE : Hid (∀ j (h1 : j < xs.length) (h2 : j < ys.length), j < k + 1 → xs[j] = ys[j]) := fun j h1 h2 hj => by
            by_cases e : j = k
            · subst e; exact hE
            · exact Hn.out j h1 h2 (by omega)
          clear hE
          generalize xs[k] = s at *
          generalize ys[k] = t at *
          go_wp2_with fail
          refine wp_region_add (fun w' => Below (wr).heap.size (wr) w') (by kernel_rfl) (by kernel_rfl) ((Below.refl _ _).drew) ?_
          repeat (first
            | (refine add_skip rfl (fun K' hK' => ?_); go_simp; refine hK' _ ?_; clear hK' K')
            | (refine add_do (v := ?_) rfl (fun w1 hb => ?_) (fun K' hK' => ?_); rotate_left
               · go_simp
                 first
                 | (with_reducible exact rfl)
                 | (with_reducible exact ⟨rfl, hb⟩)
                 | exact rfl
                 | exact ⟨rfl, hb⟩
               go_simp; refine hK' _ ?_; clear hK' K'))
          refine add_nil ?_
          intro wa hba
          go_wp2
          go_roundw
          case rel => exact ⟨k + 1, by omega, by go_num, HE, by have h3 := Hb.out; (repeat (first | (with_reducible exact Below.refl _ _) | (with_reducible assumption) | (with_reducible refine below_al ?_) | (with_reducible refine below_dr ?_) | (with_reducible refine below_drN ?_) | (with_reducible refine below_set ?_ (by first | exact Nat.le_refl _ | (dsimp only; omega) | omega)) | (with_reducible refine below_tr (by with_reducible assumption) ?_)))⟩
          case measure => simp [intOf]; omega
        · have hE' : (xs[k] != ys[k]) = true := by simpa using hE
          have HE : Hid (eqI xs ys = false) := by unfold Hid eqI; simp only [decide_eq_false_iff_not]; intro e; apply hE; simp only [e]
          clear hE
          generalize xs[k] = s at *
          generalize ys[k] = t at *
          go_wp2_with fail
          refine wp_region_add (fun w' => Below (wr).heap.size (wr) w') (by kernel_rfl) (by kernel_rfl) ((Below.refl _ _).drew) ?_
          repeat (first
            | (refine add_skip rfl (fun K' hK' => ?_); go_simp; refine hK' _ ?_; clear hK' K')
            | (refine add_do (v := ?_) rfl (fun w1 hb => ?_) (fun K' hK' => ?_); rotate_left
               · go_simp
                 first
                 | (with_reducible exact rfl)
                 | (with_reducible exact ⟨rfl, hb⟩)
                 | exact rfl
                 | exact ⟨rfl, hb⟩
               go_simp; refine hK' _ ?_; clear hK' K'))
          refine add_nil ?_
          intro wa hba
          go_wp2
          go_ret
          exact ⟨ret_bool HE.out.symm, by have h3 := Hb.out; (repeat (first | (with_reducible exact Below.refl _ _) | (with_reducible assumption) | (with_reducible refine below_al ?_) | (with_reducible refine below_dr ?_) | (with_reducible refine below_drN ?_) | (with_reducible refine below_set ?_ (by first | exact Nat.le_refl _ | (dsimp only; omega) | omega)) | (with_reducible refine below_tr (by with_reducible assumption) ?_)))⟩
      · have HE : Hid (eqI xs ys = true) := by
          unfold Hid eqI; rw [decide_eq_true_eq]
          exact List.ext_getElem HL.out fun j h1 h2 => Hn.out j h1 h2 (by omega)
        clear hx hy
        go_wp2
        go_ret
        exact ⟨ret_bool HE.out.symm, hb⟩
  · have hR : Hid (eqI xs ys = false) := by unfold Hid eqI; simp only [decide_eq_false_iff_not]; intro e; exact hl (by rw [e])
    have hl' : ((xs.length : Int) != (ys.length : Int)) = true := by simp; omega
    clear hl
    go_enter Try.func58, Try.ntmps58
    go_wp2
    go_ret
    exact ⟨ret_bool hR.out.symm, Below.refl _ _⟩
/-- what a function value does as a predicate over lists of numbers, in every world that grows out of w -/
def PredR (w : World) (k : FuncId) (caps : Array Value) (p : List Int → Bool) (L : List (List Int)) : Prop :=
  ∀ j (h : j < L.length) (A : Option Addr) (cx : Nat) (w1 : World), Below w.heap.size w w1 → Cells w1 A (ints L[j]) → Calls Try.prog k (#[.slice A L[j].length cx] ++ caps) w1 fun e w2 => e = .returned (.bool (p L[j])) ∧ Below w1.heap.size w1 w2
def idxR (p : List Int → Bool) (L : List (List Int)) : Int := match L.findIdx? p with | some i => (i : Int) | none => -1
theorem idxR_none {p : List Int → Bool} {xs : List (List Int)} (h : ∀ j (h : j < xs.length), p xs[j] = false) : idxR p xs = -1 := by
  have : xs.findIdx? p = none := by
    rw [List.findIdx?_eq_none_iff]
    intro x hx
    obtain ⟨j, hj, rfl⟩ := List.getElem_of_mem hx
    exact h j hj
  simp [idxR, this]
theorem idxR_some {p : List Int → Bool} {xs : List (List Int)} {i : Nat} (hi : i < xs.length) (h : ∀ j (h : j < xs.length), j < i → p xs[j] = false) (hp : p xs[i] = true) : idxR p xs = i := by
  have : xs.findIdx? p = some i := by
    rw [List.findIdx?_eq_some_iff_getElem]
    exact ⟨hi, hp, fun j hj => by simp [h j (by omega) hj]⟩
  simp [idxR, this]
set_option maxRecDepth 100000 in
set_option maxHeartbeats 1000000 in
theorem indexFuncR_c (L : List (List Int)) (A : Option Addr) (cx : Nat) (k : FuncId) (caps : Array Value) (p : List Int → Bool) (w : World)
    (hk : ∀ args w, Sem.run Try.prog (callFunc k args) w = .ok (.enter k args) w) (hx : RowsC w A L) (hl : L.length ≤ 1000000000) (hp : PredR w k caps p L) :
    Calls Try.prog 115 #[.slice A L.length cx, .func (.func k) #[] caps] w fun e w' =>
      e = .returned (.int .i64 (idxR p L)) ∧ Below w.heap.size w w' := by
  go_enter Try.func115, Try.ntmps115
  go_wp2
  go_loopw [8] (fun i wr => ∃ k : Nat, k ≤ L.length ∧ i = .int .i64 k ∧ Hid (∀ j (h : j < L.length), j < k → p L[j] = false) ∧ Below w.heap.size w wr) (fun i _ => L.length - (intOf i).toNat)
  case atStart => exact ⟨0, by omega, rfl, fun j _ h => by omega, Below.refl _ _⟩
  case round =>
    obtain ⟨i, hi, rfl, Hn, hb⟩ := hrel
    by_cases h1 : i < L.length
    · obtain ⟨b, off, A1, c1, rfl, hlt, c0, r1⟩ := (hx.below hb) i h1
      have Hc := Lib.hid (hp i h1 A1 c1 wr hb r1)
      have Hb := Lib.hid hb
      clear hp hx r1 hb
      cases hpx : p L[i]
      · have Hpx := Lib.hid hpx
        rw [hpx] at Hc
        clear hpx
        go_wp2_with fail
        refine Hc.out.mono ?_
        rintro e w1 ⟨rfl, hb1⟩
        go_wp2
        go_roundw
        case rel => exact ⟨i + 1, by omega, by go_num, fun j h hj => by
          by_cases e : j = i
          · subst e; exact Hpx.out
          · exact Hn.out j h (by omega), by have h3 := Hb.out; (repeat (first | (with_reducible exact Below.refl _ _) | (with_reducible assumption) | (with_reducible refine below_al ?_) | (with_reducible refine below_dr ?_) | (with_reducible refine below_drN ?_) | (with_reducible refine below_set ?_ (by first | exact Nat.le_refl _ | (dsimp only; omega) | omega)) | (with_reducible refine below_tr (by with_reducible assumption) ?_)))⟩
        case measure => simp [intOf]; omega
      · have Hpx := Lib.hid hpx
        rw [hpx] at Hc
        clear hpx
        go_wp2_with fail
        refine Hc.out.mono ?_
        rintro e w1 ⟨rfl, hb1⟩
        go_wp2
        go_ret
        exact ⟨ret_int (idxR_some h1 Hn.out Hpx.out).symm, by have h3 := Hb.out; (repeat (first | (with_reducible exact Below.refl _ _) | (with_reducible assumption) | (with_reducible refine below_al ?_) | (with_reducible refine below_dr ?_) | (with_reducible refine below_drN ?_) | (with_reducible refine below_set ?_ (by first | exact Nat.le_refl _ | (dsimp only; omega) | omega)) | (with_reducible refine below_tr (by with_reducible assumption) ?_)))⟩
    · go_wp2
      go_ret
      exact ⟨ret_int (idxR_none (fun j h => Hn.out j h (by omega))).symm, hb⟩
end Go.Proofs.Ytfkmophmiiehlaa
