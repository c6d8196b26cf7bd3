/- Contracts and lemmas for the statements of this seat, written for this claim; each theorem states its own conditions. -/
import Derived.Test.YtfkmophmiiehlaaKbI2
import Derived.Test.YtfkmophmiiehlaaKbL1
import Derived.Test.YtfkmophmiiehlaaKbSe
set_option linter.unusedVariables false
set_option linter.unusedSimpArgs false
namespace Go.Proofs.Ytfkmophmiiehlaa
open Go.RowKit
def idxT (p : T4 → Bool) (l : List T4) : Int := match l.findIdx? p with | some i => (i : Int) | none => -1
theorem idxT_none {p : T4 → Bool} {xs : List T4} (h : ∀ j (h : j < xs.length), p xs[j] = false) : idxT p xs = -1 := by
  have : xs.findIdx? p = none := by
    rw [List.findIdx?_eq_none_iff]
    intro x hx
    obtain ⟨j, hj, rfl⟩ := List.getElem_of_mem hx
    exact h j hj
  simp [idxT, this]
theorem idxT_some {p : T4 → Bool} {xs : List T4} {i : Nat} (hi : i < xs.length) (h : ∀ j (h : j < xs.length), j < i → p xs[j] = false) (hp : p xs[i] = true) : idxT p xs = i := by
  have : xs.findIdx? p = some i := by
    rw [List.findIdx?_eq_some_iff_getElem]
    exact ⟨hi, hp, fun j hj => by simp [h j (by omega) hj]⟩
  simp [idxT, this]
def PredT (w : World) (k : FuncId) (caps : Array Value) (p : T4 → Bool) (xs : List T4) : Prop :=
  ∀ x ∈ xs, ∀ w1, Below w.heap.size w w1 → Calls Try.prog k (#[.agg #[.int .i64 x.a, .int .i64 x.b, .int .i64 x.c, .int .i64 x.d]] ++ caps) w1 fun e w' => e = .returned (.bool (p x)) ∧ Below w1.heap.size w1 w'
set_option maxRecDepth 100000 in
set_option maxHeartbeats 1000000 in
theorem indexFuncT_c (xs : List T4) (A : Option Addr) (cx : Nat) (k : FuncId) (caps : Array Value) (p : T4 → Bool) (w : World)
    (hk : ∀ args w, Sem.run Try.prog (callFunc k args) w = .ok (.enter k args) w) (hx : TileCells w A xs) (hl : xs.length ≤ 1000000000) (hp : PredT w k caps p xs) :
    Calls Try.prog 148 #[.slice A xs.length cx, .func (.func k) #[] caps] w fun e w' =>
      e = .returned (.int .i64 (idxT p xs)) ∧ Below w.heap.size w w' := by
  go_enter Try.func148, Try.ntmps148
  go_wp2
  go_loopw [8] (fun i wr => ∃ k : Nat, k ≤ xs.length ∧ i = .int .i64 k ∧ Hid (∀ j (h : j < xs.length), j < k → p xs[j] = false) ∧ Below w.heap.size w wr) (fun i _ => xs.length - (intOf i).toNat)
  case atStart => exact ⟨0, by omega, rfl, fun j _ h => by omega, Below.refl _ _⟩
  case round =>
    obtain ⟨i, hi, rfl, Hn, hb⟩ := hrel
    by_cases h1 : i < xs.length
    · obtain ⟨b, off, rfl, hlt, c0, c1, c2, c3⟩ := (hx.below hb) i h1
      have Hc := Lib.hid (hp xs[i] (List.getElem_mem h1) wr hb)
      clear hp hx
      cases hpx : p xs[i]
      · have Hpx := Lib.hid hpx
        rw [hpx] at Hc
        clear hpx
        go_wp2_with fail
        refine Hc.out.mono ?_
        rintro e w1 ⟨rfl, hb1⟩
        go_wp2
        go_roundw
        case rel => exact ⟨i + 1, by omega, by go_num, fun j h hj => by
          by_cases e : j = i
          · subst e; exact Hpx.out
          · exact Hn.out j h (by omega), by (repeat (first | (with_reducible exact Below.refl _ _) | (with_reducible assumption) | (with_reducible refine below_al ?_) | (with_reducible refine below_dr ?_) | (with_reducible refine below_drN ?_) | (with_reducible refine below_set ?_ (by first | exact Nat.le_refl _ | (dsimp only; omega) | omega)) | (with_reducible refine below_tr (by with_reducible assumption) ?_)))⟩
        case measure => simp [intOf]; omega
      · have Hpx := Lib.hid hpx
        rw [hpx] at Hc
        clear hpx
        go_wp2_with fail
        refine Hc.out.mono ?_
        rintro e w1 ⟨rfl, hb1⟩
        go_wp2
        go_ret
        exact ⟨ret_int (idxT_some h1 Hn.out Hpx.out).symm, by (repeat (first | (with_reducible exact Below.refl _ _) | (with_reducible assumption) | (with_reducible refine below_al ?_) | (with_reducible refine below_dr ?_) | (with_reducible refine below_drN ?_) | (with_reducible refine below_set ?_ (by first | exact Nat.le_refl _ | (dsimp only; omega) | omega)) | (with_reducible refine below_tr (by with_reducible assumption) ?_)))⟩
    · go_wp2
      go_ret
      exact ⟨ret_int (idxT_none (fun j h => Hn.out j h (by omega))).symm, hb⟩
set_option maxRecDepth 100000 in
set_option maxHeartbeats 1000000 in
theorem containsFuncT_c (xs : List T4) (A : Option Addr) (cx : Nat) (k : FuncId) (caps : Array Value) (p : T4 → Bool) (w : World)
    (hk : ∀ args w, Sem.run Try.prog (callFunc k args) w = .ok (.enter k args) w) (hx : TileCells w A xs) (hl : xs.length ≤ 1000000000) (hp : PredT w k caps p xs) :
    Calls Try.prog 124 #[.slice A xs.length cx, .func (.func k) #[] caps] w fun e w' =>
      e = .returned (.bool (xs.any p)) ∧ Below w.heap.size w w' := by
  have hr : decide (0 ≤ idxT p xs) = xs.any p := by
    unfold idxT
    cases h : xs.findIdx? p with
    | none => simp [List.findIdx?_eq_none_iff] at h; simp; simpa using h
    | some i => obtain ⟨hi, h1, h2⟩ := List.findIdx?_eq_some_iff_getElem.1 h; simp; exact ⟨xs[i], List.getElem_mem hi, h1⟩
  have Hr := Lib.hid hr; clear hr
  have Hp := Lib.hid hp; clear hp
  have Hx := Lib.hid hx; clear hx
  go_enter Try.func124, Try.ntmps124
  go_wp2_with (go_at_call 148; refine (indexFuncT_c xs A cx k caps p w hk Hx.out hl Hp.out).mono ?_; rintro e w1 ⟨rfl, hb1⟩)
  go_ret
  exact ⟨ret_bool Hr.out, hb1⟩
set_option maxRecDepth 100000 in
set_option maxHeartbeats 1000000 in
theorem areTiles1_c (t : T4) (w : World) :
    Calls Try.prog 125 #[.agg #[.int .i64 t.a, .int .i64 t.b, .int .i64 t.c, .int .i64 t.d]] w fun e w' => e = .returned (.bool (!isTileB t 6)) ∧ Below w.heap.size w w' := by
  go_enter Try.func125, Try.ntmps125
  go_wp2_with fail
  refine (isTile_c t 6 _).mono ?_
  rintro e w1 ⟨rfl, hb1⟩
  go_wp2
  go_ret
  exact ⟨rfl, by (repeat (first | (with_reducible exact Below.refl _ _) | (with_reducible assumption) | (with_reducible refine below_al ?_) | (with_reducible refine below_dr ?_) | (with_reducible refine below_drN ?_) | (with_reducible refine below_set ?_ (by first | exact Nat.le_refl _ | (dsimp only; omega) | omega)) | (with_reducible refine below_tr (by with_reducible assumption) ?_)))⟩
set_option maxRecDepth 100000 in
set_option maxHeartbeats 1000000 in
theorem areTiles_c (xs : List T4) (A : Option Addr) (cx : Nat) (w : World) (hx : TileCells w A xs) (hl : xs.length ≤ 1000000000) :
    Calls Try.prog 73 #[.slice A xs.length cx] w fun e w' =>
      e = .returned (.bool (xs.all fun t => isTileB t 6)) ∧ Below w.heap.size w w' := by
  have hr : (!(xs.any fun t => !isTileB t 6)) = xs.all fun t => isTileB t 6 := by simp [List.any_eq_not_all_not]
  have Hr := Lib.hid hr; clear hr
  have Hx := Lib.hid hx; clear hx
  go_enter Try.func73, Try.ntmps73
  go_wp2_with (go_at_call 124; refine (containsFuncT_c xs A cx 125 #[] (fun t => !isTileB t 6) w (fun _ _ => rfl) Hx.out hl (fun x _ w1 _ => areTiles1_c x w1)).mono ?_; rintro e w1 ⟨rfl, hb1⟩)
  go_ret
  exact ⟨ret_bool Hr.out, hb1⟩
def tilesCode (xs : List T4) : Int := if (xs.all fun t => isTileB t 6) = true then 0 else 2
set_option maxRecDepth 100000 in
set_option maxHeartbeats 1000000 in
theorem l07Tiles_c (xs : List T4) (A : Option Addr) (cx : Nat) (w : World) (hx : TileCells w A xs) (hl : xs.length ≤ 1000000000) :
    Calls Try.prog 72 #[.slice A xs.length cx] w fun e w' =>
      e = .returned (.int .i64 (tilesCode xs)) ∧ Below w.heap.size w w' := by
  go_enter Try.func72, Try.ntmps72
  go_wp2
  go_loopw [3] (fun i wr => ∃ k : Nat, k ≤ xs.length ∧ i = .int .i64 k ∧ Hid (∀ j (h : j < xs.length), j < k → isTileB xs[j] 6 = true) ∧ Below w.heap.size w wr) (fun i _ => xs.length - (intOf i).toNat)
  case atStart => exact ⟨0, by omega, rfl, fun j _ h => by omega, Below.refl _ _⟩
  case round =>
    obtain ⟨i, hi, rfl, Hn, hb⟩ := hrel
    by_cases h1 : i < xs.length
    · obtain ⟨b, off, rfl, hlt, c0, c1, c2, c3⟩ := (hx.below hb) i h1
      have Hc := Lib.hid (l01Tile_c xs[i] 6 wr)
      clear hx
      cases hpx : isTileB xs[i] 6
      · have Hpx := Lib.hid hpx
        rw [hpx] at Hc
        clear hpx
        go_wp2_with fail
        refine Hc.out.mono ?_
        rintro e w1 ⟨rfl, hb1⟩
        go_wp2
        go_ret
        refine ⟨ret_int ?_, by (repeat (first | (with_reducible exact Below.refl _ _) | (with_reducible assumption) | (with_reducible refine below_al ?_) | (with_reducible refine below_dr ?_) | (with_reducible refine below_drN ?_) | (with_reducible refine below_set ?_ (by first | exact Nat.le_refl _ | (dsimp only; omega) | omega)) | (with_reducible refine below_tr (by with_reducible assumption) ?_)))⟩
        unfold tilesCode
        rw [if_neg]
        intro h
        rw [List.all_eq_true] at h
        have := h _ (List.getElem_mem h1)
        rw [Hpx.out] at this
        cases this
      · have Hpx := Lib.hid hpx
        rw [hpx] at Hc
        clear hpx
        go_wp2_with fail
        refine Hc.out.mono ?_
        rintro e w1 ⟨rfl, hb1⟩
        go_wp2
        go_roundw
        case rel => exact ⟨i + 1, by omega, by go_num, fun j h hj => by
          by_cases e : j = i
          · subst e; exact Hpx.out
          · exact Hn.out j h (by omega), by (repeat (first | (with_reducible exact Below.refl _ _) | (with_reducible assumption) | (with_reducible refine below_al ?_) | (with_reducible refine below_dr ?_) | (with_reducible refine below_drN ?_) | (with_reducible refine below_set ?_ (by first | exact Nat.le_refl _ | (dsimp only; omega) | omega)) | (with_reducible refine below_tr (by with_reducible assumption) ?_)))⟩
        case measure => simp [intOf]; omega
    · go_wp2
      go_ret
      refine ⟨ret_int ?_, hb⟩
      unfold tilesCode
      rw [if_pos]
      rw [List.all_eq_true]
      intro x hx
      obtain ⟨j, hj, rfl⟩ := List.getElem_of_mem hx
      exact Hn.out j hj (by omega)

end Go.Proofs.Ytfkmophmiiehlaa
