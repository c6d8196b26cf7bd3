/- Contracts and lemmas for the statements of this seat, written for this claim; each theorem states its own conditions. -/
import Derived.StillTailTactics
import Derived.Test.YtkgnejhflnekaaaGreatMuB
set_option linter.unusedVariables false
set_option linter.unusedSimpArgs false
namespace Go.Proofs.YtkgnejhflnekaaaGreat
open Go.RowKit
set_option maxRecDepth 100000 in
set_option maxHeartbeats 1000000 in
theorem isNaN_c (x : Int) (w : World) :
    Calls Tryz.prog 214 #[.int .i64 x] w fun e w' => e = .returned (.bool false) ∧ w = w' := by
  go_enter Tryz.func214, Tryz.ntmps214
  go_wp2
  go_ret
  exact ⟨rfl, rfl⟩


def cmpI (a b : Int) : Int := if a < b then -1 else if b < a then 1 else 0

set_option maxRecDepth 100000 in
set_option maxHeartbeats 1000000 in
theorem cmp_c (x y : Int) (w : World) :
    Calls Tryz.prog 181 #[.int .i64 x, .int .i64 y] w fun e w' => e = .returned (.int .i64 (cmpI x y)) ∧ w = w' := by
  rcases Int.lt_trichotomy x y with h1 | h1 | h1
  · have hc : cmpI x y = -1 := by unfold cmpI; rw [if_pos h1]
    rw [hc]; clear hc
    go_enter Tryz.func181, Tryz.ntmps181
    go_wp2_with (go_at_call 214; refine (isNaN_c _ _).mono ?_; rintro e w' ⟨rfl, rfl⟩)
    go_ret
    exact ⟨rfl, rfl⟩
  · subst h1
    have hc : cmpI x x = 0 := by unfold cmpI; rw [if_neg (by omega), if_neg (by omega)]
    rw [hc]; clear hc
    go_enter Tryz.func181, Tryz.ntmps181
    go_wp2_with (go_at_call 214; refine (isNaN_c _ _).mono ?_; rintro e w' ⟨rfl, rfl⟩)
    go_ret
    exact ⟨rfl, rfl⟩
  · have hc : cmpI x y = 1 := by unfold cmpI; rw [if_neg (by omega), if_pos h1]
    rw [hc]; clear hc
    go_enter Tryz.func181, Tryz.ntmps181
    go_wp2_with (go_at_call 214; refine (isNaN_c _ _).mono ?_; rintro e w' ⟨rfl, rfl⟩)
    go_ret
    exact ⟨rfl, rfl⟩

def inR (lo hi n : Int) : Bool := decide (lo ≤ n ∧ n ≤ hi)
theorem inR_iff {lo hi n : Int} : inR lo hi n = true ↔ lo ≤ n ∧ n ≤ hi := by simp [inR]

set_option maxRecDepth 100000 in
set_option maxHeartbeats 1000000 in
theorem within_c (n lo hi : Int) (w : World) :
    Calls Tryz.prog 148 #[.int .i64 n, .int .i64 lo, .int .i64 hi] w fun e w' => e = .returned (.bool (inR lo hi n)) ∧ w = w' := by
  by_cases h : lo ≤ n
  · have h' : decide (lo ≤ n) = true := by simpa using h
    clear h
    go_enter Tryz.func148, Tryz.ntmps148
    go_wp2
    go_ret
    exact ⟨by have := of_decide_eq_true h'; simp [inR, this], rfl⟩
  · have h' : decide (lo ≤ n) = false := by simpa using h
    clear h
    go_enter Tryz.func148, Tryz.ntmps148
    go_wp2
    go_ret
    exact ⟨by have := of_decide_eq_false h'; simp [inR, this], rfl⟩

def cmpL : List Int → List Int → Int
  | [], [] => 0
  | [], _ :: _ => -1
  | _ :: _, [] => 1
  | x :: xs, y :: ys => if cmpI x y ≠ 0 then cmpI x y else cmpL xs ys


theorem cmpL_drop {xs ys : List Int} {k : Nat} (h1 : k < xs.length) (h2 : k < ys.length) :
    cmpL (xs.drop k) (ys.drop k) = if cmpI xs[k] ys[k] ≠ 0 then cmpI xs[k] ys[k] else cmpL (xs.drop (k+1)) (ys.drop (k+1)) := by
  rw [List.drop_eq_getElem_cons h1, List.drop_eq_getElem_cons h2]; rfl
theorem cmpL_dropx {xs ys : List Int} {k : Nat} (h1 : k < xs.length) (h2 : k = ys.length) : cmpL (xs.drop k) (ys.drop k) = 1 := by
  rw [List.drop_eq_getElem_cons h1, (show List.drop k ys = [] from List.drop_of_length_le (by omega))]; rfl
theorem cmpL_dropy {xs ys : List Int} {k : Nat} (h1 : k = xs.length) (h2 : k < ys.length) : cmpL (xs.drop k) (ys.drop k) = -1 := by
  rw [List.drop_eq_getElem_cons h2, (show List.drop k xs = [] from List.drop_of_length_le (by omega))]; rfl
theorem cmpL_drop0 {xs ys : List Int} {k : Nat} (h1 : k = xs.length) (h2 : k = ys.length) : cmpL (xs.drop k) (ys.drop k) = 0 := by
  rw [(show List.drop k xs = [] from List.drop_of_length_le (by omega)), (show List.drop k ys = [] from List.drop_of_length_le (by omega))]; rfl


set_option maxRecDepth 100000 in
set_option maxHeartbeats 1000000 in
theorem slicesCompare_c (xs ys : List Int) (A B : Option Addr) (cx cy : Nat) (w : World) (hx : Cells w A (ints xs)) (hy : Cells w B (ints ys))
   (lx : xs.length ≤ 1000000000) (ly : ys.length ≤ 1000000000) :
    Calls Tryz.prog 102 #[.slice A xs.length cx, .slice B ys.length cy] w fun e w' => e = .returned (.int .i64 (cmpL xs ys)) ∧ w = w' := by
  go_enter Tryz.func102, Tryz.ntmps102
  go_wp2
  go_loop [11] (fun i => ∃ k : Nat, k ≤ xs.length ∧ k ≤ ys.length ∧ i = .int .i64 k ∧ Hid (cmpL xs ys = cmpL (xs.drop k) (ys.drop k))) (fun i => xs.length - (intOf i).toNat)
  case atStart => exact ⟨0, by omega, by omega, rfl, rfl⟩
  case round =>
    obtain ⟨k, hk1, hk2, rfl, Hc⟩ := hrel
    by_cases h1 : k < xs.length
    · by_cases h2 : k < ys.length
      · obtain ⟨b, off, rfl, hb⟩ := hx k (by simpa [ints] using h1)
        obtain ⟨b', off', rfl, hb'⟩ := hy k (by simpa [ints] using h2)
        simp only [ints, List.getElem_map] at hb hb'
        have Hd := Lib.hid (cmpL_drop h1 h2)
        by_cases h3 : cmpI xs[k] ys[k] = 0
        · have h3' : (cmpI xs[k] ys[k] != 0) = false := by simpa using h3
          have H3 := Lib.hid h3; clear h3
          go_wp2_with (go_at_call 181; refine (cmp_c _ _ _).mono ?_; rintro e w' ⟨rfl, rfl⟩)
          go_round
          case rel => exact ⟨k + 1, by omega, by omega, by go_num, by rw [Hid, Hc.out, Hd.out, if_neg (by simp [H3.out])]⟩
          case measure => simp [intOf]; omega
        · have h3' : (cmpI xs[k] ys[k] != 0) = true := by simpa using h3
          have H3 := Lib.hid h3; clear h3
          go_wp2_with (go_at_call 181; refine (cmp_c _ _ _).mono ?_; rintro e w' ⟨rfl, rfl⟩)
          go_ret
          exact ⟨ret_int (by rw [Hc.out, Hd.out, if_pos H3.out]), rfl⟩
      · obtain ⟨b, off, rfl, hb⟩ := hx k (by simpa [ints] using h1)
        simp only [ints, List.getElem_map] at hb
        have Hd := Lib.hid (cmpL_dropx h1 (by omega : k = ys.length))
        go_wp2
        go_ret
        exact ⟨ret_int (by rw [Hc.out, Hd.out]), rfl⟩
    · by_cases h2 : k < ys.length
      · have Hd := Lib.hid (cmpL_dropy (by omega : k = xs.length) h2)
        go_wp2
        go_ret
        exact ⟨ret_int (by rw [Hc.out, Hd.out]), rfl⟩
      · have Hd := Lib.hid (cmpL_drop0 (by omega : k = xs.length) (by omega : k = ys.length))
        go_wp2
        go_ret
        exact ⟨ret_int (by rw [Hc.out, Hd.out]), rfl⟩

/-- what a function value f does as a predicate over ints, in every world that grows out of w -/
def PredI (w : World) (k : FuncId) (caps : Array Value) (p : Int → Bool) (xs : List Int) : Prop :=
  ∀ x ∈ xs, ∀ w1, Below w.heap.size w w1 → Calls Tryz.prog k (#[.int .i64 x] ++ caps) w1 fun e w2 => e = .returned (.bool (p x)) ∧ Below w1.heap.size w1 w2


set_option maxRecDepth 100000 in
set_option maxHeartbeats 1000000 in
theorem isTile1_c (x c : Int) (b : Nat) (w : World) (hc : w.cell? ⟨b, 0, none⟩ = some (.int .i64 c)) :
    Calls Tryz.prog 194 #[.int .i64 x, .pointer (some ⟨b, 0, none⟩)] w fun e w' => e = .returned (.bool (!inR 0 (wrap64 (c - 1)) x)) ∧ w = w' := by
  go_enter Tryz.func194, Tryz.ntmps194
  go_wp2_with (go_at_call 148; refine (within_c _ _ _ _).mono ?_; rintro e w' ⟨rfl, rfl⟩)
  go_ret
  exact ⟨rfl, rfl⟩


def idxI (p : Int → Bool) (xs : List Int) : Int := match xs.findIdx? p with | some i => (i : Int) | none => -1
theorem idxI_none {p : Int → Bool} {xs : List Int} (h : ∀ j (h : j < xs.length), p xs[j] = false) : idxI p xs = -1 := by
  have : xs.findIdx? p = none := by
    rw [List.findIdx?_eq_none_iff]
    intro x hx
    obtain ⟨j, hj, rfl⟩ := List.getElem_of_mem hx
    exact h j hj
  simp [idxI, this]
theorem idxI_some {p : Int → Bool} {xs : List Int} {i : Nat} (hi : i < xs.length) (h : ∀ j (h : j < xs.length), j < i → p xs[j] = false) (hp : p xs[i] = true) : idxI p xs = i := by
  have : xs.findIdx? p = some i := by
    rw [List.findIdx?_eq_some_iff_getElem]
    exact ⟨hi, hp, fun j hj => by simp [h j (by omega) hj]⟩
  simp [idxI, this]

set_option maxRecDepth 100000 in
set_option maxHeartbeats 1000000 in
theorem indexFuncI_c (xs : List Int) (A : Option Addr) (cx : Nat) (k : FuncId) (caps : Array Value) (p : Int → Bool) (w : World)
    (hk : ∀ args w, Sem.run Tryz.prog (callFunc k args) w = .ok (.enter k args) w) (hx : Cells w A (ints xs)) (hl : xs.length ≤ 1000000000) (hp : PredI w k caps p xs) :
    Calls Tryz.prog 188 #[.slice A xs.length cx, .func (.func k) #[] caps] w fun e w' =>
      e = .returned (.int .i64 (idxI p xs)) ∧ Below w.heap.size w w' := by
  go_enter Tryz.func188, Tryz.ntmps188
  go_wp2
  go_loopw [8] (fun i wr => ∃ k : Nat, k ≤ xs.length ∧ i = .int .i64 k ∧ Hid (∀ j (h : j < xs.length), j < k → p xs[j] = false) ∧ Below w.heap.size w wr) (fun i _ => xs.length - (intOf i).toNat)
  case atStart => exact ⟨0, by omega, rfl, fun j _ h => by omega, Below.refl _ _⟩
  case round =>
    obtain ⟨i, hi, rfl, Hn, hb⟩ := hrel
    by_cases h1 : i < xs.length
    · obtain ⟨b, off, rfl, hc⟩ := hx i (by simpa [ints] using h1)
      simp only [ints, List.getElem_map] at hc
      have hbl : b < w.heap.size := World.block_lt_of_cell? w _ hc
      have hc' := (hb.cell (p := ⟨b, off + i, none⟩) hbl).trans hc
      have hcall := hp xs[i] (List.getElem_mem h1) wr hb
      have Hc := Lib.hid hcall; clear hcall hp
      cases hpx : p xs[i]
      · have Hpx := Lib.hid hpx
        rw [hpx] at Hc
        clear hpx
        go_wp2_with fail
        refine Hc.out.mono ?_
        rintro e w1 ⟨rfl, hb1⟩
        go_wp2
        go_roundw
        case rel => exact ⟨i + 1, by omega, by go_num, fun j h hj => by
          by_cases e : j = i
          · subst e; exact Hpx.out
          · exact Hn.out j h (by omega), hb.trans (hb1.mono hb.size)⟩
        case measure => simp [intOf]; omega
      · have Hpx := Lib.hid hpx
        rw [hpx] at Hc
        clear hpx
        go_wp2_with fail
        refine Hc.out.mono ?_
        rintro e w1 ⟨rfl, hb1⟩
        go_wp2
        go_ret
        exact ⟨ret_int (idxI_some h1 Hn.out Hpx.out).symm, hb.trans (hb1.mono hb.size)⟩
    · go_wp2
      go_ret
      exact ⟨ret_int (idxI_none (fun j h => Hn.out j h (by omega))).symm, hb⟩

set_option maxRecDepth 100000 in
set_option maxHeartbeats 1000000 in
theorem containsFuncI_c (xs : List Int) (A : Option Addr) (cx : Nat) (k : FuncId) (caps : Array Value) (p : Int → Bool) (w : World)
    (hk : ∀ args w, Sem.run Tryz.prog (callFunc k args) w = .ok (.enter k args) w) (hx : Cells w A (ints xs)) (hl : xs.length ≤ 1000000000) (hp : PredI w k caps p xs) :
    Calls Tryz.prog 110 #[.slice A xs.length cx, .func (.func k) #[] caps] w fun e w' =>
      e = .returned (.bool (xs.any p)) ∧ Below w.heap.size w w' := by
  have hr : decide (0 ≤ idxI p xs) = xs.any p := by
    unfold idxI
    cases h : xs.findIdx? p with
    | none => simp [List.findIdx?_eq_none_iff] at h; simp; simpa using h
    | some i => obtain ⟨hi, h1, h2⟩ := List.findIdx?_eq_some_iff_getElem.1 h; simp; exact ⟨xs[i], List.getElem_mem hi, h1⟩
  have Hr := Lib.hid hr; clear hr
  have Hp := Lib.hid hp; clear hp
  have Hx := Lib.hid hx; clear hx
  go_enter Tryz.func110, Tryz.ntmps110
  go_wp2_with (go_at_call 188; refine (indexFuncI_c xs A cx k caps p w hk Hx.out hl Hp.out).mono ?_; rintro e w1 ⟨rfl, hb1⟩)
  go_ret
  exact ⟨ret_bool Hr.out, hb1⟩


def isTileB (t : T4) (c : Int) : Bool := t.l.all (inR 0 (wrap64 (c - 1)))
set_option maxRecDepth 100000 in
set_option maxHeartbeats 1000000 in
theorem isTile_c (t : T4) (c : Int) (w : World) :
    Calls Tryz.prog 146 #[.agg #[.int .i64 t.a, .int .i64 t.b, .int .i64 t.c, .int .i64 t.d], .int .i64 c] w fun e w' =>
      e = .returned (.bool (isTileB t c)) ∧ Below w.heap.size w w' := by
  go_enter Tryz.func146, Tryz.ntmps146
  go_wp2_with fail
  refine (containsFuncI_c t.l _ 4 194 #[.pointer (some ⟨w.heap.size + 1, 0, none⟩)] (fun x => !inR 0 (wrap64 (c-1)) x) _ (fun _ _ => rfl) ?_ (by simp [T4.l]) ?_).mono ?_
  · exact cells4 (by exact cell_alloc_old _ _ _ _ _ (cell_alloc_at _ _ _ _ _ rfl)) (by exact cell_alloc_old _ _ _ _ _ (cell_alloc_at _ _ _ _ _ rfl)) (by exact cell_alloc_old _ _ _ _ _ (cell_alloc_at _ _ _ _ _ rfl)) (by exact cell_alloc_old _ _ _ _ _ (cell_alloc_at _ _ _ _ _ rfl))
  · intro x hx w1 hb
    refine (isTile1_c x c (w.heap.size + 1) w1 ?_).mono ?_
    · exact (hb.cell (p := ⟨w.heap.size + 1, 0, none⟩) (by simp)).trans (by simp)
    · rintro e w' ⟨rfl, rfl⟩
      exact ⟨rfl, Below.refl _ _⟩
  · rintro e w1 ⟨rfl, hb1⟩
    go_wp2
    go_ret
    exact ⟨ret_bool (by simp [isTileB, List.any_eq_not_all_not]), ((((Below.refl _ _).alloc (Nat.le_refl _) _).alloc (by simp) _).trans (hb1.mono (by simp; omega)))⟩

def cmpT (s t : T4) : Int := cmpL s.l t.l

set_option maxRecDepth 100000 in
set_option maxHeartbeats 1000000 in
theorem compare_c (s t : T4) (w : World) :
    Calls Tryz.prog 147 #[.agg #[.int .i64 s.a, .int .i64 s.b, .int .i64 s.c, .int .i64 s.d], .agg #[.int .i64 t.a, .int .i64 t.b, .int .i64 t.c, .int .i64 t.d]] w fun e w' =>
      e = .returned (.int .i64 (cmpT s t)) ∧ Below w.heap.size w w' := by
  go_enter Tryz.func147, Tryz.ntmps147
  go_wp2_with fail
  go_still_tail 2, (by kernel_rfl)
  go_wp2_with fail
  refine (slicesCompare_c s.l t.l _ _ 4 4 _ ?_ ?_ (by simp [T4.l]) (by simp [T4.l])).mono ?_
  · exact cells4 (by show World.cell? ((w.alloc _).alloc _) _ = _; simp) (by show World.cell? ((w.alloc _).alloc _) _ = _; simp) (by show World.cell? ((w.alloc _).alloc _) _ = _; simp) (by show World.cell? ((w.alloc _).alloc _) _ = _; simp)
  · exact cells4 (by show World.cell? ((w.alloc _).alloc _) _ = _; simp) (by show World.cell? ((w.alloc _).alloc _) _ = _; simp) (by show World.cell? ((w.alloc _).alloc _) _ = _; simp) (by show World.cell? ((w.alloc _).alloc _) _ = _; simp)
  · rintro e w1 ⟨rfl, rfl⟩
    go_wp2
    go_ret
    exact ⟨rfl, (((Below.refl _ _).alloc (Nat.le_refl _) _).alloc (by simp) _).drew⟩

end Go.Proofs.YtkgnejhflnekaaaGreat
