/- Contracts and lemmas for the statements of this seat, written for this claim; each theorem states its own conditions. -/
import Derived.Test.YtpcooplalncdcaaSmL1
set_option linter.unusedVariables false
set_option linter.unusedSimpArgs false
namespace Go.Proofs.Ytpcooplalncdcaa
open Go.RowKit
/-- a set as it lies in memory -/
structure SD where
  c : Int
  ts : List T4
  A : Option Addr
  cx : Nat
def SD.v (s : SD) : Value := .slice s.A s.ts.length s.cx
def SD.ok (w : World) (s : SD) : Prop := TileCells w s.A s.ts ∧ s.ts.length ≤ 1000000000
theorem SD.ok.below {w w1 : World} {s : SD} (h : s.ok w) (hb : Below w.heap.size w w1) : s.ok w1 := ⟨h.1.below hb, h.2⟩
def SetsCells (w : World) (A : Option Addr) (l : List SD) : Prop :=
  ∀ k (h : k < l.length), ∃ b off, A = some ⟨b, off, none⟩ ∧ b < w.heap.size ∧ w.cell? ⟨b, off + k * 2, none⟩ = some (.int .i64 l[k].c) ∧ w.cell? ⟨b, off + k * 2 + 1, none⟩ = some (.slice l[k].A l[k].ts.length l[k].cx)
theorem SetsCells.below {w w1 : World} {A : Option Addr} {l : List SD} (h : SetsCells w A l) (hb : Below w.heap.size w w1) : SetsCells w1 A l := by
  intro k hk
  obtain ⟨b, off, hA, hlt, h0, h1⟩ := h k hk
  exact ⟨b, off, hA, Nat.lt_of_lt_of_le hlt hb.size, (hb.cell (p := ⟨b, _, none⟩) hlt).trans h0, (hb.cell (p := ⟨b, _, none⟩) hlt).trans h1⟩
theorem setsCells2 {w : World} {b : Nat} {s t : SD} (hlt : b < w.heap.size) (h0 : w.cell? ⟨b, 0, none⟩ = some (.int .i64 s.c)) (h1 : w.cell? ⟨b, 1, none⟩ = some (.slice s.A s.ts.length s.cx))
    (h2 : w.cell? ⟨b, 2, none⟩ = some (.int .i64 t.c)) (h3 : w.cell? ⟨b, 3, none⟩ = some (.slice t.A t.ts.length t.cx)) : SetsCells w (some ⟨b, 0, none⟩) [s, t] := by
  intro k hk
  simp only [List.length_cons, List.length_nil] at hk
  rcases k with _ | _ | k
  · exact ⟨b, 0, rfl, hlt, h0, h1⟩
  · exact ⟨b, 0, rfl, hlt, h2, h3⟩
  · omega
def PredS (w : World) (k : FuncId) (caps : Array Value) (p : SD → Bool) (l : List SD) : Prop :=
  ∀ s ∈ l, ∀ w1, Below w.heap.size w w1 → Calls Try.prog k (#[.agg #[.int .i64 s.c, .slice s.A s.ts.length s.cx]] ++ caps) w1 fun e w2 => e = .returned (.bool (p s)) ∧ Below w1.heap.size w1 w2
def idxS (p : SD → Bool) (l : List SD) : Int := match l.findIdx? p with | some i => (i : Int) | none => -1
theorem idxS_none {p : SD → Bool} {xs : List SD} (h : ∀ j (h : j < xs.length), p xs[j] = false) : idxS p xs = -1 := by
  have : xs.findIdx? p = none := by
    rw [List.findIdx?_eq_none_iff]
    intro x hx
    obtain ⟨j, hj, rfl⟩ := List.getElem_of_mem hx
    exact h j hj
  simp [idxS, this]
theorem idxS_some {p : SD → Bool} {xs : List SD} {i : Nat} (hi : i < xs.length) (h : ∀ j (h : j < xs.length), j < i → p xs[j] = false) (hp : p xs[i] = true) : idxS p xs = i := by
  have : xs.findIdx? p = some i := by
    rw [List.findIdx?_eq_some_iff_getElem]
    exact ⟨hi, hp, fun j hj => by simp [h j (by omega) hj]⟩
  simp [idxS, this]
set_option maxRecDepth 100000 in
set_option maxHeartbeats 1000000 in
theorem indexFuncS_c (xs : List SD) (A : Option Addr) (cx : Nat) (k : FuncId) (caps : Array Value) (p : SD → Bool) (w : World)
    (hk : ∀ args w, Sem.run Try.prog (callFunc k args) w = .ok (.enter k args) w) (hx : SetsCells w A xs) (hl : xs.length ≤ 1000000000) (hp : PredS w k caps p xs) :
    Calls Try.prog 93 #[.slice A xs.length cx, .func (.func k) #[] caps] w fun e w' =>
      e = .returned (.int .i64 (idxS p xs)) ∧ Below w.heap.size w w' := by
  go_enter Try.func93, Try.ntmps93
  go_wp2
  go_loopw [8] (fun i wr => ∃ k : Nat, k ≤ xs.length ∧ i = .int .i64 k ∧ Hid (∀ j (h : j < xs.length), j < k → p xs[j] = false) ∧ Below w.heap.size w wr) (fun i _ => xs.length - (intOf i).toNat)
  case atStart => exact ⟨0, by omega, rfl, fun j _ h => by omega, Below.refl _ _⟩
  case round =>
    obtain ⟨i, hi, rfl, Hn, hb⟩ := hrel
    by_cases h1 : i < xs.length
    · obtain ⟨b, off, rfl, hlt, c0, c1⟩ := (hx.below hb) i h1
      have Hc := Lib.hid (hp xs[i] (List.getElem_mem h1) wr hb)
      clear hp hx
      cases hpx : p xs[i]
      · have Hpx := Lib.hid hpx
        rw [hpx] at Hc
        clear hpx
        go_wp2_with fail
        refine Hc.out.mono ?_
        rintro e w1 ⟨rfl, hb1⟩
        go_wp2
        go_roundw
        case rel => exact ⟨i + 1, by omega, by go_num, fun j h hj => by
          by_cases e : j = i
          · subst e; exact Hpx.out
          · exact Hn.out j h (by omega), by (repeat (first | (with_reducible exact Below.refl _ _) | (with_reducible assumption) | (with_reducible refine below_al ?_) | (with_reducible refine below_dr ?_) | (with_reducible refine below_drN ?_) | (with_reducible refine below_set ?_ (by first | exact Nat.le_refl _ | (dsimp only; omega) | omega)) | (with_reducible refine below_tr (by with_reducible assumption) ?_)))⟩
        case measure => simp [intOf]; omega
      · have Hpx := Lib.hid hpx
        rw [hpx] at Hc
        clear hpx
        go_wp2_with fail
        refine Hc.out.mono ?_
        rintro e w1 ⟨rfl, hb1⟩
        go_wp2
        go_ret
        exact ⟨ret_int (idxS_some h1 Hn.out Hpx.out).symm, by (repeat (first | (with_reducible exact Below.refl _ _) | (with_reducible assumption) | (with_reducible refine below_al ?_) | (with_reducible refine below_dr ?_) | (with_reducible refine below_drN ?_) | (with_reducible refine below_set ?_ (by first | exact Nat.le_refl _ | (dsimp only; omega) | omega)) | (with_reducible refine below_tr (by with_reducible assumption) ?_)))⟩
    · go_wp2
      go_ret
      exact ⟨ret_int (idxS_none (fun j h => Hn.out j h (by omega))).symm, hb⟩
set_option maxRecDepth 100000 in
set_option maxHeartbeats 1000000 in
theorem containsFuncS_c (xs : List SD) (A : Option Addr) (cx : Nat) (k : FuncId) (caps : Array Value) (p : SD → Bool) (w : World)
    (hk : ∀ args w, Sem.run Try.prog (callFunc k args) w = .ok (.enter k args) w) (hx : SetsCells w A xs) (hl : xs.length ≤ 1000000000) (hp : PredS w k caps p xs) :
    Calls Try.prog 76 #[.slice A xs.length cx, .func (.func k) #[] caps] w fun e w' =>
      e = .returned (.bool (xs.any p)) ∧ Below w.heap.size w w' := by
  have hr : decide (0 ≤ idxS p xs) = xs.any p := by
    unfold idxS
    cases h : xs.findIdx? p with
    | none => simp [List.findIdx?_eq_none_iff] at h; simp; simpa using h
    | some i => obtain ⟨hi, h1, h2⟩ := List.findIdx?_eq_some_iff_getElem.1 h; simp; exact ⟨xs[i], List.getElem_mem hi, h1⟩
  have Hr := Lib.hid hr; clear hr
  have Hp := Lib.hid hp; clear hp
  have Hx := Lib.hid hx; clear hx
  go_enter Try.func76, Try.ntmps76
  go_wp2_with (go_at_call 93; refine (indexFuncS_c xs A cx k caps p w hk Hx.out hl Hp.out).mono ?_; rintro e w1 ⟨rfl, hb1⟩)
  go_ret
  exact ⟨ret_bool Hr.out, hb1⟩
set_option maxRecDepth 100000 in
set_option maxHeartbeats 1000000 in
theorem areSets1_c (c : Int) (ts : List T4) (A : Option Addr) (cx : Nat) (w : World) (hT : TileCells w A ts) (hl : ts.length ≤ 1000000000) :
    Calls Try.prog 77 #[.agg #[.int .i64 c, .slice A ts.length cx]] w fun e w' => e = .returned (.bool (!isSetB c ts)) ∧ Below w.heap.size w w' := by
  have H1 := Lib.hid (fun w h => isSet_c c ts A cx w h hl)
  have X1 := Lib.hid hT
  clear hT
  generalize isSetB c ts = p at *
  go_enter Try.func77, Try.ntmps77
  go_wp2_with fail
  refine (H1.out _ (X1.out.below (by (repeat (first | (with_reducible exact Below.refl _ _) | (with_reducible assumption) | (with_reducible refine below_al ?_) | (with_reducible refine below_dr ?_) | (with_reducible refine below_drN ?_) | (with_reducible refine below_set ?_ (by first | exact Nat.le_refl _ | (dsimp only; omega) | omega)) | (with_reducible refine below_tr (by with_reducible assumption) ?_)))))).mono ?_
  rintro e w1 ⟨rfl, hb1⟩
  go_wp2
  go_ret
  exact ⟨rfl, by (repeat (first | (with_reducible exact Below.refl _ _) | (with_reducible assumption) | (with_reducible refine below_al ?_) | (with_reducible refine below_dr ?_) | (with_reducible refine below_drN ?_) | (with_reducible refine below_set ?_ (by first | exact Nat.le_refl _ | (dsimp only; omega) | omega)) | (with_reducible refine below_tr (by with_reducible assumption) ?_)))⟩
set_option maxRecDepth 100000 in
set_option maxHeartbeats 1000000 in
theorem areSets_c (l : List SD) (A : Option Addr) (cx : Nat) (w : World) (hA : SetsCells w A l) (hl : l.length ≤ 1000000000) (hs : ∀ s ∈ l, s.ok w) :
    Calls Try.prog 53 #[.slice A l.length cx] w fun e w' => e = .returned (.bool (l.all fun s => isSetB s.c s.ts)) ∧ Below w.heap.size w w' := by
  have H := Lib.hid (fun hk hp => containsFuncS_c l A cx 77 #[] (fun s => !isSetB s.c s.ts) w hk hA hl hp)
  have hp : PredS w 77 #[] (fun s => !isSetB s.c s.ts) l := fun s hs' w1 hb => areSets1_c s.c s.ts s.A s.cx w1 ((hs s hs').1.below hb) (hs s hs').2
  have Hp := Lib.hid hp
  have hr : (!l.any fun s => !isSetB s.c s.ts) = l.all fun s => isSetB s.c s.ts := by simp [List.any_eq_not_all_not]
  have Hr := Lib.hid hr
  clear hp hr hA hs
  generalize (l.any fun s => !isSetB s.c s.ts) = p at *
  go_enter Try.func53, Try.ntmps53
  go_wp2_with fail
  refine (H.out (fun _ _ => rfl) Hp.out).mono ?_
  rintro e w1 ⟨rfl, hb1⟩
  go_wp2
  go_ret
  exact ⟨ret_bool Hr.out, by (repeat (first | (with_reducible exact Below.refl _ _) | (with_reducible assumption) | (with_reducible refine below_al ?_) | (with_reducible refine below_dr ?_) | (with_reducible refine below_drN ?_) | (with_reducible refine below_set ?_ (by first | exact Nat.le_refl _ | (dsimp only; omega) | omega)) | (with_reducible refine below_tr (by with_reducible assumption) ?_)))⟩
end Go.Proofs.Ytpcooplalncdcaa
