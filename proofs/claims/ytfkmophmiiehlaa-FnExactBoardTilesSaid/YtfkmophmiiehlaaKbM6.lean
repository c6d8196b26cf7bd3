/- Contracts and lemmas for the statements of this seat, written for this claim; each theorem states its own conditions. -/
import Derived.BigQuiet
import Derived.Test.YtfkmophmiiehlaaKbM5
import Derived.Test.YtfkmophmiiehlaaKbI3
import Derived.Test.YtfkmophmiiehlaaKbJ6
set_option linter.unusedVariables false
set_option linter.unusedSimpArgs false
namespace Go.Proofs.Ytfkmophmiiehlaa
open Go.RowKit
def PredP (w : World) (k : FuncId) (caps : Array Value) (p : List P2 → Bool) (L : List (List P2)) : Prop :=
  ∀ j (h : j < L.length) (A : Option Addr) (cx : Nat) (w1 : World), Below w.heap.size w w1 → PCells w1 A L[j] → Calls Try.prog k (#[.slice A L[j].length cx] ++ caps) w1 fun e w2 => e = .returned (.bool (p L[j])) ∧ Below w1.heap.size w1 w2
def idxP (p : List P2 → Bool) (L : List (List P2)) : Int := match L.findIdx? p with | some i => (i : Int) | none => -1
theorem idxP_none {p : List P2 → Bool} {xs : List (List P2)} (h : ∀ j (h : j < xs.length), p xs[j] = false) : idxP p xs = -1 := by
  have : xs.findIdx? p = none := by
    rw [List.findIdx?_eq_none_iff]
    intro x hx
    obtain ⟨j, hj, rfl⟩ := List.getElem_of_mem hx
    exact h j hj
  simp [idxP, this]
theorem idxP_some {p : List P2 → Bool} {xs : List (List P2)} {i : Nat} (hi : i < xs.length) (h : ∀ j (h : j < xs.length), j < i → p xs[j] = false) (hp : p xs[i] = true) : idxP p xs = i := by
  have : xs.findIdx? p = some i := by
    rw [List.findIdx?_eq_some_iff_getElem]
    exact ⟨hi, hp, fun j hj => by simp [h j (by omega) hj]⟩
  simp [idxP, this]
set_option maxRecDepth 100000 in
set_option maxHeartbeats 1000000 in
theorem indexFuncP_c (L : List (List P2)) (A : Option Addr) (cx : Nat) (k : FuncId) (caps : Array Value) (p : List P2 → Bool) (w : World)
    (hk : ∀ args w, Sem.run Try.prog (callFunc k args) w = .ok (.enter k args) w) (hx : RowsP w A L) (hl : L.length ≤ 1000000000) (hp : PredP w k caps p L) :
    Calls Try.prog 147 #[.slice A L.length cx, .func (.func k) #[] caps] w fun e w' =>
      e = .returned (.int .i64 (idxP p L)) ∧ Below w.heap.size w w' := by
  go_enter Try.func147, Try.ntmps147
  go_wp2
  go_loopw [8] (fun i wr => ∃ k : Nat, k ≤ L.length ∧ i = .int .i64 k ∧ Hid (∀ j (h : j < L.length), j < k → p L[j] = false) ∧ Below w.heap.size w wr) (fun i _ => L.length - (intOf i).toNat)
  case atStart => exact ⟨0, by omega, rfl, fun j _ h => by omega, Below.refl _ _⟩
  case round =>
    obtain ⟨i, hi, rfl, Hn, hb⟩ := hrel
    by_cases h1 : i < L.length
    · obtain ⟨b, off, A1, c1, rfl, hlt, c0, r1⟩ := (hx.below hb) i h1
      have Hc := Lib.hid (hp i h1 A1 c1 wr hb r1)
      have Hb := Lib.hid hb
      clear hp hx r1 hb
      cases hpx : p L[i]
      · have Hpx := Lib.hid hpx
        rw [hpx] at Hc
        clear hpx
        go_wp2_with fail
        refine Hc.out.mono ?_
        rintro e w1 ⟨rfl, hb1⟩
        go_wp2
        go_roundw
        case rel => exact ⟨i + 1, by omega, by go_num, fun j h hj => by
          by_cases e : j = i
          · subst e; exact Hpx.out
          · exact Hn.out j h (by omega), by have h3 := Hb.out; (repeat (first | (with_reducible exact Below.refl _ _) | (with_reducible assumption) | (with_reducible refine below_al ?_) | (with_reducible refine below_dr ?_) | (with_reducible refine below_drN ?_) | (with_reducible refine below_set ?_ (by first | exact Nat.le_refl _ | (dsimp only; omega) | omega)) | (with_reducible refine below_tr (by with_reducible assumption) ?_)))⟩
        case measure => simp [intOf]; omega
      · have Hpx := Lib.hid hpx
        rw [hpx] at Hc
        clear hpx
        go_wp2_with fail
        refine Hc.out.mono ?_
        rintro e w1 ⟨rfl, hb1⟩
        go_wp2
        go_ret
        exact ⟨ret_int (idxP_some h1 Hn.out Hpx.out).symm, by have h3 := Hb.out; (repeat (first | (with_reducible exact Below.refl _ _) | (with_reducible assumption) | (with_reducible refine below_al ?_) | (with_reducible refine below_dr ?_) | (with_reducible refine below_drN ?_) | (with_reducible refine below_set ?_ (by first | exact Nat.le_refl _ | (dsimp only; omega) | omega)) | (with_reducible refine below_tr (by with_reducible assumption) ?_)))⟩
    · go_wp2
      go_ret
      exact ⟨ret_int (idxP_none (fun j h => Hn.out j h (by omega))).symm, hb⟩
theorem idxP_any (p : List P2 → Bool) (L : List (List P2)) : decide (0 ≤ idxP p L) = L.any p := by
  unfold idxP
  cases h : L.findIdx? p with
  | none =>
    rw [List.findIdx?_eq_none_iff] at h
    have : L.any p = false := by rw [List.any_eq_false]; intro x hx; simp [h x hx]
    simp [this]
  | some i =>
    rw [List.findIdx?_eq_some_iff_getElem] at h
    obtain ⟨hi, hp, _⟩ := h
    have : L.any p = true := List.any_eq_true.2 ⟨_, List.getElem_mem hi, hp⟩
    simp [this]
set_option maxRecDepth 100000 in
set_option maxHeartbeats 1000000 in
theorem containsFuncP_c (L : List (List P2)) (A : Option Addr) (cx : Nat) (k : FuncId) (caps : Array Value) (p : List P2 → Bool) (w : World)
    (hk : ∀ args w, Sem.run Try.prog (callFunc k args) w = .ok (.enter k args) w) (hx : RowsP w A L) (hl : L.length ≤ 1000000000) (hp : PredP w k caps p L) :
    Calls Try.prog 118 #[.slice A L.length cx, .func (.func k) #[] caps] w fun e w' => e = .returned (.bool (L.any p)) ∧ Below w.heap.size w w' := by
  have H := Lib.hid (indexFuncP_c L A cx k caps p w hk hx hl hp)
  have Hr := Lib.hid (idxP_any p L)
  clear hx hp hk
  generalize idxP p L = r at *
  generalize L.any p = q at *
  go_enter Try.func118, Try.ntmps118
  go_wp2_with (go_at_call 147; refine H.out.mono ?_; rintro e w1 ⟨rfl, hb1⟩)
  go_ret
  exact ⟨ret_bool Hr.out, hb1⟩
def wid (L : List (List P2)) : Nat := (L.headD []).length
def shapeP (L : List (List P2)) : Bool := decide (0 < L.length) && (decide (0 < wid L) && !(L.any fun r => r.length != wid L))
def boardOf (ts : List T4) (b : Int) : Bool := inR 1 6 ts.length && ((ts.all fun t => isTileB t 6) && inR (-1) 5 b)
theorem wid_get {L : List (List P2)} (h : 0 < L.length) : wid L = L[0].length := by
  cases L with
  | nil => simp at h
  | cons r L => rfl
set_option maxRecDepth 100000 in
set_option maxHeartbeats 1000000 in
theorem areRows1_c (r : List P2) (L : List (List P2)) (A B : Option Addr) (cx cy b : Nat) (w : World) (hR : RowsP w B L) (h0 : 0 < L.length) (hb : w.cell? ⟨b, 0, none⟩ = some (.slice B L.length cy)) :
    Calls Try.prog 119 #[.slice A r.length cx, .pointer (some ⟨b, 0, none⟩)] w fun e w' => e = .returned (.bool (r.length != wid L)) ∧ Below w.heap.size w w' := by
  have HW := Lib.hid (wid_get h0)
  obtain ⟨b', off, A1, c1, rfl, hlt, hc, hr⟩ := hR 0 h0
  simp only [Nat.add_zero] at hc
  rw [← HW.out] at hc
  clear hR hr
  have he : ((r.length : Int) != (wid L : Int)) = (r.length != wid L) := by
    rw [Bool.eq_iff_iff]; simp; omega
  have HE := Lib.hid he
  generalize wid L = wd at *
  clear he HW
  go_enter Try.func119, Try.ntmps119
  go_wp2
  go_ret
  exact ⟨ret_bool HE.out, Below.refl _ _⟩
set_option maxRecDepth 100000 in
set_option maxHeartbeats 1000000 in
theorem areRows_c (L : List (List P2)) (A : Option Addr) (cx : Nat) (w : World) (hR : RowsP w A L) (hl : L.length ≤ 1000000000) :
    Calls Try.prog 66 #[.slice A L.length cx] w fun e w' => e = .returned (.bool (shapeP L)) ∧ Below w.heap.size w w' := by
  have HR := Lib.hid hR
  by_cases h0 : 0 < L.length
  · obtain ⟨b', off, A1, c1, rfl, hlt, hc, hr⟩ := hR 0 h0
    simp only [Nat.add_zero] at hc
    rw [← wid_get h0] at hc
    clear hr hR
    have HH := Lib.hid h0
    by_cases h1 : 0 < wid L
    · have hS : shapeP L = !(L.any fun r => r.length != wid L) := by simp [shapeP, h0, h1]
      have HS := Lib.hid hS
      have hlt' := hlt
      have hcl : (w.alloc (.cells #[.slice (some ⟨b', off, none⟩) L.length cx] 45)).cell? ⟨b', off, none⟩ = some (.slice A1 (wid L) c1) := ((below_al (Below.refl w.heap.size w)).cell (p := ⟨b', off, none⟩) hlt).trans hc
      have H := Lib.hid (containsFuncP_c L (some ⟨b', off, none⟩) cx 119 #[.pointer (some ⟨w.heap.size, 0, none⟩)] (fun r => r.length != wid L) (w.alloc (.cells #[.slice (some ⟨b', off, none⟩) L.length cx] 45)) (fun _ _ => rfl) (HR.out.below (by (repeat (first | (with_reducible exact Below.refl _ _) | (with_reducible assumption) | (with_reducible refine below_al ?_) | (with_reducible refine below_dr ?_) | (with_reducible refine below_drN ?_) | (with_reducible refine below_set ?_ (by first | exact Nat.le_refl _ | (dsimp only; omega) | omega)) | (with_reducible refine below_tr (by with_reducible assumption) ?_))))) hl
        (fun j hj A2 c2 w1 hb hp => areRows1_c L[j] L A2 (some ⟨b', off, none⟩) c2 cx w.heap.size w1 (HR.out.below ((show Below w.heap.size w _ by (repeat (first | (with_reducible exact Below.refl _ _) | (with_reducible assumption) | (with_reducible refine below_al ?_) | (with_reducible refine below_dr ?_) | (with_reducible refine below_drN ?_) | (with_reducible refine below_set ?_ (by first | exact Nat.le_refl _ | (dsimp only; omega) | omega)) | (with_reducible refine below_tr (by with_reducible assumption) ?_)))))) h0 (by rw [(hb.cell (p := ⟨w.heap.size, 0, none⟩) (by simp))]; simp)))
      clear hS
      generalize (L.any fun r => r.length != wid L) = q at *
      generalize wid L = wd at *
      go_enter Try.func66, Try.ntmps66
      go_wp2_with fail
      refine H.out.mono ?_
      rintro e w1 ⟨rfl, hb1⟩
      go_wp2
      go_ret
      exact ⟨ret_bool HS.out.symm, by (repeat (first | (with_reducible exact Below.refl _ _) | (with_reducible assumption) | (with_reducible refine below_al ?_) | (with_reducible refine below_dr ?_) | (with_reducible refine below_drN ?_) | (with_reducible refine below_set ?_ (by first | exact Nat.le_refl _ | (dsimp only; omega) | omega)) | (with_reducible refine below_tr (by with_reducible assumption) ?_)))⟩
    · have hS : shapeP L = false := by simp [shapeP, h1]
      have HS := Lib.hid hS
      have h2 : wid L = 0 := by omega
      rw [h2] at hc
      clear h1 h2 hS
      go_enter Try.func66, Try.ntmps66
      go_wp2
      go_ret
      exact ⟨ret_bool HS.out.symm, by (repeat (first | (with_reducible exact Below.refl _ _) | (with_reducible assumption) | (with_reducible refine below_al ?_) | (with_reducible refine below_dr ?_) | (with_reducible refine below_drN ?_) | (with_reducible refine below_set ?_ (by first | exact Nat.le_refl _ | (dsimp only; omega) | omega)) | (with_reducible refine below_tr (by with_reducible assumption) ?_)))⟩
  · have hS : shapeP L = false := by simp [shapeP, h0]
    have HS := Lib.hid hS
    have h0' : L.length = 0 := by omega
    clear hR hS
    rw [h0']
    go_enter Try.func66, Try.ntmps66
    go_wp2
    go_ret
    exact ⟨ret_bool HS.out.symm, by (repeat (first | (with_reducible exact Below.refl _ _) | (with_reducible assumption) | (with_reducible refine below_al ?_) | (with_reducible refine below_dr ?_) | (with_reducible refine below_drN ?_) | (with_reducible refine below_set ?_ (by first | exact Nat.le_refl _ | (dsimp only; omega) | omega)) | (with_reducible refine below_tr (by with_reducible assumption) ?_)))⟩

end Go.Proofs.Ytfkmophmiiehlaa
