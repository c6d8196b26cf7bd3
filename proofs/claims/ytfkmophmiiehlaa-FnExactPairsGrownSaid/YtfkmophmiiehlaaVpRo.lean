/- Contracts and lemmas for the statements of this seat, written for this claim; each theorem states its own conditions. -/
import Derived.Test.YtfkmophmiiehlaaVpLi
import Derived.Test.YtfkmophmiiehlaaVpLw
import Derived.Test.YtfkmophmiiehlaaVpOw
set_option linter.unusedVariables false
set_option linter.unusedSimpArgs false
namespace Go.Proofs.Ytfkmophmiiehlaa
open Go.RowKit
attribute [local go_sem] addUpon_value addUpon_skip addUpon_enter
theorem infoSl : (Try.prog.info? 63).map (fun i => (i.zero, i.size, i.bytes)) = some (some (.slice none 0 0), 1, 24) := by kernel_rfl
/-- a slice of slices of numbers reads as a list of lists -/
def RowsC (w : World) (B : Option Addr) (L : List (List Int)) : Prop :=
  ∀ k (h : k < L.length), ∃ b off A cx, B = some ⟨b, off, none⟩ ∧ b < w.heap.size ∧ w.cell? ⟨b, off + k, none⟩ = some (.slice A L[k].length cx) ∧ Cells w A (ints L[k])
theorem RowsC.below {w w1 : World} {B : Option Addr} {L : List (List Int)} (h : RowsC w B L) (hb : Below w.heap.size w w1) : RowsC w1 B L := by
  intro k hk
  obtain ⟨b, off, A, cx, e, hlt, hc, hr⟩ := h k hk
  exact ⟨b, off, A, cx, e, Nat.lt_of_lt_of_le hlt hb.size, (hb.cell (p := ⟨b, _, none⟩) hlt).trans hc, hr.below hb⟩
theorem RowsC.pair {w : World} {b off : Nat} {L : List (List Int)} (h : RowsC w (some ⟨b, off, none⟩) L) (k : Nat) (hk : k < L.length) : ∃ A cx, w.cell? ⟨b, off + k, none⟩ = some (.slice A L[k].length cx) ∧ Cells w A (ints L[k]) := by
  obtain ⟨b', off', A, cx, e, hlt, hc, hr⟩ := h k hk
  injection e with e
  injection e with e1 e2
  subst e1 e2
  exact ⟨A, cx, hc, hr⟩
def tot (L : List (List Int)) : Nat := (L.map List.length).sum
theorem tot_take {L : List (List Int)} {k : Nat} (hk : k < L.length) : tot (L.take (k + 1)) = tot (L.take k) + L[k].length := by
  unfold tot; rw [List.take_succ_eq_append_getElem hk, List.map_append, List.sum_append]; simp
def Short (n : Nat) (L : List (List Int)) : Prop := ∀ k (h : k < L.length), L[k].length ≤ n
/-- a slice of slices of numbers that the call made and owns, its rows apart from each other -/
def OwnII (w : World) (B : Nat) (v : Value) (L : List (List Int)) : Prop :=
  ∃ vs : List Value, w.ownsRow B 63 1 v L.length vs ∧ (∀ i (h : i < vs.length) (h' : i < L.length), OwnI w B vs[i] L[i]) ∧
    (∀ i j (h : i < vs.length) (h' : j < vs.length), i ≠ j → Apart vs[i] vs[j]) ∧ ∀ i (h : i < vs.length), Apart vs[i] v
theorem OwnI.setOther {w : World} {B : Nat} {v : Value} {xs : List Int} (h : OwnI w B v xs) (a : Addr) (ha : a.block < B) (u : Value) : OwnI (w.setCell a u) B v xs :=
  World.ownsRow.kept (row := some a.block) h ⟨rfl, rfl, rfl, by simp, fun k hk hne => Below.heap_setCell w a u k (fun e => hne (by simp [e]))⟩ (by
    cases e : v.ownBlock with
    | none => exact .inl rfl
    | some k => right; have := (World.ownsRow.lt h k e).1; intro e2; injection e2 with e2; omega)
theorem OwnII.rows {w : World} {B : Nat} {v : Value} {L : List (List Int)} (h : OwnII w B v L) : ∃ A cx, v = .slice A L.length cx ∧ RowsC w A L := by
  obtain ⟨vs, h1, h2, _⟩ := h
  have hl : vs.length = L.length := by have := h1.1; omega
  obtain ⟨_, h3⟩ := h1
  rcases h3 with ⟨rfl, h3⟩ | ⟨g, cap, cur, rfl, e2, e3, e4, e5, e6, e7⟩
  · exact ⟨none, 0, by rw [h3], fun k hk => by omega⟩
  · refine ⟨some ⟨g, 0, none⟩, cap, rfl, fun k hk => ?_⟩
    obtain ⟨A, cx, e, hc, _⟩ := (h2 k (by omega) hk).shape
    refine ⟨g, 0, A, cx, rfl, (Array.getElem?_eq_some_iff.1 e3).1, ?_, hc⟩
    rw [Nat.zero_add]
    unfold World.cell?
    simp only [e3]
    have hk2 : k < vs.length := by omega
    have h9 : (cur.toList.take (L.length * 1))[k]? = some (vs[k]'hk2) := by rw [e7]; exact List.getElem?_eq_getElem hk2
    rw [List.getElem?_take] at h9
    simp [hk] at h9
    simp [h9, e]
set_option maxRecDepth 100000 in
set_option maxHeartbeats 1000000 in
theorem szInt64S_c (A : Option Addr) (n cx : Nat) (left : Int) (w : World) (h0 : 0 ≤ left) (h1 : left ≤ 1048576) (hn : n ≤ 9223372036854775807) :
    Calls Try.prog 95 #[.slice A n cx, .int .i64 left] w fun e w' => e = .returned (.int .i64 (szV n left)) ∧ w = w' := by
  by_cases h : left - n < 0
  · have hr := Lib.hid (show szV n left = -1 from by unfold szV; rw [if_pos h])
    go_enter Try.func95, Try.ntmps95
    go_wp2
    go_ret
    exact ⟨ret_int hr.out.symm, rfl⟩
  · have hr := Lib.hid (show szV n left = left - n from by unfold szV; rw [if_neg h])
    go_enter Try.func95, Try.ntmps95
    go_wp2
    go_ret
    exact ⟨ret_int hr.out.symm, rfl⟩
set_option maxRecDepth 100000 in
set_option maxHeartbeats 1000000 in
theorem szInt64SS_c (L : List (List Int)) (A : Option Addr) (cx : Nat) (left : Int) (w : World) (hR : RowsC w A L) (h0 : 0 ≤ left) (h1 : left ≤ 1048576) (hn : L.length ≤ 9223372036854775807) (hS : Short 9223372036854775807 L) :
    Calls Try.prog 42 #[.slice A L.length cx, .int .i64 left] w fun e w' => ∃ z : Int, e = .returned (.int .i64 z) ∧ (z = -1 ∨ (0 ≤ z ∧ z ≤ left ∧ L.length ≤ 1048576 ∧ Short 1048576 L ∧ tot L ≤ 1048576)) ∧ w = w' := by
  by_cases h : left - L.length < 0
  · clear hR
    go_enter Try.func42, Try.ntmps42
    go_wp2
    go_ret
    exact ⟨-1, rfl, .inl rfl, rfl⟩
  · go_enter Try.func42, Try.ntmps42
    go_wp2
    go_loop [1, 5] (fun z i => ∃ k : Nat, ∃ y : Int, k ≤ L.length ∧ i = .int .i64 k ∧ z = .int .i64 y ∧ 0 ≤ y ∧ y ≤ left ∧ Hid (∀ j (h : j < L.length), j < k → L[j].length ≤ 1048576) ∧ Hid (y + tot (L.take k) ≤ left)) (fun _ i => L.length - (intOf i).toNat)
    case atStart => exact ⟨0, left - L.length, by omega, rfl, rfl, by omega, by omega, fun j _ hj => by omega, by simp [Hid, tot]; omega⟩
    case round =>
      obtain ⟨k, y, hk, rfl, rfl, y0, y1, Hn, Ht⟩ := hrel
      by_cases hk1 : k < L.length
      · have Ht2 := Lib.hid (tot_take hk1)
        obtain ⟨b, off, B, cb, rfl, hlt, hc, hr⟩ := hR k hk1
        have HZ := Lib.hid (fun w => szInt64S_c B L[k].length cb y w y0 (by omega) (hS k hk1))
        have hv : szV L[k].length y = -1 ∨ (0 ≤ szV L[k].length y ∧ szV L[k].length y ≤ y ∧ L[k].length ≤ 1048576 ∧ szV L[k].length y + L[k].length = y) := by unfold szV; split <;> omega
        generalize szV L[k].length y = z at *
        have Hn2 : Hid (L[k].length ≤ 1048576 → ∀ j (h : j < L.length), j < k + 1 → L[j].length ≤ 1048576) := fun hh j h hj => by
          by_cases e : j = k
          · subst e; exact hh
          · exact Hn.out j h (by omega)
        generalize L[k].length = n at *
        clear hR hS hr Hn
        rcases hv with rfl | ⟨z0, z1, z2, z3⟩
        · go_wp2_with (go_at_call 95; refine (HZ.out _).mono ?_; rintro e w' ⟨rfl, rfl⟩)
          go_ret
          exact ⟨-1, rfl, .inl rfl, rfl⟩
        · go_wp2_with (go_at_call 95; refine (HZ.out _).mono ?_; rintro e w' ⟨rfl, rfl⟩)
          go_round
          case rel => exact ⟨k + 1, z, by omega, by go_num, rfl, by omega, by omega, Hn2.out z2, by have h1 := Ht.out; have h2 := Ht2.out; show z + (tot (L.take (k + 1)) : Int) ≤ left; rw [h2]; omega⟩
          case measure => simp [intOf]; omega
      · clear hR hS
        go_wp2
        go_ret
        exact ⟨y, rfl, .inr ⟨y0, y1, by omega, fun j hj => Hn.out j hj (by omega), by have h1 := Ht.out; rw [List.take_of_length_le (by omega)] at h1; omega⟩, rfl⟩
set_option maxRecDepth 100000 in
set_option maxHeartbeats 1000000 in
theorem toInt64SS_c (L : List (List Int)) (A : Option Addr) (cx : Nat) (w : World) (hX : RowsC w A L) (hl : L.length ≤ 1048576) (hS : Short 1048576 L) :
    Calls Try.prog 44 #[.slice A L.length cx] w fun e w' => ∃ v, e = .returned v ∧ OwnII w' w.heap.size v L ∧ Below w.heap.size w w' := by
  have hm := fun w => make_k (P := Try.prog) 26 63 _ 1 24 Try.underlying26 infoSl L.length (by omega) (by omega) w
  go_enter Try.func44, Try.ntmps44
  go_wp2
  clear hm
  go_loopw [4] (fun i wr => ∃ k : Nat, k ≤ L.length ∧ i = .int .i64 k ∧ Hid (∃ vs : List Value, vs.length = k ∧ Blk wr w.heap.size (vs ++ List.replicate (L.length - k) (.slice none 0 0)) 63 ∧
    (∀ i (h : i < vs.length) (h' : i < L.length), OwnI wr (w.heap.size + 1) vs[i] L[i]) ∧ (∀ i j (h : i < vs.length) (h' : j < vs.length), i ≠ j → Apart vs[i] vs[j])) ∧ Below w.heap.size w wr) (fun i _ => L.length - (intOf i).toNat)
  case atStart => exact ⟨0, by omega, rfl, ⟨[], rfl, by
    have h := Blk.newA w (madeCells #[.slice none 0 0] L.length) 63
    rw [toList_madeCells_one] at h
    simpa using h, fun i h => by simp at h, fun i j h => by simp at h⟩, by (repeat (first | (with_reducible exact Below.refl _ _) | (with_reducible assumption) | (with_reducible refine below_al ?_) | (with_reducible refine below_dr ?_) | (with_reducible refine below_drN ?_) | (with_reducible refine below_set ?_ (by first | exact Nat.le_refl _ | (dsimp only; omega) | omega)) | (with_reducible refine below_tr (by with_reducible assumption) ?_)))⟩
  case round =>
    obtain ⟨k, hk, rfl, HV, hb⟩ := hrel
    obtain ⟨vs, hvl, hB, hO, hA⟩ := HV.out
    by_cases h1 : k < L.length
    · obtain ⟨b, off, A1, cx1, rfl, hlt, c0, hr⟩ := (hX.below hb) k h1
      have HC := Lib.hid (fun w (hc : Cells w A1 (ints (L[k]'h1))) => toInt64S_c (L[k]'h1) A1 cx1 w hc (hS k h1))
      have Hr := Lib.hid hr
      have r0 := hB.cell k (by simp; omega)
      have z0 := hB.frozen k
      generalize (vs ++ List.replicate (L.length - k) (.slice none 0 0))[k]'(by simp; omega) = u at r0
      have Hbb := Lib.hid hb
      have HB := Lib.hid hB
      have HO := Lib.hid hO
      have HA := Lib.hid hA
      have hlt0 := hB.lt
      clear hB hX hb HV hO hA hr hS
      go_wp2_with fail
      refine (HC.out _ Hr.out).mono ?_
      rintro e w1 ⟨v, rfl, O1, hb1⟩
      have HO1 := Lib.hid O1
      have Hb1 := Lib.hid hb1
      have r1 := ((bcell hb1).1 _ _ hlt0).trans r0
      have z1 := ((bcell hb1).2 _ _ hlt0).trans z0
      obtain ⟨A2, cx2, rfl, _, _⟩ := O1.shape
      clear O1 hb1 r0 z0
      go_wp2
      go_roundw
      case rel =>
        refine ⟨k + 1, by omega, by go_num, ⟨vs ++ [.slice A2 L[k].length cx2], by simp [hvl], ?_, ?_, ?_⟩, (Hbb.out.trans (Hb1.out.mono (by have := Hbb.out.size; omega))).setCell (Nat.le_refl _) _⟩
        · have := (HB.out.under Hb1.out).set k (.slice A2 L[k].length cx2)
          rw [List.set_append_right _ _ (by omega), hvl, Nat.sub_self, show L.length - k = (L.length - (k + 1)) + 1 by omega, List.replicate_succ, List.set_cons_zero] at this
          simpa using this
        · intro i h h'
          by_cases e : i < vs.length
          · rw [List.getElem_append_left e]
            exact ((HO.out i e h').below Hb1.out).setOther _ (by simp) _
          · obtain rfl : i = k := by simp at h; omega
            rw [List.getElem_append_right (by omega)]
            simp only [hvl, Nat.sub_self, List.getElem_cons_zero]
            exact (HO1.out.weaken (by omega)).setOther _ (by simp) _
        · have far : ∀ i (h : i < vs.length), Apart vs[i] (.slice A2 L[k].length cx2) := fun i h => (own_apart (HO.out i h (by omega)) HO1.out).1
          intro i j h h' hij
          by_cases e : i < vs.length
          · by_cases e2 : j < vs.length
            · rw [List.getElem_append_left e, List.getElem_append_left e2]; exact HA.out i j e e2 hij
            · rw [List.getElem_append_left e, List.getElem_append_right (by omega)]
              simp only [show j - vs.length = 0 by simp at h'; omega, List.getElem_cons_zero]
              exact far i e
          · have e2 : j < vs.length := by simp at h h'; omega
            rw [List.getElem_append_left e2, List.getElem_append_right (by omega)]
            simp only [show i - vs.length = 0 by simp at h; omega, List.getElem_cons_zero]
            exact (far j e2).symm
      case measure => simp [intOf]; omega
    · obtain rfl : k = L.length := by omega
      have Hbb := Lib.hid hb
      have HB := Lib.hid hB
      have HO := Lib.hid hO
      have HA := Lib.hid hA
      clear hX hB hO hA HV hb
      go_wp2
      go_ret
      refine ⟨_, rfl, ⟨vs, ?_, fun i h h' => (HO.out i h h').weaken (by omega), HA.out, fun i h => ?_⟩, Hbb.out⟩
      · refine ⟨by rw [hvl, Nat.mul_one], .inr ⟨w.heap.size, L.length, vs.toArray, rfl, Nat.le_refl _, ?_, Nat.le_refl _, by simp [maxLen]; omega, by simp [hvl], ?_⟩⟩
        · have := HB.out
          simp only [Nat.sub_self, List.replicate_zero, List.append_nil] at this
          exact this
        · rw [Nat.mul_one]; exact List.take_of_length_le (by simp [hvl])
      · cases e : vs[i].ownBlock with
        | none => exact .inl e
        | some j =>
          right
          have := (World.ownsRow.lt (HO.out i h (by omega)) j e).1
          rw [e]
          intro e2
          have e3 : j = w.heap.size := Option.some.inj e2
          omega
def eqII (xs ys : List (List Int)) : Bool := decide (xs = ys)
theorem eqII_refl (xs : List (List Int)) : eqII xs xs = true := by simp [eqII]
theorem eqII_len {xs ys : List (List Int)} (h : xs.length ≠ ys.length) : eqII xs ys = false := by
  simp only [eqII, decide_eq_false_iff_not]; intro e; exact h (by rw [e])
theorem eqII_bad {xs ys : List (List Int)} {k : Nat} (h1 : k < xs.length) (h2 : k < ys.length) (h : eqI xs[k] ys[k] = false) : eqII xs ys = false := by
  simp only [eqII, decide_eq_false_iff_not]; intro e; subst e; simp [eqI] at h
theorem eqII_all {xs ys : List (List Int)} (hl : xs.length = ys.length) (h : ∀ j (h1 : j < xs.length) (h2 : j < ys.length), eqI xs[j] ys[j] = true) : eqII xs ys = true := by
  simp only [eqII, decide_eq_true_eq]
  exact List.ext_getElem hl fun j h1 h2 => by simpa [eqI] using h j h1 h2
set_option maxRecDepth 100000 in
set_option maxHeartbeats 1000000 in
theorem eqInt64SS_c (xs ys : List (List Int)) (A B : Option Addr) (cx cy : Nat) (w : World) (hx : RowsC w A xs) (hy : RowsC w B ys) (lx : xs.length ≤ 1000000000) (ly : ys.length ≤ 1000000000) (sx : Short 1000000000 xs) (sy : Short 1000000000 ys) :
    Calls Try.prog 13 #[.slice A xs.length cx, .slice B ys.length cy] w fun e w' => e = .returned (.bool (eqII xs ys)) ∧ Below w.heap.size w w' := by
  by_cases hl : xs.length = ys.length
  · have HL := Lib.hid hl
    have hl' : ((xs.length : Int) != (ys.length : Int)) = false := by simp; omega
    have hl2 : ys.length ≤ xs.length := by omega
    have hl3 : xs.length ≤ ys.length := by omega
    clear hl
    go_enter Try.func13, Try.ntmps13
    go_wp2
    go_loopw [5] (fun i wr => ∃ k : Nat, k ≤ xs.length ∧ i = .int .i64 k ∧ Hid (∀ j (h1 : j < xs.length) (h2 : j < ys.length), j < k → eqI xs[j] ys[j] = true) ∧ Below w.heap.size w wr) (fun i _ => xs.length - (intOf i).toNat)
    case atStart => exact ⟨0, by omega, rfl, fun j _ _ h => by omega, Below.refl _ _⟩
    case round =>
      obtain ⟨k, hk, rfl, Hn, hb⟩ := hrel
      have Hb := Lib.hid hb
      by_cases h1 : k < xs.length
      · have h2 : k < ys.length := by omega
        obtain ⟨b, off, A1, c1, rfl, hlt, c0, r1⟩ := (hx.below hb) k h1
        obtain ⟨b', off', B1, d1, rfl, hlt', d0, r2⟩ := (hy.below hb) k h2
        have HA := Lib.hid (fun w (hc : Cells w A1 (ints (xs[k]'h1))) (hd : Cells w B1 (ints (ys[k]'h2))) => eqInt64S_c (xs[k]'h1) (ys[k]'h2) A1 B1 c1 d1 w hc hd (sx k h1) (sy k h2))
        have R1 := Lib.hid r1
        have R2 := Lib.hid r2
        have HBad := Lib.hid (eqII_bad h1 h2)
        have HE : Hid (eqI xs[k] ys[k] = true → ∀ j (h1 : j < xs.length) (h2 : j < ys.length), j < k + 1 → eqI xs[j] ys[j] = true) := fun hE j h1 h2 hj => by
          by_cases e : j = k
          · subst e; exact hE
          · exact Hn.out j h1 h2 (by omega)
        have e0 := keepC c0
        have f0 := keepC d0
        clear c0 d0 r1 r2 hx hy hb sx sy
        generalize eqI xs[k] ys[k] = r at *
        cases r
        · have HE := Lib.hid (HBad.out rfl)
          go_wp2_with fail
          refine wp_region_add (fun w' => Below (wr).heap.size (wr) w') (by kernel_rfl) (by kernel_rfl) ((Below.refl _ _).drew) ?_
          repeat (first
            | (refine add_skip rfl (fun K' hK' => ?_); go_simp; refine hK' _ ?_; clear hK' K')
            | (refine add_do (v := ?_) rfl (fun w1 hb => ?_) (fun K' hK' => ?_); rotate_left
               · go_simp
                 first
                 | (with_reducible exact rfl)
                 | (with_reducible exact ⟨rfl, hb⟩)
                 | (with_reducible exact (addCall (HA.out w1 (R1.out.below hb) (R2.out.below hb)) hb).2)
                 | exact (addCall (HA.out w1 (R1.out.below hb) (R2.out.below hb)) hb).2
                 | exact rfl
                 | exact ⟨rfl, hb⟩
               go_simp; refine hK' _ ?_; clear hK' K'))
          refine add_nil ?_
          intro wa hba
          go_wp2
          go_ret
          exact ⟨ret_bool HE.out.symm, by have h3 := Hb.out; (repeat (first | (with_reducible exact Below.refl _ _) | (with_reducible assumption) | (with_reducible refine below_al ?_) | (with_reducible refine below_dr ?_) | (with_reducible refine below_drN ?_) | (with_reducible refine below_set ?_ (by first | exact Nat.le_refl _ | (dsimp only; omega) | omega)) | (with_reducible refine below_tr (by with_reducible assumption) ?_)))⟩
        · have HE2 := Lib.hid (HE.out rfl)
          go_wp2_with fail
          refine wp_region_add (fun w' => Below (wr).heap.size (wr) w') (by kernel_rfl) (by kernel_rfl) ((Below.refl _ _).drew) ?_
          repeat (first
            | (refine add_skip rfl (fun K' hK' => ?_); go_simp; refine hK' _ ?_; clear hK' K')
            | (refine add_do (v := ?_) rfl (fun w1 hb => ?_) (fun K' hK' => ?_); rotate_left
               · go_simp
                 first
                 | (with_reducible exact rfl)
                 | (with_reducible exact ⟨rfl, hb⟩)
                 | (with_reducible exact (addCall (HA.out w1 (R1.out.below hb) (R2.out.below hb)) hb).2)
                 | exact (addCall (HA.out w1 (R1.out.below hb) (R2.out.below hb)) hb).2
                 | exact rfl
                 | exact ⟨rfl, hb⟩
               go_simp; refine hK' _ ?_; clear hK' K'))
          refine add_nil ?_
          intro wa hba
          go_wp2
          go_roundw
          case rel => exact ⟨k + 1, by omega, by go_num, HE2, by have h3 := Hb.out; (repeat (first | (with_reducible exact Below.refl _ _) | (with_reducible assumption) | (with_reducible refine below_al ?_) | (with_reducible refine below_dr ?_) | (with_reducible refine below_drN ?_) | (with_reducible refine below_set ?_ (by first | exact Nat.le_refl _ | (dsimp only; omega) | omega)) | (with_reducible refine below_tr (by with_reducible assumption) ?_)))⟩
          case measure => simp [intOf]; omega
      · have hE := Lib.hid (eqII_all HL.out (fun j h1 h2 => Hn.out j h1 h2 (by omega)))
        clear hx hy sx sy
        go_wp2
        go_ret
        exact ⟨ret_bool hE.out.symm, hb⟩
  · have hR := Lib.hid (eqII_len hl)
    have hl' : ((xs.length : Int) != (ys.length : Int)) = true := by simp; omega
    clear hl
    go_enter Try.func13, Try.ntmps13
    go_wp2
    go_ret
    exact ⟨ret_bool hR.out.symm, Below.refl _ _⟩

end Go.Proofs.Ytfkmophmiiehlaa
