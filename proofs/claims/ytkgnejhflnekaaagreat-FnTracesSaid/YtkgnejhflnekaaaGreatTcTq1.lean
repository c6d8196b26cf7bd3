/- Contracts and lemmas for the statements of this seat, written for this claim; each theorem states its own conditions. -/
import Derived.Deep.RegionHeld3
import Derived.RangeFuncNested
import Derived.RangeFuncBox
import Derived.RangeFuncLeaves
import Derived.RangeFuncCalls
import Derived.RangeFuncBound
import Derived.Shelf.Abstract
import Derived.Shelf.RegionOpen
import Derived.WalkKit
import Derived.OwnWalkIn
import Derived.TacticsInMore
import Derived.LoopNIn
import Derived.LoopIn
import Derived.Maps.AppendAt
import Derived.Test.YtkgnejhflnekaaaGreatTcTm1
import Derived.Test.YtkgnejhflnekaaaGreatTcSe
import Derived.Test.YtkgnejhflnekaaaGreatTcMk
import Derived.Test.YtkgnejhflnekaaaGreatTcBk
set_option linter.unusedVariables false
set_option linter.unusedSimpArgs false
namespace Go.Proofs.YtkgnejhflnekaaaGreat
open Go.RowKit
theorem exts_len (S : Nat) (cols : List Col) (c : Nat) : ∀ (l : Nat) (now : List Bool), ∀ x ∈ exts S cols c l now, x.length = l
  | 0, now, x, hx => by simp only [exts, List.mem_singleton] at hx; subst hx; rfl
  | l + 1, now, x, hx => by
    simp only [exts, List.mem_flatMap] at hx
    obtain ⟨y, _, hx⟩ := hx
    split at hx
    · simp only [List.mem_map] at hx
      obtain ⟨z, hz, rfl⟩ := hx
      rw [List.length_cons, exts_len S cols c l _ z hz]
    · simp at hx
theorem tot_short {k : Nat} : ∀ {L : List (List Int)}, (∀ r ∈ L, r.length ≤ k) → tot L ≤ k * L.length
  | [], _ => by simp [tot]
  | r :: L, h => by
    rw [show tot (r :: L) = r.length + tot L by simp [tot], List.length_cons, Nat.mul_succ]
    have h1 := tot_short (L := L) fun x hx => h x (List.mem_cons_of_mem _ hx)
    have h2 := h r (List.mem_cons_self ..)
    omega
theorem twVal_short (c : Int) (ts : List T4) (h n : Int) : (twVal 200 c ts h n).length ≤ 200 ∧ Short 1000000000 (twVal 200 c ts h n) ∧ tot (twVal 200 c ts h n) ≤ 1600 := by
  have h1 : (twVal 200 c ts h n).length ≤ 200 := by
    unfold twVal
    split
    · rename_i hc
      unfold ctCode at hc
      split at hc
      · split at hc
        · cases hc
        · omega
      · rename_i h0; exact absurd hc h0
    · simp
  have h2 : ∀ r ∈ twVal 200 c ts h n, r.length ≤ 8 := by
    intro r hr
    unfold twVal at hr
    split at hr
    · rename_i hc
      unfold ctCode at hc
      split at hc
      · rename_i h0
        obtain ⟨_, hf, _⟩ := tsCode_zero h0
        have hn8 : 1 ≤ n ∧ n ≤ 8 := by unfold inR at hf; simpa using hf
        rw [exts_len _ _ _ _ _ r hr]
        omega
      · rename_i h0; exact absurd hc h0
    · simp at hr
  refine ⟨h1, fun k hk => ?_, ?_⟩
  · have := h2 _ (List.getElem_mem hk); omega
  · have := tot_short h2; omega
end Go.Proofs.YtkgnejhflnekaaaGreat
namespace Go.Proofs.YtkgnejhflnekaaaGreat
open Go.RowKit
attribute [local go_sem] addUpon_value addUpon_skip addUpon_enter
set_option maxRecDepth 100000 in
set_option maxHeartbeats 1000000 in
theorem l10Equal_c (xs ys : List Int) (A B : Option Addr) (cx cy : Nat) (w : World) (hx : Cells w A (ints xs)) (hy : Cells w B (ints ys)) (lx : xs.length ≤ 1000000000) (ly : ys.length ≤ 1000000000) :
    Calls Tryz.prog 176 #[.slice A xs.length cx, .slice B ys.length cy] w fun e w' => e = .returned (.bool (eqI xs ys)) ∧ Below w.heap.size w w' := by
  by_cases hl : xs.length = ys.length
  · have HL := Lib.hid hl
    have hl' : ((xs.length : Int) != (ys.length : Int)) = false := by simp; omega
    have hl2 : ys.length ≤ xs.length := by omega
    have hl3 : xs.length ≤ ys.length := by omega
    clear hl
    go_enter Tryz.func176, Tryz.ntmps176
    go_wp2
    go_loopw [5] (fun i wr => ∃ k : Nat, k ≤ xs.length ∧ i = .int .i64 k ∧ Hid (∀ j (h1 : j < xs.length) (h2 : j < ys.length), j < k → xs[j] = ys[j]) ∧ Below w.heap.size w wr) (fun i _ => xs.length - (intOf i).toNat)
    case atStart => exact ⟨0, by omega, rfl, fun j _ _ h => by omega, Below.refl _ _⟩
    case round =>
      obtain ⟨k, hk, rfl, Hn, hb⟩ := hrel
      have Hb := Lib.hid hb
      by_cases h1 : k < xs.length
      · have h2 : k < ys.length := by omega
        obtain ⟨b, off, rfl, hlt, c0⟩ := (hx.below hb).int k h1
        obtain ⟨b', off', rfl, hlt', d0⟩ := (hy.below hb).int k h2
        by_cases hE : xs[k] = ys[k]
        · have HE : Hid (∀ j (h1 : j < xs.length) (h2 : j < ys.length), j < k + 1 → xs[j] = ys[j]) := fun j h1 h2 hj => by
            by_cases e : j = k
            · subst e; exact hE
            · exact Hn.out j h1 h2 (by omega)
          have hE' : (xs[k] != ys[k]) = false := by simp [hE]
          have e0 := keepC c0
          have f0 := keepC d0
          clear hE hx hy hb c0 d0
          generalize xs[k] = s at *
          generalize ys[k] = t at *
          go_wp2_with fail
          refine wp_region_add (fun w' => Below (wr).heap.size (wr) w') (by kernel_rfl) (by kernel_rfl) ((Below.refl _ _).drew) ?_
          repeat (first
            | (refine add_skip rfl (fun K' hK' => ?_); go_simp; refine hK' _ ?_; clear hK' K')
            | (refine add_do (v := ?_) rfl (fun w1 hb => ?_) (fun K' hK' => ?_); rotate_left
               · go_simp
                 first
                 | (with_reducible exact rfl)
                 | (with_reducible exact ⟨rfl, hb⟩)
                 | exact rfl
                 | exact ⟨rfl, hb⟩
               go_simp; refine hK' _ ?_; clear hK' K'))
          refine add_nil ?_
          intro wa hba
          go_wp2
          go_roundw
          case rel => exact ⟨k + 1, by omega, by go_num, HE, by have h3 := Hb.out; (repeat (first | (with_reducible exact Below.refl _ _) | (with_reducible assumption) | (with_reducible refine below_al ?_) | (with_reducible refine below_dr ?_) | (with_reducible refine below_drN ?_) | (with_reducible refine below_set ?_ (by first | exact Nat.le_refl _ | (dsimp only; omega) | omega)) | (with_reducible refine below_tr (by with_reducible assumption) ?_)))⟩
          case measure => simp [intOf]; omega
        · have HE : Hid (eqI xs ys = false) := by
            show eqI xs ys = false
            simp only [eqI, decide_eq_false_iff_not]; intro e; exact hE (by simp [e])
          have hE' : (xs[k] != ys[k]) = true := by simp [hE]
          have e0 := keepC c0
          have f0 := keepC d0
          clear hE hx hy hb c0 d0
          generalize xs[k] = s at *
          generalize ys[k] = t at *
          go_wp2_with fail
          refine wp_region_add (fun w' => Below (wr).heap.size (wr) w') (by kernel_rfl) (by kernel_rfl) ((Below.refl _ _).drew) ?_
          repeat (first
            | (refine add_skip rfl (fun K' hK' => ?_); go_simp; refine hK' _ ?_; clear hK' K')
            | (refine add_do (v := ?_) rfl (fun w1 hb => ?_) (fun K' hK' => ?_); rotate_left
               · go_simp
                 first
                 | (with_reducible exact rfl)
                 | (with_reducible exact ⟨rfl, hb⟩)
                 | exact rfl
                 | exact ⟨rfl, hb⟩
               go_simp; refine hK' _ ?_; clear hK' K'))
          refine add_nil ?_
          intro wa hba
          go_wp2
          go_ret
          exact ⟨ret_bool HE.out.symm, by have h3 := Hb.out; (repeat (first | (with_reducible exact Below.refl _ _) | (with_reducible assumption) | (with_reducible refine below_al ?_) | (with_reducible refine below_dr ?_) | (with_reducible refine below_drN ?_) | (with_reducible refine below_set ?_ (by first | exact Nat.le_refl _ | (dsimp only; omega) | omega)) | (with_reducible refine below_tr (by with_reducible assumption) ?_)))⟩
      · have hE : Hid (eqI xs ys = true) := by
          show eqI xs ys = true
          simp only [eqI, decide_eq_true_eq]
          exact List.ext_getElem HL.out fun j h1 h2 => Hn.out j h1 h2 (by omega)
        clear hx hy
        go_wp2
        go_ret
        exact ⟨ret_bool hE.out.symm, hb⟩
  · have hR : Hid (eqI xs ys = false) := by
      show eqI xs ys = false
      simp only [eqI, decide_eq_false_iff_not]; intro e; exact hl (by rw [e])
    have hl' : ((xs.length : Int) != (ys.length : Int)) = true := by simp; omega
    clear hl
    go_enter Tryz.func176, Tryz.ntmps176
    go_wp2
    go_ret
    exact ⟨ret_bool hR.out.symm, Below.refl _ _⟩
set_option maxRecDepth 100000 in
set_option maxHeartbeats 1000000 in
theorem l10Same_c (xs ys : List (List Int)) (A B : Option Addr) (cx cy : Nat) (w : World) (hx : RowsC w A xs) (hy : RowsC w B ys) (lx : xs.length ≤ 1000000000) (ly : ys.length ≤ 1000000000) (sx : Short 1000000000 xs) (sy : Short 1000000000 ys) :
    Calls Tryz.prog 84 #[.slice A xs.length cx, .slice B ys.length cy] w fun e w' => e = .returned (.bool (eqII xs ys)) ∧ Below w.heap.size w w' := by
  by_cases hl : xs.length = ys.length
  · have HL := Lib.hid hl
    have hl' : ((xs.length : Int) != (ys.length : Int)) = false := by simp; omega
    have hl2 : ys.length ≤ xs.length := by omega
    have hl3 : xs.length ≤ ys.length := by omega
    clear hl
    go_enter Tryz.func84, Tryz.ntmps84
    go_wp2
    go_loopw [5] (fun i wr => ∃ k : Nat, k ≤ xs.length ∧ i = .int .i64 k ∧ Hid (∀ j (h1 : j < xs.length) (h2 : j < ys.length), j < k → eqI xs[j] ys[j] = true) ∧ Below w.heap.size w wr) (fun i _ => xs.length - (intOf i).toNat)
    case atStart => exact ⟨0, by omega, rfl, fun j _ _ h => by omega, Below.refl _ _⟩
    case round =>
      obtain ⟨k, hk, rfl, Hn, hb⟩ := hrel
      have Hb := Lib.hid hb
      by_cases h1 : k < xs.length
      · have h2 : k < ys.length := by omega
        obtain ⟨b, off, A1, c1, rfl, hlt, c0, r1⟩ := (hx.below hb) k h1
        obtain ⟨b', off', B1, d1, rfl, hlt', d0, r2⟩ := (hy.below hb) k h2
        have HA := Lib.hid (fun w (hc : Cells w A1 (ints (xs[k]'h1))) (hd : Cells w B1 (ints (ys[k]'h2))) => l10Equal_c (xs[k]'h1) (ys[k]'h2) A1 B1 c1 d1 w hc hd (sx k h1) (sy k h2))
        have R1 := Lib.hid r1
        have R2 := Lib.hid r2
        have HBad := Lib.hid (eqII_bad h1 h2)
        have HE : Hid (eqI xs[k] ys[k] = true → ∀ j (h1 : j < xs.length) (h2 : j < ys.length), j < k + 1 → eqI xs[j] ys[j] = true) := fun hE j h1 h2 hj => by
          by_cases e : j = k
          · subst e; exact hE
          · exact Hn.out j h1 h2 (by omega)
        have e0 := keepC c0
        have f0 := keepC d0
        clear c0 d0 r1 r2 hx hy hb sx sy
        generalize eqI xs[k] ys[k] = r at *
        cases r
        · have HE := Lib.hid (HBad.out rfl)
          go_wp2_with fail
          refine wp_region_add (fun w' => Below (wr).heap.size (wr) w') (by kernel_rfl) (by kernel_rfl) ((Below.refl _ _).drew) ?_
          repeat (first
            | (refine add_skip rfl (fun K' hK' => ?_); go_simp; refine hK' _ ?_; clear hK' K')
            | (refine add_do (v := ?_) rfl (fun w1 hb => ?_) (fun K' hK' => ?_); rotate_left
               · go_simp
                 first
                 | (with_reducible exact rfl)
                 | (with_reducible exact ⟨rfl, hb⟩)
                 | (with_reducible exact (addCall (HA.out w1 (R1.out.below hb) (R2.out.below hb)) hb).2)
                 | exact (addCall (HA.out w1 (R1.out.below hb) (R2.out.below hb)) hb).2
                 | exact rfl
                 | exact ⟨rfl, hb⟩
               go_simp; refine hK' _ ?_; clear hK' K'))
          refine add_nil ?_
          intro wa hba
          go_wp2
          go_ret
          exact ⟨ret_bool HE.out.symm, by have h3 := Hb.out; (repeat (first | (with_reducible exact Below.refl _ _) | (with_reducible assumption) | (with_reducible refine below_al ?_) | (with_reducible refine below_dr ?_) | (with_reducible refine below_drN ?_) | (with_reducible refine below_set ?_ (by first | exact Nat.le_refl _ | (dsimp only; omega) | omega)) | (with_reducible refine below_tr (by with_reducible assumption) ?_)))⟩
        · have HE2 := Lib.hid (HE.out rfl)
          go_wp2_with fail
          refine wp_region_add (fun w' => Below (wr).heap.size (wr) w') (by kernel_rfl) (by kernel_rfl) ((Below.refl _ _).drew) ?_
          repeat (first
            | (refine add_skip rfl (fun K' hK' => ?_); go_simp; refine hK' _ ?_; clear hK' K')
            | (refine add_do (v := ?_) rfl (fun w1 hb => ?_) (fun K' hK' => ?_); rotate_left
               · go_simp
                 first
                 | (with_reducible exact rfl)
                 | (with_reducible exact ⟨rfl, hb⟩)
                 | (with_reducible exact (addCall (HA.out w1 (R1.out.below hb) (R2.out.below hb)) hb).2)
                 | exact (addCall (HA.out w1 (R1.out.below hb) (R2.out.below hb)) hb).2
                 | exact rfl
                 | exact ⟨rfl, hb⟩
               go_simp; refine hK' _ ?_; clear hK' K'))
          refine add_nil ?_
          intro wa hba
          go_wp2
          go_roundw
          case rel => exact ⟨k + 1, by omega, by go_num, HE2, by have h3 := Hb.out; (repeat (first | (with_reducible exact Below.refl _ _) | (with_reducible assumption) | (with_reducible refine below_al ?_) | (with_reducible refine below_dr ?_) | (with_reducible refine below_drN ?_) | (with_reducible refine below_set ?_ (by first | exact Nat.le_refl _ | (dsimp only; omega) | omega)) | (with_reducible refine below_tr (by with_reducible assumption) ?_)))⟩
          case measure => simp [intOf]; omega
      · have hE := Lib.hid (eqII_all HL.out (fun j h1 h2 => Hn.out j h1 h2 (by omega)))
        clear hx hy sx sy
        go_wp2
        go_ret
        exact ⟨ret_bool hE.out.symm, hb⟩
  · have hR := Lib.hid (eqII_len hl)
    have hl' : ((xs.length : Int) != (ys.length : Int)) = true := by simp; omega
    clear hl
    go_enter Tryz.func84, Tryz.ntmps84
    go_wp2
    go_ret
    exact ⟨ret_bool hR.out.symm, Below.refl _ _⟩
theorem cmpI_zero {a b : Int} : cmpI a b = 0 ↔ a = b := by
  unfold cmpI
  split
  · constructor <;> intro h <;> omega
  · split
    · constructor <;> intro h <;> omega
    · constructor <;> intro h <;> omega
theorem cmpL_zero : ∀ (xs ys : List Int), cmpL xs ys = 0 ↔ xs = ys
  | [], [] => by simp [cmpL]
  | [], _ :: _ => by simp [cmpL]
  | _ :: _, [] => by simp [cmpL]
  | x :: xs, y :: ys => by
    unfold cmpL
    by_cases h : cmpI x y = 0
    · rw [if_neg (by simp [h]), cmpL_zero xs ys]
      have := cmpI_zero.1 h
      simp [this]
    · rw [if_pos h]
      constructor
      · intro e; exact absurd e h
      · intro e; injection e with e _; exact absurd (cmpI_zero.2 e) h
set_option maxRecDepth 100000 in
set_option maxHeartbeats 1000000 in
theorem compareRows1_c (xs ys : List Int) (A B : Option Addr) (cx cy : Nat) (w : World) (hx : Cells w A (ints xs)) (hy : Cells w B (ints ys)) (lx : xs.length ≤ 1000000000) (ly : ys.length ≤ 1000000000) :
    Calls Tryz.prog 175 #[.slice A xs.length cx, .slice B ys.length cy] w fun e w' => e = .returned (.int .i64 (cmpL xs ys)) ∧ w = w' := by
  have H := Lib.hid (slicesCompare_c xs ys A B cx cy w hx hy lx ly)
  clear hx hy
  go_enter Tryz.func175, Tryz.ntmps175
  go_wp2_with fail
  refine H.out.mono ?_
  rintro e w1 ⟨rfl, rfl⟩
  go_wp2
  go_ret
  exact ⟨rfl, rfl⟩
set_option maxRecDepth 100000 in
set_option maxHeartbeats 1000000 in
theorem compareFunc_c (xs ys : List (List Int)) (A B : Option Addr) (cx cy : Nat) (w : World) (hx : RowsC w A xs) (hy : RowsC w B ys) (lx : xs.length ≤ 1000000000) (ly : ys.length ≤ 1000000000) (sx : Short 1000000000 xs) (sy : Short 1000000000 ys) :
    Calls Tryz.prog 174 #[.slice A xs.length cx, .slice B ys.length cy, .func (.func 175) #[] #[]] w fun e w' => (∃ r : Int, e = .returned (.int .i64 r) ∧ decide (r = 0) = eqII xs ys) ∧ w = w' := by
  go_enter Tryz.func174, Tryz.ntmps174
  go_wp2
  go_loop [13] (fun i => ∃ k : Nat, k ≤ xs.length ∧ k ≤ ys.length ∧ i = .int .i64 k ∧ Hid (∀ j (h1 : j < xs.length) (h2 : j < ys.length), j < k → eqI xs[j] ys[j] = true)) (fun i => xs.length - (intOf i).toNat)
  case atStart => exact ⟨0, by omega, by omega, rfl, fun j _ _ h => by omega⟩
  case round =>
    obtain ⟨k, hk, hk2, rfl, Hn⟩ := hrel
    by_cases h1 : k < xs.length
    · by_cases h2 : k < ys.length
      · obtain ⟨b, off, A1, c1, rfl, hlt, c0, r1⟩ := hx k h1
        obtain ⟨b', off', B1, d1, rfl, hlt', d0, r2⟩ := hy k h2
        have HA := Lib.hid (compareRows1_c (xs[k]'h1) (ys[k]'h2) A1 B1 c1 d1 w r1 r2 (sx k h1) (sy k h2))
        have HBad := Lib.hid (eqII_bad h1 h2)
        have HE : Hid (eqI xs[k] ys[k] = true → ∀ j (h1 : j < xs.length) (h2 : j < ys.length), j < k + 1 → eqI xs[j] ys[j] = true) := fun hE j h1 h2 hj => by
          by_cases e : j = k
          · subst e; exact hE
          · exact Hn.out j h1 h2 (by omega)
        have hz := cmpL_zero xs[k] ys[k]
        have hq : eqI xs[k] ys[k] = decide (cmpL xs[k] ys[k] = 0) := by unfold eqI; exact decide_eq_decide.2 hz.symm
        generalize cmpL xs[k] ys[k] = q at *
        have HQ := Lib.hid hq
        by_cases h0 : q = 0
        · have h0' : (q != 0) = false := by simp [h0]
          have HN := Lib.hid (HE.out (by rw [HQ.out]; simp [h0]))
          replace h0 := Lib.hid h0
          clear r1 r2 hx hy sx sy hz hq HE HBad
          go_wp2_with (go_at_call 175; refine HA.out.mono ?_; rintro e w1 ⟨rfl, rfl⟩)
          go_round
          case rel => exact ⟨k + 1, by omega, by omega, by go_num, HN⟩
          case measure => simp [intOf]; omega
        · have h0' : (q != 0) = true := by simp [h0]
          have HN := Lib.hid (HBad.out (by rw [HQ.out]; simp [h0]))
          replace h0 := Lib.hid h0
          clear r1 r2 hx hy sx sy hz hq HE HBad
          go_wp2_with (go_at_call 175; refine HA.out.mono ?_; rintro e w1 ⟨rfl, rfl⟩)
          go_ret
          exact ⟨⟨_, rfl, by rw [HN.out]; simp [h0.out]⟩, rfl⟩
      · obtain rfl : k = ys.length := by omega
        have HR := Lib.hid (eqII_len (show xs.length ≠ ys.length by omega))
        obtain ⟨b, off, A1, c1, rfl, hlt, c0, r1⟩ := hx _ h1
        clear hx hy sx sy r1
        go_wp2
        go_ret
        exact ⟨⟨_, rfl, by rw [HR.out]; rfl⟩, rfl⟩
    · obtain rfl : k = xs.length := by omega
      by_cases h2 : xs.length < ys.length
      · have HR := Lib.hid (eqII_len (show xs.length ≠ ys.length by omega))
        clear hx hy sx sy
        go_wp2
        go_ret
        exact ⟨⟨_, rfl, by rw [HR.out]; rfl⟩, rfl⟩
      · have HR := Lib.hid (eqII_all (xs := xs) (ys := ys) (by omega) (fun j h1 h2 => Hn.out j h1 h2 h1))
        clear hx hy sx sy
        go_wp2
        go_ret
        exact ⟨⟨_, rfl, by rw [HR.out]; rfl⟩, rfl⟩
set_option maxRecDepth 100000 in
set_option maxHeartbeats 1000000 in
theorem compareRows_c (xs ys : List (List Int)) (A B : Option Addr) (cx cy : Nat) (w : World) (hx : RowsC w A xs) (hy : RowsC w B ys) (lx : xs.length ≤ 1000000000) (ly : ys.length ≤ 1000000000) (sx : Short 1000000000 xs) (sy : Short 1000000000 ys) :
    Calls Tryz.prog 83 #[.slice A xs.length cx, .slice B ys.length cy] w fun e w' => (∃ r : Int, e = .returned (.int .i64 r) ∧ decide (r = 0) = eqII xs ys) ∧ w = w' := by
  have H := Lib.hid (compareFunc_c xs ys A B cx cy w hx hy lx ly sx sy)
  clear hx hy sx sy
  go_enter Tryz.func83, Tryz.ntmps83
  go_wp2_with fail
  refine H.out.mono ?_
  rintro e w1 ⟨⟨r, rfl, hr⟩, rfl⟩
  have Hr := Lib.hid hr
  clear hr
  go_wp2
  go_ret
  exact ⟨⟨_, rfl, Hr.out⟩, rfl⟩

end Go.Proofs.YtkgnejhflnekaaaGreat
namespace Go.Proofs.YtkgnejhflnekaaaGreat
open Go.RowKit
def smCode (c : Int) (ts : List T4) (d : Int) (us : List T4) (h n : Int) : Int := if (isSetB c ts && isSetB d us) = true then max (ctCode 200 c ts h n) (ctCode 200 d us h n) else 1
def smV (c : Int) (ts : List T4) (d : Int) (us : List T4) (h n : Int) : Bool := if smCode c ts d us h n = 0 then eqII (twVal 200 c ts h n) (twVal 200 d us h n) else false
theorem ctCode_set {c : Int} {ts : List T4} (l : Nat) (h n : Int) (hs : isSetB c ts = true) : (((inR 1 3 h && inR 1 8 n) = false ∧ ctCode l c ts h n = 2) ∨ ((inR 1 3 h && inR 1 8 n) = true ∧ (ctCode l c ts h n = 0 ∨ ctCode l c ts h n = 3))) := by
  unfold ctCode tsCode
  rw [if_pos hs]
  cases hr : (inR 1 3 h && inR 1 8 n)
  · left; simp
  · right
    refine ⟨rfl, ?_⟩
    simp only [if_true]
    by_cases h7 : 700 < powC c h.toNat
    · right; rw [if_pos h7, if_neg (by decide)]
    · rw [if_neg h7, if_pos rfl]
      by_cases h8 : l < (trL c ts h n).length
      · right; rw [if_pos h8]
      · left; rw [if_neg h8]
theorem ctCode_bad {c : Int} {ts : List T4} (l : Nat) (h n : Int) (hs : isSetB c ts = false) : ctCode l c ts h n = 1 := by
  unfold ctCode tsCode
  simp [hs]
/-- the code as the reference finds it -/
theorem smCode_spec (c : Int) (ts : List T4) (d : Int) (us : List T4) (h n : Int) :
    smCode c ts d us h n = if ctCode 200 c ts h n = 1 ∨ ctCode 200 d us h n = 1 then 1 else if ctCode 200 c ts h n ≠ 0 then ctCode 200 c ts h n else if ctCode 200 d us h n ≠ 0 then ctCode 200 d us h n else 0 := by
  unfold smCode
  cases hs : isSetB c ts
  · rw [ctCode_bad 200 h n hs]; simp
  · cases hu : isSetB d us
    · rw [ctCode_bad 200 h n hu]; simp
    · rcases ctCode_set 200 h n hs with ⟨a1, a2⟩ | ⟨a1, a2⟩ <;> rcases ctCode_set 200 h n hu with ⟨b1, b2⟩ | ⟨b1, b2⟩
      · rw [a2, b2]; simp
      · rw [a1] at b1; cases b1
      · rw [a1] at b1; cases b1
      · rcases a2 with a2 | a2 <;> rcases b2 with b2 | b2 <;> rw [a2, b2] <;> first | (simp; done) | decide
/-- what the search for a stable height gives from a height on -/
def shF (code : Int → Int) (tw : Int → List (List Int)) : Nat → Int → Int × Int
  | 0, _ => (0, 4)
  | f + 1, h => if code h ≠ 0 then (0, code h) else if code (h + 1) ≠ 0 then (0, code (h + 1)) else if eqII (tw h) (tw (h + 1)) = true then (h, 0) else shF code tw f (h + 1)
def shR (c : Int) (ts : List T4) (n : Int) : Int × Int := shF (fun h => ctCode 200 c ts h n) (fun h => twVal 200 c ts h n) 2 1
set_option maxRecDepth 100000 in
set_option maxHeartbeats 1000000 in
theorem implSameTraces_c (c d h n : Int) (ts us : List T4) (A B : Option Addr) (cx cy : Nat) (w : World) (hT : TileCells w A ts) (hU : TileCells w B us) (hl : ts.length ≤ 1000000000) (hu : us.length ≤ 1000000000) :
    Calls Tryz.prog 17 #[.agg #[.int .i64 c, .slice A ts.length cx], .agg #[.int .i64 d, .slice B us.length cy], .int .i64 h, .int .i64 n] w fun e w' => e = .returned (.tuple #[.bool (smV c ts d us h n), .int .i64 (smCode c ts d us h n)]) ∧ Below w.heap.size w w' := by
  have X1 := Lib.hid hT
  have Y1 := Lib.hid hU
  have HT := Lib.hid (fun (wq : World) (hwq : Below w.heap.size w wq) => implTraceWords_c c ts A cx h n wq (hT.below hwq) hl)
  have HU := Lib.hid (fun (wq : World) (hwq : Below w.heap.size w wq) => implTraceWords_c d us B cy h n wq (hU.below hwq) hu)
  obtain ⟨l1, s1, _⟩ := twVal_short c ts h n
  obtain ⟨l2, s2, _⟩ := twVal_short d us h n
  have HCmp := Lib.hid (fun A B cx cy w hx hy => compareRows_c (twVal 200 c ts h n) (twVal 200 d us h n) A B cx cy w hx hy (by omega) (by omega) s1 s2)
  have hc : smCode c ts d us h n = if (isSetB c ts && isSetB d us) = true then max (ctCode 200 c ts h n) (ctCode 200 d us h n) else 1 := rfl
  have hv : smV c ts d us h n = if smCode c ts d us h n = 0 then eqII (twVal 200 c ts h n) (twVal 200 d us h n) else false := rfl
  have hr : ([⟨c, ts, A, cx⟩, ⟨d, us, B, cy⟩] : List SD).all (fun s => isSetB s.c s.ts) = (isSetB c ts && isSetB d us) := by simp
  have Hr := Lib.hid hr
  have HV := Lib.hid hv
  have HC := Lib.hid hc
  clear hr hT hU l1 s1 l2 s2 hc hv
  generalize hS : (isSetB c ts && isSetB d us) = S at *
  clear hS
  go_enter Tryz.func17, Tryz.ntmps17
  go_wp2_with fail
  refine (areSets_c [⟨c, ts, A, cx⟩, ⟨d, us, B, cy⟩] _ 2 _ (setsCells2 (by simp) ?_ ?_ ?_ ?_) (by simp) ?_).mono ?_
  · (repeat (first | (exact cell_al _ _ _ _ _ _ (by simp) rfl) | (refine cell_alloc_old _ _ _ _ _ ?_)))
  · (repeat (first | (exact cell_al _ _ _ _ _ _ (by simp) rfl) | (refine cell_alloc_old _ _ _ _ _ ?_)))
  · (repeat (first | (exact cell_al _ _ _ _ _ _ (by simp) rfl) | (refine cell_alloc_old _ _ _ _ _ ?_)))
  · (repeat (first | (exact cell_al _ _ _ _ _ _ (by simp) rfl) | (refine cell_alloc_old _ _ _ _ _ ?_)))
  · intro s hs
    simp only [List.mem_cons, List.not_mem_nil, or_false] at hs
    rcases hs with rfl | rfl
    · exact ⟨X1.out.below (by (repeat (first | (with_reducible exact Below.refl _ _) | (with_reducible assumption) | (with_reducible refine below_al ?_) | (with_reducible refine below_dr ?_) | (with_reducible refine below_drN ?_) | (with_reducible refine below_set ?_ (by first | exact Nat.le_refl _ | (dsimp only; omega) | omega)) | (with_reducible refine below_tr (by with_reducible assumption) ?_)))), hl⟩
    · exact ⟨Y1.out.below (by (repeat (first | (with_reducible exact Below.refl _ _) | (with_reducible assumption) | (with_reducible refine below_al ?_) | (with_reducible refine below_dr ?_) | (with_reducible refine below_drN ?_) | (with_reducible refine below_set ?_ (by first | exact Nat.le_refl _ | (dsimp only; omega) | omega)) | (with_reducible refine below_tr (by with_reducible assumption) ?_)))), hu⟩
  rintro e w1 ⟨rfl, hb1⟩
  rw [Hr.out]
  have Hw1 : Hid (Below w.heap.size w w1) := by (show Below _ _ _); (repeat (first | (with_reducible exact Below.refl _ _) | (with_reducible assumption) | (with_reducible refine below_al ?_) | (with_reducible refine below_dr ?_) | (with_reducible refine below_drN ?_) | (with_reducible refine below_set ?_ (by first | exact Nat.le_refl _ | (dsimp only; omega) | omega)) | (with_reducible refine below_tr (by with_reducible assumption) ?_)))
  have d0 : w1.cell? ⟨w.heap.size, 0, none⟩ = some (.int .i64 c) := by rw [(bcell hb1).1 _ _ (by simp <;> omega)]; exact cell_alloc_old _ _ _ _ _ (cell_alloc_old _ _ _ _ _ (cell_alloc_at _ _ _ _ _ rfl))
  have d1 : w1.cell? ⟨w.heap.size, 1, none⟩ = some (.slice A ts.length cx) := by rw [(bcell hb1).1 _ _ (by simp <;> omega)]; exact cell_alloc_old _ _ _ _ _ (cell_alloc_old _ _ _ _ _ (cell_alloc_at _ _ _ _ _ rfl))
  have d2 : w1.cell? ⟨w.heap.size + 1, 0, none⟩ = some (.int .i64 d) := by rw [(bcell hb1).1 _ _ (by simp <;> omega)]; (repeat (first | (exact cell_al _ _ _ _ _ _ (by simp) rfl) | (refine cell_alloc_old _ _ _ _ _ ?_)))
  have d3 : w1.cell? ⟨w.heap.size + 1, 1, none⟩ = some (.slice B us.length cy) := by rw [(bcell hb1).1 _ _ (by simp <;> omega)]; (repeat (first | (exact cell_al _ _ _ _ _ _ (by simp) rfl) | (refine cell_alloc_old _ _ _ _ _ ?_)))
  have hN : w.heap.size + 1 < w1.heap.size := by have := hb1.size; simp at this; omega
  have D2 := Lib.hid (keepC d2)
  have D3 := Lib.hid (keepC d3)
  clear hb1 d2 d3
  cases S
  · go_wp2
    go_ret2
    exact ⟨by rw [HV.out, HC.out]; rfl, Hw1.out⟩
  · go_wp2_with fail
    refine (HT.out _ Hw1.out).mono ?_
    rintro e w2 ⟨v2, rfl, hO2, hb2⟩
    obtain ⟨A2, k2, rfl, hR2⟩ := hO2.rows
    have HR2 := Lib.hid hR2
    have Hw2 := Lib.hid (Hw1.out.trans (hb2.mono Hw1.out.size))
    have d2 := D2.out _ hb2
    have d3 := D3.out _ hb2
    have hN2 : w.heap.size + 1 < w2.heap.size := Nat.lt_of_lt_of_le hN hb2.size
    clear hO2 hR2 hb2 d0 d1
    go_wp2_with fail
    refine (HU.out _ Hw2.out).mono ?_
    rintro e w3 ⟨v3, rfl, hO3, hb3⟩
    obtain ⟨A3, k3, rfl, hR3⟩ := hO3.rows
    have HCm := Lib.hid (HCmp.out A2 A3 k2 k3 w3 (HR2.out.below hb3) hR3)
    have Hw3 := Lib.hid (Hw2.out.trans (hb3.mono Hw2.out.size))
    clear hO3 hR3 hb3 d2 d3
    rw [if_pos (by trivial)] at HC
    generalize eqII (twVal 200 c ts h n) (twVal 200 d us h n) = q at *
    generalize ctCode 200 c ts h n = p1 at *
    generalize ctCode 200 d us h n = p2 at *
    generalize twVal 200 c ts h n = t1 at *
    generalize twVal 200 d us h n = t2 at *
    by_cases hlt : p1 < p2
    · have hm : max p1 p2 = p2 := by omega
      rw [hm] at HC
      clear hm
      by_cases h0 : p2 = 0
      · subst h0
        have HV2 := Lib.hid (HV.out.trans (by rw [HC.out, if_pos rfl] : _ = q))
        have HC2 := Lib.hid HC.out
        clear HV HC
        go_wp2_with fail
        refine HCm.out.mono ?_
        rintro e w4 ⟨⟨r, rfl, hr⟩, rfl⟩
        have Hr2 := Lib.hid hr
        have hr' : (r == 0) = decide (r = 0) := by by_cases h : r = 0 <;> simp [h]
        clear hr
        go_wp2
        go_ret2
        refine ⟨?_, Hw3.out⟩
        rw [HV2.out, HC2.out, ← Hr2.out]
        first | rfl | (rw [← hr']; rfl)
      · have h0' : (p2 != 0) = true := by simp [h0]
        have HV2 := Lib.hid (HV.out.trans (by rw [HC.out, if_neg h0] : _ = false))
        have HC2 := Lib.hid HC.out
        replace h0 := Lib.hid h0
        clear HV HC
        go_wp2
        go_ret2
        refine ⟨?_, Hw3.out⟩
        rw [HV2.out, HC2.out]
        rfl
    · have hm : max p1 p2 = p1 := by omega
      rw [hm] at HC
      clear hm
      by_cases h0 : p1 = 0
      · subst h0
        have HV2 := Lib.hid (HV.out.trans (by rw [HC.out, if_pos rfl] : _ = q))
        have HC2 := Lib.hid HC.out
        clear HV HC
        go_wp2_with fail
        refine HCm.out.mono ?_
        rintro e w4 ⟨⟨r, rfl, hr⟩, rfl⟩
        have Hr2 := Lib.hid hr
        have hr' : (r == 0) = decide (r = 0) := by by_cases h : r = 0 <;> simp [h]
        clear hr
        go_wp2
        go_ret2
        refine ⟨?_, Hw3.out⟩
        rw [HV2.out, HC2.out, ← Hr2.out]
        first | rfl | (rw [← hr']; rfl)
      · have h0' : (p1 != 0) = true := by simp [h0]
        have HV2 := Lib.hid (HV.out.trans (by rw [HC.out, if_neg h0] : _ = false))
        have HC2 := Lib.hid HC.out
        replace h0 := Lib.hid h0
        clear HV HC
        go_wp2
        go_ret2
        refine ⟨?_, Hw3.out⟩
        rw [HV2.out, HC2.out]
        rfl
set_option maxRecDepth 100000 in
set_option maxHeartbeats 1000000 in
theorem specSameTraces_c (c d h n : Int) (ts us : List T4) (A B : Option Addr) (cx cy : Nat) (w : World) (hT : TileCells w A ts) (hU : TileCells w B us) (hl : ts.length ≤ 1000000000) (hu : us.length ≤ 1000000000) :
    Calls Tryz.prog 18 #[.agg #[.int .i64 c, .slice A ts.length cx], .agg #[.int .i64 d, .slice B us.length cy], .int .i64 h, .int .i64 n] w fun e w' => e = .returned (.tuple #[.bool (smV c ts d us h n), .int .i64 (smCode c ts d us h n)]) ∧ Below w.heap.size w w' := by
  have HT := Lib.hid (fun (wq : World) (hwq : Below w.heap.size w wq) => l10List_c c ts A cx h n wq (hT.below hwq) hl)
  have HU := Lib.hid (fun (wq : World) (hwq : Below w.heap.size w wq) => l10List_c d us B cy h n wq (hU.below hwq) hu)
  obtain ⟨l1, s1, _⟩ := twVal_short c ts h n
  obtain ⟨l2, s2, _⟩ := twVal_short d us h n
  have HCmp := Lib.hid (fun A B cx cy w hx hy => l10Same_c (twVal 200 c ts h n) (twVal 200 d us h n) A B cx cy w hx hy (by omega) (by omega) s1 s2)
  have hc := smCode_spec c ts d us h n
  have hv : smV c ts d us h n = if smCode c ts d us h n = 0 then eqII (twVal 200 c ts h n) (twVal 200 d us h n) else false := rfl
  have HV := Lib.hid hv
  have HC := Lib.hid hc
  clear hT hU l1 s1 l2 s2 hc hv
  go_enter Tryz.func18, Tryz.ntmps18
  go_wp2_with fail
  refine (HT.out _ (by (repeat (first | (with_reducible exact Below.refl _ _) | (with_reducible assumption) | (with_reducible refine below_al ?_) | (with_reducible refine below_dr ?_) | (with_reducible refine below_drN ?_) | (with_reducible refine below_set ?_ (by first | exact Nat.le_refl _ | (dsimp only; omega) | omega)) | (with_reducible refine below_tr (by with_reducible assumption) ?_))))).mono ?_
  rintro e w2 ⟨v2, rfl, hO2, hb2⟩
  obtain ⟨A2, k2, rfl, hR2⟩ := hO2.rows
  have HR2 := Lib.hid hR2
  have Hw2 : Hid (Below w.heap.size w w2) := by (show Below _ _ _); (repeat (first | (with_reducible exact Below.refl _ _) | (with_reducible assumption) | (with_reducible refine below_al ?_) | (with_reducible refine below_dr ?_) | (with_reducible refine below_drN ?_) | (with_reducible refine below_set ?_ (by first | exact Nat.le_refl _ | (dsimp only; omega) | omega)) | (with_reducible refine below_tr (by with_reducible assumption) ?_)))
  have d2 : w2.cell? ⟨w.heap.size + 1, 0, none⟩ = some (.int .i64 d) := by rw [(bcell hb2).1 _ _ (by simp <;> omega)]; simp
  have d3 : w2.cell? ⟨w.heap.size + 1, 1, none⟩ = some (.slice B us.length cy) := by rw [(bcell hb2).1 _ _ (by simp <;> omega)]; simp
  have hN2 : w.heap.size + 1 < w2.heap.size := by have := hb2.size; simp at this; omega
  clear hO2 hR2 hb2
  go_wp2_with fail
  refine (HU.out _ Hw2.out).mono ?_
  rintro e w3 ⟨v3, rfl, hO3, hb3⟩
  obtain ⟨A3, k3, rfl, hR3⟩ := hO3.rows
  have HCm := Lib.hid (HCmp.out A2 A3 k2 k3 w3 (HR2.out.below hb3) hR3)
  have Hw3 := Lib.hid (Hw2.out.trans (hb3.mono Hw2.out.size))
  clear hO3 hR3 hb3 d2 d3
  generalize eqII (twVal 200 c ts h n) (twVal 200 d us h n) = q at *
  generalize ctCode 200 c ts h n = p1 at *
  generalize ctCode 200 d us h n = p2 at *
  generalize twVal 200 c ts h n = t1 at *
  generalize twVal 200 d us h n = t2 at *
  by_cases h1 : p1 = 1
  · subst h1
    have HC2 := Lib.hid (HC.out.trans (if_pos (.inl rfl)))
    have HV2 := Lib.hid (HV.out.trans (by rw [HC2.out, if_neg (by decide)] : _ = false))
    clear HV HC
    go_wp2
    go_ret2
    refine ⟨?_, Hw3.out⟩
    rw [HV2.out, HC2.out]
    rfl
  by_cases h2 : p2 = 1
  · subst h2
    have HC2 := Lib.hid (HC.out.trans (if_pos (.inr rfl)))
    have HV2 := Lib.hid (HV.out.trans (by rw [HC2.out, if_neg (by decide)] : _ = false))
    have e1 : (p1 == 1) = false := by simp [h1]
    replace h1 := Lib.hid h1
    clear HV HC
    go_wp2
    go_ret2
    refine ⟨?_, Hw3.out⟩
    rw [HV2.out, HC2.out]
    rfl
  have e1 : (p1 == 1) = false := by simp [h1]
  have e2 : (p2 == 1) = false := by simp [h2]
  have HC := Lib.hid (HC.out.trans (if_neg (by omega)))
  replace h1 := Lib.hid h1
  replace h2 := Lib.hid h2
  by_cases h3 : p1 = 0
  · subst h3
    have HC := Lib.hid (HC.out.trans (if_neg (by decide)))
    by_cases h4 : p2 = 0
    · subst h4
      have HC2 := Lib.hid (HC.out.trans (if_neg (by decide)))
      have HV2 := Lib.hid (HV.out.trans (by rw [HC2.out, if_pos rfl] : _ = q))
      clear HV HC
      go_wp2_with fail
      refine HCm.out.mono ?_
      rintro e w4 ⟨rfl, hb4⟩
      have Hw4 := Lib.hid (Hw3.out.trans (hb4.mono Hw3.out.size))
      clear hb4
      go_wp2
      go_ret2
      refine ⟨?_, Hw4.out⟩
      rw [HV2.out, HC2.out]
      rfl
    · have HC2 := Lib.hid (HC.out.trans (if_pos h4))
      have HV2 := Lib.hid (HV.out.trans (by rw [HC2.out, if_neg h4] : _ = false))
      have e4 : (p2 != 0) = true := by simp [h4]
      replace h4 := Lib.hid h4
      clear HV HC
      go_wp2
      go_ret2
      refine ⟨?_, Hw3.out⟩
      rw [HV2.out, HC2.out]
      rfl
  · have HC2 := Lib.hid (HC.out.trans (if_pos h3))
    have HV2 := Lib.hid (HV.out.trans (by rw [HC2.out, if_neg h3] : _ = false))
    have e3 : (p1 != 0) = true := by simp [h3]
    replace h3 := Lib.hid h3
    clear HV HC
    go_wp2
    go_ret2
    refine ⟨?_, Hw3.out⟩
    rw [HV2.out, HC2.out]
    rfl
end Go.Proofs.YtkgnejhflnekaaaGreat
namespace Go.Proofs.YtkgnejhflnekaaaGreat
open Go.RowKit
theorem tcells_snoc (ts : List T4) (t : T4) : tcells (ts ++ [t]) = tcells ts ++ [.int .i64 t.a, .int .i64 t.b, .int .i64 t.c, .int .i64 t.d] := by rw [tcells_append]; rfl
theorem new_cells (w : World) (cs : List Value) (T : TypeId) : ∀ j u, cs[j]? = some u → (w.alloc (.cells cs.toArray T)).cell? ((⟨w.heap.size, 0, none⟩ : Addr).add j) = some u := by
  intro j u hj
  have := (Blk.new w cs T).cell? j
  rw [hj] at this
  cases j with
  | zero => simpa [Addr.add] using this
  | succ j => simpa [Addr.add] using this
theorem infoTile2 : (Tryz.prog.info? 127).map (fun i => (i.zero, i.size, i.bytes)) = some (some (.agg #[.int .i64 0, .int .i64 0, .int .i64 0, .int .i64 0]), 4, 32) := by kernel_rfl
/-- a slice that the call made and owns: tiles -/
def OwnT (w : World) (B : Nat) (v : Value) (ts : List T4) : Prop := w.ownsRow B 127 4 v ts.length (tcells ts)
end Go.Proofs.YtkgnejhflnekaaaGreat
