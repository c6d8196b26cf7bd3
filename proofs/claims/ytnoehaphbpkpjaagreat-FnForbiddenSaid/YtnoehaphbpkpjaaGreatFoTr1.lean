/- Contracts and lemmas for the statements of this seat, written for this claim; each theorem states its own conditions. -/
import Derived.Test.YtnoehaphbpkpjaaGreatFoTm1
import Derived.Test.YtnoehaphbpkpjaaGreatFoSe
set_option linter.unusedVariables false
set_option linter.unusedSimpArgs false
namespace Go.Proofs.YtnoehaphbpkpjaaGreat
open Go.RowKit
attribute [local go_sem] addUpon_value addUpon_skip addUpon_enter
set_option maxRecDepth 100000 in
set_option maxHeartbeats 1000000 in
theorem l10Equal_c (xs ys : List Int) (A B : Option Addr) (cx cy : Nat) (w : World) (hx : Cells w A (ints xs)) (hy : Cells w B (ints ys)) (lx : xs.length ≤ 1000000000) (ly : ys.length ≤ 1000000000) :
    Calls Tryz.prog 107 #[.slice A xs.length cx, .slice B ys.length cy] w fun e w' => e = .returned (.bool (eqI xs ys)) ∧ Below w.heap.size w w' := by
  by_cases hl : xs.length = ys.length
  · have HL := Lib.hid hl
    have hl' : ((xs.length : Int) != (ys.length : Int)) = false := by simp; omega
    have hl2 : ys.length ≤ xs.length := by omega
    have hl3 : xs.length ≤ ys.length := by omega
    clear hl
    go_enter Tryz.func107, Tryz.ntmps107
    go_wp2
    go_loopw [5] (fun i wr => ∃ k : Nat, k ≤ xs.length ∧ i = .int .i64 k ∧ Hid (∀ j (h1 : j < xs.length) (h2 : j < ys.length), j < k → xs[j] = ys[j]) ∧ Below w.heap.size w wr) (fun i _ => xs.length - (intOf i).toNat)
    case atStart => exact ⟨0, by omega, rfl, fun j _ _ h => by omega, Below.refl _ _⟩
    case round =>
      obtain ⟨k, hk, rfl, Hn, hb⟩ := hrel
      have Hb := Lib.hid hb
      by_cases h1 : k < xs.length
      · have h2 : k < ys.length := by omega
        obtain ⟨b, off, rfl, hlt, c0⟩ := (hx.below hb).int k h1
        obtain ⟨b', off', rfl, hlt', d0⟩ := (hy.below hb).int k h2
        by_cases hE : xs[k] = ys[k]
        · have HE : Hid (∀ j (h1 : j < xs.length) (h2 : j < ys.length), j < k + 1 → xs[j] = ys[j]) := fun j h1 h2 hj => by
            by_cases e : j = k
            · subst e; exact hE
            · exact Hn.out j h1 h2 (by omega)
          have hE' : (xs[k] != ys[k]) = false := by simp [hE]
          have e0 := keepC c0
          have f0 := keepC d0
          clear hE hx hy hb c0 d0
          generalize xs[k] = s at *
          generalize ys[k] = t at *
          go_wp2_with fail
          refine wp_region_add (fun w' => Below (wr).heap.size (wr) w') (by kernel_rfl) (by kernel_rfl) ((Below.refl _ _).drew) ?_
          repeat (first
            | (refine add_skip rfl (fun K' hK' => ?_); go_simp; refine hK' _ ?_; clear hK' K')
            | (refine add_do (v := ?_) rfl (fun w1 hb => ?_) (fun K' hK' => ?_); rotate_left
               · go_simp
                 first
                 | (with_reducible exact rfl)
                 | (with_reducible exact ⟨rfl, hb⟩)
                 | exact rfl
                 | exact ⟨rfl, hb⟩
               go_simp; refine hK' _ ?_; clear hK' K'))
          refine add_nil ?_
          intro wa hba
          go_wp2
          go_roundw
          case rel => exact ⟨k + 1, by omega, by go_num, HE, by have h3 := Hb.out; (repeat (first | (with_reducible exact Below.refl _ _) | (with_reducible assumption) | (with_reducible refine below_al ?_) | (with_reducible refine below_dr ?_) | (with_reducible refine below_drN ?_) | (with_reducible refine below_set ?_ (by first | exact Nat.le_refl _ | (dsimp only; omega) | omega)) | (with_reducible refine below_tr (by with_reducible assumption) ?_)))⟩
          case measure => simp [intOf]; omega
        · have HE : Hid (eqI xs ys = false) := by
            show eqI xs ys = false
            simp only [eqI, decide_eq_false_iff_not]; intro e; exact hE (by simp [e])
          have hE' : (xs[k] != ys[k]) = true := by simp [hE]
          have e0 := keepC c0
          have f0 := keepC d0
          clear hE hx hy hb c0 d0
          generalize xs[k] = s at *
          generalize ys[k] = t at *
          go_wp2_with fail
          refine wp_region_add (fun w' => Below (wr).heap.size (wr) w') (by kernel_rfl) (by kernel_rfl) ((Below.refl _ _).drew) ?_
          repeat (first
            | (refine add_skip rfl (fun K' hK' => ?_); go_simp; refine hK' _ ?_; clear hK' K')
            | (refine add_do (v := ?_) rfl (fun w1 hb => ?_) (fun K' hK' => ?_); rotate_left
               · go_simp
                 first
                 | (with_reducible exact rfl)
                 | (with_reducible exact ⟨rfl, hb⟩)
                 | exact rfl
                 | exact ⟨rfl, hb⟩
               go_simp; refine hK' _ ?_; clear hK' K'))
          refine add_nil ?_
          intro wa hba
          go_wp2
          go_ret
          exact ⟨ret_bool HE.out.symm, by have h3 := Hb.out; (repeat (first | (with_reducible exact Below.refl _ _) | (with_reducible assumption) | (with_reducible refine below_al ?_) | (with_reducible refine below_dr ?_) | (with_reducible refine below_drN ?_) | (with_reducible refine below_set ?_ (by first | exact Nat.le_refl _ | (dsimp only; omega) | omega)) | (with_reducible refine below_tr (by with_reducible assumption) ?_)))⟩
      · have hE : Hid (eqI xs ys = true) := by
          show eqI xs ys = true
          simp only [eqI, decide_eq_true_eq]
          exact List.ext_getElem HL.out fun j h1 h2 => Hn.out j h1 h2 (by omega)
        clear hx hy
        go_wp2
        go_ret
        exact ⟨ret_bool hE.out.symm, hb⟩
  · have hR : Hid (eqI xs ys = false) := by
      show eqI xs ys = false
      simp only [eqI, decide_eq_false_iff_not]; intro e; exact hl (by rw [e])
    have hl' : ((xs.length : Int) != (ys.length : Int)) = true := by simp; omega
    clear hl
    go_enter Tryz.func107, Tryz.ntmps107
    go_wp2
    go_ret
    exact ⟨ret_bool hR.out.symm, Below.refl _ _⟩
set_option maxRecDepth 100000 in
set_option maxHeartbeats 1000000 in
theorem l10Same_c (xs ys : List (List Int)) (A B : Option Addr) (cx cy : Nat) (w : World) (hx : RowsC w A xs) (hy : RowsC w B ys) (lx : xs.length ≤ 1000000000) (ly : ys.length ≤ 1000000000) (sx : Short 1000000000 xs) (sy : Short 1000000000 ys) :
    Calls Tryz.prog 75 #[.slice A xs.length cx, .slice B ys.length cy] w fun e w' => e = .returned (.bool (eqII xs ys)) ∧ Below w.heap.size w w' := by
  by_cases hl : xs.length = ys.length
  · have HL := Lib.hid hl
    have hl' : ((xs.length : Int) != (ys.length : Int)) = false := by simp; omega
    have hl2 : ys.length ≤ xs.length := by omega
    have hl3 : xs.length ≤ ys.length := by omega
    clear hl
    go_enter Tryz.func75, Tryz.ntmps75
    go_wp2
    go_loopw [5] (fun i wr => ∃ k : Nat, k ≤ xs.length ∧ i = .int .i64 k ∧ Hid (∀ j (h1 : j < xs.length) (h2 : j < ys.length), j < k → eqI xs[j] ys[j] = true) ∧ Below w.heap.size w wr) (fun i _ => xs.length - (intOf i).toNat)
    case atStart => exact ⟨0, by omega, rfl, fun j _ _ h => by omega, Below.refl _ _⟩
    case round =>
      obtain ⟨k, hk, rfl, Hn, hb⟩ := hrel
      have Hb := Lib.hid hb
      by_cases h1 : k < xs.length
      · have h2 : k < ys.length := by omega
        obtain ⟨b, off, A1, c1, rfl, hlt, c0, r1⟩ := (hx.below hb) k h1
        obtain ⟨b', off', B1, d1, rfl, hlt', d0, r2⟩ := (hy.below hb) k h2
        have HA := Lib.hid (fun w (hc : Cells w A1 (ints (xs[k]'h1))) (hd : Cells w B1 (ints (ys[k]'h2))) => l10Equal_c (xs[k]'h1) (ys[k]'h2) A1 B1 c1 d1 w hc hd (sx k h1) (sy k h2))
        have R1 := Lib.hid r1
        have R2 := Lib.hid r2
        have HBad := Lib.hid (eqII_bad h1 h2)
        have HE : Hid (eqI xs[k] ys[k] = true → ∀ j (h1 : j < xs.length) (h2 : j < ys.length), j < k + 1 → eqI xs[j] ys[j] = true) := fun hE j h1 h2 hj => by
          by_cases e : j = k
          · subst e; exact hE
          · exact Hn.out j h1 h2 (by omega)
        have e0 := keepC c0
        have f0 := keepC d0
        clear c0 d0 r1 r2 hx hy hb sx sy
        generalize eqI xs[k] ys[k] = r at *
        cases r
        · have HE := Lib.hid (HBad.out rfl)
          go_wp2_with fail
          refine wp_region_add (fun w' => Below (wr).heap.size (wr) w') (by kernel_rfl) (by kernel_rfl) ((Below.refl _ _).drew) ?_
          repeat (first
            | (refine add_skip rfl (fun K' hK' => ?_); go_simp; refine hK' _ ?_; clear hK' K')
            | (refine add_do (v := ?_) rfl (fun w1 hb => ?_) (fun K' hK' => ?_); rotate_left
               · go_simp
                 first
                 | (with_reducible exact rfl)
                 | (with_reducible exact ⟨rfl, hb⟩)
                 | (with_reducible exact (addCall (HA.out w1 (R1.out.below hb) (R2.out.below hb)) hb).2)
                 | exact (addCall (HA.out w1 (R1.out.below hb) (R2.out.below hb)) hb).2
                 | exact rfl
                 | exact ⟨rfl, hb⟩
               go_simp; refine hK' _ ?_; clear hK' K'))
          refine add_nil ?_
          intro wa hba
          go_wp2
          go_ret
          exact ⟨ret_bool HE.out.symm, by have h3 := Hb.out; (repeat (first | (with_reducible exact Below.refl _ _) | (with_reducible assumption) | (with_reducible refine below_al ?_) | (with_reducible refine below_dr ?_) | (with_reducible refine below_drN ?_) | (with_reducible refine below_set ?_ (by first | exact Nat.le_refl _ | (dsimp only; omega) | omega)) | (with_reducible refine below_tr (by with_reducible assumption) ?_)))⟩
        · have HE2 := Lib.hid (HE.out rfl)
          go_wp2_with fail
          refine wp_region_add (fun w' => Below (wr).heap.size (wr) w') (by kernel_rfl) (by kernel_rfl) ((Below.refl _ _).drew) ?_
          repeat (first
            | (refine add_skip rfl (fun K' hK' => ?_); go_simp; refine hK' _ ?_; clear hK' K')
            | (refine add_do (v := ?_) rfl (fun w1 hb => ?_) (fun K' hK' => ?_); rotate_left
               · go_simp
                 first
                 | (with_reducible exact rfl)
                 | (with_reducible exact ⟨rfl, hb⟩)
                 | (with_reducible exact (addCall (HA.out w1 (R1.out.below hb) (R2.out.below hb)) hb).2)
                 | exact (addCall (HA.out w1 (R1.out.below hb) (R2.out.below hb)) hb).2
                 | exact rfl
                 | exact ⟨rfl, hb⟩
               go_simp; refine hK' _ ?_; clear hK' K'))
          refine add_nil ?_
          intro wa hba
          go_wp2
          go_roundw
          case rel => exact ⟨k + 1, by omega, by go_num, HE2, by have h3 := Hb.out; (repeat (first | (with_reducible exact Below.refl _ _) | (with_reducible assumption) | (with_reducible refine below_al ?_) | (with_reducible refine below_dr ?_) | (with_reducible refine below_drN ?_) | (with_reducible refine below_set ?_ (by first | exact Nat.le_refl _ | (dsimp only; omega) | omega)) | (with_reducible refine below_tr (by with_reducible assumption) ?_)))⟩
          case measure => simp [intOf]; omega
      · have hE := Lib.hid (eqII_all HL.out (fun j h1 h2 => Hn.out j h1 h2 (by omega)))
        clear hx hy sx sy
        go_wp2
        go_ret
        exact ⟨ret_bool hE.out.symm, hb⟩
  · have hR := Lib.hid (eqII_len hl)
    have hl' : ((xs.length : Int) != (ys.length : Int)) = true := by simp; omega
    clear hl
    go_enter Tryz.func75, Tryz.ntmps75
    go_wp2
    go_ret
    exact ⟨ret_bool hR.out.symm, Below.refl _ _⟩
theorem cmpI_zero {a b : Int} : cmpI a b = 0 ↔ a = b := by
  unfold cmpI
  split
  · constructor <;> intro h <;> omega
  · split
    · constructor <;> intro h <;> omega
    · constructor <;> intro h <;> omega
theorem cmpL_zero : ∀ (xs ys : List Int), cmpL xs ys = 0 ↔ xs = ys
  | [], [] => by simp [cmpL]
  | [], _ :: _ => by simp [cmpL]
  | _ :: _, [] => by simp [cmpL]
  | x :: xs, y :: ys => by
    unfold cmpL
    by_cases h : cmpI x y = 0
    · rw [if_neg (by simp [h]), cmpL_zero xs ys]
      have := cmpI_zero.1 h
      simp [this]
    · rw [if_pos h]
      constructor
      · intro e; exact absurd e h
      · intro e; injection e with e _; exact absurd (cmpI_zero.2 e) h
set_option maxRecDepth 100000 in
set_option maxHeartbeats 1000000 in
theorem compareRows1_c (xs ys : List Int) (A B : Option Addr) (cx cy : Nat) (w : World) (hx : Cells w A (ints xs)) (hy : Cells w B (ints ys)) (lx : xs.length ≤ 1000000000) (ly : ys.length ≤ 1000000000) :
    Calls Tryz.prog 109 #[.slice A xs.length cx, .slice B ys.length cy] w fun e w' => e = .returned (.int .i64 (cmpL xs ys)) ∧ w = w' := by
  have H := Lib.hid (slicesCompare_c xs ys A B cx cy w hx hy lx ly)
  clear hx hy
  go_enter Tryz.func109, Tryz.ntmps109
  go_wp2_with fail
  refine H.out.mono ?_
  rintro e w1 ⟨rfl, rfl⟩
  go_wp2
  go_ret
  exact ⟨rfl, rfl⟩
set_option maxRecDepth 100000 in
set_option maxHeartbeats 1000000 in
theorem compareFunc_c (xs ys : List (List Int)) (A B : Option Addr) (cx cy : Nat) (w : World) (hx : RowsC w A xs) (hy : RowsC w B ys) (lx : xs.length ≤ 1000000000) (ly : ys.length ≤ 1000000000) (sx : Short 1000000000 xs) (sy : Short 1000000000 ys) :
    Calls Tryz.prog 108 #[.slice A xs.length cx, .slice B ys.length cy, .func (.func 109) #[] #[]] w fun e w' => (∃ r : Int, e = .returned (.int .i64 r) ∧ decide (r = 0) = eqII xs ys) ∧ w = w' := by
  go_enter Tryz.func108, Tryz.ntmps108
  go_wp2
  go_loop [13] (fun i => ∃ k : Nat, k ≤ xs.length ∧ k ≤ ys.length ∧ i = .int .i64 k ∧ Hid (∀ j (h1 : j < xs.length) (h2 : j < ys.length), j < k → eqI xs[j] ys[j] = true)) (fun i => xs.length - (intOf i).toNat)
  case atStart => exact ⟨0, by omega, by omega, rfl, fun j _ _ h => by omega⟩
  case round =>
    obtain ⟨k, hk, hk2, rfl, Hn⟩ := hrel
    by_cases h1 : k < xs.length
    · by_cases h2 : k < ys.length
      · obtain ⟨b, off, A1, c1, rfl, hlt, c0, r1⟩ := hx k h1
        obtain ⟨b', off', B1, d1, rfl, hlt', d0, r2⟩ := hy k h2
        have HA := Lib.hid (compareRows1_c (xs[k]'h1) (ys[k]'h2) A1 B1 c1 d1 w r1 r2 (sx k h1) (sy k h2))
        have HBad := Lib.hid (eqII_bad h1 h2)
        have HE : Hid (eqI xs[k] ys[k] = true → ∀ j (h1 : j < xs.length) (h2 : j < ys.length), j < k + 1 → eqI xs[j] ys[j] = true) := fun hE j h1 h2 hj => by
          by_cases e : j = k
          · subst e; exact hE
          · exact Hn.out j h1 h2 (by omega)
        have hz := cmpL_zero xs[k] ys[k]
        have hq : eqI xs[k] ys[k] = decide (cmpL xs[k] ys[k] = 0) := by unfold eqI; exact decide_eq_decide.2 hz.symm
        generalize cmpL xs[k] ys[k] = q at *
        have HQ := Lib.hid hq
        by_cases h0 : q = 0
        · have h0' : (q != 0) = false := by simp [h0]
          have HN := Lib.hid (HE.out (by rw [HQ.out]; simp [h0]))
          replace h0 := Lib.hid h0
          clear r1 r2 hx hy sx sy hz hq HE HBad
          go_wp2_with (go_at_call 109; refine HA.out.mono ?_; rintro e w1 ⟨rfl, rfl⟩)
          go_round
          case rel => exact ⟨k + 1, by omega, by omega, by go_num, HN⟩
          case measure => simp [intOf]; omega
        · have h0' : (q != 0) = true := by simp [h0]
          have HN := Lib.hid (HBad.out (by rw [HQ.out]; simp [h0]))
          replace h0 := Lib.hid h0
          clear r1 r2 hx hy sx sy hz hq HE HBad
          go_wp2_with (go_at_call 109; refine HA.out.mono ?_; rintro e w1 ⟨rfl, rfl⟩)
          go_ret
          exact ⟨⟨_, rfl, by rw [HN.out]; simp [h0.out]⟩, rfl⟩
      · obtain rfl : k = ys.length := by omega
        have HR := Lib.hid (eqII_len (show xs.length ≠ ys.length by omega))
        obtain ⟨b, off, A1, c1, rfl, hlt, c0, r1⟩ := hx _ h1
        clear hx hy sx sy r1
        go_wp2
        go_ret
        exact ⟨⟨_, rfl, by rw [HR.out]; rfl⟩, rfl⟩
    · obtain rfl : k = xs.length := by omega
      by_cases h2 : xs.length < ys.length
      · have HR := Lib.hid (eqII_len (show xs.length ≠ ys.length by omega))
        clear hx hy sx sy
        go_wp2
        go_ret
        exact ⟨⟨_, rfl, by rw [HR.out]; rfl⟩, rfl⟩
      · have HR := Lib.hid (eqII_all (xs := xs) (ys := ys) (by omega) (fun j h1 h2 => Hn.out j h1 h2 h1))
        clear hx hy sx sy
        go_wp2
        go_ret
        exact ⟨⟨_, rfl, by rw [HR.out]; rfl⟩, rfl⟩
set_option maxRecDepth 100000 in
set_option maxHeartbeats 1000000 in
theorem compareRows_c (xs ys : List (List Int)) (A B : Option Addr) (cx cy : Nat) (w : World) (hx : RowsC w A xs) (hy : RowsC w B ys) (lx : xs.length ≤ 1000000000) (ly : ys.length ≤ 1000000000) (sx : Short 1000000000 xs) (sy : Short 1000000000 ys) :
    Calls Tryz.prog 74 #[.slice A xs.length cx, .slice B ys.length cy] w fun e w' => (∃ r : Int, e = .returned (.int .i64 r) ∧ decide (r = 0) = eqII xs ys) ∧ w = w' := by
  have H := Lib.hid (compareFunc_c xs ys A B cx cy w hx hy lx ly sx sy)
  clear hx hy sx sy
  go_enter Tryz.func74, Tryz.ntmps74
  go_wp2_with fail
  refine H.out.mono ?_
  rintro e w1 ⟨⟨r, rfl, hr⟩, rfl⟩
  have Hr := Lib.hid hr
  clear hr
  go_wp2
  go_ret
  exact ⟨⟨_, rfl, Hr.out⟩, rfl⟩

end Go.Proofs.YtnoehaphbpkpjaaGreat
namespace Go.Proofs.YtnoehaphbpkpjaaGreat
open Go.RowKit
def smCode (c : Int) (ts : List T4) (d : Int) (us : List T4) (h n : Int) : Int := if (isSetB c ts && isSetB d us) = true then max (ctCode 200 c ts h n) (ctCode 200 d us h n) else 1
def smV (c : Int) (ts : List T4) (d : Int) (us : List T4) (h n : Int) : Bool := if smCode c ts d us h n = 0 then eqII (twVal 200 c ts h n) (twVal 200 d us h n) else false
theorem ctCode_set {c : Int} {ts : List T4} (l : Nat) (h n : Int) (hs : isSetB c ts = true) : (((inR 1 3 h && inR 1 8 n) = false ∧ ctCode l c ts h n = 2) ∨ ((inR 1 3 h && inR 1 8 n) = true ∧ (ctCode l c ts h n = 0 ∨ ctCode l c ts h n = 3))) := by
  unfold ctCode tsCode
  rw [if_pos hs]
  cases hr : (inR 1 3 h && inR 1 8 n)
  · left; simp
  · right
    refine ⟨rfl, ?_⟩
    simp only [if_true]
    by_cases h7 : 700 < powC c h.toNat
    · right; rw [if_pos h7, if_neg (by decide)]
    · rw [if_neg h7, if_pos rfl]
      by_cases h8 : l < (trL c ts h n).length
      · right; rw [if_pos h8]
      · left; rw [if_neg h8]
theorem ctCode_bad {c : Int} {ts : List T4} (l : Nat) (h n : Int) (hs : isSetB c ts = false) : ctCode l c ts h n = 1 := by
  unfold ctCode tsCode
  simp [hs]
/-- the code as the reference finds it -/
theorem smCode_spec (c : Int) (ts : List T4) (d : Int) (us : List T4) (h n : Int) :
    smCode c ts d us h n = if ctCode 200 c ts h n = 1 ∨ ctCode 200 d us h n = 1 then 1 else if ctCode 200 c ts h n ≠ 0 then ctCode 200 c ts h n else if ctCode 200 d us h n ≠ 0 then ctCode 200 d us h n else 0 := by
  unfold smCode
  cases hs : isSetB c ts
  · rw [ctCode_bad 200 h n hs]; simp
  · cases hu : isSetB d us
    · rw [ctCode_bad 200 h n hu]; simp
    · rcases ctCode_set 200 h n hs with ⟨a1, a2⟩ | ⟨a1, a2⟩ <;> rcases ctCode_set 200 h n hu with ⟨b1, b2⟩ | ⟨b1, b2⟩
      · rw [a2, b2]; simp
      · rw [a1] at b1; cases b1
      · rw [a1] at b1; cases b1
      · rcases a2 with a2 | a2 <;> rcases b2 with b2 | b2 <;> rw [a2, b2] <;> first | (simp; done) | decide
/-- what the search for a stable height gives from a height on -/
def shF (code : Int → Int) (tw : Int → List (List Int)) : Nat → Int → Int × Int
  | 0, _ => (0, 4)
  | f + 1, h => if code h ≠ 0 then (0, code h) else if code (h + 1) ≠ 0 then (0, code (h + 1)) else if eqII (tw h) (tw (h + 1)) = true then (h, 0) else shF code tw f (h + 1)
def shR (c : Int) (ts : List T4) (n : Int) : Int × Int := shF (fun h => ctCode 200 c ts h n) (fun h => twVal 200 c ts h n) 2 1
set_option maxRecDepth 100000 in
set_option maxHeartbeats 1000000 in
theorem implStableHeight_c (c n : Int) (ts : List T4) (A : Option Addr) (cx : Nat) (w : World) (hT : TileCells w A ts) (hl : ts.length ≤ 1000000000) :
    Calls Tryz.prog 23 #[.agg #[.int .i64 c, .slice A ts.length cx], .int .i64 n] w fun e w' => e = .returned (.tuple #[.int .i64 (shR c ts n).1, .int .i64 (shR c ts n).2]) ∧ Below w.heap.size w w' := by
  have HT := Lib.hid (fun (h : Int) (wq : World) (hwq : Below w.heap.size w wq) => implTraceWords_c c ts A cx h n wq (hT.below hwq) hl)
  have HCmp := Lib.hid (fun (h : Int) A B cx cy w hx hy => compareRows_c (twVal 200 c ts h n) (twVal 200 c ts (h + 1) n) A B cx cy w hx hy (by have := (twVal_short c ts h n).1; omega) (by have := (twVal_short c ts (h + 1) n).1; omega) (twVal_short c ts h n).2.1 (twVal_short c ts (h + 1) n).2.1)
  have hst : ∀ f h, shF (fun h => ctCode 200 c ts h n) (fun h => twVal 200 c ts h n) (f + 1) h = if ctCode 200 c ts h n ≠ 0 then (0, ctCode 200 c ts h n) else if ctCode 200 c ts (h + 1) n ≠ 0 then (0, ctCode 200 c ts (h + 1) n) else if eqII (twVal 200 c ts h n) (twVal 200 c ts (h + 1) n) = true then (h, 0) else shF (fun h => ctCode 200 c ts h n) (fun h => twVal 200 c ts h n) f (h + 1) := fun _ _ => rfl
  have HSt := Lib.hid hst
  have HR : Hid (shR c ts n = shF (fun h => ctCode 200 c ts h n) (fun h => twVal 200 c ts h n) 2 1) := rfl
  clear hT hst
  generalize (fun h => ctCode 200 c ts h n) = cf at *
  generalize (fun h => twVal 200 c ts h n) = tf at *
  generalize shR c ts n = R at *
  go_enter Tryz.func23, Tryz.ntmps23
  go_wp2_with fail
  go_loopw [6] (fun iv wr => ∃ k : Nat, 1 ≤ k ∧ k ≤ 3 ∧ iv = .int .i64 k ∧ Hid (R = shF cf tf (3 - k) k) ∧ Hid (Below w.heap.size w wr) ∧ wr.cell? ⟨w.heap.size, 0, none⟩ = some (.int .i64 c) ∧ wr.cell? ⟨w.heap.size, 1, none⟩ = some (.slice A ts.length cx)) (fun i _ => 3 - (intOf i).toNat)
  case atStart => exact ⟨1, by omega, by omega, rfl, HR, Lib.hid (by (repeat (first | (with_reducible exact Below.refl _ _) | (with_reducible assumption) | (with_reducible refine below_al ?_) | (with_reducible refine below_dr ?_) | (with_reducible refine below_drN ?_) | (with_reducible refine below_set ?_ (by first | exact Nat.le_refl _ | (dsimp only; omega) | omega)) | (with_reducible refine below_tr (by with_reducible assumption) ?_)))), by simp, by simp⟩
  case round =>
    obtain ⟨k, hk1, hk3, rfl, HRk, HB, c0, c1⟩ := hrel
    obtain ⟨wj, rfl⟩ : ∃ wj, wj = wr := ⟨wr, rfl⟩
    have C0 := Lib.hid (keepC c0)
    have C1 := Lib.hid (keepC c1)
    by_cases hk : k ≤ 2
    · have hk' : (k : Int) ≤ 2 := by omega
      have HRk := Lib.hid (HRk.out.trans ((congrArg (fun m => shF cf tf m k) (show 3 - k = (2 - k) + 1 by omega)).trans (HSt.out (2 - k) k)))
      go_wp2_with fail
      refine (HT.out k _ HB.out).mono ?_
      rintro e w2 ⟨v2, rfl, hO2, hb2⟩
      obtain ⟨A2, k2, rfl, hR2⟩ := hO2.rows
      have HR2 := Lib.hid hR2
      have Hw2 := Lib.hid (HB.out.trans (hb2.mono HB.out.size))
      have c0 := C0.out _ hb2
      have c1 := C1.out _ hb2
      have Hb2 := Lib.hid hb2
      clear hO2 hR2 hb2
      have HCk := Lib.hid (HCmp.out k)
      generalize ctCode 200 c ts k n = p1 at *
      generalize twVal 200 c ts k n = t1 at *
      by_cases h1 : p1 = 0
      · subst h1
        rw [if_neg (by decide)] at HRk
        have hkw : IntKind.i64.wrap ((k : Int) + 1) = (k : Int) + 1 := IntWalk.i64_in _ (by omega)
        go_wp2_with fail
        refine (HT.out (k + 1) _ Hw2.out).mono ?_
        rintro e w3 ⟨v3, rfl, hO3, hb3⟩
        obtain ⟨A3, k3, rfl, hR3⟩ := hO3.rows
        have HCm := Lib.hid (HCk.out A2 A3 k2 k3 w3 (HR2.out.below hb3) hR3)
        have Hw3 := Lib.hid (Hw2.out.trans (hb3.mono Hw2.out.size))
        have c0 := C0.out _ (Hb2.out.trans (hb3.mono Hb2.out.size))
        have c1 := C1.out _ (Hb2.out.trans (hb3.mono Hb2.out.size))
        clear hO3 hR3 hb3 hkw
        generalize eqII t1 (twVal 200 c ts (k + 1) n) = q at *
        generalize ctCode 200 c ts (k + 1) n = p2 at *
        generalize twVal 200 c ts (k + 1) n = t2 at *
        by_cases h2 : p2 = 0
        · subst h2
          rw [if_neg (by decide)] at HRk
          go_wp2_with fail
          refine HCm.out.mono ?_
          rintro e w4 ⟨⟨r, rfl, hr⟩, rfl⟩
          have hr' : (r == 0) = q := by rw [← hr]; by_cases h : r = 0 <;> simp [h]
          clear hr
          cases q
          · rw [if_neg (by decide)] at HRk
            go_wp2
            go_roundw
            case rel => exact ⟨k + 1, by omega, by omega, by go_num, Lib.hid (by rw [HRk.out, show ((k : Int) + 1) = ((k + 1 : Nat) : Int) by omega, show 2 - k = 3 - (k + 1) by omega]), Hw3, c0, c1⟩
            case measure => simp [intOf]; omega
          · rw [if_pos (by decide)] at HRk
            go_wp2
            go_ret2
            exact ⟨by rw [HRk.out]; rfl, Hw3.out⟩
        · rw [if_pos h2] at HRk
          have h2' : (p2 != 0) = true := by simp [h2]
          replace h2 := Lib.hid h2
          go_wp2
          go_ret2
          exact ⟨by rw [HRk.out]; rfl, Hw3.out⟩
      · rw [if_pos h1] at HRk
        have h1' : (p1 != 0) = true := by simp [h1]
        replace h1 := Lib.hid h1
        go_wp2
        go_ret2
        exact ⟨by rw [HRk.out]; rfl, Hw2.out⟩
    · obtain rfl : k = 3 := by omega
      go_wp2
      go_ret2
      exact ⟨by rw [HRk.out]; rfl, HB.out⟩
set_option maxRecDepth 100000 in
set_option maxHeartbeats 1000000 in
theorem specStableHeight_c (c n : Int) (ts : List T4) (A : Option Addr) (cx : Nat) (w : World) (hT : TileCells w A ts) (hl : ts.length ≤ 1000000000) :
    Calls Tryz.prog 24 #[.agg #[.int .i64 c, .slice A ts.length cx], .int .i64 n] w fun e w' => e = .returned (.tuple #[.int .i64 (shR c ts n).1, .int .i64 (shR c ts n).2]) ∧ Below w.heap.size w w' := by
  have HT := Lib.hid (fun (h : Int) (wq : World) (hwq : Below w.heap.size w wq) => l10List_c c ts A cx h n wq (hT.below hwq) hl)
  have HCmp := Lib.hid (fun (h : Int) A B cx cy w hx hy => l10Same_c (twVal 200 c ts h n) (twVal 200 c ts (h + 1) n) A B cx cy w hx hy (by have := (twVal_short c ts h n).1; omega) (by have := (twVal_short c ts (h + 1) n).1; omega) (twVal_short c ts h n).2.1 (twVal_short c ts (h + 1) n).2.1)
  have hst : ∀ f h, shF (fun h => ctCode 200 c ts h n) (fun h => twVal 200 c ts h n) (f + 1) h = if ctCode 200 c ts h n ≠ 0 then (0, ctCode 200 c ts h n) else if ctCode 200 c ts (h + 1) n ≠ 0 then (0, ctCode 200 c ts (h + 1) n) else if eqII (twVal 200 c ts h n) (twVal 200 c ts (h + 1) n) = true then (h, 0) else shF (fun h => ctCode 200 c ts h n) (fun h => twVal 200 c ts h n) f (h + 1) := fun _ _ => rfl
  have HSt := Lib.hid hst
  have HR : Hid (shR c ts n = shF (fun h => ctCode 200 c ts h n) (fun h => twVal 200 c ts h n) 2 1) := rfl
  clear hT hst
  generalize (fun h => ctCode 200 c ts h n) = cf at *
  generalize (fun h => twVal 200 c ts h n) = tf at *
  generalize shR c ts n = R at *
  go_enter Tryz.func24, Tryz.ntmps24
  go_wp2_with fail
  refine (HT.out 1 _ (by (repeat (first | (with_reducible exact Below.refl _ _) | (with_reducible assumption) | (with_reducible refine below_al ?_) | (with_reducible refine below_dr ?_) | (with_reducible refine below_drN ?_) | (with_reducible refine below_set ?_ (by first | exact Nat.le_refl _ | (dsimp only; omega) | omega)) | (with_reducible refine below_tr (by with_reducible assumption) ?_))))).mono ?_
  rintro e w1 ⟨v1, rfl, hO1, hb1⟩
  obtain ⟨A1, k1, rfl, hR1⟩ := hO1.rows
  have HR1 := Lib.hid hR1
  have Hw1 : Hid (Below w.heap.size w w1) := by (show Below _ _ _); (repeat (first | (with_reducible exact Below.refl _ _) | (with_reducible assumption) | (with_reducible refine below_al ?_) | (with_reducible refine below_dr ?_) | (with_reducible refine below_drN ?_) | (with_reducible refine below_set ?_ (by first | exact Nat.le_refl _ | (dsimp only; omega) | omega)) | (with_reducible refine below_tr (by with_reducible assumption) ?_)))
  have c0 : w1.cell? ⟨w.heap.size, 0, none⟩ = some (.int .i64 c) := by rw [(bcell hb1).1 _ _ (by simp <;> omega)]; (repeat (first | (exact cell_al _ _ _ _ _ _ (by simp) rfl) | (refine cell_alloc_old _ _ _ _ _ ?_)))
  have c1 : w1.cell? ⟨w.heap.size, 1, none⟩ = some (.slice A ts.length cx) := by rw [(bcell hb1).1 _ _ (by simp <;> omega)]; (repeat (first | (exact cell_al _ _ _ _ _ _ (by simp) rfl) | (refine cell_alloc_old _ _ _ _ _ ?_)))
  clear hO1 hR1 hb1
  obtain ⟨L, hL⟩ : ∃ L, L = twVal 200 c ts 1 n := ⟨_, rfl⟩
  obtain ⟨q1, hq1⟩ : ∃ q, q = ctCode 200 c ts 1 n := ⟨_, rfl⟩
  rw [← hL] at HR1
  rw [← hL, ← hq1]
  have HL := Lib.hid hL
  have HQ := Lib.hid hq1
  clear hL hq1
  by_cases h1 : q1 = 0
  · subst h1
    go_wp2_with fail
    go_loopw [6, 8] (fun v iv wr => ∃ k : Nat, 1 ≤ k ∧ k ≤ 3 ∧ iv = .int .i64 k ∧ (∃ A' k', v = .slice A' (twVal 200 c ts k n).length k' ∧ Hid (RowsC wr A' (twVal 200 c ts k n))) ∧ Hid (k ≤ 2 → 0 = ctCode 200 c ts k n) ∧ Hid (R = shF cf tf (3 - k) k) ∧ Hid (Below w.heap.size w wr) ∧ wr.cell? ⟨w.heap.size, 0, none⟩ = some (.int .i64 c) ∧ wr.cell? ⟨w.heap.size, 1, none⟩ = some (.slice A ts.length cx)) (fun _ i _ => 3 - (intOf i).toNat)
    case atStart => exact ⟨1, by omega, by omega, rfl, ⟨A1, k1, by rw [HL.out]; rfl, Lib.hid (by have := HR1.out; rw [HL.out] at this; exact this)⟩, Lib.hid fun _ => HQ.out, HR, Hw1, c0, c1⟩
    case round =>
      clear c0 c1 HR1 HL HQ
      obtain ⟨k, hk1, hk3, rfl, ⟨A2, k2, rfl, HR2⟩, HQk, HRk, HB, c0, c1⟩ := hrel
      obtain ⟨wj, rfl⟩ : ∃ wj, wj = wr := ⟨wr, rfl⟩
      have C0 := Lib.hid (keepC c0)
      have C1 := Lib.hid (keepC c1)
      by_cases hk : k ≤ 2
      · have hk' : (k : Int) ≤ 2 := by omega
        have HRk := Lib.hid (HRk.out.trans ((congrArg (fun m => shF cf tf m k) (show 3 - k = (2 - k) + 1 by omega)).trans (HSt.out (2 - k) k)))
        rw [← HQk.out hk, if_neg (by decide)] at HRk
        have HCk := Lib.hid (HCmp.out k)
        have hkw : IntKind.i64.wrap ((k : Int) + 1) = (k : Int) + 1 := IntWalk.i64_in _ (by omega)
        generalize twVal 200 c ts k n = t1 at *
        go_wp2_with fail
        refine (HT.out (k + 1) _ HB.out).mono ?_
        rintro e w3 ⟨v3, rfl, hO3, hb3⟩
        obtain ⟨A3, k3, rfl, hR3⟩ := hO3.rows
        have HR3 := Lib.hid hR3
        have HCm := Lib.hid (HCk.out A2 A3 k2 k3 w3 (HR2.out.below hb3) hR3)
        have Hw3 := Lib.hid (HB.out.trans (hb3.mono HB.out.size))
        have c0 := C0.out _ hb3
        have c1 := C1.out _ hb3
        have Hb3 := Lib.hid hb3
        clear hO3 hR3 hb3 hkw
        obtain ⟨t2, ht2⟩ : ∃ t2, t2 = twVal 200 c ts (k + 1) n := ⟨_, rfl⟩
        obtain ⟨p2, hp2⟩ : ∃ p2, p2 = ctCode 200 c ts (k + 1) n := ⟨_, rfl⟩
        rw [← ht2] at HR3 HCm HRk
        rw [← hp2] at HRk
        rw [← ht2, ← hp2]
        have HT2 := Lib.hid ht2
        have HP2 := Lib.hid hp2
        clear ht2 hp2
        generalize eqII t1 t2 = q at *
        by_cases h2 : p2 = 0
        · subst h2
          rw [if_neg (by decide)] at HRk
          go_wp2_with fail
          refine HCm.out.mono ?_
          rintro e w4 ⟨rfl, hb4⟩
          have HB4 := Lib.hid hb4
          have Hw4 := Lib.hid (Hw3.out.trans (hb4.mono Hw3.out.size))
          clear hb4
          cases q
          · rw [if_neg (by decide)] at HRk
            clear c0 c1
            go_wp2
            go_roundw
            case rel => exact ⟨k + 1, by omega, by omega, by go_num, ⟨A3, k3, by rw [HT2.out]; rfl, Lib.hid (by have := HR3.out.below HB4.out; rw [HT2.out] at this; exact this)⟩, Lib.hid fun _ => HP2.out, Lib.hid (by rw [HRk.out, show ((k : Int) + 1) = ((k + 1 : Nat) : Int) by omega, show 2 - k = 3 - (k + 1) by omega]), Hw4, C0.out _ (Hb3.out.trans (HB4.out.mono Hb3.out.size)), C1.out _ (Hb3.out.trans (HB4.out.mono Hb3.out.size))⟩
            case measure => simp [intOf]; omega
          · rw [if_pos (by decide)] at HRk
            clear c0 c1
            go_wp2
            go_ret2
            exact ⟨by rw [HRk.out]; rfl, Hw4.out⟩
        · rw [if_pos h2] at HRk
          have h2' : (p2 != 0) = true := by simp [h2]
          replace h2 := Lib.hid h2
          go_wp2
          go_ret2
          exact ⟨by rw [HRk.out]; rfl, Hw3.out⟩
      · obtain rfl : k = 3 := by omega
        go_wp2
        go_ret2
        exact ⟨by rw [HRk.out]; rfl, HB.out⟩
  · have h1' : (q1 != 0) = true := by simp [h1]
    have HRk := Lib.hid (HR.out.trans (HSt.out 1 1))
    rw [← HQ.out, if_pos h1] at HRk
    replace h1 := Lib.hid h1
    go_wp2
    go_ret2
    exact ⟨by rw [HRk.out]; rfl, Hw1.out⟩

end Go.Proofs.YtnoehaphbpkpjaaGreat
