/- Contracts and lemmas for the statements of this seat, written for this claim; each theorem states its own conditions. -/
import Derived.Test.YtpcooplalncdcaaSbTr1
import Derived.Test.YtpcooplalncdcaaSbTq1
set_option linter.unusedVariables false
set_option linter.unusedSimpArgs false
namespace Go.Proofs.Ytpcooplalncdcaa
open Go.RowKit
def smCode (c : Int) (ts : List T4) (d : Int) (us : List T4) (h n : Int) : Int := if (isSetB c ts && isSetB d us) = true then max (ctCode 200 c ts h n) (ctCode 200 d us h n) else 1
def smV (c : Int) (ts : List T4) (d : Int) (us : List T4) (h n : Int) : Bool := if smCode c ts d us h n = 0 then eqII (twVal 200 c ts h n) (twVal 200 d us h n) else false
theorem ctCode_set {c : Int} {ts : List T4} (l : Nat) (h n : Int) (hs : isSetB c ts = true) : (((inR 1 3 h && inR 1 8 n) = false ∧ ctCode l c ts h n = 2) ∨ ((inR 1 3 h && inR 1 8 n) = true ∧ (ctCode l c ts h n = 0 ∨ ctCode l c ts h n = 3))) := by
  unfold ctCode tsCode
  rw [if_pos hs]
  cases hr : (inR 1 3 h && inR 1 8 n)
  · left; simp
  · right
    refine ⟨rfl, ?_⟩
    simp only [if_true]
    by_cases h7 : 700 < powC c h.toNat
    · right; rw [if_pos h7, if_neg (by decide)]
    · rw [if_neg h7, if_pos rfl]
      by_cases h8 : l < (trL c ts h n).length
      · right; rw [if_pos h8]
      · left; rw [if_neg h8]
theorem ctCode_bad {c : Int} {ts : List T4} (l : Nat) (h n : Int) (hs : isSetB c ts = false) : ctCode l c ts h n = 1 := by
  unfold ctCode tsCode
  simp [hs]
/-- the code as the reference finds it -/
theorem smCode_spec (c : Int) (ts : List T4) (d : Int) (us : List T4) (h n : Int) :
    smCode c ts d us h n = if ctCode 200 c ts h n = 1 ∨ ctCode 200 d us h n = 1 then 1 else if ctCode 200 c ts h n ≠ 0 then ctCode 200 c ts h n else if ctCode 200 d us h n ≠ 0 then ctCode 200 d us h n else 0 := by
  unfold smCode
  cases hs : isSetB c ts
  · rw [ctCode_bad 200 h n hs]; simp
  · cases hu : isSetB d us
    · rw [ctCode_bad 200 h n hu]; simp
    · rcases ctCode_set 200 h n hs with ⟨a1, a2⟩ | ⟨a1, a2⟩ <;> rcases ctCode_set 200 h n hu with ⟨b1, b2⟩ | ⟨b1, b2⟩
      · rw [a2, b2]; simp
      · rw [a1] at b1; cases b1
      · rw [a1] at b1; cases b1
      · rcases a2 with a2 | a2 <;> rcases b2 with b2 | b2 <;> rw [a2, b2] <;> first | (simp; done) | decide
/-- what the search for a stable height gives from a height on -/
def shF (code : Int → Int) (tw : Int → List (List Int)) : Nat → Int → Int × Int
  | 0, _ => (0, 4)
  | f + 1, h => if code h ≠ 0 then (0, code h) else if code (h + 1) ≠ 0 then (0, code (h + 1)) else if eqII (tw h) (tw (h + 1)) = true then (h, 0) else shF code tw f (h + 1)
def shR (c : Int) (ts : List T4) (n : Int) : Int × Int := shF (fun h => ctCode 200 c ts h n) (fun h => twVal 200 c ts h n) 2 1
set_option maxRecDepth 100000 in
set_option maxHeartbeats 1000000 in
theorem implStableHeight_c (c n : Int) (ts : List T4) (A : Option Addr) (cx : Nat) (w : World) (hT : TileCells w A ts) (hl : ts.length ≤ 1000000000) :
    Calls Try.prog 29 #[.agg #[.int .i64 c, .slice A ts.length cx], .int .i64 n] w fun e w' => e = .returned (.tuple #[.int .i64 (shR c ts n).1, .int .i64 (shR c ts n).2]) ∧ Below w.heap.size w w' := by
  have HT := Lib.hid (fun (h : Int) (wq : World) (hwq : Below w.heap.size w wq) => implTraceWords_c c ts A cx h n wq (hT.below hwq) hl)
  have HCmp := Lib.hid (fun (h : Int) A B cx cy w hx hy => compareRows_c (twVal 200 c ts h n) (twVal 200 c ts (h + 1) n) A B cx cy w hx hy (by have := (twVal_short c ts h n).1; omega) (by have := (twVal_short c ts (h + 1) n).1; omega) (twVal_short c ts h n).2.1 (twVal_short c ts (h + 1) n).2.1)
  have hst : ∀ f h, shF (fun h => ctCode 200 c ts h n) (fun h => twVal 200 c ts h n) (f + 1) h = if ctCode 200 c ts h n ≠ 0 then (0, ctCode 200 c ts h n) else if ctCode 200 c ts (h + 1) n ≠ 0 then (0, ctCode 200 c ts (h + 1) n) else if eqII (twVal 200 c ts h n) (twVal 200 c ts (h + 1) n) = true then (h, 0) else shF (fun h => ctCode 200 c ts h n) (fun h => twVal 200 c ts h n) f (h + 1) := fun _ _ => rfl
  have HSt := Lib.hid hst
  have HR : Hid (shR c ts n = shF (fun h => ctCode 200 c ts h n) (fun h => twVal 200 c ts h n) 2 1) := rfl
  clear hT hst
  generalize (fun h => ctCode 200 c ts h n) = cf at *
  generalize (fun h => twVal 200 c ts h n) = tf at *
  generalize shR c ts n = R at *
  go_enter Try.func29, Try.ntmps29
  go_wp2_with fail
  go_loopw [6] (fun iv wr => ∃ k : Nat, 1 ≤ k ∧ k ≤ 3 ∧ iv = .int .i64 k ∧ Hid (R = shF cf tf (3 - k) k) ∧ Hid (Below w.heap.size w wr) ∧ wr.cell? ⟨w.heap.size, 0, none⟩ = some (.int .i64 c) ∧ wr.cell? ⟨w.heap.size, 1, none⟩ = some (.slice A ts.length cx)) (fun i _ => 3 - (intOf i).toNat)
  case atStart => exact ⟨1, by omega, by omega, rfl, HR, Lib.hid (by (repeat (first | (with_reducible exact Below.refl _ _) | (with_reducible assumption) | (with_reducible refine below_al ?_) | (with_reducible refine below_dr ?_) | (with_reducible refine below_drN ?_) | (with_reducible refine below_set ?_ (by first | exact Nat.le_refl _ | (dsimp only; omega) | omega)) | (with_reducible refine below_tr (by with_reducible assumption) ?_)))), by simp, by simp⟩
  case round =>
    obtain ⟨k, hk1, hk3, rfl, HRk, HB, c0, c1⟩ := hrel
    obtain ⟨wj, rfl⟩ : ∃ wj, wj = wr := ⟨wr, rfl⟩
    have C0 := Lib.hid (keepC c0)
    have C1 := Lib.hid (keepC c1)
    by_cases hk : k ≤ 2
    · have hk' : (k : Int) ≤ 2 := by omega
      have HRk := Lib.hid (HRk.out.trans ((congrArg (fun m => shF cf tf m k) (show 3 - k = (2 - k) + 1 by omega)).trans (HSt.out (2 - k) k)))
      go_wp2_with fail
      refine (HT.out k _ HB.out).mono ?_
      rintro e w2 ⟨v2, rfl, hO2, hb2⟩
      obtain ⟨A2, k2, rfl, hR2⟩ := hO2.rows
      have HR2 := Lib.hid hR2
      have Hw2 := Lib.hid (HB.out.trans (hb2.mono HB.out.size))
      have c0 := C0.out _ hb2
      have c1 := C1.out _ hb2
      have Hb2 := Lib.hid hb2
      clear hO2 hR2 hb2
      have HCk := Lib.hid (HCmp.out k)
      generalize ctCode 200 c ts k n = p1 at *
      generalize twVal 200 c ts k n = t1 at *
      by_cases h1 : p1 = 0
      · subst h1
        rw [if_neg (by decide)] at HRk
        have hkw : IntKind.i64.wrap ((k : Int) + 1) = (k : Int) + 1 := IntWalk.i64_in _ (by omega)
        go_wp2_with fail
        refine (HT.out (k + 1) _ Hw2.out).mono ?_
        rintro e w3 ⟨v3, rfl, hO3, hb3⟩
        obtain ⟨A3, k3, rfl, hR3⟩ := hO3.rows
        have HCm := Lib.hid (HCk.out A2 A3 k2 k3 w3 (HR2.out.below hb3) hR3)
        have Hw3 := Lib.hid (Hw2.out.trans (hb3.mono Hw2.out.size))
        have c0 := C0.out _ (Hb2.out.trans (hb3.mono Hb2.out.size))
        have c1 := C1.out _ (Hb2.out.trans (hb3.mono Hb2.out.size))
        clear hO3 hR3 hb3 hkw
        generalize eqII t1 (twVal 200 c ts (k + 1) n) = q at *
        generalize ctCode 200 c ts (k + 1) n = p2 at *
        generalize twVal 200 c ts (k + 1) n = t2 at *
        by_cases h2 : p2 = 0
        · subst h2
          rw [if_neg (by decide)] at HRk
          go_wp2_with fail
          refine HCm.out.mono ?_
          rintro e w4 ⟨⟨r, rfl, hr⟩, rfl⟩
          have hr' : (r == 0) = q := by rw [← hr]; by_cases h : r = 0 <;> simp [h]
          clear hr
          cases q
          · rw [if_neg (by decide)] at HRk
            go_wp2
            go_roundw
            case rel => exact ⟨k + 1, by omega, by omega, by go_num, Lib.hid (by rw [HRk.out, show ((k : Int) + 1) = ((k + 1 : Nat) : Int) by omega, show 2 - k = 3 - (k + 1) by omega]), Hw3, c0, c1⟩
            case measure => simp [intOf]; omega
          · rw [if_pos (by decide)] at HRk
            go_wp2
            go_ret2
            exact ⟨by rw [HRk.out]; rfl, Hw3.out⟩
        · rw [if_pos h2] at HRk
          have h2' : (p2 != 0) = true := by simp [h2]
          replace h2 := Lib.hid h2
          go_wp2
          go_ret2
          exact ⟨by rw [HRk.out]; rfl, Hw3.out⟩
      · rw [if_pos h1] at HRk
        have h1' : (p1 != 0) = true := by simp [h1]
        replace h1 := Lib.hid h1
        go_wp2
        go_ret2
        exact ⟨by rw [HRk.out]; rfl, Hw2.out⟩
    · obtain rfl : k = 3 := by omega
      go_wp2
      go_ret2
      exact ⟨by rw [HRk.out]; rfl, HB.out⟩
set_option maxRecDepth 100000 in
set_option maxHeartbeats 1000000 in
theorem specStableHeight_c (c n : Int) (ts : List T4) (A : Option Addr) (cx : Nat) (w : World) (hT : TileCells w A ts) (hl : ts.length ≤ 1000000000) :
    Calls Try.prog 28 #[.agg #[.int .i64 c, .slice A ts.length cx], .int .i64 n] w fun e w' => e = .returned (.tuple #[.int .i64 (shR c ts n).1, .int .i64 (shR c ts n).2]) ∧ Below w.heap.size w w' := by
  have HT := Lib.hid (fun (h : Int) (wq : World) (hwq : Below w.heap.size w wq) => l10List_c c ts A cx h n wq (hT.below hwq) hl)
  have HCmp := Lib.hid (fun (h : Int) A B cx cy w hx hy => l10Same_c (twVal 200 c ts h n) (twVal 200 c ts (h + 1) n) A B cx cy w hx hy (by have := (twVal_short c ts h n).1; omega) (by have := (twVal_short c ts (h + 1) n).1; omega) (twVal_short c ts h n).2.1 (twVal_short c ts (h + 1) n).2.1)
  have hst : ∀ f h, shF (fun h => ctCode 200 c ts h n) (fun h => twVal 200 c ts h n) (f + 1) h = if ctCode 200 c ts h n ≠ 0 then (0, ctCode 200 c ts h n) else if ctCode 200 c ts (h + 1) n ≠ 0 then (0, ctCode 200 c ts (h + 1) n) else if eqII (twVal 200 c ts h n) (twVal 200 c ts (h + 1) n) = true then (h, 0) else shF (fun h => ctCode 200 c ts h n) (fun h => twVal 200 c ts h n) f (h + 1) := fun _ _ => rfl
  have HSt := Lib.hid hst
  have HR : Hid (shR c ts n = shF (fun h => ctCode 200 c ts h n) (fun h => twVal 200 c ts h n) 2 1) := rfl
  clear hT hst
  generalize (fun h => ctCode 200 c ts h n) = cf at *
  generalize (fun h => twVal 200 c ts h n) = tf at *
  generalize shR c ts n = R at *
  go_enter Try.func28, Try.ntmps28
  go_wp2_with fail
  refine (HT.out 1 _ (by (repeat (first | (with_reducible exact Below.refl _ _) | (with_reducible assumption) | (with_reducible refine below_al ?_) | (with_reducible refine below_dr ?_) | (with_reducible refine below_drN ?_) | (with_reducible refine below_set ?_ (by first | exact Nat.le_refl _ | (dsimp only; omega) | omega)) | (with_reducible refine below_tr (by with_reducible assumption) ?_))))).mono ?_
  rintro e w1 ⟨v1, rfl, hO1, hb1⟩
  obtain ⟨A1, k1, rfl, hR1⟩ := hO1.rows
  have HR1 := Lib.hid hR1
  have Hw1 : Hid (Below w.heap.size w w1) := by (show Below _ _ _); (repeat (first | (with_reducible exact Below.refl _ _) | (with_reducible assumption) | (with_reducible refine below_al ?_) | (with_reducible refine below_dr ?_) | (with_reducible refine below_drN ?_) | (with_reducible refine below_set ?_ (by first | exact Nat.le_refl _ | (dsimp only; omega) | omega)) | (with_reducible refine below_tr (by with_reducible assumption) ?_)))
  have c0 : w1.cell? ⟨w.heap.size, 0, none⟩ = some (.int .i64 c) := by rw [(bcell hb1).1 _ _ (by simp <;> omega)]; (repeat (first | (exact cell_al _ _ _ _ _ _ (by simp) rfl) | (refine cell_alloc_old _ _ _ _ _ ?_)))
  have c1 : w1.cell? ⟨w.heap.size, 1, none⟩ = some (.slice A ts.length cx) := by rw [(bcell hb1).1 _ _ (by simp <;> omega)]; (repeat (first | (exact cell_al _ _ _ _ _ _ (by simp) rfl) | (refine cell_alloc_old _ _ _ _ _ ?_)))
  clear hO1 hR1 hb1
  obtain ⟨L, hL⟩ : ∃ L, L = twVal 200 c ts 1 n := ⟨_, rfl⟩
  obtain ⟨q1, hq1⟩ : ∃ q, q = ctCode 200 c ts 1 n := ⟨_, rfl⟩
  rw [← hL] at HR1
  rw [← hL, ← hq1]
  have HL := Lib.hid hL
  have HQ := Lib.hid hq1
  clear hL hq1
  by_cases h1 : q1 = 0
  · subst h1
    go_wp2_with fail
    go_loopw [6, 8] (fun v iv wr => ∃ k : Nat, 1 ≤ k ∧ k ≤ 3 ∧ iv = .int .i64 k ∧ (∃ A' k', v = .slice A' (twVal 200 c ts k n).length k' ∧ Hid (RowsC wr A' (twVal 200 c ts k n))) ∧ Hid (k ≤ 2 → 0 = ctCode 200 c ts k n) ∧ Hid (R = shF cf tf (3 - k) k) ∧ Hid (Below w.heap.size w wr) ∧ wr.cell? ⟨w.heap.size, 0, none⟩ = some (.int .i64 c) ∧ wr.cell? ⟨w.heap.size, 1, none⟩ = some (.slice A ts.length cx)) (fun _ i _ => 3 - (intOf i).toNat)
    case atStart => exact ⟨1, by omega, by omega, rfl, ⟨A1, k1, by rw [HL.out]; rfl, Lib.hid (by have := HR1.out; rw [HL.out] at this; exact this)⟩, Lib.hid fun _ => HQ.out, HR, Hw1, c0, c1⟩
    case round =>
      clear c0 c1 HR1 HL HQ
      obtain ⟨k, hk1, hk3, rfl, ⟨A2, k2, rfl, HR2⟩, HQk, HRk, HB, c0, c1⟩ := hrel
      obtain ⟨wj, rfl⟩ : ∃ wj, wj = wr := ⟨wr, rfl⟩
      have C0 := Lib.hid (keepC c0)
      have C1 := Lib.hid (keepC c1)
      by_cases hk : k ≤ 2
      · have hk' : (k : Int) ≤ 2 := by omega
        have HRk := Lib.hid (HRk.out.trans ((congrArg (fun m => shF cf tf m k) (show 3 - k = (2 - k) + 1 by omega)).trans (HSt.out (2 - k) k)))
        rw [← HQk.out hk, if_neg (by decide)] at HRk
        have HCk := Lib.hid (HCmp.out k)
        have hkw : IntKind.i64.wrap ((k : Int) + 1) = (k : Int) + 1 := IntWalk.i64_in _ (by omega)
        generalize twVal 200 c ts k n = t1 at *
        go_wp2_with fail
        refine (HT.out (k + 1) _ HB.out).mono ?_
        rintro e w3 ⟨v3, rfl, hO3, hb3⟩
        obtain ⟨A3, k3, rfl, hR3⟩ := hO3.rows
        have HR3 := Lib.hid hR3
        have HCm := Lib.hid (HCk.out A2 A3 k2 k3 w3 (HR2.out.below hb3) hR3)
        have Hw3 := Lib.hid (HB.out.trans (hb3.mono HB.out.size))
        have c0 := C0.out _ hb3
        have c1 := C1.out _ hb3
        have Hb3 := Lib.hid hb3
        clear hO3 hR3 hb3 hkw
        obtain ⟨t2, ht2⟩ : ∃ t2, t2 = twVal 200 c ts (k + 1) n := ⟨_, rfl⟩
        obtain ⟨p2, hp2⟩ : ∃ p2, p2 = ctCode 200 c ts (k + 1) n := ⟨_, rfl⟩
        rw [← ht2] at HR3 HCm HRk
        rw [← hp2] at HRk
        rw [← ht2, ← hp2]
        have HT2 := Lib.hid ht2
        have HP2 := Lib.hid hp2
        clear ht2 hp2
        generalize eqII t1 t2 = q at *
        by_cases h2 : p2 = 0
        · subst h2
          rw [if_neg (by decide)] at HRk
          go_wp2_with fail
          refine HCm.out.mono ?_
          rintro e w4 ⟨rfl, hb4⟩
          have HB4 := Lib.hid hb4
          have Hw4 := Lib.hid (Hw3.out.trans (hb4.mono Hw3.out.size))
          clear hb4
          cases q
          · rw [if_neg (by decide)] at HRk
            clear c0 c1
            go_wp2
            go_roundw
            case rel => exact ⟨k + 1, by omega, by omega, by go_num, ⟨A3, k3, by rw [HT2.out]; rfl, Lib.hid (by have := HR3.out.below HB4.out; rw [HT2.out] at this; exact this)⟩, Lib.hid fun _ => HP2.out, Lib.hid (by rw [HRk.out, show ((k : Int) + 1) = ((k + 1 : Nat) : Int) by omega, show 2 - k = 3 - (k + 1) by omega]), Hw4, C0.out _ (Hb3.out.trans (HB4.out.mono Hb3.out.size)), C1.out _ (Hb3.out.trans (HB4.out.mono Hb3.out.size))⟩
            case measure => simp [intOf]; omega
          · rw [if_pos (by decide)] at HRk
            clear c0 c1
            go_wp2
            go_ret2
            exact ⟨by rw [HRk.out]; rfl, Hw4.out⟩
        · rw [if_pos h2] at HRk
          have h2' : (p2 != 0) = true := by simp [h2]
          replace h2 := Lib.hid h2
          go_wp2
          go_ret2
          exact ⟨by rw [HRk.out]; rfl, Hw3.out⟩
      · obtain rfl : k = 3 := by omega
        go_wp2
        go_ret2
        exact ⟨by rw [HRk.out]; rfl, HB.out⟩
  · have h1' : (q1 != 0) = true := by simp [h1]
    have HRk := Lib.hid (HR.out.trans (HSt.out 1 1))
    rw [← HQ.out, if_pos h1] at HRk
    replace h1 := Lib.hid h1
    go_wp2
    go_ret2
    exact ⟨by rw [HRk.out]; rfl, Hw1.out⟩

end Go.Proofs.Ytpcooplalncdcaa
