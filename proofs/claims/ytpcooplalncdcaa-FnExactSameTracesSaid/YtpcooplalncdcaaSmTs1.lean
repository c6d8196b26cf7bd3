/- Contracts and lemmas for the statements of this seat, written for this claim; each theorem states its own conditions. -/
import Derived.Test.YtpcooplalncdcaaSmTr1
import Derived.Test.YtpcooplalncdcaaSmTq1
set_option linter.unusedVariables false
set_option linter.unusedSimpArgs false
namespace Go.Proofs.Ytpcooplalncdcaa
open Go.RowKit
def smCode (c : Int) (ts : List T4) (d : Int) (us : List T4) (h n : Int) : Int := if (isSetB c ts && isSetB d us) = true then max (ctCode 200 c ts h n) (ctCode 200 d us h n) else 1
def smV (c : Int) (ts : List T4) (d : Int) (us : List T4) (h n : Int) : Bool := if smCode c ts d us h n = 0 then eqII (twVal 200 c ts h n) (twVal 200 d us h n) else false
theorem ctCode_set {c : Int} {ts : List T4} (l : Nat) (h n : Int) (hs : isSetB c ts = true) : (((inR 1 3 h && inR 1 8 n) = false ∧ ctCode l c ts h n = 2) ∨ ((inR 1 3 h && inR 1 8 n) = true ∧ (ctCode l c ts h n = 0 ∨ ctCode l c ts h n = 3))) := by
  unfold ctCode tsCode
  rw [if_pos hs]
  cases hr : (inR 1 3 h && inR 1 8 n)
  · left; simp
  · right
    refine ⟨rfl, ?_⟩
    simp only [if_true]
    by_cases h7 : 700 < powC c h.toNat
    · right; rw [if_pos h7, if_neg (by decide)]
    · rw [if_neg h7, if_pos rfl]
      by_cases h8 : l < (trL c ts h n).length
      · right; rw [if_pos h8]
      · left; rw [if_neg h8]
theorem ctCode_bad {c : Int} {ts : List T4} (l : Nat) (h n : Int) (hs : isSetB c ts = false) : ctCode l c ts h n = 1 := by
  unfold ctCode tsCode
  simp [hs]
/-- the code as the reference finds it -/
theorem smCode_spec (c : Int) (ts : List T4) (d : Int) (us : List T4) (h n : Int) :
    smCode c ts d us h n = if ctCode 200 c ts h n = 1 ∨ ctCode 200 d us h n = 1 then 1 else if ctCode 200 c ts h n ≠ 0 then ctCode 200 c ts h n else if ctCode 200 d us h n ≠ 0 then ctCode 200 d us h n else 0 := by
  unfold smCode
  cases hs : isSetB c ts
  · rw [ctCode_bad 200 h n hs]; simp
  · cases hu : isSetB d us
    · rw [ctCode_bad 200 h n hu]; simp
    · rcases ctCode_set 200 h n hs with ⟨a1, a2⟩ | ⟨a1, a2⟩ <;> rcases ctCode_set 200 h n hu with ⟨b1, b2⟩ | ⟨b1, b2⟩
      · rw [a2, b2]; simp
      · rw [a1] at b1; cases b1
      · rw [a1] at b1; cases b1
      · rcases a2 with a2 | a2 <;> rcases b2 with b2 | b2 <;> rw [a2, b2] <;> first | (simp; done) | decide
/-- what the search for a stable height gives from a height on -/
def shF (code : Int → Int) (tw : Int → List (List Int)) : Nat → Int → Int × Int
  | 0, _ => (0, 4)
  | f + 1, h => if code h ≠ 0 then (0, code h) else if code (h + 1) ≠ 0 then (0, code (h + 1)) else if eqII (tw h) (tw (h + 1)) = true then (h, 0) else shF code tw f (h + 1)
def shR (c : Int) (ts : List T4) (n : Int) : Int × Int := shF (fun h => ctCode 200 c ts h n) (fun h => twVal 200 c ts h n) 2 1
set_option maxRecDepth 100000 in
set_option maxHeartbeats 1000000 in
theorem implSameTraces_c (c d h n : Int) (ts us : List T4) (A B : Option Addr) (cx cy : Nat) (w : World) (hT : TileCells w A ts) (hU : TileCells w B us) (hl : ts.length ≤ 1000000000) (hu : us.length ≤ 1000000000) :
    Calls Try.prog 27 #[.agg #[.int .i64 c, .slice A ts.length cx], .agg #[.int .i64 d, .slice B us.length cy], .int .i64 h, .int .i64 n] w fun e w' => e = .returned (.tuple #[.bool (smV c ts d us h n), .int .i64 (smCode c ts d us h n)]) ∧ Below w.heap.size w w' := by
  have X1 := Lib.hid hT
  have Y1 := Lib.hid hU
  have HT := Lib.hid (fun (wq : World) (hwq : Below w.heap.size w wq) => implTraceWords_c c ts A cx h n wq (hT.below hwq) hl)
  have HU := Lib.hid (fun (wq : World) (hwq : Below w.heap.size w wq) => implTraceWords_c d us B cy h n wq (hU.below hwq) hu)
  obtain ⟨l1, s1, _⟩ := twVal_short c ts h n
  obtain ⟨l2, s2, _⟩ := twVal_short d us h n
  have HCmp := Lib.hid (fun A B cx cy w hx hy => compareRows_c (twVal 200 c ts h n) (twVal 200 d us h n) A B cx cy w hx hy (by omega) (by omega) s1 s2)
  have hc : smCode c ts d us h n = if (isSetB c ts && isSetB d us) = true then max (ctCode 200 c ts h n) (ctCode 200 d us h n) else 1 := rfl
  have hv : smV c ts d us h n = if smCode c ts d us h n = 0 then eqII (twVal 200 c ts h n) (twVal 200 d us h n) else false := rfl
  have hr : ([⟨c, ts, A, cx⟩, ⟨d, us, B, cy⟩] : List SD).all (fun s => isSetB s.c s.ts) = (isSetB c ts && isSetB d us) := by simp
  have Hr := Lib.hid hr
  have HV := Lib.hid hv
  have HC := Lib.hid hc
  clear hr hT hU l1 s1 l2 s2 hc hv
  generalize hS : (isSetB c ts && isSetB d us) = S at *
  clear hS
  go_enter Try.func27, Try.ntmps27
  go_wp2_with fail
  refine (areSets_c [⟨c, ts, A, cx⟩, ⟨d, us, B, cy⟩] _ 2 _ (setsCells2 (by simp) ?_ ?_ ?_ ?_) (by simp) ?_).mono ?_
  · (repeat (first | (exact cell_al _ _ _ _ _ _ (by simp) rfl) | (refine cell_alloc_old _ _ _ _ _ ?_)))
  · (repeat (first | (exact cell_al _ _ _ _ _ _ (by simp) rfl) | (refine cell_alloc_old _ _ _ _ _ ?_)))
  · (repeat (first | (exact cell_al _ _ _ _ _ _ (by simp) rfl) | (refine cell_alloc_old _ _ _ _ _ ?_)))
  · (repeat (first | (exact cell_al _ _ _ _ _ _ (by simp) rfl) | (refine cell_alloc_old _ _ _ _ _ ?_)))
  · intro s hs
    simp only [List.mem_cons, List.not_mem_nil, or_false] at hs
    rcases hs with rfl | rfl
    · exact ⟨X1.out.below (by (repeat (first | (with_reducible exact Below.refl _ _) | (with_reducible assumption) | (with_reducible refine below_al ?_) | (with_reducible refine below_dr ?_) | (with_reducible refine below_drN ?_) | (with_reducible refine below_set ?_ (by first | exact Nat.le_refl _ | (dsimp only; omega) | omega)) | (with_reducible refine below_tr (by with_reducible assumption) ?_)))), hl⟩
    · exact ⟨Y1.out.below (by (repeat (first | (with_reducible exact Below.refl _ _) | (with_reducible assumption) | (with_reducible refine below_al ?_) | (with_reducible refine below_dr ?_) | (with_reducible refine below_drN ?_) | (with_reducible refine below_set ?_ (by first | exact Nat.le_refl _ | (dsimp only; omega) | omega)) | (with_reducible refine below_tr (by with_reducible assumption) ?_)))), hu⟩
  rintro e w1 ⟨rfl, hb1⟩
  rw [Hr.out]
  have Hw1 : Hid (Below w.heap.size w w1) := by (show Below _ _ _); (repeat (first | (with_reducible exact Below.refl _ _) | (with_reducible assumption) | (with_reducible refine below_al ?_) | (with_reducible refine below_dr ?_) | (with_reducible refine below_drN ?_) | (with_reducible refine below_set ?_ (by first | exact Nat.le_refl _ | (dsimp only; omega) | omega)) | (with_reducible refine below_tr (by with_reducible assumption) ?_)))
  have d0 : w1.cell? ⟨w.heap.size, 0, none⟩ = some (.int .i64 c) := by rw [(bcell hb1).1 _ _ (by simp <;> omega)]; exact cell_alloc_old _ _ _ _ _ (cell_alloc_old _ _ _ _ _ (cell_alloc_at _ _ _ _ _ rfl))
  have d1 : w1.cell? ⟨w.heap.size, 1, none⟩ = some (.slice A ts.length cx) := by rw [(bcell hb1).1 _ _ (by simp <;> omega)]; exact cell_alloc_old _ _ _ _ _ (cell_alloc_old _ _ _ _ _ (cell_alloc_at _ _ _ _ _ rfl))
  have d2 : w1.cell? ⟨w.heap.size + 1, 0, none⟩ = some (.int .i64 d) := by rw [(bcell hb1).1 _ _ (by simp <;> omega)]; (repeat (first | (exact cell_al _ _ _ _ _ _ (by simp) rfl) | (refine cell_alloc_old _ _ _ _ _ ?_)))
  have d3 : w1.cell? ⟨w.heap.size + 1, 1, none⟩ = some (.slice B us.length cy) := by rw [(bcell hb1).1 _ _ (by simp <;> omega)]; (repeat (first | (exact cell_al _ _ _ _ _ _ (by simp) rfl) | (refine cell_alloc_old _ _ _ _ _ ?_)))
  have hN : w.heap.size + 1 < w1.heap.size := by have := hb1.size; simp at this; omega
  have D2 := Lib.hid (keepC d2)
  have D3 := Lib.hid (keepC d3)
  clear hb1 d2 d3
  cases S
  · go_wp2
    go_ret2
    exact ⟨by rw [HV.out, HC.out]; rfl, Hw1.out⟩
  · go_wp2_with fail
    refine (HT.out _ Hw1.out).mono ?_
    rintro e w2 ⟨v2, rfl, hO2, hb2⟩
    obtain ⟨A2, k2, rfl, hR2⟩ := hO2.rows
    have HR2 := Lib.hid hR2
    have Hw2 := Lib.hid (Hw1.out.trans (hb2.mono Hw1.out.size))
    have d2 := D2.out _ hb2
    have d3 := D3.out _ hb2
    have hN2 : w.heap.size + 1 < w2.heap.size := Nat.lt_of_lt_of_le hN hb2.size
    clear hO2 hR2 hb2 d0 d1
    go_wp2_with fail
    refine (HU.out _ Hw2.out).mono ?_
    rintro e w3 ⟨v3, rfl, hO3, hb3⟩
    obtain ⟨A3, k3, rfl, hR3⟩ := hO3.rows
    have HCm := Lib.hid (HCmp.out A2 A3 k2 k3 w3 (HR2.out.below hb3) hR3)
    have Hw3 := Lib.hid (Hw2.out.trans (hb3.mono Hw2.out.size))
    clear hO3 hR3 hb3 d2 d3
    rw [if_pos (by trivial)] at HC
    generalize eqII (twVal 200 c ts h n) (twVal 200 d us h n) = q at *
    generalize ctCode 200 c ts h n = p1 at *
    generalize ctCode 200 d us h n = p2 at *
    generalize twVal 200 c ts h n = t1 at *
    generalize twVal 200 d us h n = t2 at *
    by_cases hlt : p1 < p2
    · have hm : max p1 p2 = p2 := by omega
      rw [hm] at HC
      clear hm
      by_cases h0 : p2 = 0
      · subst h0
        have HV2 := Lib.hid (HV.out.trans (by rw [HC.out, if_pos rfl] : _ = q))
        have HC2 := Lib.hid HC.out
        clear HV HC
        go_wp2_with fail
        refine HCm.out.mono ?_
        rintro e w4 ⟨⟨r, rfl, hr⟩, rfl⟩
        have Hr2 := Lib.hid hr
        have hr' : (r == 0) = decide (r = 0) := by by_cases h : r = 0 <;> simp [h]
        clear hr
        go_wp2
        go_ret2
        refine ⟨?_, Hw3.out⟩
        rw [HV2.out, HC2.out, ← Hr2.out]
        first | rfl | (rw [← hr']; rfl)
      · have h0' : (p2 != 0) = true := by simp [h0]
        have HV2 := Lib.hid (HV.out.trans (by rw [HC.out, if_neg h0] : _ = false))
        have HC2 := Lib.hid HC.out
        replace h0 := Lib.hid h0
        clear HV HC
        go_wp2
        go_ret2
        refine ⟨?_, Hw3.out⟩
        rw [HV2.out, HC2.out]
        rfl
    · have hm : max p1 p2 = p1 := by omega
      rw [hm] at HC
      clear hm
      by_cases h0 : p1 = 0
      · subst h0
        have HV2 := Lib.hid (HV.out.trans (by rw [HC.out, if_pos rfl] : _ = q))
        have HC2 := Lib.hid HC.out
        clear HV HC
        go_wp2_with fail
        refine HCm.out.mono ?_
        rintro e w4 ⟨⟨r, rfl, hr⟩, rfl⟩
        have Hr2 := Lib.hid hr
        have hr' : (r == 0) = decide (r = 0) := by by_cases h : r = 0 <;> simp [h]
        clear hr
        go_wp2
        go_ret2
        refine ⟨?_, Hw3.out⟩
        rw [HV2.out, HC2.out, ← Hr2.out]
        first | rfl | (rw [← hr']; rfl)
      · have h0' : (p1 != 0) = true := by simp [h0]
        have HV2 := Lib.hid (HV.out.trans (by rw [HC.out, if_neg h0] : _ = false))
        have HC2 := Lib.hid HC.out
        replace h0 := Lib.hid h0
        clear HV HC
        go_wp2
        go_ret2
        refine ⟨?_, Hw3.out⟩
        rw [HV2.out, HC2.out]
        rfl
set_option maxRecDepth 100000 in
set_option maxHeartbeats 1000000 in
theorem specSameTraces_c (c d h n : Int) (ts us : List T4) (A B : Option Addr) (cx cy : Nat) (w : World) (hT : TileCells w A ts) (hU : TileCells w B us) (hl : ts.length ≤ 1000000000) (hu : us.length ≤ 1000000000) :
    Calls Try.prog 26 #[.agg #[.int .i64 c, .slice A ts.length cx], .agg #[.int .i64 d, .slice B us.length cy], .int .i64 h, .int .i64 n] w fun e w' => e = .returned (.tuple #[.bool (smV c ts d us h n), .int .i64 (smCode c ts d us h n)]) ∧ Below w.heap.size w w' := by
  have HT := Lib.hid (fun (wq : World) (hwq : Below w.heap.size w wq) => l10List_c c ts A cx h n wq (hT.below hwq) hl)
  have HU := Lib.hid (fun (wq : World) (hwq : Below w.heap.size w wq) => l10List_c d us B cy h n wq (hU.below hwq) hu)
  obtain ⟨l1, s1, _⟩ := twVal_short c ts h n
  obtain ⟨l2, s2, _⟩ := twVal_short d us h n
  have HCmp := Lib.hid (fun A B cx cy w hx hy => l10Same_c (twVal 200 c ts h n) (twVal 200 d us h n) A B cx cy w hx hy (by omega) (by omega) s1 s2)
  have hc := smCode_spec c ts d us h n
  have hv : smV c ts d us h n = if smCode c ts d us h n = 0 then eqII (twVal 200 c ts h n) (twVal 200 d us h n) else false := rfl
  have HV := Lib.hid hv
  have HC := Lib.hid hc
  clear hT hU l1 s1 l2 s2 hc hv
  go_enter Try.func26, Try.ntmps26
  go_wp2_with fail
  refine (HT.out _ (by (repeat (first | (with_reducible exact Below.refl _ _) | (with_reducible assumption) | (with_reducible refine below_al ?_) | (with_reducible refine below_dr ?_) | (with_reducible refine below_drN ?_) | (with_reducible refine below_set ?_ (by first | exact Nat.le_refl _ | (dsimp only; omega) | omega)) | (with_reducible refine below_tr (by with_reducible assumption) ?_))))).mono ?_
  rintro e w2 ⟨v2, rfl, hO2, hb2⟩
  obtain ⟨A2, k2, rfl, hR2⟩ := hO2.rows
  have HR2 := Lib.hid hR2
  have Hw2 : Hid (Below w.heap.size w w2) := by (show Below _ _ _); (repeat (first | (with_reducible exact Below.refl _ _) | (with_reducible assumption) | (with_reducible refine below_al ?_) | (with_reducible refine below_dr ?_) | (with_reducible refine below_drN ?_) | (with_reducible refine below_set ?_ (by first | exact Nat.le_refl _ | (dsimp only; omega) | omega)) | (with_reducible refine below_tr (by with_reducible assumption) ?_)))
  have d2 : w2.cell? ⟨w.heap.size + 1, 0, none⟩ = some (.int .i64 d) := by rw [(bcell hb2).1 _ _ (by simp <;> omega)]; simp
  have d3 : w2.cell? ⟨w.heap.size + 1, 1, none⟩ = some (.slice B us.length cy) := by rw [(bcell hb2).1 _ _ (by simp <;> omega)]; simp
  have hN2 : w.heap.size + 1 < w2.heap.size := by have := hb2.size; simp at this; omega
  clear hO2 hR2 hb2
  go_wp2_with fail
  refine (HU.out _ Hw2.out).mono ?_
  rintro e w3 ⟨v3, rfl, hO3, hb3⟩
  obtain ⟨A3, k3, rfl, hR3⟩ := hO3.rows
  have HCm := Lib.hid (HCmp.out A2 A3 k2 k3 w3 (HR2.out.below hb3) hR3)
  have Hw3 := Lib.hid (Hw2.out.trans (hb3.mono Hw2.out.size))
  clear hO3 hR3 hb3 d2 d3
  generalize eqII (twVal 200 c ts h n) (twVal 200 d us h n) = q at *
  generalize ctCode 200 c ts h n = p1 at *
  generalize ctCode 200 d us h n = p2 at *
  generalize twVal 200 c ts h n = t1 at *
  generalize twVal 200 d us h n = t2 at *
  by_cases h1 : p1 = 1
  · subst h1
    have HC2 := Lib.hid (HC.out.trans (if_pos (.inl rfl)))
    have HV2 := Lib.hid (HV.out.trans (by rw [HC2.out, if_neg (by decide)] : _ = false))
    clear HV HC
    go_wp2
    go_ret2
    refine ⟨?_, Hw3.out⟩
    rw [HV2.out, HC2.out]
    rfl
  by_cases h2 : p2 = 1
  · subst h2
    have HC2 := Lib.hid (HC.out.trans (if_pos (.inr rfl)))
    have HV2 := Lib.hid (HV.out.trans (by rw [HC2.out, if_neg (by decide)] : _ = false))
    have e1 : (p1 == 1) = false := by simp [h1]
    replace h1 := Lib.hid h1
    clear HV HC
    go_wp2
    go_ret2
    refine ⟨?_, Hw3.out⟩
    rw [HV2.out, HC2.out]
    rfl
  have e1 : (p1 == 1) = false := by simp [h1]
  have e2 : (p2 == 1) = false := by simp [h2]
  have HC := Lib.hid (HC.out.trans (if_neg (by omega)))
  replace h1 := Lib.hid h1
  replace h2 := Lib.hid h2
  by_cases h3 : p1 = 0
  · subst h3
    have HC := Lib.hid (HC.out.trans (if_neg (by decide)))
    by_cases h4 : p2 = 0
    · subst h4
      have HC2 := Lib.hid (HC.out.trans (if_neg (by decide)))
      have HV2 := Lib.hid (HV.out.trans (by rw [HC2.out, if_pos rfl] : _ = q))
      clear HV HC
      go_wp2_with fail
      refine HCm.out.mono ?_
      rintro e w4 ⟨rfl, hb4⟩
      have Hw4 := Lib.hid (Hw3.out.trans (hb4.mono Hw3.out.size))
      clear hb4
      go_wp2
      go_ret2
      refine ⟨?_, Hw4.out⟩
      rw [HV2.out, HC2.out]
      rfl
    · have HC2 := Lib.hid (HC.out.trans (if_pos h4))
      have HV2 := Lib.hid (HV.out.trans (by rw [HC2.out, if_neg h4] : _ = false))
      have e4 : (p2 != 0) = true := by simp [h4]
      replace h4 := Lib.hid h4
      clear HV HC
      go_wp2
      go_ret2
      refine ⟨?_, Hw3.out⟩
      rw [HV2.out, HC2.out]
      rfl
  · have HC2 := Lib.hid (HC.out.trans (if_pos h3))
    have HV2 := Lib.hid (HV.out.trans (by rw [HC2.out, if_neg h3] : _ = false))
    have e3 : (p1 != 0) = true := by simp [h3]
    replace h3 := Lib.hid h3
    clear HV HC
    go_wp2
    go_ret2
    refine ⟨?_, Hw3.out⟩
    rw [HV2.out, HC2.out]
    rfl
end Go.Proofs.Ytpcooplalncdcaa
