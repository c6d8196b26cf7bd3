/- Contracts and lemmas for the statements of this seat, written for this claim; each theorem states its own conditions. -/
import Derived.Deep.Cut
import Derived.Test.YtkgnejhflnekaaaGreatMuBs
import Derived.Test.YtkgnejhflnekaaaGreatMuRw
import Derived.Test.YtkgnejhflnekaaaGreatMuI5
import Derived.Test.YtkgnejhflnekaaaGreatMuK3
import Derived.Test.YtkgnejhflnekaaaGreatMuCp
import Derived.Test.YtkgnejhflnekaaaGreatMuMk
import Derived.Test.YtkgnejhflnekaaaGreatMuTg
import Derived.Test.YtkgnejhflnekaaaGreatMuB
import Derived.Test.YtkgnejhflnekaaaGreatMuZ2
import Derived.Test.YtkgnejhflnekaaaGreatMuSr
import Derived.Test.YtkgnejhflnekaaaGreatMuBr
set_option linter.unusedVariables false
set_option linter.unusedSimpArgs false
namespace Go.Proofs.YtkgnejhflnekaaaGreat
open Go.RowKit
set_option maxRecDepth 100000 in
set_option maxHeartbeats 1000000 in
theorem north_c (c : Int) (ts : List T4) (A : Option Addr) (cx : Nat) (row : List Int) (B : Option Addr) (cr : Nat) (w : World) (hT : TileCells w A ts) (hR : Cells w B (ints row)) (hl : ts.length ≤ 1000000) (hr : InRow ts row) (hn : row.length ≤ 1000000) :
    Calls Tryz.prog 145 #[.agg #[.int .i64 c, .slice A ts.length cx], .slice B row.length cr, .int .i64 1] w fun e w' => ∃ v, e = .returned v ∧ OwnI w' w.heap.size v (norths ts row) ∧ Below w.heap.size w w' := by
  have HT := Lib.hid (fun W (h : Below w.heap.size w W) => hT.below h)
  have HR := Lib.hid (fun W (h : Below w.heap.size w W) => hR.below h)
  have HI := Lib.hid hr
  clear hT hR hr
  go_enter Tryz.func145, Tryz.ntmps145
  go_upto_region 1 with (fail)
  obtain ⟨wb, hwb⟩ : ∃ wb, wb = w.alloc (.cells #[.int .i64 c, .slice A ts.length cx] 26) := ⟨_, rfl⟩
  have HX : Hid (Blk wb w.heap.size [.int .i64 c, .slice A ts.length cx] 26) := by rw [hwb]; exact Blk.newA _ _ _
  have HW : Hid (Below w.heap.size w wb) := by rw [hwb]; exact below_al (Below.refl _ _)
  have HZ : Hid (wb.heap.size = w.heap.size + 1) := by rw [hwb]; simp [Hid]
  rw [← hwb]
  clear hwb
  go_upto_region 2 with (fail)
  have HV : Hid (OwnI (wb.alloc (.cells #[] 2)) wb.heap.size (.slice (some ⟨wb.heap.size, 0, none⟩) 0 0) []) := OwnI.emptyAt rfl (Nat.le_refl _)
  have HB : Hid (Below wb.heap.size wb (wb.alloc (.cells #[] 2))) := below_al (Below.refl _ _)
  go_wp2_with fail
  go_loopw [7, 13] (fun v i wr => ∃ k : Nat, k ≤ row.length ∧ i = .int .i64 (k : Nat) ∧ Hid (OwnI wr wb.heap.size v (norths ts (row.take k))) ∧ Hid (Below wb.heap.size wb wr)) (fun _ i _ => row.length - (intOf i).toNat)
  case atStart => exact ⟨0, by omega, rfl, by show OwnI _ _ _ _; simpa [norths] using HV.out, HB.out⟩
  case round =>
    clear HV HB
    obtain ⟨k, hk, rfl, HV, HB⟩ := hrel
    have HBw : Hid (Below w.heap.size w wr) := HW.out.trans (HB.out.mono HW.out.size)
    obtain ⟨Av, cv, rfl, -, -⟩ := HV.out.shape
    have hvl : (norths ts (row.take k)).length = k := by simp [norths]; omega
    have HVl := Lib.hid hvl
    by_cases h1 : k < row.length
    · obtain ⟨m0, m1⟩ := HI.out k h1
      obtain ⟨m, hm⟩ := Int.eq_ofNat_of_zero_le m0
      have hml : m < ts.length := by omega
      obtain ⟨b5, o5, rfl, _, x0⟩ := (HR.out _ HBw.out).int k h1
      rw [hm] at x0
      obtain ⟨b9, o9, rfl, _, t0, t1, t2, t3⟩ := (HT.out _ HBw.out) m hml
      have HS := Lib.hid (norths_succ h1 hm hml)
      have d1 := (HX.out.below HB.out HX.out.lt).cell 1 (by simp)
      simp only [List.getElem_cons_zero, List.getElem_cons_succ] at d1
      have HL2 : Hid ((norths ts (row.take k)).length ≤ 1000000) := by show _ ≤ _; omega
      clear hm m0 m1 hvl
      generalize ts[m] = t at *
      generalize norths ts (row.take k) = L at *
      go_wp2_with (at_builtin; refine Hold.of ?_)
      refine Hold.to ?_
      clear d1 x0 t0 t1 t2 t3
      refine wpl_app_int rfl (.tmp 17) (.tmp 25) rfl wb.heap.size _ L t.b rfl (HV.out.alloc _) wr.heap.size 0 rfl (cell_alloc_at _ _ _ _ _ rfl) (by have := HL2.out; omega) (by have := HB.out.size; simp; omega) (fun v' w' a1 a2 a3 => ?_)
      rw [← HS.out] at a1
      have HV2 := Lib.hid a1
      have HB2 : Hid (Below wb.heap.size wb w') := Below.grown (below_al HB.out) a2 (by have := HB.out.size; simp; omega) (fun q hq => (World.ownsRow.lt HV.out q hq).1)
      clear a1 a2 a3
      go_wp2_with fail
      go_roundw
      case rel => exact ⟨k + 1, by omega, by go_num, HV2, HB2⟩
      case measure => simp [intOf]; omega
    · obtain rfl : k = row.length := by omega
      rw [List.take_length] at HV HVl
      go_wp2_with fail
      go_ret
      refine ⟨_, rfl, ?_, HBw.out⟩
      rw [List.take_length]
      exact HV.out.weaken (by have := HZ.out; omega)
set_option maxRecDepth 100000 in
set_option maxHeartbeats 1000000 in
theorem south_c (c : Int) (ts : List T4) (A : Option Addr) (cx : Nat) (row : List Int) (B : Option Addr) (cr : Nat) (w : World) (hT : TileCells w A ts) (hR : Cells w B (ints row)) (hl : ts.length ≤ 1000000) (hr : InRow ts row) (hn : row.length ≤ 1000000) :
    Calls Tryz.prog 145 #[.agg #[.int .i64 c, .slice A ts.length cx], .slice B row.length cr, .int .i64 3] w fun e w' => ∃ v, e = .returned v ∧ OwnI w' w.heap.size v (souths ts row) ∧ Below w.heap.size w w' := by
  have HT := Lib.hid (fun W (h : Below w.heap.size w W) => hT.below h)
  have HR := Lib.hid (fun W (h : Below w.heap.size w W) => hR.below h)
  have HI := Lib.hid hr
  clear hT hR hr
  go_enter Tryz.func145, Tryz.ntmps145
  go_upto_region 1 with (fail)
  obtain ⟨wb, hwb⟩ : ∃ wb, wb = w.alloc (.cells #[.int .i64 c, .slice A ts.length cx] 26) := ⟨_, rfl⟩
  have HX : Hid (Blk wb w.heap.size [.int .i64 c, .slice A ts.length cx] 26) := by rw [hwb]; exact Blk.newA _ _ _
  have HW : Hid (Below w.heap.size w wb) := by rw [hwb]; exact below_al (Below.refl _ _)
  have HZ : Hid (wb.heap.size = w.heap.size + 1) := by rw [hwb]; simp [Hid]
  rw [← hwb]
  clear hwb
  go_upto_region 2 with (fail)
  have HV : Hid (OwnI (wb.alloc (.cells #[] 2)) wb.heap.size (.slice (some ⟨wb.heap.size, 0, none⟩) 0 0) []) := OwnI.emptyAt rfl (Nat.le_refl _)
  have HB : Hid (Below wb.heap.size wb (wb.alloc (.cells #[] 2))) := below_al (Below.refl _ _)
  go_wp2_with fail
  go_loopw [7, 13] (fun v i wr => ∃ k : Nat, k ≤ row.length ∧ i = .int .i64 (k : Nat) ∧ Hid (OwnI wr wb.heap.size v (souths ts (row.take k))) ∧ Hid (Below wb.heap.size wb wr)) (fun _ i _ => row.length - (intOf i).toNat)
  case atStart => exact ⟨0, by omega, rfl, by show OwnI _ _ _ _; simpa [souths] using HV.out, HB.out⟩
  case round =>
    clear HV HB
    obtain ⟨k, hk, rfl, HV, HB⟩ := hrel
    have HBw : Hid (Below w.heap.size w wr) := HW.out.trans (HB.out.mono HW.out.size)
    obtain ⟨Av, cv, rfl, -, -⟩ := HV.out.shape
    have hvl : (souths ts (row.take k)).length = k := by simp [souths]; omega
    have HVl := Lib.hid hvl
    by_cases h1 : k < row.length
    · obtain ⟨m0, m1⟩ := HI.out k h1
      obtain ⟨m, hm⟩ := Int.eq_ofNat_of_zero_le m0
      have hml : m < ts.length := by omega
      obtain ⟨b5, o5, rfl, _, x0⟩ := (HR.out _ HBw.out).int k h1
      rw [hm] at x0
      obtain ⟨b9, o9, rfl, _, t0, t1, t2, t3⟩ := (HT.out _ HBw.out) m hml
      have HS := Lib.hid (souths_succ h1 hm hml)
      have d1 := (HX.out.below HB.out HX.out.lt).cell 1 (by simp)
      simp only [List.getElem_cons_zero, List.getElem_cons_succ] at d1
      have HL2 : Hid ((souths ts (row.take k)).length ≤ 1000000) := by show _ ≤ _; omega
      clear hm m0 m1 hvl
      generalize ts[m] = t at *
      generalize souths ts (row.take k) = L at *
      go_wp2_with (at_builtin; refine Hold.of ?_)
      refine Hold.to ?_
      clear d1 x0 t0 t1 t2 t3
      refine wpl_app_int rfl (.tmp 17) (.tmp 25) rfl wb.heap.size _ L t.d rfl (HV.out.alloc _) wr.heap.size 0 rfl (cell_alloc_at _ _ _ _ _ rfl) (by have := HL2.out; omega) (by have := HB.out.size; simp; omega) (fun v' w' a1 a2 a3 => ?_)
      rw [← HS.out] at a1
      have HV2 := Lib.hid a1
      have HB2 : Hid (Below wb.heap.size wb w') := Below.grown (below_al HB.out) a2 (by have := HB.out.size; simp; omega) (fun q hq => (World.ownsRow.lt HV.out q hq).1)
      clear a1 a2 a3
      go_wp2_with fail
      go_roundw
      case rel => exact ⟨k + 1, by omega, by go_num, HV2, HB2⟩
      case measure => simp [intOf]; omega
    · obtain rfl : k = row.length := by omega
      rw [List.take_length] at HV HVl
      go_wp2_with fail
      go_ret
      refine ⟨_, rfl, ?_, HBw.out⟩
      rw [List.take_length]
      exact HV.out.weaken (by have := HZ.out; omega)
set_option maxRecDepth 100000 in
set_option maxHeartbeats 1000000 in
theorem wordsOfRow1_c (c : Int) (ts : List T4) (A : Option Addr) (cx : Nat) (row : List Int) (B : Option Addr) (cr b1 b2 : Nat) (w : World) (hT : TileCells w A ts) (hR : Cells w B (ints row)) (hl : ts.length ≤ 1000000) (hn : row.length ≤ 1000000000)
    (f0 : w.cell? ⟨b1, 0, none⟩ = some (.int .i64 c)) (f1 : w.cell? ⟨b1, 1, none⟩ = some (.slice A ts.length cx)) (f2 : w.cell? ⟨b2, 0, none⟩ = some (.slice B row.length cr)) :
    Calls Tryz.prog 144 #[.pointer (some ⟨b1, 0, none⟩), .pointer (some ⟨b2, 0, none⟩)] w fun e w' => e = .returned (.bool (isRowB ts row)) ∧ Below w.heap.size w w' := by
  have H := Lib.hid (isRow_c c ts A cx row B cr w hT hR hl hn)
  clear hT hR
  go_enter Tryz.func144, Tryz.ntmps144
  go_wp2_with fail
  refine H.out.mono ?_
  rintro e w1 ⟨rfl, hb1⟩
  go_wp2
  go_ret
  exact ⟨rfl, by (repeat (first | (with_reducible exact Below.refl _ _) | (with_reducible assumption) | (with_reducible refine below_al ?_) | (with_reducible refine below_dr ?_) | (with_reducible refine below_drN ?_) | (with_reducible refine below_set ?_ (by first | exact Nat.le_refl _ | (dsimp only; omega) | omega)) | (with_reducible refine below_tr (by with_reducible assumption) ?_)))⟩
def worCode (c : Int) (ts : List T4) (row : List Int) : Int := codeB (isSetB c ts) (isRowB ts row)
def worN (c : Int) (ts : List T4) (row : List Int) : List Int := if worCode c ts row = 0 then norths ts row else []
def worS (c : Int) (ts : List T4) (row : List Int) : List Int := if worCode c ts row = 0 then souths ts row else []
def RetWor (w : World) (n s : List Int) (d : Int) (e : Ending) (w' : World) : Prop :=
  ∃ v u, e = .returned (.tuple #[v, u, .int .i64 d]) ∧ OwnI w' w.heap.size v n ∧ OwnI w' w.heap.size u s ∧ Below w.heap.size w w'
set_option maxRecDepth 100000 in
set_option maxHeartbeats 1000000 in
theorem implWordsOfRow_c (c : Int) (ts : List T4) (A : Option Addr) (cx : Nat) (row : List Int) (B : Option Addr) (cr : Nat) (w : World) (hT : TileCells w A ts) (hl : ts.length ≤ 1000000000) (hR : Cells w B (ints row)) (hn : row.length ≤ 1000000000) :
    Calls Tryz.prog 59 #[.agg #[.int .i64 c, .slice A ts.length cx], .slice B row.length cr] w (RetWor w (worN c ts row) (worS c ts row) (worCode c ts row)) := by
  have HC : Hid (∀ (wq : World) (hq : Below w.heap.size w wq) (b1 b2 : Nat) (h0 : wq.cell? ⟨b1, 0, none⟩ = some (.int .i64 c)) (h1 : wq.cell? ⟨b1, 1, none⟩ = some (.slice A ts.length cx)) (h2 : wq.cell? ⟨b2, 0, none⟩ = some (.slice B row.length cr)),
      Calls Tryz.prog 85 #[.agg #[.int .i64 c, .slice A ts.length cx], .func (.func 144) #[] #[.pointer (some ⟨b1, 0, none⟩), .pointer (some ⟨b2, 0, none⟩)]] wq fun e w' => e = .returned (.int .i64 (worCode c ts row)) ∧ Below wq.heap.size wq w') :=
    fun wq hq b1 b2 h0 h1 h2 => setCode_c c ts A cx 144 #[.pointer (some ⟨b1, 0, none⟩), .pointer (some ⟨b2, 0, none⟩)] (isRowB ts row) wq (fun _ _ => rfl) (hT.below hq) hl
      (fun hs w1 hb => wordsOfRow1_c c ts A cx row B cr b1 b2 w1 ((hT.below hq).below hb) ((hR.below hq).below hb) (by have := (isSetB_small hs).2; omega) hn (keepC h0 _ hb) (keepC h1 _ hb) (keepC h2 _ hb))
  have HF := Lib.hid (fun (h : worCode c ts row = 0) => (show isSetB c ts = true ∧ isRowB ts row = true by unfold worCode at h; cases e1 : isSetB c ts <;> cases e2 : isRowB ts row <;> simp [codeB, e1, e2] at h ⊢))
  have HN := Lib.hid (fun (hs : isSetB c ts = true) (hr : isRowB ts row = true) (wq : World) (hq : Below w.heap.size w wq) => north_c c ts A cx row B cr wq (hT.below hq) (hR.below hq) (by have := (isSetB_small hs).2; omega) (isRowB_in hr).1 (by have := (isRowB_in hr).2; omega))
  have HU := Lib.hid (fun (hs : isSetB c ts = true) (hr : isRowB ts row = true) (wq : World) (hq : Below w.heap.size w wq) => south_c c ts A cx row B cr wq (hT.below hq) (hR.below hq) (by have := (isSetB_small hs).2; omega) (isRowB_in hr).1 (by have := (isRowB_in hr).2; omega))
  have HV : Hid (worN c ts row = if worCode c ts row = 0 then norths ts row else []) := rfl
  have HV1 : Hid (worS c ts row = if worCode c ts row = 0 then souths ts row else []) := rfl
  clear hT hR
  generalize worN c ts row = nn at *
  generalize worS c ts row = ss at *
  generalize worCode c ts row = d at *
  go_enter Tryz.func59, Tryz.ntmps59
  go_wp2_with fail
  refine (HC.out _ (by (repeat (first | (with_reducible exact Below.refl _ _) | (with_reducible assumption) | (with_reducible refine below_al ?_) | (with_reducible refine below_dr ?_) | (with_reducible refine below_drN ?_) | (with_reducible refine below_set ?_ (by first | exact Nat.le_refl _ | (dsimp only; omega) | omega)) | (with_reducible refine below_tr (by with_reducible assumption) ?_)))) _ _ ?_ ?_ ?_).mono ?_
  · (repeat (first | (exact cell_al _ _ _ _ _ _ (by simp) rfl) | (refine cell_alloc_old _ _ _ _ _ ?_)))
  · (repeat (first | (exact cell_al _ _ _ _ _ _ (by simp) rfl) | (refine cell_alloc_old _ _ _ _ _ ?_)))
  · (repeat (first | (exact cell_al _ _ _ _ _ _ (by simp) rfl) | (refine cell_alloc_old _ _ _ _ _ ?_)))
  rintro e w1 ⟨rfl, hb1⟩
  have Hw1 : Hid (Below w.heap.size w w1) := by (show Below _ _ _); (repeat (first | (with_reducible exact Below.refl _ _) | (with_reducible assumption) | (with_reducible refine below_al ?_) | (with_reducible refine below_dr ?_) | (with_reducible refine below_drN ?_) | (with_reducible refine below_set ?_ (by first | exact Nat.le_refl _ | (dsimp only; omega) | omega)) | (with_reducible refine below_tr (by with_reducible assumption) ?_)))
  have x0 : w1.cell? ⟨w.heap.size, 0, none⟩ = some (.int .i64 c) := by
    rw [(bcell hb1).1 _ _ (by simp; omega)]
    (repeat (first | (exact cell_al _ _ _ _ _ _ (by simp) rfl) | (refine cell_alloc_old _ _ _ _ _ ?_)))
  have x1 : w1.cell? ⟨w.heap.size, 1, none⟩ = some (.slice A ts.length cx) := by
    rw [(bcell hb1).1 _ _ (by simp; omega)]
    (repeat (first | (exact cell_al _ _ _ _ _ _ (by simp) rfl) | (refine cell_alloc_old _ _ _ _ _ ?_)))
  have x5 : w1.cell? ⟨w.heap.size + 1, 0, none⟩ = some (.slice B row.length cr) := by
    rw [(bcell hb1).1 _ _ (by simp)]
    (repeat (first | (exact cell_al _ _ _ _ _ _ (by simp) rfl) | (refine cell_alloc_old _ _ _ _ _ ?_)))
  clear hb1
  by_cases hd : d = 0
  · have hd' : (d != 0) = false := by simp [hd]
    obtain ⟨hs, hr⟩ := HF.out hd
    have HN2 := Lib.hid (HN.out hs hr)
    have HU2 := Lib.hid (HU.out hs hr)
    rw [if_pos hd] at HV HV1
    have HD := Lib.hid hd
    clear hs hr hd HN HU HF HC
    have e0 := keepC x0
    have e1 := keepC x1
    have e5 := keepC x5
    go_wp2_with fail
    clear x0 x1 x5
    refine wp_region_mix [(0, true), (1, true), (3, true), (4, true), (2, false), (5, false), (6, true), (7, true), (8, true)] (fun w' => Below (w1).heap.size (w1) w') (by kernel_rfl) (by kernel_rfl) (fun _ _ d _ _ h => by cases d <;> exact h) ((Below.refl _ _).drew) ?_
    repeat (first
      | (refine mix_skip rfl rfl (fun K' hK' => ?_); go_simp; refine hK' _ ?_; clear hK' K')
      | (refine mix_do (v := ?_) rfl rfl (fun w1 hb => ?_) (fun K' hK' => ?_); rotate_left
         · go_simp
           rfl
         go_simp; refine hK' _ ?_; clear hK' K'))
    generalize hwd : ({ w1 with drawn := w1.drawn + 1 } : World) = wd
    have Bd : Hid (Below w1.heap.size w1 wd) := by rw [← hwd]; exact (Below.refl _ _).drew
    clear hwd
    refine mix_call rfl rfl (fun K' hK' => ?_)
    go_simp
    refine (HN2.out _ (Hw1.out.trans (Bd.out.mono Hw1.out.size))).mono ?_
    rintro e w2 ⟨v, rfl, hO, hb⟩
    have B2 := Lib.hid (Bd.out.trans (hb.mono Bd.out.size))
    have HO := Lib.hid hO
    clear hO hb
    refine hK' _ _ (B2.out) ?_; clear hK' K'
    refine mix_call rfl rfl (fun K' hK' => ?_)
    go_simp
    refine (HU2.out _ (Hw1.out.trans (B2.out.mono Hw1.out.size))).mono ?_
    rintro e w3 ⟨u, rfl, hO, hb⟩
    have B3 := Lib.hid (B2.out.trans (hb.mono B2.out.size))
    have HO3 := Lib.hid (HO.out.below hb)
    have HU3 := Lib.hid hO
    clear hO hb HO
    refine hK' _ _ (B3.out) ?_; clear hK' K'
    repeat (first
      | (refine mix_skip rfl rfl (fun K' hK' => ?_); go_simp; refine hK' _ ?_; clear hK' K')
      | (refine mix_do (v := ?_) rfl rfl (fun w1 hb => ?_) (fun K' hK' => ?_); rotate_left
         · go_simp
           rfl
         go_simp; refine hK' _ ?_; clear hK' K'))
    refine mix_nil ?_
    clear e0 e1 e5
    go_wp2_with fail
    go_ret3
    refine ⟨v, u, by rw [HD.out]; rfl, by rw [HV.out]; exact HO3.out.weaken (by have := Hw1.out.size; have := Bd.out.size; omega), by rw [HV1.out]; exact HU3.out.weaken (by have := Hw1.out.size; have := B2.out.size; omega), Hw1.out.trans (B3.out.mono Hw1.out.size)⟩
  · have hd' : (d != 0) = true := by simp [hd]
    rw [if_neg hd] at HV HV1
    clear hd HN HU HF HC
    go_wp2_with fail
    go_ret3
    exact ⟨_, _, rfl, by rw [HV.out]; exact OwnI.nil _ _, by rw [HV1.out]; exact OwnI.nil _ _, Hw1.out⟩

end Go.Proofs.YtkgnejhflnekaaaGreat
namespace Go.Proofs.YtkgnejhflnekaaaGreat
open Go.RowKit
attribute [local go_sem] addUpon_value addUpon_skip addUpon_enter
set_option maxRecDepth 100000 in
set_option maxHeartbeats 1000000 in
theorem rows9_c (L : List (List Int)) (A B : Option Addr) (cx cy : Nat) (w : World) (hA : RowsC w A L) (hB : RowsC w B L) (hl : L.length ≤ 1000000) (hS : Short 1000000 L) :
    Calls Tryz.prog 10 #[.slice A L.length cx, .slice B L.length cy] w fun e w' => e = .returned (.bool true) ∧ Below w.heap.size w w' := by
  have HA := Lib.hid hA
  have HB := Lib.hid hB
  have HS := Lib.hid hS
  clear hA hB hS
  go_enter Tryz.func10, Tryz.ntmps10
  go_wp2_with fail
  go_loopw [5] (fun i wr => ∃ k : Nat, k ≤ L.length ∧ i = .int .i64 (k : Nat) ∧ Hid (Below w.heap.size w wr)) (fun i _ => L.length - (intOf i).toNat)
  case atStart => exact ⟨0, by omega, rfl, Below.refl _ _⟩
  case round =>
    obtain ⟨k, hk, rfl, HW⟩ := hrel
    by_cases h1 : k < L.length
    · obtain ⟨b, off, A', c1, rfl, hlt, hc, hr⟩ := (HA.out.below HW.out) k h1
      obtain ⟨b2, off2, B', c2, rfl, hlt2, hd, hr2⟩ := (HB.out.below HW.out) k h1
      have hs := HS.out k h1
      have HQ := Lib.hid (fun (W : World) (h : Below wr.heap.size wr W) => likeInts_c L[k] L[k] A' B' c1 c2 W (hr.below h) (hr2.below h) (by omega) (by omega))
      have hq : eqL L[k] L[k] = true := by simp [eqL]
      rw [hq] at HQ
      have e0 := keepC hc
      have f0 := keepC hd
      clear hc hd hr hr2 hq hs
      generalize L[k] = row at *
      go_wp2_with fail
      refine wp_region_add (fun w' => Below (wr).heap.size (wr) w') (by kernel_rfl) (by kernel_rfl) ((Below.refl _ _).drew) ?_
      repeat (first
        | (refine add_skip rfl (fun K' hK' => ?_); go_simp; refine hK' _ ?_; clear hK' K')
        | (refine add_do (v := ?_) rfl (fun w1 hb => ?_) (fun K' hK' => ?_); rotate_left
           · go_simp
             first
             | (with_reducible exact rfl)
             | (with_reducible exact ⟨rfl, hb⟩)
             | (with_reducible exact (addCall (HQ.out w1 hb) hb).2)
             | exact (addCall (HQ.out w1 hb) hb).2
             | exact rfl
             | exact ⟨rfl, hb⟩
           go_simp; refine hK' _ ?_; clear hK' K'))
      refine add_nil ?_
      intro wa hba
      have HW2 := Lib.hid (HW.out.trans (hba.mono HW.out.size))
      clear hba e0 f0
      go_wp2_with fail
      go_roundw
      case rel => exact ⟨k + 1, by omega, by go_num, HW2⟩
      case measure => simp [intOf]; omega
    · go_wp2_with fail
      go_ret
      exact ⟨rfl, HW.out⟩
set_option maxRecDepth 100000 in
set_option maxHeartbeats 1000000 in
theorem set9_c (c : Int) (ts : List T4) (A B : Option Addr) (cx cy : Nat) (w : World) (hA : TileCells w A ts) (hB : TileCells w B ts) (hl : ts.length ≤ 1000000) :
    Calls Tryz.prog 46 #[.agg #[.int .i64 c, .slice A ts.length cx], .agg #[.int .i64 c, .slice B ts.length cy]] w fun e w' => e = .returned (.bool true) ∧ Below w.heap.size w w' := by
  have HA := Lib.hid (fun W (h : Below w.heap.size w W) => hA.below h)
  have HB := Lib.hid (fun W (h : Below w.heap.size w W) => hB.below h)
  clear hA hB
  have hcc : (c != c) = false := by simp
  have hnn : ((ts.length : Int) != (ts.length : Int)) = false := by simp
  have hnq := neq_tile
  have hgd := guard_tile
  go_enter Tryz.func46, Tryz.ntmps46
  go_upto_region 1 with (fail)
  obtain ⟨wb, hwb⟩ : ∃ wb, wb = ((w.alloc (.cells #[.int .i64 c, .slice A ts.length cx] 26)).alloc (.cells #[.int .i64 c, .slice B ts.length cy] 26)) := ⟨_, rfl⟩
  have HX : Hid (Blk wb w.heap.size [.int .i64 c, .slice A ts.length cx] 26) := by rw [hwb]; exact (Blk.newA w _ _).alloc _
  have HY : Hid (Blk wb (w.heap.size + 1) [.int .i64 c, .slice B ts.length cy] 26) := by
    rw [hwb]
    have := Blk.newA (w.alloc (.cells #[.int .i64 c, .slice A ts.length cx] 26)) #[.int .i64 c, .slice B ts.length cy] 26
    rwa [World.size_alloc] at this
  have HW : Hid (Below w.heap.size w wb) := by rw [hwb]; exact below_al (below_al (Below.refl _ _))
  rw [← hwb]
  clear hwb
  have x0 := HX.out.cell 0 (by simp)
  have x1 := HX.out.cell 1 (by simp)
  have y0 := HY.out.cell 0 (by simp)
  have y1 := HY.out.cell 1 (by simp)
  simp only [List.getElem_cons_zero, List.getElem_cons_succ] at x0 x1 y0 y1
  go_wp2_with fail
  clear x0 x1 y0 y1
  go_loopw [5] (fun i wr => ∃ k : Nat, k ≤ ts.length ∧ i = .int .i64 (k : Nat) ∧ Hid (Below wb.heap.size wb wr)) (fun i _ => ts.length - (intOf i).toNat)
  case atStart => exact ⟨0, by omega, rfl, Below.refl _ _⟩
  case round =>
    obtain ⟨k, hk, rfl, HR⟩ := hrel
    have HRw : Hid (Below w.heap.size w wr) := HW.out.trans (HR.out.mono HW.out.size)
    have x1 := (HX.out.under HR.out).cell 1 (by simp)
    have y1 := (HY.out.under HR.out).cell 1 (by simp)
    simp only [List.getElem_cons_zero, List.getElem_cons_succ] at x1 y1
    by_cases h1 : k < ts.length
    · obtain ⟨b, o, rfl, _, a0, a1, a2, a3⟩ := (HA.out _ HRw.out) k h1
      obtain ⟨b', o', rfl, _, c0, c1, c2, c3⟩ := (HB.out _ HRw.out) k h1
      have p0 := keepC a0
      have p1 := keepC a1
      have p2 := keepC a2
      have p3 := keepC a3
      have q0 := keepC c0
      have q1 := keepC c1
      have q2 := keepC c2
      have q3 := keepC c3
      have r0 := keepC x1
      have r1 := keepC y1
      have hd : decide (ts[k] = ts[k]) = true := by simp
      clear a0 a1 a2 a3 c0 c1 c2 c3
      generalize ts[k] = t at *
      go_wp2_with fail
      clear x1 y1
      refine wp_region_add (fun w' => Below (wr).heap.size (wr) w') (by kernel_rfl) (by kernel_rfl) ((Below.refl _ _).drew) ?_
      repeat (first
        | (refine add_skip rfl (fun K' hK' => ?_); go_simp; refine hK' _ ?_; clear hK' K')
        | (refine add_do (v := ?_) rfl (fun w1 hb => ?_) (fun K' hK' => ?_); rotate_left
           · go_simp
             first
             | (with_reducible exact rfl)
             | (with_reducible exact ⟨rfl, hb⟩)
             | exact rfl
             | exact ⟨rfl, hb⟩
           go_simp; refine hK' _ ?_; clear hK' K'))
      refine add_nil ?_
      intro wa hba
      have HR2 := Lib.hid (HR.out.trans (hba.mono HR.out.size))
      clear hba p0 p1 p2 p3 q0 q1 q2 q3 r0 r1
      go_wp2_with fail
      go_roundw
      case rel => exact ⟨k + 1, by omega, by go_num, HR2⟩
      case measure => simp [intOf]; omega
    · go_wp2_with fail
      go_ret
      exact ⟨rfl, HRw.out⟩

end Go.Proofs.YtkgnejhflnekaaaGreat
