/- Contracts and lemmas for the statements of this seat, written for this claim; each theorem states its own conditions. -/
import Derived.Test.YtkgnejhflnekaaaGreatMuBs
set_option linter.unusedVariables false
set_option linter.unusedSimpArgs false
namespace Go.Proofs.YtkgnejhflnekaaaGreat
open Go.RowKit
attribute [local go_sem] addUpon_value addUpon_skip addUpon_enter
def rowAt (ts : List T4) (row : List Int) (i : Nat) : Bool := inR 0 ((ts.length : Int) - 1) (row.getD i 0) && (i == 0 || (tA ts (row.getD (i - 1) 0)).c == (tA ts (row.getD i 0)).a)
def isRowB (ts : List T4) (row : List Int) : Bool := inR 1 20 (row.length : Int) && (List.range row.length).all (rowAt ts row)
theorem rowAt_bad {ts : List T4} {row : List Int} {k : Nat} (hk : k < row.length) (h : rowAt ts row k = false) : isRowB ts row = false := by
  unfold isRowB
  have : (List.range row.length).all (rowAt ts row) = false := by
    rw [List.all_eq_false]
    exact ⟨k, List.mem_range.2 hk, by simp [h]⟩
  simp [this]
theorem rowAt_all {ts : List T4} {row : List Int} (h : ∀ j, j < row.length → rowAt ts row j = true) : isRowB ts row = inR 1 20 (row.length : Int) := by
  unfold isRowB
  have : (List.range row.length).all (rowAt ts row) = true := by
    rw [List.all_eq_true]
    exact fun j hj => h j (List.mem_range.1 hj)
  simp [this]
theorem isRowB_long {ts : List T4} {row : List Int} (h : inR 1 20 (row.length : Int) = false) : isRowB ts row = false := by unfold isRowB; simp [h]
theorem rowAt_in {ts : List T4} {row : List Int} {k : Nat} (hk : k < row.length) (h : rowAt ts row k = true) : 0 ≤ row[k] ∧ row[k] < ts.length := by
  unfold rowAt at h
  rw [Bool.and_eq_true, inR_iff] at h
  have := h.1
  simp [hk] at this
  omega
theorem isRowB_in {ts : List T4} {row : List Int} (h : isRowB ts row = true) : InRow ts row ∧ 1 ≤ row.length ∧ row.length ≤ 20 := by
  unfold isRowB at h
  rw [Bool.and_eq_true, inR_iff, List.all_eq_true] at h
  exact ⟨fun j hj => rowAt_in hj (h.2 j (List.mem_range.2 hj)), by omega, by omega⟩
theorem rowAt_eq0 {ts : List T4} {row : List Int} (hk : 0 < row.length) : rowAt ts row 0 = inR 0 ((ts.length : Int) - 1) row[0] := by unfold rowAt; simp [hk]
theorem rowAt_out {ts : List T4} {row : List Int} {k : Nat} (hk : k < row.length) (h : inR 0 ((ts.length : Int) - 1) row[k] = false) : rowAt ts row k = false := by unfold rowAt; simp [hk, h]
theorem rowAt_eq {ts : List T4} {row : List Int} {k m m' : Nat} (hk : k < row.length) (h0 : 0 < k) (hk' : k - 1 < row.length) (h : row[k] = (m : Int)) (h' : row[k - 1] = (m' : Int)) (hm : m < ts.length) (hm' : m' < ts.length) :
    rowAt ts row k = (ts[m'].c == ts[m].a) := by
  unfold rowAt
  have e1 : row.getD k 0 = (m : Int) := by simp [hk, h]
  have e2 : row.getD (k - 1) 0 = (m' : Int) := by simp [hk', h']
  have e3 : (k == 0) = false := by simp; omega
  have e4 : inR 0 ((ts.length : Int) - 1) (m : Int) = true := by rw [inR_iff]; omega
  rw [e1, e2, e3, e4, tA_nat ts m hm, tA_nat ts m' hm']
  simp
set_option maxRecDepth 100000 in
set_option maxHeartbeats 1000000 in
theorem isNumber_c (c : Int) (A : Option Addr) (n cx : Nat) (x : Int) (w : World) (hl : n ≤ 1000000000) :
    Calls Tryz.prog 178 #[.agg #[.int .i64 c, .slice A n cx], .int .i64 x] w fun e w' => e = .returned (.bool (inR 0 ((n : Int) - 1) x)) ∧ Below w.heap.size w w' := by
  have q : IntKind.i64.wrap ((n : Int) - 1) = (n : Int) - 1 := IntWalk.i64_in _ (by omega)
  have H := Lib.hid (fun w => within_c x 0 ((n : Int) - 1) w)
  generalize inR 0 ((n : Int) - 1) x = r at *
  go_enter Tryz.func178, Tryz.ntmps178
  go_wp2_with fail
  refine (H.out _).mono ?_
  rintro e w1 ⟨rfl, rfl⟩
  go_wp2
  go_ret
  exact ⟨rfl, by (repeat (first | (with_reducible exact Below.refl _ _) | (with_reducible assumption) | (with_reducible refine below_al ?_) | (with_reducible refine below_dr ?_) | (with_reducible refine below_drN ?_) | (with_reducible refine below_set ?_ (by first | exact Nat.le_refl _ | (dsimp only; omega) | omega)) | (with_reducible refine below_tr (by with_reducible assumption) ?_)))⟩
set_option maxRecDepth 100000 in
set_option maxHeartbeats 1000000 in
theorem isRow_c (c : Int) (ts : List T4) (A : Option Addr) (cx : Nat) (row : List Int) (B : Option Addr) (cr : Nat) (w : World) (hT : TileCells w A ts) (hR : Cells w B (ints row)) (hl : ts.length ≤ 1000000) (hn : row.length ≤ 1000000000) :
    Calls Tryz.prog 134 #[.agg #[.int .i64 c, .slice A ts.length cx], .slice B row.length cr] w fun e w' => e = .returned (.bool (isRowB ts row)) ∧ Below w.heap.size w w' := by
  go_enter Tryz.func134, Tryz.ntmps134
  go_wp2
  go_loopw [9] (fun i wr => ∃ k : Nat, k ≤ row.length ∧ i = .int .i64 k ∧ Hid (∀ j, j < k → rowAt ts row j = true) ∧ Below (w.heap.size + 1) (w.alloc (.cells #[.int .i64 c, .slice A ts.length cx] 26)) wr) (fun i _ => row.length - (intOf i).toNat)
  case atStart => exact ⟨0, by omega, rfl, fun j hj => by omega, Below.refl _ _⟩
  case round =>
    obtain ⟨k, hk, rfl, Hn, hb⟩ := hrel
    have hbw : Below w.heap.size w wr := (((Below.refl w.heap.size w).alloc (Nat.le_refl _) _).trans (hb.mono (by omega)))
    have Hbw := Lib.hid hbw
    have Hb3 := Lib.hid hb
    have d0 : wr.cell? ⟨w.heap.size, 0, none⟩ = some (.int .i64 c) := (hb.cell (p := ⟨w.heap.size, 0, none⟩) (by simp)).trans (by simp)
    have d1 : wr.cell? ⟨w.heap.size, 1, none⟩ = some (.slice A ts.length cx) := (hb.cell (p := ⟨w.heap.size, 1, none⟩) (by simp)).trans (by simp)
    have f0 := keepC d0
    have f1 := keepC d1
    have hN : w.heap.size < wr.heap.size := by have := hb.size; simp at this; omega
    by_cases h1 : k < row.length
    · obtain ⟨b3, off3, rfl, hlt3, c0⟩ := (hR.below hbw).int k h1
      have g0 := keepC c0
      have HRp := Lib.hid ((hR.below hbw).int (k - 1) (by omega))
      have HT := Lib.hid (hT.below hbw)
      have HO := Lib.hid (rowAt_out (ts := ts) h1)
      have HBad := Lib.hid (rowAt_bad (ts := ts) h1)
      have HI := Lib.hid (Hn.out (k - 1))
      have hk1 : k - 1 < row.length := by omega
      have HE := Lib.hid (fun m m' h0 => rowAt_eq (ts := ts) (m := m) (m' := m') h1 h0 hk1)
      have HE0 := Lib.hid (fun h => rowAt_eq0 (ts := ts) (row := row) h)
      have HIn := Lib.hid (fun h => rowAt_in (ts := ts) hk1 h)
      have q1 : 0 < k → IntKind.i64.wrap ((k : Int) - 1) = ((k - 1 : Nat) : Int) := fun hh => by rw [IntWalk.i64_in _ (by omega)]; omega
      clear hT hR hbw hb d0 d1
      have HN := Lib.hid (fun A w => isNumber_c c A ts.length cx row[k] w (by omega))
      cases hA : inR 0 ((ts.length : Int) - 1) row[k]
      · have HF := Lib.hid (HO.out hA)
        rw [hA] at HN
        clear hA q1
        generalize row[k] = x at *
        go_wp2_with fail
        clear c0
        refine wp_region_add (fun w' => Below (wr).heap.size (wr) w') (by kernel_rfl) (by kernel_rfl) ((Below.refl _ _).drew) ?_
        repeat (first
          | (refine add_skip rfl (fun K' hK' => ?_); go_simp; refine hK' _ ?_; clear hK' K')
          | (refine add_do (v := ?_) rfl (fun w1 hb => ?_) (fun K' hK' => ?_); rotate_left
             · go_simp
               first
               | (with_reducible exact rfl)
               | (with_reducible exact ⟨rfl, hb⟩)
               | (with_reducible exact (addCall (HN.out _ w1) hb).2)
               | exact (addCall (HN.out _ w1) hb).2
               | exact rfl
               | exact ⟨rfl, hb⟩
             go_simp; refine hK' _ ?_; clear hK' K'))
        refine add_nil ?_
        intro wa hba
        go_wp2
        go_ret
        exact ⟨ret_bool (HBad.out HF.out).symm, by have h2 := Hbw.out; (repeat (first | (with_reducible exact Below.refl _ _) | (with_reducible assumption) | (with_reducible refine below_al ?_) | (with_reducible refine below_dr ?_) | (with_reducible refine below_drN ?_) | (with_reducible refine below_set ?_ (by first | exact Nat.le_refl _ | (dsimp only; omega) | omega)) | (with_reducible refine below_tr (by with_reducible assumption) ?_)))⟩
      · rw [hA] at HN
        have hA' := inR_iff.1 hA
        obtain ⟨m, g2⟩ := Int.eq_ofNat_of_zero_le hA'.1
        have hm : m < ts.length := by omega
        obtain ⟨b4, off4, rfl, hlt4, ta, _, _, _⟩ := HT.out m hm
        have f2 := keepC ta
        by_cases i0 : 0 < k
        · have q3 := q1 i0
          obtain ⟨p1, p2⟩ := HIn.out (HI.out (by omega))
          obtain ⟨m', g3⟩ := Int.eq_ofNat_of_zero_le p1
          have hm' : m' < ts.length := by omega
          obtain ⟨_, _, tc, _⟩ := HT.out.pair rfl m' hm'
          have f3 := keepC tc
          obtain ⟨b5, off5, e5, hlt5, r0⟩ := HRp.out
          injection e5 with e5
          injection e5 with e6 e7
          subst e6 e7
          rw [g3] at r0
          have f4 := keepC r0
          have HEE := Lib.hid (HE.out m m' i0 g2 g3 hm hm')
          rw [g2] at c0 g0 HN
          cases hC : (ts[m'].c != ts[m].a)
          · have HF := Lib.hid (show rowAt ts row k = true from by rw [HEE.out]; simpa using hC)
            generalize ts[m].a = va at *
            generalize ts[m'].c = vc at *
            clear hA hA' q1 ta tc r0 p1 p2 g2 g3
            go_wp2_with fail
            clear c0
            refine wp_region_add (fun w' => Below (wr).heap.size (wr) w') (by kernel_rfl) (by kernel_rfl) ((Below.refl _ _).drew) ?_
            repeat (first
              | (refine add_skip rfl (fun K' hK' => ?_); go_simp; refine hK' _ ?_; clear hK' K')
              | (refine add_do (v := ?_) rfl (fun w1 hb => ?_) (fun K' hK' => ?_); rotate_left
                 · go_simp
                   first
                   | (with_reducible exact rfl)
                   | (with_reducible exact ⟨rfl, hb⟩)
                   | (with_reducible exact (addCall (HN.out _ w1) hb).2)
                   | exact (addCall (HN.out _ w1) hb).2
                   | exact rfl
                   | exact ⟨rfl, hb⟩
                 go_simp; refine hK' _ ?_; clear hK' K'))
            refine add_nil ?_
            intro wa hba
            go_wp2
            go_roundw
            case rel => exact ⟨k + 1, by omega, by go_num, fun j hj => by
              by_cases e : j = k
              · subst e; exact HF.out
              · exact Hn.out j (by omega), by have h3 := Hb3.out; exact h3.trans (hba.mono (by omega))⟩
            case measure => simp [intOf]; omega
          · have HF := Lib.hid (show rowAt ts row k = false from by rw [HEE.out]; simpa using hC)
            generalize ts[m].a = va at *
            generalize ts[m'].c = vc at *
            clear hA hA' q1 ta tc r0 p1 p2 g2 g3
            go_wp2_with fail
            clear c0
            refine wp_region_add (fun w' => Below (wr).heap.size (wr) w') (by kernel_rfl) (by kernel_rfl) ((Below.refl _ _).drew) ?_
            repeat (first
              | (refine add_skip rfl (fun K' hK' => ?_); go_simp; refine hK' _ ?_; clear hK' K')
              | (refine add_do (v := ?_) rfl (fun w1 hb => ?_) (fun K' hK' => ?_); rotate_left
                 · go_simp
                   first
                   | (with_reducible exact rfl)
                   | (with_reducible exact ⟨rfl, hb⟩)
                   | (with_reducible exact (addCall (HN.out _ w1) hb).2)
                   | exact (addCall (HN.out _ w1) hb).2
                   | exact rfl
                   | exact ⟨rfl, hb⟩
                 go_simp; refine hK' _ ?_; clear hK' K'))
            refine add_nil ?_
            intro wa hba
            go_wp2
            go_ret
            exact ⟨ret_bool (HBad.out HF.out).symm, by have h2 := Hbw.out; (repeat (first | (with_reducible exact Below.refl _ _) | (with_reducible assumption) | (with_reducible refine below_al ?_) | (with_reducible refine below_dr ?_) | (with_reducible refine below_drN ?_) | (with_reducible refine below_set ?_ (by first | exact Nat.le_refl _ | (dsimp only; omega) | omega)) | (with_reducible refine below_tr (by with_reducible assumption) ?_)))⟩
        · have HF : Hid (rowAt ts row k = true) := by
            obtain rfl : k = 0 := by omega
            exact (HE0.out h1).trans hA
          have i0' : decide (0 < k) = false := by simp; omega
          rw [g2] at c0 g0 HN
          clear hA hA' q1 ta g2
          go_wp2_with fail
          clear c0
          refine wp_region_add (fun w' => Below (wr).heap.size (wr) w') (by kernel_rfl) (by kernel_rfl) ((Below.refl _ _).drew) ?_
          repeat (first
            | (refine add_skip rfl (fun K' hK' => ?_); go_simp; refine hK' _ ?_; clear hK' K')
            | (refine add_do (v := ?_) rfl (fun w1 hb => ?_) (fun K' hK' => ?_); rotate_left
               · go_simp
                 first
                 | (with_reducible exact rfl)
                 | (with_reducible exact ⟨rfl, hb⟩)
                 | (with_reducible exact (addCall (HN.out _ w1) hb).2)
                 | exact (addCall (HN.out _ w1) hb).2
                 | exact rfl
                 | exact ⟨rfl, hb⟩
               go_simp; refine hK' _ ?_; clear hK' K'))
          refine add_nil ?_
          intro wa hba
          go_wp2
          go_roundw
          case rel => exact ⟨k + 1, by omega, by go_num, fun j hj => by
            by_cases e : j = k
            · subst e; exact HF.out
            · exact Hn.out j (by omega), by have h3 := Hb3.out; exact h3.trans (hba.mono (by omega))⟩
          case measure => simp [intOf]; omega
    · have hfin := Lib.hid (rowAt_all (ts := ts) (row := row) (fun j hj => Hn.out j (by omega)))
      have HR := Lib.hid (fun w => within_c (row.length : Int) 1 20 w)
      clear hT hR hb hbw d0 d1
      go_wp2_with fail
      refine (HR.out _).mono ?_
      rintro e w1 ⟨rfl, rfl⟩
      go_wp2
      go_ret
      exact ⟨ret_bool hfin.out.symm, Hbw.out⟩
set_option maxRecDepth 100000 in
set_option maxHeartbeats 1000000 in
theorem l02Row_c (c : Int) (ts : List T4) (A : Option Addr) (cx : Nat) (row : List Int) (B : Option Addr) (cr : Nat) (w : World) (hT : TileCells w A ts) (hR : Cells w B (ints row)) (hl : ts.length ≤ 1000000) (hn : row.length ≤ 1000000000) :
    Calls Tryz.prog 137 #[.agg #[.int .i64 c, .slice A ts.length cx], .slice B row.length cr] w fun e w' => e = .returned (.bool (isRowB ts row)) ∧ Below w.heap.size w w' := by
  by_cases n1 : row.length < 1
  · have HF := Lib.hid (isRowB_long (ts := ts) (row := row) (by simp [inR]; omega))
    clear hT hR
    go_enter Tryz.func137, Tryz.ntmps137
    go_wp2
    go_ret
    exact ⟨ret_bool HF.out.symm, by (repeat (first | (with_reducible exact Below.refl _ _) | (with_reducible assumption) | (with_reducible refine below_al ?_) | (with_reducible refine below_dr ?_) | (with_reducible refine below_drN ?_) | (with_reducible refine below_set ?_ (by first | exact Nat.le_refl _ | (dsimp only; omega) | omega)) | (with_reducible refine below_tr (by with_reducible assumption) ?_)))⟩
  by_cases n2 : 20 < row.length
  · have HF := Lib.hid (isRowB_long (ts := ts) (row := row) (by simp [inR]; omega))
    clear hT hR
    go_enter Tryz.func137, Tryz.ntmps137
    go_wp2
    go_ret
    exact ⟨ret_bool HF.out.symm, by (repeat (first | (with_reducible exact Below.refl _ _) | (with_reducible assumption) | (with_reducible refine below_al ?_) | (with_reducible refine below_dr ?_) | (with_reducible refine below_drN ?_) | (with_reducible refine below_set ?_ (by first | exact Nat.le_refl _ | (dsimp only; omega) | omega)) | (with_reducible refine below_tr (by with_reducible assumption) ?_)))⟩
  have HL := Lib.hid (show inR 1 20 (row.length : Int) = true from by simp [inR]; omega)
  go_enter Tryz.func137, Tryz.ntmps137
  go_wp2
  go_loopw [5] (fun i wr => ∃ k : Nat, k ≤ row.length ∧ i = .int .i64 k ∧ Hid (∀ j, j < k → rowAt ts row j = true) ∧ Below (w.heap.size + 1) (w.alloc (.cells #[.int .i64 c, .slice A ts.length cx] 26)) wr) (fun i _ => row.length - (intOf i).toNat)
  case atStart => exact ⟨0, by omega, rfl, fun j hj => by omega, Below.refl _ _⟩
  case round =>
    obtain ⟨k, hk, rfl, Hn, hb⟩ := hrel
    have hbw : Below w.heap.size w wr := (((Below.refl w.heap.size w).alloc (Nat.le_refl _) _).trans (hb.mono (by omega)))
    have Hbw := Lib.hid hbw
    have Hb3 := Lib.hid hb
    have d0 : wr.cell? ⟨w.heap.size, 0, none⟩ = some (.int .i64 c) := (hb.cell (p := ⟨w.heap.size, 0, none⟩) (by simp)).trans (by simp)
    have d1 : wr.cell? ⟨w.heap.size, 1, none⟩ = some (.slice A ts.length cx) := (hb.cell (p := ⟨w.heap.size, 1, none⟩) (by simp)).trans (by simp)
    have f0 := keepC d0
    have f1 := keepC d1
    have hN : w.heap.size < wr.heap.size := by have := hb.size; simp at this; omega
    by_cases h1 : k < row.length
    · obtain ⟨b3, off3, rfl, hlt3, c0⟩ := (hR.below hbw).int k h1
      have g0 := keepC c0
      have HRp := Lib.hid ((hR.below hbw).int (k - 1) (by omega))
      have HT := Lib.hid (hT.below hbw)
      have HO := Lib.hid (rowAt_out (ts := ts) h1)
      have HBad := Lib.hid (rowAt_bad (ts := ts) h1)
      have HI := Lib.hid (Hn.out (k - 1))
      have hk1 : k - 1 < row.length := by omega
      have HE := Lib.hid (fun m m' h0 => rowAt_eq (ts := ts) (m := m) (m' := m') h1 h0 hk1)
      have HE0 := Lib.hid (fun h => rowAt_eq0 (ts := ts) (row := row) h)
      have HIn := Lib.hid (fun h => rowAt_in (ts := ts) hk1 h)
      have q1 : 0 < k → IntKind.i64.wrap ((k : Int) - 1) = ((k - 1 : Nat) : Int) := fun hh => by rw [IntWalk.i64_in _ (by omega)]; omega
      clear hT hR hbw hb d0 d1
      have qL : IntKind.i64.wrap ((ts.length : Int) - 1) = (ts.length : Int) - 1 := IntWalk.i64_in _ (by omega)
      have HN := Lib.hid (fun w => l01In_c row[k] 0 ((ts.length : Int) - 1) w)
      cases hA : inR 0 ((ts.length : Int) - 1) row[k]
      · have HF := Lib.hid (HO.out hA)
        rw [hA] at HN
        clear hA q1
        generalize row[k] = x at *
        go_wp2_with fail
        clear c0
        refine wp_region_add (fun w' => Below (wr).heap.size (wr) w') (by kernel_rfl) (by kernel_rfl) ((Below.refl _ _).drew) ?_
        repeat (first
          | (refine add_skip rfl (fun K' hK' => ?_); go_simp; refine hK' _ ?_; clear hK' K')
          | (refine add_do (v := ?_) rfl (fun w1 hb => ?_) (fun K' hK' => ?_); rotate_left
             · go_simp
               first
               | (with_reducible exact rfl)
               | (with_reducible exact ⟨rfl, hb⟩)
               | (with_reducible exact (addCall (((HN.out w1).mono fun e w' ⟨a, b⟩ => ⟨a, by subst b; exact Below.refl _ _⟩)) hb).2)
               | exact (addCall (((HN.out w1).mono fun e w' ⟨a, b⟩ => ⟨a, by subst b; exact Below.refl _ _⟩)) hb).2
               | exact rfl
               | exact ⟨rfl, hb⟩
             go_simp; refine hK' _ ?_; clear hK' K'))
        refine add_nil ?_
        intro wa hba
        go_wp2_with fail
        go_ret
        exact ⟨ret_bool (HBad.out HF.out).symm, by have h2 := Hbw.out; (repeat (first | (with_reducible exact Below.refl _ _) | (with_reducible assumption) | (with_reducible refine below_al ?_) | (with_reducible refine below_dr ?_) | (with_reducible refine below_drN ?_) | (with_reducible refine below_set ?_ (by first | exact Nat.le_refl _ | (dsimp only; omega) | omega)) | (with_reducible refine below_tr (by with_reducible assumption) ?_)))⟩
      · rw [hA] at HN
        have hA' := inR_iff.1 hA
        obtain ⟨m, g2⟩ := Int.eq_ofNat_of_zero_le hA'.1
        have hm : m < ts.length := by omega
        obtain ⟨b4, off4, rfl, hlt4, ta, _, _, _⟩ := HT.out m hm
        have f2 := keepC ta
        by_cases i0 : 0 < k
        · have q3 := q1 i0
          obtain ⟨p1, p2⟩ := HIn.out (HI.out (by omega))
          obtain ⟨m', g3⟩ := Int.eq_ofNat_of_zero_le p1
          have hm' : m' < ts.length := by omega
          obtain ⟨_, _, tc, _⟩ := HT.out.pair rfl m' hm'
          have f3 := keepC tc
          obtain ⟨b5, off5, e5, hlt5, r0⟩ := HRp.out
          injection e5 with e5
          injection e5 with e6 e7
          subst e6 e7
          rw [g3] at r0
          have f4 := keepC r0
          have HEE := Lib.hid (HE.out m m' i0 g2 g3 hm hm')
          rw [g2] at c0 g0 HN
          cases hC : (ts[m'].c != ts[m].a)
          · have HF := Lib.hid (show rowAt ts row k = true from by rw [HEE.out]; simpa using hC)
            generalize ts[m].a = va at *
            generalize ts[m'].c = vc at *
            clear hA hA' q1 ta tc r0 p1 p2 g2 g3
            go_wp2_with fail
            clear c0
            refine wp_region_add (fun w' => Below (wr).heap.size (wr) w') (by kernel_rfl) (by kernel_rfl) ((Below.refl _ _).drew) ?_
            repeat (first
              | (refine add_skip rfl (fun K' hK' => ?_); go_simp; refine hK' _ ?_; clear hK' K')
              | (refine add_do (v := ?_) rfl (fun w1 hb => ?_) (fun K' hK' => ?_); rotate_left
                 · go_simp
                   first
                   | (with_reducible exact rfl)
                   | (with_reducible exact ⟨rfl, hb⟩)
                   | (with_reducible exact (addCall (((HN.out w1).mono fun e w' ⟨a, b⟩ => ⟨a, by subst b; exact Below.refl _ _⟩)) hb).2)
                   | exact (addCall (((HN.out w1).mono fun e w' ⟨a, b⟩ => ⟨a, by subst b; exact Below.refl _ _⟩)) hb).2
                   | exact rfl
                   | exact ⟨rfl, hb⟩
                 go_simp; refine hK' _ ?_; clear hK' K'))
            refine add_nil ?_
            intro wa hba
            go_wp2_with fail
            have Hba := Lib.hid hba
            refine wp_region_add (fun w' => Below (wr).heap.size (wr) w') (by kernel_rfl) (by kernel_rfl) (Hba.out.drew) ?_
            repeat (first
              | (refine add_skip rfl (fun K' hK' => ?_); go_simp; refine hK' _ ?_; clear hK' K')
              | (refine add_do (v := ?_) rfl (fun w1 hb => ?_) (fun K' hK' => ?_); rotate_left
                 · go_simp
                   first
                   | (with_reducible exact rfl)
                   | (with_reducible exact ⟨rfl, hb⟩)
                   | exact rfl
                   | exact ⟨rfl, hb⟩
                 go_simp; refine hK' _ ?_; clear hK' K'))
            refine add_nil ?_
            intro wa hba
            go_wp2
            go_roundw
            case rel => exact ⟨k + 1, by omega, by go_num, fun j hj => by
              by_cases e : j = k
              · subst e; exact HF.out
              · exact Hn.out j (by omega), by have h3 := Hb3.out; exact h3.trans (hba.mono (by omega))⟩
            case measure => simp [intOf]; omega
          · have HF := Lib.hid (show rowAt ts row k = false from by rw [HEE.out]; simpa using hC)
            generalize ts[m].a = va at *
            generalize ts[m'].c = vc at *
            clear hA hA' q1 ta tc r0 p1 p2 g2 g3
            go_wp2_with fail
            clear c0
            refine wp_region_add (fun w' => Below (wr).heap.size (wr) w') (by kernel_rfl) (by kernel_rfl) ((Below.refl _ _).drew) ?_
            repeat (first
              | (refine add_skip rfl (fun K' hK' => ?_); go_simp; refine hK' _ ?_; clear hK' K')
              | (refine add_do (v := ?_) rfl (fun w1 hb => ?_) (fun K' hK' => ?_); rotate_left
                 · go_simp
                   first
                   | (with_reducible exact rfl)
                   | (with_reducible exact ⟨rfl, hb⟩)
                   | (with_reducible exact (addCall (((HN.out w1).mono fun e w' ⟨a, b⟩ => ⟨a, by subst b; exact Below.refl _ _⟩)) hb).2)
                   | exact (addCall (((HN.out w1).mono fun e w' ⟨a, b⟩ => ⟨a, by subst b; exact Below.refl _ _⟩)) hb).2
                   | exact rfl
                   | exact ⟨rfl, hb⟩
                 go_simp; refine hK' _ ?_; clear hK' K'))
            refine add_nil ?_
            intro wa hba
            go_wp2_with fail
            have Hba := Lib.hid hba
            refine wp_region_add (fun w' => Below (wr).heap.size (wr) w') (by kernel_rfl) (by kernel_rfl) (Hba.out.drew) ?_
            repeat (first
              | (refine add_skip rfl (fun K' hK' => ?_); go_simp; refine hK' _ ?_; clear hK' K')
              | (refine add_do (v := ?_) rfl (fun w1 hb => ?_) (fun K' hK' => ?_); rotate_left
                 · go_simp
                   first
                   | (with_reducible exact rfl)
                   | (with_reducible exact ⟨rfl, hb⟩)
                   | exact rfl
                   | exact ⟨rfl, hb⟩
                 go_simp; refine hK' _ ?_; clear hK' K'))
            refine add_nil ?_
            intro wa hba
            go_wp2
            go_ret
            exact ⟨ret_bool (HBad.out HF.out).symm, by have h2 := Hbw.out; (repeat (first | (with_reducible exact Below.refl _ _) | (with_reducible assumption) | (with_reducible refine below_al ?_) | (with_reducible refine below_dr ?_) | (with_reducible refine below_drN ?_) | (with_reducible refine below_set ?_ (by first | exact Nat.le_refl _ | (dsimp only; omega) | omega)) | (with_reducible refine below_tr (by with_reducible assumption) ?_)))⟩
        · have HF : Hid (rowAt ts row k = true) := by
            obtain rfl : k = 0 := by omega
            exact (HE0.out h1).trans hA
          have i0' : decide (0 < k) = false := by simp; omega
          rw [g2] at c0 g0 HN
          clear hA hA' q1 ta g2
          go_wp2_with fail
          clear c0
          refine wp_region_add (fun w' => Below (wr).heap.size (wr) w') (by kernel_rfl) (by kernel_rfl) ((Below.refl _ _).drew) ?_
          repeat (first
            | (refine add_skip rfl (fun K' hK' => ?_); go_simp; refine hK' _ ?_; clear hK' K')
            | (refine add_do (v := ?_) rfl (fun w1 hb => ?_) (fun K' hK' => ?_); rotate_left
               · go_simp
                 first
                 | (with_reducible exact rfl)
                 | (with_reducible exact ⟨rfl, hb⟩)
                 | (with_reducible exact (addCall (((HN.out w1).mono fun e w' ⟨a, b⟩ => ⟨a, by subst b; exact Below.refl _ _⟩)) hb).2)
                 | exact (addCall (((HN.out w1).mono fun e w' ⟨a, b⟩ => ⟨a, by subst b; exact Below.refl _ _⟩)) hb).2
                 | exact rfl
                 | exact ⟨rfl, hb⟩
               go_simp; refine hK' _ ?_; clear hK' K'))
          refine add_nil ?_
          intro wa hba
          go_wp2_with fail
          have Hba := Lib.hid hba
          refine wp_region_add (fun w' => Below (wr).heap.size (wr) w') (by kernel_rfl) (by kernel_rfl) (Hba.out.drew) ?_
          repeat (first
            | (refine add_skip rfl (fun K' hK' => ?_); go_simp; refine hK' _ ?_; clear hK' K')
            | (refine add_do (v := ?_) rfl (fun w1 hb => ?_) (fun K' hK' => ?_); rotate_left
               · go_simp
                 first
                 | (with_reducible exact rfl)
                 | (with_reducible exact ⟨rfl, hb⟩)
                 | exact rfl
                 | exact ⟨rfl, hb⟩
               go_simp; refine hK' _ ?_; clear hK' K'))
          refine add_nil ?_
          intro wa hba
          go_wp2
          go_roundw
          case rel => exact ⟨k + 1, by omega, by go_num, fun j hj => by
            by_cases e : j = k
            · subst e; exact HF.out
            · exact Hn.out j (by omega), by have h3 := Hb3.out; exact h3.trans (hba.mono (by omega))⟩
          case measure => simp [intOf]; omega
    · have hfin := Lib.hid (rowAt_all (ts := ts) (row := row) (fun j hj => Hn.out j (by omega)))
      clear hT hR hb hbw d0 d1
      go_wp2
      go_ret
      exact ⟨ret_bool (by rw [hfin.out, HL.out]), Hbw.out⟩

end Go.Proofs.YtkgnejhflnekaaaGreat
