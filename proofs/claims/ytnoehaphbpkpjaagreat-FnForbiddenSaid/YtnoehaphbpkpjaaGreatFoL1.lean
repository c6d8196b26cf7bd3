/- Contracts and lemmas for the statements of this seat, written for this claim; each theorem states its own conditions. -/
import Derived.Test.YtnoehaphbpkpjaaGreatFoBk
set_option linter.unusedVariables false
set_option linter.unusedSimpArgs false
namespace Go.Proofs.YtnoehaphbpkpjaaGreat
open Go.RowKit
attribute [local go_sem] addUpon_value addUpon_skip addUpon_enter
/-- tile number i of a list is one of c colours, and comes behind the one ahead of it -/
def okAt (c : Int) (ts : List T4) (i : Nat) : Bool := isTileB (ts.getD i default) c && (i == 0 || decide (cmpT (ts.getD (i - 1) default) (ts.getD i default) < 0))
def isSetB (c : Int) (ts : List T4) : Bool := (List.range ts.length).all (okAt c ts) && inR 1 6 c && decide (ts.length ≤ 16)
theorem okAt_bad {c : Int} {ts : List T4} {k : Nat} (hk : k < ts.length) (h : okAt c ts k = false) : isSetB c ts = false := by
  unfold isSetB
  have : (List.range ts.length).all (okAt c ts) = false := by
    rw [List.all_eq_false]
    exact ⟨k, List.mem_range.2 hk, by simp [h]⟩
  simp [this]
theorem okAt_all {c : Int} {ts : List T4} (h : ∀ j, j < ts.length → okAt c ts j = true) : isSetB c ts = (inR 1 6 c && decide (ts.length ≤ 16)) := by
  unfold isSetB
  have : (List.range ts.length).all (okAt c ts) = true := by
    rw [List.all_eq_true]
    exact fun j hj => h j (List.mem_range.1 hj)
  simp [this]
theorem getD_at {α : Type} [Inhabited α] {ts : List α} {k : Nat} (hk : k < ts.length) : ts.getD k default = ts[k] := by simp [hk]
set_option maxRecDepth 100000 in
set_option maxHeartbeats 1000000 in
theorem isSet_c (c : Int) (ts : List T4) (A : Option Addr) (cx : Nat) (w : World) (hT : TileCells w A ts) (hl : ts.length ≤ 1000000000) :
    Calls Tryz.prog 88 #[.agg #[.int .i64 c, .slice A ts.length cx]] w fun e w' => e = .returned (.bool (isSetB c ts)) ∧ Below w.heap.size w w' := by
  go_enter Tryz.func88, Tryz.ntmps88
  go_wp2
  go_loopw [8] (fun i wr => ∃ k : Nat, k ≤ ts.length ∧ i = .int .i64 k ∧ Hid (∀ j, j < k → okAt c ts j = true) ∧ Below (w.heap.size + 1) (w.alloc (.cells #[.int .i64 c, .slice A ts.length cx] 32)) wr) (fun i _ => ts.length - (intOf i).toNat)
  case atStart => exact ⟨0, by omega, rfl, fun j hj => by omega, Below.refl _ _⟩
  case round =>
    obtain ⟨i, hi, rfl, Hn, hb⟩ := hrel
    have hbw : Below w.heap.size w wr := (((Below.refl w.heap.size w).alloc (Nat.le_refl _) _).trans (hb.mono (by omega)))
    have Hbw := Lib.hid hbw
    have d0 : wr.cell? ⟨w.heap.size, 0, none⟩ = some (.int .i64 c) := (hb.cell (p := ⟨w.heap.size, 0, none⟩) (by simp)).trans (by simp)
    have d1 : wr.cell? ⟨w.heap.size, 1, none⟩ = some (.slice A ts.length cx) := (hb.cell (p := ⟨w.heap.size, 1, none⟩) (by simp)).trans (by simp)
    have hN : w.heap.size < wr.heap.size := by have := hb.size; simp at this; omega
    by_cases h1 : i < ts.length
    · obtain ⟨b, off, rfl, hlt, c0, c1, c2, c3⟩ := (hT.below hbw) i h1
      have hprev := Lib.hid ((hT.below hbw).pair rfl (i - 1) (by omega))
      have HA := Lib.hid (fun w => isTile_c ts[i] c w)
      have HC := Lib.hid (fun w => compare_c ts[i - 1] ts[i] w)
      have q1 : 0 < i → IntKind.i64.wrap ((i : Int) - 1) = ((i - 1 : Nat) : Int) := fun hh => by rw [IntWalk.i64_in _ (by omega)]; omega
      have q2 : i - 1 < ts.length := by omega
      have Hok : Hid (okAt c ts i = (isTileB ts[i] c && (i == 0 || decide (cmpT ts[i-1] ts[i] < 0)))) := by unfold okAt; rw [getD_at h1, getD_at q2]; rfl
      have hB3 := Lib.hid (show Below (w.heap.size + 1) (w.alloc (.cells #[.int .i64 c, .slice (some ⟨b, off, none⟩) ts.length cx] 32)) wr from hb)
      clear hT hbw hb
      generalize hts : ts[i] = t at *
      generalize hts' : ts[i - 1] = s at *
      clear hts hts'
      cases hA : isTileB t c
      · rw [hA] at HA
        have HF := Lib.hid (show okAt c ts i = false from by rw [Hok.out, hA]; rfl)
        clear hA
        go_wp2_with fail
        generalize hW : wr.alloc (Obj.cells #[.int .i64 t.a, .int .i64 t.b, .int .i64 t.c, .int .i64 t.d] 30) = W
        have e0 := keepC (W := W) (b := wr.heap.size) (o := 0) (v := .int .i64 t.a) (by rw [← hW]; simp)
        have e1 := keepC (W := W) (b := wr.heap.size) (o := 1) (v := .int .i64 t.b) (by rw [← hW]; simp)
        have e2 := keepC (W := W) (b := wr.heap.size) (o := 2) (v := .int .i64 t.c) (by rw [← hW]; simp)
        have e3 := keepC (W := W) (b := wr.heap.size) (o := 3) (v := .int .i64 t.d) (by rw [← hW]; simp)
        have f0 := keepC (W := W) (b := w.heap.size) (o := 0) (v := .int .i64 c) (by rw [← hW]; exact cell_alloc_old _ _ _ _ _ d0)
        have f1 := keepC (W := W) (b := w.heap.size) (o := 1) (v := .slice (some ⟨b, off, none⟩) ts.length cx) (by rw [← hW]; exact cell_alloc_old _ _ _ _ _ d1)
        have hp := hprev.out
        have g0 := keepC (W := W) (by rw [← hW]; exact cell_alloc_old _ _ _ _ _ hp.1)
        have g1 := keepC (W := W) (by rw [← hW]; exact cell_alloc_old _ _ _ _ _ hp.2.1)
        have g2 := keepC (W := W) (by rw [← hW]; exact cell_alloc_old _ _ _ _ _ hp.2.2.1)
        have g3 := keepC (W := W) (by rw [← hW]; exact cell_alloc_old _ _ _ _ _ hp.2.2.2)
        have HW : Below wr.heap.size wr W := by rw [← hW]; exact below_al (Below.refl _ _)
        clear hp d0 d1 c0 c1 c2 c3 hW
        refine wp_region_add (fun w' => Below (W).heap.size (W) w') (by kernel_rfl) (by kernel_rfl) ((Below.refl _ _).drew) ?_
        repeat (first
          | (refine add_skip rfl (fun K' hK' => ?_); go_simp; refine hK' _ ?_; clear hK' K')
          | (refine add_do (v := ?_) rfl (fun w1 hb => ?_) (fun K' hK' => ?_); rotate_left
             · go_simp
               first
               | (with_reducible exact rfl)
               | (with_reducible exact ⟨rfl, hb⟩)
               | (with_reducible exact (addCall (HA.out w1) hb).2)
               | (with_reducible exact (addCall (HC.out w1) hb).2)
               | exact (addCall (HA.out w1) hb).2
               | exact (addCall (HC.out w1) hb).2
               | exact rfl
               | exact ⟨rfl, hb⟩
             go_simp; refine hK' _ ?_; clear hK' K'))
        refine add_nil ?_
        intro wa hba
        go_wp2
        go_ret
        exact ⟨ret_bool (okAt_bad h1 HF.out).symm, by have h2 := Hbw.out; (repeat (first | (with_reducible exact Below.refl _ _) | (with_reducible assumption) | (with_reducible refine below_al ?_) | (with_reducible refine below_dr ?_) | (with_reducible refine below_drN ?_) | (with_reducible refine below_set ?_ (by first | exact Nat.le_refl _ | (dsimp only; omega) | omega)) | (with_reducible refine below_tr (by with_reducible assumption) ?_)))⟩
      · rw [hA] at HA
        by_cases i0 : 0 < i
        · have q3 := q1 i0
          by_cases hC : cmpT s t < 0
          · have hc' : decide (0 ≤ cmpT s t) = false := by simp; omega
            have HF := Lib.hid (show okAt c ts i = true from by rw [Hok.out, hA]; simp [hC])
            clear hA q1 hC
            go_wp2_with fail
            generalize hW : wr.alloc (Obj.cells #[.int .i64 t.a, .int .i64 t.b, .int .i64 t.c, .int .i64 t.d] 30) = W
            have e0 := keepC (W := W) (b := wr.heap.size) (o := 0) (v := .int .i64 t.a) (by rw [← hW]; simp)
            have e1 := keepC (W := W) (b := wr.heap.size) (o := 1) (v := .int .i64 t.b) (by rw [← hW]; simp)
            have e2 := keepC (W := W) (b := wr.heap.size) (o := 2) (v := .int .i64 t.c) (by rw [← hW]; simp)
            have e3 := keepC (W := W) (b := wr.heap.size) (o := 3) (v := .int .i64 t.d) (by rw [← hW]; simp)
            have f0 := keepC (W := W) (b := w.heap.size) (o := 0) (v := .int .i64 c) (by rw [← hW]; exact cell_alloc_old _ _ _ _ _ d0)
            have f1 := keepC (W := W) (b := w.heap.size) (o := 1) (v := .slice (some ⟨b, off, none⟩) ts.length cx) (by rw [← hW]; exact cell_alloc_old _ _ _ _ _ d1)
            have hp := hprev.out
            have g0 := keepC (W := W) (by rw [← hW]; exact cell_alloc_old _ _ _ _ _ hp.1)
            have g1 := keepC (W := W) (by rw [← hW]; exact cell_alloc_old _ _ _ _ _ hp.2.1)
            have g2 := keepC (W := W) (by rw [← hW]; exact cell_alloc_old _ _ _ _ _ hp.2.2.1)
            have g3 := keepC (W := W) (by rw [← hW]; exact cell_alloc_old _ _ _ _ _ hp.2.2.2)
            have HW : Below wr.heap.size wr W := by rw [← hW]; exact below_al (Below.refl _ _)
            clear hp d0 d1 c0 c1 c2 c3 hW
            refine wp_region_add (fun w' => Below (W).heap.size (W) w') (by kernel_rfl) (by kernel_rfl) ((Below.refl _ _).drew) ?_
            repeat (first
              | (refine add_skip rfl (fun K' hK' => ?_); go_simp; refine hK' _ ?_; clear hK' K')
              | (refine add_do (v := ?_) rfl (fun w1 hb => ?_) (fun K' hK' => ?_); rotate_left
                 · go_simp
                   first
                   | (with_reducible exact rfl)
                   | (with_reducible exact ⟨rfl, hb⟩)
                   | (with_reducible exact (addCall (HA.out w1) hb).2)
                   | (with_reducible exact (addCall (HC.out w1) hb).2)
                   | exact (addCall (HA.out w1) hb).2
                   | exact (addCall (HC.out w1) hb).2
                   | exact rfl
                   | exact ⟨rfl, hb⟩
                 go_simp; refine hK' _ ?_; clear hK' K'))
            refine add_nil ?_
            intro wa hba
            go_wp2
            go_roundw
            case rel => exact ⟨i + 1, by omega, by go_num, fun j hj => by
              by_cases e : j = i
              · subst e; exact HF.out
              · exact Hn.out j (by omega), by have h3 := hB3.out; exact (h3.trans (HW.mono (by omega))).trans (hba.mono (by have := HW.size; omega))⟩
            case measure => simp [intOf]; omega
          · have hc' : decide (0 ≤ cmpT s t) = true := by simp; omega
            have HF := Lib.hid (show okAt c ts i = false from by rw [Hok.out, hA]; simp [hC]; omega)
            clear hA q1 hC
            go_wp2_with fail
            generalize hW : wr.alloc (Obj.cells #[.int .i64 t.a, .int .i64 t.b, .int .i64 t.c, .int .i64 t.d] 30) = W
            have e0 := keepC (W := W) (b := wr.heap.size) (o := 0) (v := .int .i64 t.a) (by rw [← hW]; simp)
            have e1 := keepC (W := W) (b := wr.heap.size) (o := 1) (v := .int .i64 t.b) (by rw [← hW]; simp)
            have e2 := keepC (W := W) (b := wr.heap.size) (o := 2) (v := .int .i64 t.c) (by rw [← hW]; simp)
            have e3 := keepC (W := W) (b := wr.heap.size) (o := 3) (v := .int .i64 t.d) (by rw [← hW]; simp)
            have f0 := keepC (W := W) (b := w.heap.size) (o := 0) (v := .int .i64 c) (by rw [← hW]; exact cell_alloc_old _ _ _ _ _ d0)
            have f1 := keepC (W := W) (b := w.heap.size) (o := 1) (v := .slice (some ⟨b, off, none⟩) ts.length cx) (by rw [← hW]; exact cell_alloc_old _ _ _ _ _ d1)
            have hp := hprev.out
            have g0 := keepC (W := W) (by rw [← hW]; exact cell_alloc_old _ _ _ _ _ hp.1)
            have g1 := keepC (W := W) (by rw [← hW]; exact cell_alloc_old _ _ _ _ _ hp.2.1)
            have g2 := keepC (W := W) (by rw [← hW]; exact cell_alloc_old _ _ _ _ _ hp.2.2.1)
            have g3 := keepC (W := W) (by rw [← hW]; exact cell_alloc_old _ _ _ _ _ hp.2.2.2)
            have HW : Below wr.heap.size wr W := by rw [← hW]; exact below_al (Below.refl _ _)
            clear hp d0 d1 c0 c1 c2 c3 hW
            refine wp_region_add (fun w' => Below (W).heap.size (W) w') (by kernel_rfl) (by kernel_rfl) ((Below.refl _ _).drew) ?_
            repeat (first
              | (refine add_skip rfl (fun K' hK' => ?_); go_simp; refine hK' _ ?_; clear hK' K')
              | (refine add_do (v := ?_) rfl (fun w1 hb => ?_) (fun K' hK' => ?_); rotate_left
                 · go_simp
                   first
                   | (with_reducible exact rfl)
                   | (with_reducible exact ⟨rfl, hb⟩)
                   | (with_reducible exact (addCall (HA.out w1) hb).2)
                   | (with_reducible exact (addCall (HC.out w1) hb).2)
                   | exact (addCall (HA.out w1) hb).2
                   | exact (addCall (HC.out w1) hb).2
                   | exact rfl
                   | exact ⟨rfl, hb⟩
                 go_simp; refine hK' _ ?_; clear hK' K'))
            refine add_nil ?_
            intro wa hba
            go_wp2
            go_ret
            exact ⟨ret_bool (okAt_bad h1 HF.out).symm, by have h2 := Hbw.out; (repeat (first | (with_reducible exact Below.refl _ _) | (with_reducible assumption) | (with_reducible refine below_al ?_) | (with_reducible refine below_dr ?_) | (with_reducible refine below_drN ?_) | (with_reducible refine below_set ?_ (by first | exact Nat.le_refl _ | (dsimp only; omega) | omega)) | (with_reducible refine below_tr (by with_reducible assumption) ?_)))⟩
        · have HF := Lib.hid (show okAt c ts i = true from by rw [Hok.out, hA]; simp; omega)
          have i0' : decide (0 < i) = false := by simp; omega
          clear hA q1
          go_wp2_with fail
          generalize hW : wr.alloc (Obj.cells #[.int .i64 t.a, .int .i64 t.b, .int .i64 t.c, .int .i64 t.d] 30) = W
          have e0 := keepC (W := W) (b := wr.heap.size) (o := 0) (v := .int .i64 t.a) (by rw [← hW]; simp)
          have e1 := keepC (W := W) (b := wr.heap.size) (o := 1) (v := .int .i64 t.b) (by rw [← hW]; simp)
          have e2 := keepC (W := W) (b := wr.heap.size) (o := 2) (v := .int .i64 t.c) (by rw [← hW]; simp)
          have e3 := keepC (W := W) (b := wr.heap.size) (o := 3) (v := .int .i64 t.d) (by rw [← hW]; simp)
          have f0 := keepC (W := W) (b := w.heap.size) (o := 0) (v := .int .i64 c) (by rw [← hW]; exact cell_alloc_old _ _ _ _ _ d0)
          have f1 := keepC (W := W) (b := w.heap.size) (o := 1) (v := .slice (some ⟨b, off, none⟩) ts.length cx) (by rw [← hW]; exact cell_alloc_old _ _ _ _ _ d1)
          have hp := hprev.out
          have g0 := keepC (W := W) (by rw [← hW]; exact cell_alloc_old _ _ _ _ _ hp.1)
          have g1 := keepC (W := W) (by rw [← hW]; exact cell_alloc_old _ _ _ _ _ hp.2.1)
          have g2 := keepC (W := W) (by rw [← hW]; exact cell_alloc_old _ _ _ _ _ hp.2.2.1)
          have g3 := keepC (W := W) (by rw [← hW]; exact cell_alloc_old _ _ _ _ _ hp.2.2.2)
          have HW : Below wr.heap.size wr W := by rw [← hW]; exact below_al (Below.refl _ _)
          clear hp d0 d1 c0 c1 c2 c3 hW
          refine wp_region_add (fun w' => Below (W).heap.size (W) w') (by kernel_rfl) (by kernel_rfl) ((Below.refl _ _).drew) ?_
          repeat (first
            | (refine add_skip rfl (fun K' hK' => ?_); go_simp; refine hK' _ ?_; clear hK' K')
            | (refine add_do (v := ?_) rfl (fun w1 hb => ?_) (fun K' hK' => ?_); rotate_left
               · go_simp
                 first
                 | (with_reducible exact rfl)
                 | (with_reducible exact ⟨rfl, hb⟩)
                 | (with_reducible exact (addCall (HA.out w1) hb).2)
                 | (with_reducible exact (addCall (HC.out w1) hb).2)
                 | exact (addCall (HA.out w1) hb).2
                 | exact (addCall (HC.out w1) hb).2
                 | exact rfl
                 | exact ⟨rfl, hb⟩
               go_simp; refine hK' _ ?_; clear hK' K'))
          refine add_nil ?_
          intro wa hba
          go_wp2
          go_roundw
          case rel => exact ⟨i + 1, by omega, by go_num, fun j hj => by
            by_cases e : j = i
            · subst e; exact HF.out
            · exact Hn.out j (by omega), by have h3 := hB3.out; exact (h3.trans (HW.mono (by omega))).trans (hba.mono (by have := HW.size; omega))⟩
          case measure => simp [intOf]; omega
    · have hfin := Lib.hid (okAt_all (c := c) (ts := ts) (fun j hj => Hn.out j (by omega)))
      have HR := Lib.hid (fun w => within_c c 1 6 w)
      clear hT hb hbw
      cases hR : inR 1 6 c
      · rw [hR] at HR hfin
        clear hR
        go_wp2_with (go_at_call 29; refine (HR.out _).mono ?_; rintro e w' ⟨rfl, rfl⟩)
        go_ret
        exact ⟨ret_bool (by rw [hfin.out]; rfl), Hbw.out⟩
      · rw [hR] at HR hfin
        clear hR
        go_wp2_with (go_at_call 29; refine (HR.out _).mono ?_; rintro e w' ⟨rfl, rfl⟩)
        go_ret
        exact ⟨ret_bool (by rw [hfin.out]; simp; omega), Hbw.out⟩
set_option maxRecDepth 100000 in
set_option maxHeartbeats 1000000 in
theorem l01In_c (n lo hi : Int) (w : World) :
    Calls Tryz.prog 34 #[.int .i64 n, .int .i64 lo, .int .i64 hi] w fun e w' => e = .returned (.bool (inR lo hi n)) ∧ w = w' := by
  by_cases h : lo ≤ n
  · have h' : decide (lo ≤ n) = true := by simpa using h
    clear h
    go_enter Tryz.func34, Tryz.ntmps34
    go_wp2
    go_ret
    exact ⟨by have := of_decide_eq_true h'; simp [inR, this], rfl⟩
  · have h' : decide (lo ≤ n) = false := by simpa using h
    clear h
    go_enter Tryz.func34, Tryz.ntmps34
    go_wp2
    go_ret
    exact ⟨by have := of_decide_eq_false h'; simp [inR, this], rfl⟩
set_option maxRecDepth 100000 in
set_option maxHeartbeats 1000000 in
theorem l01Tile_c (t : T4) (c : Int) (w : World) :
    Calls Tryz.prog 35 #[.int .i64 c, .agg #[.int .i64 t.a, .int .i64 t.b, .int .i64 t.c, .int .i64 t.d]] w fun e w' => e = .returned (.bool (isTileB t c)) ∧ Below w.heap.size w w' := by
  have hr : isTileB t c = (inR 0 (wrap64 (c - 1)) t.a && (inR 0 (wrap64 (c - 1)) t.b && (inR 0 (wrap64 (c - 1)) t.c && inR 0 (wrap64 (c - 1)) t.d))) := by simp [isTileB, T4.l]
  have HR := Lib.hid hr
  clear hr
  have Ha := Lib.hid (fun w => l01In_c t.a 0 (wrap64 (c - 1)) w)
  have Hb := Lib.hid (fun w => l01In_c t.b 0 (wrap64 (c - 1)) w)
  have Hc := Lib.hid (fun w => l01In_c t.c 0 (wrap64 (c - 1)) w)
  have Hd := Lib.hid (fun w => l01In_c t.d 0 (wrap64 (c - 1)) w)
  generalize inR 0 (wrap64 (c - 1)) t.a = p at *
  generalize inR 0 (wrap64 (c - 1)) t.b = q at *
  generalize inR 0 (wrap64 (c - 1)) t.c = r at *
  generalize inR 0 (wrap64 (c - 1)) t.d = s at *
  cases p
  · go_enter Tryz.func35, Tryz.ntmps35
    go_wp2
    refine wp_loop_rounds 5 ?_
    rw [rounds_succ]
    go_wp2_with fail
    refine (Ha.out _).mono ?_
    rintro e w' ⟨rfl, rfl⟩
    go_wp2_with fail
    try (rw [rounds_succ]; go_wp2_with fail)
    go_ret
    exact ⟨ret_bool HR.out.symm, by (repeat (first | (with_reducible exact Below.refl _ _) | (with_reducible assumption) | (with_reducible refine below_al ?_) | (with_reducible refine below_dr ?_) | (with_reducible refine below_drN ?_) | (with_reducible refine below_set ?_ (by first | exact Nat.le_refl _ | (dsimp only; omega) | omega)) | (with_reducible refine below_tr (by with_reducible assumption) ?_)))⟩
  · cases q
    · go_enter Tryz.func35, Tryz.ntmps35
      go_wp2
      refine wp_loop_rounds 5 ?_
      rw [rounds_succ]
      go_wp2_with fail
      refine (Ha.out _).mono ?_
      rintro e w' ⟨rfl, rfl⟩
      go_wp2_with fail
      try (rw [rounds_succ]; go_wp2_with fail)
      refine (Hb.out _).mono ?_
      rintro e w' ⟨rfl, rfl⟩
      go_wp2_with fail
      try (rw [rounds_succ]; go_wp2_with fail)
      go_ret
      exact ⟨ret_bool HR.out.symm, by (repeat (first | (with_reducible exact Below.refl _ _) | (with_reducible assumption) | (with_reducible refine below_al ?_) | (with_reducible refine below_dr ?_) | (with_reducible refine below_drN ?_) | (with_reducible refine below_set ?_ (by first | exact Nat.le_refl _ | (dsimp only; omega) | omega)) | (with_reducible refine below_tr (by with_reducible assumption) ?_)))⟩
    · cases r
      · go_enter Tryz.func35, Tryz.ntmps35
        go_wp2
        refine wp_loop_rounds 5 ?_
        rw [rounds_succ]
        go_wp2_with fail
        refine (Ha.out _).mono ?_
        rintro e w' ⟨rfl, rfl⟩
        go_wp2_with fail
        try (rw [rounds_succ]; go_wp2_with fail)
        refine (Hb.out _).mono ?_
        rintro e w' ⟨rfl, rfl⟩
        go_wp2_with fail
        try (rw [rounds_succ]; go_wp2_with fail)
        refine (Hc.out _).mono ?_
        rintro e w' ⟨rfl, rfl⟩
        go_wp2_with fail
        try (rw [rounds_succ]; go_wp2_with fail)
        go_ret
        exact ⟨ret_bool HR.out.symm, by (repeat (first | (with_reducible exact Below.refl _ _) | (with_reducible assumption) | (with_reducible refine below_al ?_) | (with_reducible refine below_dr ?_) | (with_reducible refine below_drN ?_) | (with_reducible refine below_set ?_ (by first | exact Nat.le_refl _ | (dsimp only; omega) | omega)) | (with_reducible refine below_tr (by with_reducible assumption) ?_)))⟩
      · cases s
        all_goals
          go_enter Tryz.func35, Tryz.ntmps35
          go_wp2
          refine wp_loop_rounds 5 ?_
          rw [rounds_succ]
          go_wp2_with fail
          refine (Ha.out _).mono ?_
          rintro e w' ⟨rfl, rfl⟩
          go_wp2_with fail
          try (rw [rounds_succ]; go_wp2_with fail)
          refine (Hb.out _).mono ?_
          rintro e w' ⟨rfl, rfl⟩
          go_wp2_with fail
          try (rw [rounds_succ]; go_wp2_with fail)
          refine (Hc.out _).mono ?_
          rintro e w' ⟨rfl, rfl⟩
          go_wp2_with fail
          try (rw [rounds_succ]; go_wp2_with fail)
          refine (Hd.out _).mono ?_
          rintro e w' ⟨rfl, rfl⟩
          go_wp2_with fail
          try (rw [rounds_succ]; go_wp2_with fail)
          go_ret
          exact ⟨ret_bool HR.out.symm, by (repeat (first | (with_reducible exact Below.refl _ _) | (with_reducible assumption) | (with_reducible refine below_al ?_) | (with_reducible refine below_dr ?_) | (with_reducible refine below_drN ?_) | (with_reducible refine below_set ?_ (by first | exact Nat.le_refl _ | (dsimp only; omega) | omega)) | (with_reducible refine below_tr (by with_reducible assumption) ?_)))⟩
def ltT (s t : T4) : Bool := decide (cmpT s t < 0)
theorem ltT_a {s t : T4} (h : s.a ≠ t.a) : ltT s t = decide (s.a < t.a) := by
  unfold ltT cmpT T4.l
  by_cases h1 : s.a < t.a
  · simp [cmpL, cmpI, h1]
  · have : t.a < s.a := by omega
    simp [cmpL, cmpI, h1, this]
theorem ltT_b {s t : T4} (h0 : s.a = t.a) (h : s.b ≠ t.b) : ltT s t = decide (s.b < t.b) := by
  unfold ltT cmpT T4.l
  by_cases h1 : s.b < t.b
  · simp [cmpL, cmpI, h0, h1]
  · have : t.b < s.b := by omega
    simp [cmpL, cmpI, h0, h1, this]
theorem ltT_c {s t : T4} (h0 : s.a = t.a) (h0' : s.b = t.b) (h : s.c ≠ t.c) : ltT s t = decide (s.c < t.c) := by
  unfold ltT cmpT T4.l
  by_cases h1 : s.c < t.c
  · simp [cmpL, cmpI, h0, h0', h1]
  · have : t.c < s.c := by omega
    simp [cmpL, cmpI, h0, h0', h1, this]
theorem ltT_d {s t : T4} (h0 : s.a = t.a) (h0' : s.b = t.b) (h0'' : s.c = t.c) : ltT s t = decide (s.d < t.d) := by
  unfold ltT cmpT T4.l
  by_cases h1 : s.d < t.d
  · simp [cmpL, cmpI, h0, h0', h0'', h1]
  · by_cases h2 : t.d < s.d
    · simp [cmpL, cmpI, h0, h0', h0'', h1, h2]
    · simp [cmpL, cmpI, h0, h0', h0'', h1, h2]
set_option maxRecDepth 100000 in
set_option maxHeartbeats 1000000 in
theorem l01Before_c (s t : T4) (w : World) :
    Calls Tryz.prog 118 #[.agg #[.int .i64 s.a, .int .i64 s.b, .int .i64 s.c, .int .i64 s.d], .agg #[.int .i64 t.a, .int .i64 t.b, .int .i64 t.c, .int .i64 t.d]] w fun e w' => e = .returned (.bool (ltT s t)) ∧ Below w.heap.size w w' := by
  by_cases h1 : s.a = t.a
  · by_cases h2 : s.b = t.b
    · by_cases h3 : s.c = t.c
      · by_cases h4 : s.d = t.d
        · have hR := Lib.hid (show ltT s t = false from by rw [ltT_d h1 h2 h3]; simp; omega)
          replace h1 := bne_eq_false_iff_eq.2 h1
          replace h2 := bne_eq_false_iff_eq.2 h2
          replace h3 := bne_eq_false_iff_eq.2 h3
          replace h4 := bne_eq_false_iff_eq.2 h4
          go_enter Tryz.func118, Tryz.ntmps118
          go_wp2
          generalize hW : (w.alloc (Obj.cells #[.int .i64 s.a, .int .i64 s.b, .int .i64 s.c, .int .i64 s.d] 30)).alloc (Obj.cells #[.int .i64 t.a, .int .i64 t.b, .int .i64 t.c, .int .i64 t.d] 30) = W
          have e0 := keepC (W := W) (b := w.heap.size) (o := 0) (v := .int .i64 s.a) (by rw [← hW]; simp)
          have e1 := keepC (W := W) (b := w.heap.size) (o := 1) (v := .int .i64 s.b) (by rw [← hW]; simp)
          have e2 := keepC (W := W) (b := w.heap.size) (o := 2) (v := .int .i64 s.c) (by rw [← hW]; simp)
          have e3 := keepC (W := W) (b := w.heap.size) (o := 3) (v := .int .i64 s.d) (by rw [← hW]; simp)
          have f0 := keepC (W := W) (b := w.heap.size + 1) (o := 0) (v := .int .i64 t.a) (by rw [← hW]; simp)
          have f1 := keepC (W := W) (b := w.heap.size + 1) (o := 1) (v := .int .i64 t.b) (by rw [← hW]; simp)
          have f2 := keepC (W := W) (b := w.heap.size + 1) (o := 2) (v := .int .i64 t.c) (by rw [← hW]; simp)
          have f3 := keepC (W := W) (b := w.heap.size + 1) (o := 3) (v := .int .i64 t.d) (by rw [← hW]; simp)
          have HW : Below w.heap.size w W := by rw [← hW]; exact below_al (below_al (Below.refl _ _))
          have hba : Below W.heap.size W W := Below.refl _ _
          clear hW
          refine wp_loop_rounds 5 ?_
          rw [rounds_succ]
          go_wp2
          refine wp_region_add (fun w' => Below (W).heap.size (W) w') (by kernel_rfl) (by kernel_rfl) (hba.drew) ?_
          repeat (first
            | (refine add_skip rfl (fun K' hK' => ?_); go_simp; refine hK' _ ?_; clear hK' K')
            | (refine add_do (v := ?_) rfl (fun w1 hb => ?_) (fun K' hK' => ?_); rotate_left
               · go_simp
                 first
                 | (with_reducible exact rfl)
                 | (with_reducible exact ⟨rfl, hb⟩)
                 | exact rfl
                 | exact ⟨rfl, hb⟩
               go_simp; refine hK' _ ?_; clear hK' K'))
          refine add_nil ?_
          intro wa hba
          go_wp2
          try (rw [rounds_succ]; go_wp2)
          refine wp_region_add (fun w' => Below (W).heap.size (W) w') (by kernel_rfl) (by kernel_rfl) (hba.drew) ?_
          repeat (first
            | (refine add_skip rfl (fun K' hK' => ?_); go_simp; refine hK' _ ?_; clear hK' K')
            | (refine add_do (v := ?_) rfl (fun w1 hb => ?_) (fun K' hK' => ?_); rotate_left
               · go_simp
                 first
                 | (with_reducible exact rfl)
                 | (with_reducible exact ⟨rfl, hb⟩)
                 | exact rfl
                 | exact ⟨rfl, hb⟩
               go_simp; refine hK' _ ?_; clear hK' K'))
          refine add_nil ?_
          intro wa hba
          go_wp2
          try (rw [rounds_succ]; go_wp2)
          refine wp_region_add (fun w' => Below (W).heap.size (W) w') (by kernel_rfl) (by kernel_rfl) (hba.drew) ?_
          repeat (first
            | (refine add_skip rfl (fun K' hK' => ?_); go_simp; refine hK' _ ?_; clear hK' K')
            | (refine add_do (v := ?_) rfl (fun w1 hb => ?_) (fun K' hK' => ?_); rotate_left
               · go_simp
                 first
                 | (with_reducible exact rfl)
                 | (with_reducible exact ⟨rfl, hb⟩)
                 | exact rfl
                 | exact ⟨rfl, hb⟩
               go_simp; refine hK' _ ?_; clear hK' K'))
          refine add_nil ?_
          intro wa hba
          go_wp2
          try (rw [rounds_succ]; go_wp2)
          refine wp_region_add (fun w' => Below (W).heap.size (W) w') (by kernel_rfl) (by kernel_rfl) (hba.drew) ?_
          repeat (first
            | (refine add_skip rfl (fun K' hK' => ?_); go_simp; refine hK' _ ?_; clear hK' K')
            | (refine add_do (v := ?_) rfl (fun w1 hb => ?_) (fun K' hK' => ?_); rotate_left
               · go_simp
                 first
                 | (with_reducible exact rfl)
                 | (with_reducible exact ⟨rfl, hb⟩)
                 | exact rfl
                 | exact ⟨rfl, hb⟩
               go_simp; refine hK' _ ?_; clear hK' K'))
          refine add_nil ?_
          intro wa hba
          go_wp2
          try (rw [rounds_succ]; go_wp2)
          go_ret
          exact ⟨ret_bool hR.out.symm, by (repeat (first | (with_reducible exact Below.refl _ _) | (with_reducible assumption) | (with_reducible refine below_al ?_) | (with_reducible refine below_dr ?_) | (with_reducible refine below_drN ?_) | (with_reducible refine below_set ?_ (by first | exact Nat.le_refl _ | (dsimp only; omega) | omega)) | (with_reducible refine below_tr (by with_reducible assumption) ?_)))⟩
        · have hR := Lib.hid (ltT_d h1 h2 h3)
          replace h1 := bne_eq_false_iff_eq.2 h1
          replace h2 := bne_eq_false_iff_eq.2 h2
          replace h3 := bne_eq_false_iff_eq.2 h3
          replace h4 := bne_iff_ne.2 h4
          go_enter Tryz.func118, Tryz.ntmps118
          go_wp2
          generalize hW : (w.alloc (Obj.cells #[.int .i64 s.a, .int .i64 s.b, .int .i64 s.c, .int .i64 s.d] 30)).alloc (Obj.cells #[.int .i64 t.a, .int .i64 t.b, .int .i64 t.c, .int .i64 t.d] 30) = W
          have e0 := keepC (W := W) (b := w.heap.size) (o := 0) (v := .int .i64 s.a) (by rw [← hW]; simp)
          have e1 := keepC (W := W) (b := w.heap.size) (o := 1) (v := .int .i64 s.b) (by rw [← hW]; simp)
          have e2 := keepC (W := W) (b := w.heap.size) (o := 2) (v := .int .i64 s.c) (by rw [← hW]; simp)
          have e3 := keepC (W := W) (b := w.heap.size) (o := 3) (v := .int .i64 s.d) (by rw [← hW]; simp)
          have f0 := keepC (W := W) (b := w.heap.size + 1) (o := 0) (v := .int .i64 t.a) (by rw [← hW]; simp)
          have f1 := keepC (W := W) (b := w.heap.size + 1) (o := 1) (v := .int .i64 t.b) (by rw [← hW]; simp)
          have f2 := keepC (W := W) (b := w.heap.size + 1) (o := 2) (v := .int .i64 t.c) (by rw [← hW]; simp)
          have f3 := keepC (W := W) (b := w.heap.size + 1) (o := 3) (v := .int .i64 t.d) (by rw [← hW]; simp)
          have HW : Below w.heap.size w W := by rw [← hW]; exact below_al (below_al (Below.refl _ _))
          have hba : Below W.heap.size W W := Below.refl _ _
          clear hW
          refine wp_loop_rounds 5 ?_
          rw [rounds_succ]
          go_wp2
          refine wp_region_add (fun w' => Below (W).heap.size (W) w') (by kernel_rfl) (by kernel_rfl) (hba.drew) ?_
          repeat (first
            | (refine add_skip rfl (fun K' hK' => ?_); go_simp; refine hK' _ ?_; clear hK' K')
            | (refine add_do (v := ?_) rfl (fun w1 hb => ?_) (fun K' hK' => ?_); rotate_left
               · go_simp
                 first
                 | (with_reducible exact rfl)
                 | (with_reducible exact ⟨rfl, hb⟩)
                 | exact rfl
                 | exact ⟨rfl, hb⟩
               go_simp; refine hK' _ ?_; clear hK' K'))
          refine add_nil ?_
          intro wa hba
          go_wp2
          try (rw [rounds_succ]; go_wp2)
          refine wp_region_add (fun w' => Below (W).heap.size (W) w') (by kernel_rfl) (by kernel_rfl) (hba.drew) ?_
          repeat (first
            | (refine add_skip rfl (fun K' hK' => ?_); go_simp; refine hK' _ ?_; clear hK' K')
            | (refine add_do (v := ?_) rfl (fun w1 hb => ?_) (fun K' hK' => ?_); rotate_left
               · go_simp
                 first
                 | (with_reducible exact rfl)
                 | (with_reducible exact ⟨rfl, hb⟩)
                 | exact rfl
                 | exact ⟨rfl, hb⟩
               go_simp; refine hK' _ ?_; clear hK' K'))
          refine add_nil ?_
          intro wa hba
          go_wp2
          try (rw [rounds_succ]; go_wp2)
          refine wp_region_add (fun w' => Below (W).heap.size (W) w') (by kernel_rfl) (by kernel_rfl) (hba.drew) ?_
          repeat (first
            | (refine add_skip rfl (fun K' hK' => ?_); go_simp; refine hK' _ ?_; clear hK' K')
            | (refine add_do (v := ?_) rfl (fun w1 hb => ?_) (fun K' hK' => ?_); rotate_left
               · go_simp
                 first
                 | (with_reducible exact rfl)
                 | (with_reducible exact ⟨rfl, hb⟩)
                 | exact rfl
                 | exact ⟨rfl, hb⟩
               go_simp; refine hK' _ ?_; clear hK' K'))
          refine add_nil ?_
          intro wa hba
          go_wp2
          try (rw [rounds_succ]; go_wp2)
          refine wp_region_add (fun w' => Below (W).heap.size (W) w') (by kernel_rfl) (by kernel_rfl) (hba.drew) ?_
          repeat (first
            | (refine add_skip rfl (fun K' hK' => ?_); go_simp; refine hK' _ ?_; clear hK' K')
            | (refine add_do (v := ?_) rfl (fun w1 hb => ?_) (fun K' hK' => ?_); rotate_left
               · go_simp
                 first
                 | (with_reducible exact rfl)
                 | (with_reducible exact ⟨rfl, hb⟩)
                 | exact rfl
                 | exact ⟨rfl, hb⟩
               go_simp; refine hK' _ ?_; clear hK' K'))
          refine add_nil ?_
          intro wa hba
          go_wp2
          try (rw [rounds_succ]; go_wp2)
          refine wp_region_add (fun w' => Below (W).heap.size (W) w') (by kernel_rfl) (by kernel_rfl) (hba.drew) ?_
          repeat (first
            | (refine add_skip rfl (fun K' hK' => ?_); go_simp; refine hK' _ ?_; clear hK' K')
            | (refine add_do (v := ?_) rfl (fun w1 hb => ?_) (fun K' hK' => ?_); rotate_left
               · go_simp
                 first
                 | (with_reducible exact rfl)
                 | (with_reducible exact ⟨rfl, hb⟩)
                 | exact rfl
                 | exact ⟨rfl, hb⟩
               go_simp; refine hK' _ ?_; clear hK' K'))
          refine add_nil ?_
          intro wa hba
          go_wp2
          try (rw [rounds_succ]; go_wp2)
          go_ret
          exact ⟨ret_bool hR.out.symm, by (repeat (first | (with_reducible exact Below.refl _ _) | (with_reducible assumption) | (with_reducible refine below_al ?_) | (with_reducible refine below_dr ?_) | (with_reducible refine below_drN ?_) | (with_reducible refine below_set ?_ (by first | exact Nat.le_refl _ | (dsimp only; omega) | omega)) | (with_reducible refine below_tr (by with_reducible assumption) ?_)))⟩
      · have hR := Lib.hid (ltT_c h1 h2 h3)
        replace h1 := bne_eq_false_iff_eq.2 h1
        replace h2 := bne_eq_false_iff_eq.2 h2
        replace h3 := bne_iff_ne.2 h3
        go_enter Tryz.func118, Tryz.ntmps118
        go_wp2
        generalize hW : (w.alloc (Obj.cells #[.int .i64 s.a, .int .i64 s.b, .int .i64 s.c, .int .i64 s.d] 30)).alloc (Obj.cells #[.int .i64 t.a, .int .i64 t.b, .int .i64 t.c, .int .i64 t.d] 30) = W
        have e0 := keepC (W := W) (b := w.heap.size) (o := 0) (v := .int .i64 s.a) (by rw [← hW]; simp)
        have e1 := keepC (W := W) (b := w.heap.size) (o := 1) (v := .int .i64 s.b) (by rw [← hW]; simp)
        have e2 := keepC (W := W) (b := w.heap.size) (o := 2) (v := .int .i64 s.c) (by rw [← hW]; simp)
        have e3 := keepC (W := W) (b := w.heap.size) (o := 3) (v := .int .i64 s.d) (by rw [← hW]; simp)
        have f0 := keepC (W := W) (b := w.heap.size + 1) (o := 0) (v := .int .i64 t.a) (by rw [← hW]; simp)
        have f1 := keepC (W := W) (b := w.heap.size + 1) (o := 1) (v := .int .i64 t.b) (by rw [← hW]; simp)
        have f2 := keepC (W := W) (b := w.heap.size + 1) (o := 2) (v := .int .i64 t.c) (by rw [← hW]; simp)
        have f3 := keepC (W := W) (b := w.heap.size + 1) (o := 3) (v := .int .i64 t.d) (by rw [← hW]; simp)
        have HW : Below w.heap.size w W := by rw [← hW]; exact below_al (below_al (Below.refl _ _))
        have hba : Below W.heap.size W W := Below.refl _ _
        clear hW
        refine wp_loop_rounds 5 ?_
        rw [rounds_succ]
        go_wp2
        refine wp_region_add (fun w' => Below (W).heap.size (W) w') (by kernel_rfl) (by kernel_rfl) (hba.drew) ?_
        repeat (first
          | (refine add_skip rfl (fun K' hK' => ?_); go_simp; refine hK' _ ?_; clear hK' K')
          | (refine add_do (v := ?_) rfl (fun w1 hb => ?_) (fun K' hK' => ?_); rotate_left
             · go_simp
               first
               | (with_reducible exact rfl)
               | (with_reducible exact ⟨rfl, hb⟩)
               | exact rfl
               | exact ⟨rfl, hb⟩
             go_simp; refine hK' _ ?_; clear hK' K'))
        refine add_nil ?_
        intro wa hba
        go_wp2
        try (rw [rounds_succ]; go_wp2)
        refine wp_region_add (fun w' => Below (W).heap.size (W) w') (by kernel_rfl) (by kernel_rfl) (hba.drew) ?_
        repeat (first
          | (refine add_skip rfl (fun K' hK' => ?_); go_simp; refine hK' _ ?_; clear hK' K')
          | (refine add_do (v := ?_) rfl (fun w1 hb => ?_) (fun K' hK' => ?_); rotate_left
             · go_simp
               first
               | (with_reducible exact rfl)
               | (with_reducible exact ⟨rfl, hb⟩)
               | exact rfl
               | exact ⟨rfl, hb⟩
             go_simp; refine hK' _ ?_; clear hK' K'))
        refine add_nil ?_
        intro wa hba
        go_wp2
        try (rw [rounds_succ]; go_wp2)
        refine wp_region_add (fun w' => Below (W).heap.size (W) w') (by kernel_rfl) (by kernel_rfl) (hba.drew) ?_
        repeat (first
          | (refine add_skip rfl (fun K' hK' => ?_); go_simp; refine hK' _ ?_; clear hK' K')
          | (refine add_do (v := ?_) rfl (fun w1 hb => ?_) (fun K' hK' => ?_); rotate_left
             · go_simp
               first
               | (with_reducible exact rfl)
               | (with_reducible exact ⟨rfl, hb⟩)
               | exact rfl
               | exact ⟨rfl, hb⟩
             go_simp; refine hK' _ ?_; clear hK' K'))
        refine add_nil ?_
        intro wa hba
        go_wp2
        try (rw [rounds_succ]; go_wp2)
        refine wp_region_add (fun w' => Below (W).heap.size (W) w') (by kernel_rfl) (by kernel_rfl) (hba.drew) ?_
        repeat (first
          | (refine add_skip rfl (fun K' hK' => ?_); go_simp; refine hK' _ ?_; clear hK' K')
          | (refine add_do (v := ?_) rfl (fun w1 hb => ?_) (fun K' hK' => ?_); rotate_left
             · go_simp
               first
               | (with_reducible exact rfl)
               | (with_reducible exact ⟨rfl, hb⟩)
               | exact rfl
               | exact ⟨rfl, hb⟩
             go_simp; refine hK' _ ?_; clear hK' K'))
        refine add_nil ?_
        intro wa hba
        go_wp2
        try (rw [rounds_succ]; go_wp2)
        go_ret
        exact ⟨ret_bool hR.out.symm, by (repeat (first | (with_reducible exact Below.refl _ _) | (with_reducible assumption) | (with_reducible refine below_al ?_) | (with_reducible refine below_dr ?_) | (with_reducible refine below_drN ?_) | (with_reducible refine below_set ?_ (by first | exact Nat.le_refl _ | (dsimp only; omega) | omega)) | (with_reducible refine below_tr (by with_reducible assumption) ?_)))⟩
    · have hR := Lib.hid (ltT_b h1 h2)
      replace h1 := bne_eq_false_iff_eq.2 h1
      replace h2 := bne_iff_ne.2 h2
      go_enter Tryz.func118, Tryz.ntmps118
      go_wp2
      generalize hW : (w.alloc (Obj.cells #[.int .i64 s.a, .int .i64 s.b, .int .i64 s.c, .int .i64 s.d] 30)).alloc (Obj.cells #[.int .i64 t.a, .int .i64 t.b, .int .i64 t.c, .int .i64 t.d] 30) = W
      have e0 := keepC (W := W) (b := w.heap.size) (o := 0) (v := .int .i64 s.a) (by rw [← hW]; simp)
      have e1 := keepC (W := W) (b := w.heap.size) (o := 1) (v := .int .i64 s.b) (by rw [← hW]; simp)
      have e2 := keepC (W := W) (b := w.heap.size) (o := 2) (v := .int .i64 s.c) (by rw [← hW]; simp)
      have e3 := keepC (W := W) (b := w.heap.size) (o := 3) (v := .int .i64 s.d) (by rw [← hW]; simp)
      have f0 := keepC (W := W) (b := w.heap.size + 1) (o := 0) (v := .int .i64 t.a) (by rw [← hW]; simp)
      have f1 := keepC (W := W) (b := w.heap.size + 1) (o := 1) (v := .int .i64 t.b) (by rw [← hW]; simp)
      have f2 := keepC (W := W) (b := w.heap.size + 1) (o := 2) (v := .int .i64 t.c) (by rw [← hW]; simp)
      have f3 := keepC (W := W) (b := w.heap.size + 1) (o := 3) (v := .int .i64 t.d) (by rw [← hW]; simp)
      have HW : Below w.heap.size w W := by rw [← hW]; exact below_al (below_al (Below.refl _ _))
      have hba : Below W.heap.size W W := Below.refl _ _
      clear hW
      refine wp_loop_rounds 5 ?_
      rw [rounds_succ]
      go_wp2
      refine wp_region_add (fun w' => Below (W).heap.size (W) w') (by kernel_rfl) (by kernel_rfl) (hba.drew) ?_
      repeat (first
        | (refine add_skip rfl (fun K' hK' => ?_); go_simp; refine hK' _ ?_; clear hK' K')
        | (refine add_do (v := ?_) rfl (fun w1 hb => ?_) (fun K' hK' => ?_); rotate_left
           · go_simp
             first
             | (with_reducible exact rfl)
             | (with_reducible exact ⟨rfl, hb⟩)
             | exact rfl
             | exact ⟨rfl, hb⟩
           go_simp; refine hK' _ ?_; clear hK' K'))
      refine add_nil ?_
      intro wa hba
      go_wp2
      try (rw [rounds_succ]; go_wp2)
      refine wp_region_add (fun w' => Below (W).heap.size (W) w') (by kernel_rfl) (by kernel_rfl) (hba.drew) ?_
      repeat (first
        | (refine add_skip rfl (fun K' hK' => ?_); go_simp; refine hK' _ ?_; clear hK' K')
        | (refine add_do (v := ?_) rfl (fun w1 hb => ?_) (fun K' hK' => ?_); rotate_left
           · go_simp
             first
             | (with_reducible exact rfl)
             | (with_reducible exact ⟨rfl, hb⟩)
             | exact rfl
             | exact ⟨rfl, hb⟩
           go_simp; refine hK' _ ?_; clear hK' K'))
      refine add_nil ?_
      intro wa hba
      go_wp2
      try (rw [rounds_succ]; go_wp2)
      refine wp_region_add (fun w' => Below (W).heap.size (W) w') (by kernel_rfl) (by kernel_rfl) (hba.drew) ?_
      repeat (first
        | (refine add_skip rfl (fun K' hK' => ?_); go_simp; refine hK' _ ?_; clear hK' K')
        | (refine add_do (v := ?_) rfl (fun w1 hb => ?_) (fun K' hK' => ?_); rotate_left
           · go_simp
             first
             | (with_reducible exact rfl)
             | (with_reducible exact ⟨rfl, hb⟩)
             | exact rfl
             | exact ⟨rfl, hb⟩
           go_simp; refine hK' _ ?_; clear hK' K'))
      refine add_nil ?_
      intro wa hba
      go_wp2
      try (rw [rounds_succ]; go_wp2)
      go_ret
      exact ⟨ret_bool hR.out.symm, by (repeat (first | (with_reducible exact Below.refl _ _) | (with_reducible assumption) | (with_reducible refine below_al ?_) | (with_reducible refine below_dr ?_) | (with_reducible refine below_drN ?_) | (with_reducible refine below_set ?_ (by first | exact Nat.le_refl _ | (dsimp only; omega) | omega)) | (with_reducible refine below_tr (by with_reducible assumption) ?_)))⟩
  · have hR := Lib.hid (ltT_a h1)
    replace h1 := bne_iff_ne.2 h1
    go_enter Tryz.func118, Tryz.ntmps118
    go_wp2
    generalize hW : (w.alloc (Obj.cells #[.int .i64 s.a, .int .i64 s.b, .int .i64 s.c, .int .i64 s.d] 30)).alloc (Obj.cells #[.int .i64 t.a, .int .i64 t.b, .int .i64 t.c, .int .i64 t.d] 30) = W
    have e0 := keepC (W := W) (b := w.heap.size) (o := 0) (v := .int .i64 s.a) (by rw [← hW]; simp)
    have e1 := keepC (W := W) (b := w.heap.size) (o := 1) (v := .int .i64 s.b) (by rw [← hW]; simp)
    have e2 := keepC (W := W) (b := w.heap.size) (o := 2) (v := .int .i64 s.c) (by rw [← hW]; simp)
    have e3 := keepC (W := W) (b := w.heap.size) (o := 3) (v := .int .i64 s.d) (by rw [← hW]; simp)
    have f0 := keepC (W := W) (b := w.heap.size + 1) (o := 0) (v := .int .i64 t.a) (by rw [← hW]; simp)
    have f1 := keepC (W := W) (b := w.heap.size + 1) (o := 1) (v := .int .i64 t.b) (by rw [← hW]; simp)
    have f2 := keepC (W := W) (b := w.heap.size + 1) (o := 2) (v := .int .i64 t.c) (by rw [← hW]; simp)
    have f3 := keepC (W := W) (b := w.heap.size + 1) (o := 3) (v := .int .i64 t.d) (by rw [← hW]; simp)
    have HW : Below w.heap.size w W := by rw [← hW]; exact below_al (below_al (Below.refl _ _))
    have hba : Below W.heap.size W W := Below.refl _ _
    clear hW
    refine wp_loop_rounds 5 ?_
    rw [rounds_succ]
    go_wp2
    refine wp_region_add (fun w' => Below (W).heap.size (W) w') (by kernel_rfl) (by kernel_rfl) (hba.drew) ?_
    repeat (first
      | (refine add_skip rfl (fun K' hK' => ?_); go_simp; refine hK' _ ?_; clear hK' K')
      | (refine add_do (v := ?_) rfl (fun w1 hb => ?_) (fun K' hK' => ?_); rotate_left
         · go_simp
           first
           | (with_reducible exact rfl)
           | (with_reducible exact ⟨rfl, hb⟩)
           | exact rfl
           | exact ⟨rfl, hb⟩
         go_simp; refine hK' _ ?_; clear hK' K'))
    refine add_nil ?_
    intro wa hba
    go_wp2
    try (rw [rounds_succ]; go_wp2)
    refine wp_region_add (fun w' => Below (W).heap.size (W) w') (by kernel_rfl) (by kernel_rfl) (hba.drew) ?_
    repeat (first
      | (refine add_skip rfl (fun K' hK' => ?_); go_simp; refine hK' _ ?_; clear hK' K')
      | (refine add_do (v := ?_) rfl (fun w1 hb => ?_) (fun K' hK' => ?_); rotate_left
         · go_simp
           first
           | (with_reducible exact rfl)
           | (with_reducible exact ⟨rfl, hb⟩)
           | exact rfl
           | exact ⟨rfl, hb⟩
         go_simp; refine hK' _ ?_; clear hK' K'))
    refine add_nil ?_
    intro wa hba
    go_wp2
    try (rw [rounds_succ]; go_wp2)
    go_ret
    exact ⟨ret_bool hR.out.symm, by (repeat (first | (with_reducible exact Below.refl _ _) | (with_reducible assumption) | (with_reducible refine below_al ?_) | (with_reducible refine below_dr ?_) | (with_reducible refine below_drN ?_) | (with_reducible refine below_set ?_ (by first | exact Nat.le_refl _ | (dsimp only; omega) | omega)) | (with_reducible refine below_tr (by with_reducible assumption) ?_)))⟩
theorem isSetB_c {c : Int} {ts : List T4} (h : inR 1 6 c = false) : isSetB c ts = false := by simp [isSetB, h]
theorem isSetB_l {c : Int} {ts : List T4} (h : 16 < ts.length) : isSetB c ts = false := by
  have : decide (ts.length ≤ 16) = false := by simp; omega
  simp [isSetB, this]
theorem isSetB_all {c : Int} {ts : List T4} (h1 : inR 1 6 c = true) (h2 : ts.length ≤ 16) (h : ∀ j, j < ts.length → okAt c ts j = true) : isSetB c ts = true := by
  rw [okAt_all h, h1]; simp [h2]
theorem okAt_eq {c : Int} {ts : List T4} {i : Nat} (h1 : i < ts.length) (q2 : i - 1 < ts.length) : okAt c ts i = (isTileB ts[i] c && (i == 0 || ltT ts[i-1] ts[i])) := by
  unfold okAt ltT; rw [getD_at h1, getD_at q2]
set_option maxRecDepth 100000 in
set_option maxHeartbeats 1000000 in
theorem l01Is_c (c : Int) (ts : List T4) (A : Option Addr) (cx : Nat) (w : World) (hT : TileCells w A ts) (hl : ts.length ≤ 1000000000) :
    Calls Tryz.prog 89 #[.agg #[.int .i64 c, .slice A ts.length cx]] w fun e w' => e = .returned (.bool (isSetB c ts)) ∧ Below w.heap.size w w' := by
  have HI := Lib.hid (fun w => l01In_c c 1 6 w)
  cases hI : inR 1 6 c
  · rw [hI] at HI
    have hR := Lib.hid (isSetB_c (ts := ts) hI)
    clear hI hT
    go_enter Tryz.func89, Tryz.ntmps89
    go_wp2_with (go_at_call 34; refine (HI.out _).mono ?_; rintro e w' ⟨rfl, rfl⟩)
    go_ret
    exact ⟨ret_bool hR.out.symm, by (repeat (first | (with_reducible exact Below.refl _ _) | (with_reducible assumption) | (with_reducible refine below_al ?_) | (with_reducible refine below_dr ?_) | (with_reducible refine below_drN ?_) | (with_reducible refine below_set ?_ (by first | exact Nat.le_refl _ | (dsimp only; omega) | omega)) | (with_reducible refine below_tr (by with_reducible assumption) ?_)))⟩
  · rw [hI] at HI
    by_cases h16 : 16 < ts.length
    · have hR := Lib.hid (isSetB_l (c := c) h16)
      clear hI hT
      go_enter Tryz.func89, Tryz.ntmps89
      go_wp2_with (go_at_call 34; refine (HI.out _).mono ?_; rintro e w' ⟨rfl, rfl⟩)
      go_ret
      exact ⟨ret_bool hR.out.symm, by (repeat (first | (with_reducible exact Below.refl _ _) | (with_reducible assumption) | (with_reducible refine below_al ?_) | (with_reducible refine below_dr ?_) | (with_reducible refine below_drN ?_) | (with_reducible refine below_set ?_ (by first | exact Nat.le_refl _ | (dsimp only; omega) | omega)) | (with_reducible refine below_tr (by with_reducible assumption) ?_)))⟩
    · have HC := Lib.hid hI
      clear hI
      go_enter Tryz.func89, Tryz.ntmps89
      go_wp2_with (go_at_call 34; refine (HI.out _).mono ?_; rintro e w' ⟨rfl, rfl⟩)
      go_loopw [3] (fun i wr => ∃ k : Nat, k ≤ ts.length ∧ i = .int .i64 k ∧ Hid (∀ j, j < k → okAt c ts j = true) ∧ Below (w.heap.size + 1) (w.alloc (.cells #[.int .i64 c, .slice A ts.length cx] 32)) wr) (fun i _ => ts.length - (intOf i).toNat)
      case atStart => exact ⟨0, by omega, rfl, fun j hj => by omega, Below.refl _ _⟩
      case round =>
        obtain ⟨i, hi, rfl, Hn, hb⟩ := hrel
        have hbw : Below w.heap.size w wr := (((Below.refl w.heap.size w).alloc (Nat.le_refl _) _).trans (hb.mono (by omega)))
        have Hbw := Lib.hid hbw
        have d0 : wr.cell? ⟨w.heap.size, 0, none⟩ = some (.int .i64 c) := (hb.cell (p := ⟨w.heap.size, 0, none⟩) (by simp)).trans (by simp)
        have d1 : wr.cell? ⟨w.heap.size, 1, none⟩ = some (.slice A ts.length cx) := (hb.cell (p := ⟨w.heap.size, 1, none⟩) (by simp)).trans (by simp)
        have hN : w.heap.size < wr.heap.size := by have := hb.size; simp at this; omega
        by_cases h1 : i < ts.length
        · obtain ⟨b, off, rfl, hlt, c0, c1, c2, c3⟩ := (hT.below hbw) i h1
          have hprev := Lib.hid ((hT.below hbw).pair rfl (i - 1) (by omega))
          have HA := Lib.hid (fun w => l01Tile_c ts[i] c w)
          have HB := Lib.hid (fun w => l01Before_c ts[i - 1] ts[i] w)
          have q1 : 0 < i → IntKind.i64.wrap ((i : Int) - 1) = ((i - 1 : Nat) : Int) := fun hh => by rw [IntWalk.i64_in _ (by omega)]; omega
          have q2 : i - 1 < ts.length := by omega
          have Hok := Lib.hid (okAt_eq (c := c) h1 q2)
          have hB3 := Lib.hid (show Below (w.heap.size + 1) (w.alloc (.cells #[.int .i64 c, .slice (some ⟨b, off, none⟩) ts.length cx] 32)) wr from hb)
          clear hT hbw hb
          generalize hts : ts[i] = t at *
          generalize hts' : ts[i - 1] = s at *
          clear hts hts'
          cases hA : isTileB t c
          · rw [hA] at HA
            have HF := Lib.hid (show okAt c ts i = false from by rw [Hok.out, hA]; rfl)
            clear hA
            have e0 := keepC c0
            have e1 := keepC c1
            have e2 := keepC c2
            have e3 := keepC c3
            have f0 := keepC d0
            have f1 := keepC d1
            have hp := hprev.out
            have g0 := keepC hp.1
            have g1 := keepC hp.2.1
            have g2 := keepC hp.2.2.1
            have g3 := keepC hp.2.2.2
            clear hp c0 c1 c2 c3
            go_wp2_with fail
            clear d0 d1
            refine wp_region_add (fun w' => Below (wr).heap.size (wr) w') (by kernel_rfl) (by kernel_rfl) ((Below.refl _ _).drew) ?_
            repeat (first
              | (refine add_skip rfl (fun K' hK' => ?_); go_simp; refine hK' _ ?_; clear hK' K')
              | (refine add_do (v := ?_) rfl (fun w1 hb => ?_) (fun K' hK' => ?_); rotate_left
                 · go_simp
                   first
                   | (with_reducible exact rfl)
                   | (with_reducible exact ⟨rfl, hb⟩)
                   | (with_reducible exact (addCall (HA.out w1) hb).2)
                   | (with_reducible exact (addCall (HB.out w1) hb).2)
                   | exact (addCall (HA.out w1) hb).2
                   | exact (addCall (HB.out w1) hb).2
                   | exact rfl
                   | exact ⟨rfl, hb⟩
                 go_simp; refine hK' _ ?_; clear hK' K'))
            refine add_nil ?_
            intro wa hba
            go_wp2
            go_ret
            exact ⟨ret_bool (okAt_bad h1 HF.out).symm, by have h2 := Hbw.out; (repeat (first | (with_reducible exact Below.refl _ _) | (with_reducible assumption) | (with_reducible refine below_al ?_) | (with_reducible refine below_dr ?_) | (with_reducible refine below_drN ?_) | (with_reducible refine below_set ?_ (by first | exact Nat.le_refl _ | (dsimp only; omega) | omega)) | (with_reducible refine below_tr (by with_reducible assumption) ?_)))⟩
          · rw [hA] at HA
            by_cases i0 : 0 < i
            · have q3 := q1 i0
              have i1 : (i == 0) = false := by simp; omega
              cases hC : ltT s t
              · have HF := Lib.hid (show okAt c ts i = false from by rw [Hok.out, hA, hC, i1]; rfl)
                rw [hC] at HB
                clear hA q1 hC i1
                have e0 := keepC c0
                have e1 := keepC c1
                have e2 := keepC c2
                have e3 := keepC c3
                have f0 := keepC d0
                have f1 := keepC d1
                have hp := hprev.out
                have g0 := keepC hp.1
                have g1 := keepC hp.2.1
                have g2 := keepC hp.2.2.1
                have g3 := keepC hp.2.2.2
                clear hp c0 c1 c2 c3
                go_wp2_with fail
                clear d0 d1
                refine wp_region_add (fun w' => Below (wr).heap.size (wr) w') (by kernel_rfl) (by kernel_rfl) ((Below.refl _ _).drew) ?_
                repeat (first
                  | (refine add_skip rfl (fun K' hK' => ?_); go_simp; refine hK' _ ?_; clear hK' K')
                  | (refine add_do (v := ?_) rfl (fun w1 hb => ?_) (fun K' hK' => ?_); rotate_left
                     · go_simp
                       first
                       | (with_reducible exact rfl)
                       | (with_reducible exact ⟨rfl, hb⟩)
                       | (with_reducible exact (addCall (HA.out w1) hb).2)
                       | (with_reducible exact (addCall (HB.out w1) hb).2)
                       | exact (addCall (HA.out w1) hb).2
                       | exact (addCall (HB.out w1) hb).2
                       | exact rfl
                       | exact ⟨rfl, hb⟩
                     go_simp; refine hK' _ ?_; clear hK' K'))
                refine add_nil ?_
                intro wa hba
                go_wp2
                go_ret
                exact ⟨ret_bool (okAt_bad h1 HF.out).symm, by have h2 := Hbw.out; (repeat (first | (with_reducible exact Below.refl _ _) | (with_reducible assumption) | (with_reducible refine below_al ?_) | (with_reducible refine below_dr ?_) | (with_reducible refine below_drN ?_) | (with_reducible refine below_set ?_ (by first | exact Nat.le_refl _ | (dsimp only; omega) | omega)) | (with_reducible refine below_tr (by with_reducible assumption) ?_)))⟩
              · have HF := Lib.hid (show okAt c ts i = true from by rw [Hok.out, hA, hC]; simp)
                rw [hC] at HB
                clear hA q1 hC i1
                have e0 := keepC c0
                have e1 := keepC c1
                have e2 := keepC c2
                have e3 := keepC c3
                have f0 := keepC d0
                have f1 := keepC d1
                have hp := hprev.out
                have g0 := keepC hp.1
                have g1 := keepC hp.2.1
                have g2 := keepC hp.2.2.1
                have g3 := keepC hp.2.2.2
                clear hp c0 c1 c2 c3
                go_wp2_with fail
                clear d0 d1
                refine wp_region_add (fun w' => Below (wr).heap.size (wr) w') (by kernel_rfl) (by kernel_rfl) ((Below.refl _ _).drew) ?_
                repeat (first
                  | (refine add_skip rfl (fun K' hK' => ?_); go_simp; refine hK' _ ?_; clear hK' K')
                  | (refine add_do (v := ?_) rfl (fun w1 hb => ?_) (fun K' hK' => ?_); rotate_left
                     · go_simp
                       first
                       | (with_reducible exact rfl)
                       | (with_reducible exact ⟨rfl, hb⟩)
                       | (with_reducible exact (addCall (HA.out w1) hb).2)
                       | (with_reducible exact (addCall (HB.out w1) hb).2)
                       | exact (addCall (HA.out w1) hb).2
                       | exact (addCall (HB.out w1) hb).2
                       | exact rfl
                       | exact ⟨rfl, hb⟩
                     go_simp; refine hK' _ ?_; clear hK' K'))
                refine add_nil ?_
                intro wa hba
                go_wp2
                go_roundw
                case rel => exact ⟨i + 1, by omega, by go_num, fun j hj => by
                  by_cases e : j = i
                  · subst e; exact HF.out
                  · exact Hn.out j (by omega), by have h3 := hB3.out; exact h3.trans (hba.mono (by omega))⟩
                case measure => simp [intOf]; omega
            · have HF := Lib.hid (show okAt c ts i = true from by rw [Hok.out, hA]; simp; omega)
              have i0' : decide (0 < i) = false := by simp; omega
              clear hA q1
              have e0 := keepC c0
              have e1 := keepC c1
              have e2 := keepC c2
              have e3 := keepC c3
              have f0 := keepC d0
              have f1 := keepC d1
              have hp := hprev.out
              have g0 := keepC hp.1
              have g1 := keepC hp.2.1
              have g2 := keepC hp.2.2.1
              have g3 := keepC hp.2.2.2
              clear hp c0 c1 c2 c3
              go_wp2_with fail
              clear d0 d1
              refine wp_region_add (fun w' => Below (wr).heap.size (wr) w') (by kernel_rfl) (by kernel_rfl) ((Below.refl _ _).drew) ?_
              repeat (first
                | (refine add_skip rfl (fun K' hK' => ?_); go_simp; refine hK' _ ?_; clear hK' K')
                | (refine add_do (v := ?_) rfl (fun w1 hb => ?_) (fun K' hK' => ?_); rotate_left
                   · go_simp
                     first
                     | (with_reducible exact rfl)
                     | (with_reducible exact ⟨rfl, hb⟩)
                     | (with_reducible exact (addCall (HA.out w1) hb).2)
                     | (with_reducible exact (addCall (HB.out w1) hb).2)
                     | exact (addCall (HA.out w1) hb).2
                     | exact (addCall (HB.out w1) hb).2
                     | exact rfl
                     | exact ⟨rfl, hb⟩
                   go_simp; refine hK' _ ?_; clear hK' K'))
              refine add_nil ?_
              intro wa hba
              go_wp2
              go_roundw
              case rel => exact ⟨i + 1, by omega, by go_num, fun j hj => by
                by_cases e : j = i
                · subst e; exact HF.out
                · exact Hn.out j (by omega), by have h3 := hB3.out; exact h3.trans (hba.mono (by omega))⟩
              case measure => simp [intOf]; omega
        · have hfin := Lib.hid (isSetB_all HC.out (by omega) (fun j hj => Hn.out j (by omega)))
          clear hT hb hbw
          go_wp2
          go_ret
          exact ⟨ret_bool hfin.out.symm, Hbw.out⟩
end Go.Proofs.YtnoehaphbpkpjaaGreat
