/- Contracts and lemmas for the statements of this seat, written for this claim; each theorem states its own conditions. -/
import Derived.Test.YtfkmophmiiehlaaVpSe
set_option linter.unusedVariables false
set_option linter.unusedSimpArgs false
namespace Go.Proofs.Ytfkmophmiiehlaa
open Go.RowKit
attribute [local go_sem] addUpon_value addUpon_skip addUpon_enter
set_option maxRecDepth 100000 in
set_option maxHeartbeats 1000000 in
theorem toTile_c (t : T4) (w : World) :
    Calls Try.prog 32 #[.agg #[.int .i64 t.a, .int .i64 t.b, .int .i64 t.c, .int .i64 t.d]] w fun e w' => e = .returned (.agg #[.int .i64 t.a, .int .i64 t.b, .int .i64 t.c, .int .i64 t.d]) ∧ Below w.heap.size w w' := by
  go_enter Try.func32, Try.ntmps32
  go_wp2
  refine wp_loop_rounds 5 ?_
  rw [rounds_succ]
  go_wp2
  rw [rounds_succ]
  go_wp2
  rw [rounds_succ]
  go_wp2
  rw [rounds_succ]
  go_wp2
  rw [rounds_succ]
  go_wp2
  exact bodyPost_ret (v := .agg #[.int .i64 t.a, .int .i64 t.b, .int .i64 t.c, .int .i64 t.d]) (by simp [results, Try.results32, go_sem]) rfl ⟨rfl, by (repeat (first | (with_reducible exact Below.refl _ _) | (with_reducible assumption) | (with_reducible refine below_al ?_) | (with_reducible refine below_dr ?_) | (with_reducible refine below_drN ?_) | (with_reducible refine below_set ?_ (by first | exact Nat.le_refl _ | (dsimp only; omega) | omega)) | (with_reducible refine below_tr (by with_reducible assumption) ?_)))⟩
def szV (n : Nat) (left : Int) : Int := if left - n < 0 then -1 else left - n
set_option maxRecDepth 100000 in
set_option maxHeartbeats 1000000 in
theorem szTileS_c (A : Option Addr) (n cx : Nat) (left : Int) (w : World) (h0 : 0 ≤ left) (h1 : left ≤ 1048576) (hn : n ≤ 9223372036854775807) :
    Calls Try.prog 18 #[.slice A n cx, .int .i64 left] w fun e w' => e = .returned (.int .i64 (szV n left)) ∧ w = w' := by
  by_cases h : left - n < 0
  · have hr := Lib.hid (show szV n left = -1 from by unfold szV; rw [if_pos h])
    go_enter Try.func18, Try.ntmps18
    go_wp2
    go_ret
    exact ⟨ret_int hr.out.symm, rfl⟩
  · have hr := Lib.hid (show szV n left = left - n from by unfold szV; rw [if_neg h])
    go_enter Try.func18, Try.ntmps18
    go_wp2
    go_ret
    exact ⟨ret_int hr.out.symm, rfl⟩
set_option maxRecDepth 100000 in
set_option maxHeartbeats 1000000 in
theorem szSet_c (c : Int) (A : Option Addr) (n cx : Nat) (left : Int) (w : World) (h0 : 0 ≤ left) (h1 : left ≤ 1048576) (hn : n ≤ 9223372036854775807) :
    Calls Try.prog 9 #[.agg #[.int .i64 c, .slice A n cx], .int .i64 left] w fun e w' => e = .returned (.int .i64 (szV n left)) ∧ Below w.heap.size w w' := by
  by_cases h : left - n < 0
  · have hr : szV n left = -1 := by unfold szV; rw [if_pos h]
    have H := Lib.hid (fun w => szTileS_c A n cx left w h0 h1 hn)
    rw [hr] at H ⊢; clear hr h
    go_enter Try.func9, Try.ntmps9
    go_wp2_with (go_at_call 18; refine (H.out _).mono ?_; rintro e w' ⟨rfl, rfl⟩)
    go_ret
    exact ⟨rfl, by (repeat (first | (with_reducible exact Below.refl _ _) | (with_reducible assumption) | (with_reducible refine below_al ?_) | (with_reducible refine below_dr ?_) | (with_reducible refine below_drN ?_) | (with_reducible refine below_set ?_ (by first | exact Nat.le_refl _ | (dsimp only; omega) | omega)) | (with_reducible refine below_tr (by with_reducible assumption) ?_)))⟩
  · have hr : szV n left = left - n := by unfold szV; rw [if_neg h]
    have H := Lib.hid (fun w => szTileS_c A n cx left w h0 h1 hn)
    rw [hr] at H ⊢; clear hr
    have h2 : 0 ≤ left - n := by omega
    clear h
    go_enter Try.func9, Try.ntmps9
    go_wp2_with (go_at_call 18; refine (H.out _).mono ?_; rintro e w' ⟨rfl, rfl⟩)
    go_ret
    exact ⟨rfl, by (repeat (first | (with_reducible exact Below.refl _ _) | (with_reducible assumption) | (with_reducible refine below_al ?_) | (with_reducible refine below_dr ?_) | (with_reducible refine below_drN ?_) | (with_reducible refine below_set ?_ (by first | exact Nat.le_refl _ | (dsimp only; omega) | omega)) | (with_reducible refine below_tr (by with_reducible assumption) ?_)))⟩
theorem infoTile : (Try.prog.info? 57).map (fun i => (i.zero, i.size, i.bytes)) = some (some (.agg #[.int .i64 0, .int .i64 0, .int .i64 0, .int .i64 0]), 4, 32) := by kernel_rfl
set_option maxRecDepth 100000 in
set_option maxHeartbeats 1000000 in
theorem toTileS_c (ts : List T4) (A : Option Addr) (cx : Nat) (w : World) (hT : TileCells w A ts) (hl : ts.length ≤ 1048576) :
    Calls Try.prog 21 #[.slice A ts.length cx] w fun e w' => ∃ b, e = .returned (.slice (some ⟨b, 0, none⟩) ts.length ts.length) ∧ w.heap.size ≤ b ∧ Blk w' b (tcells ts) 57 ∧ Below w.heap.size w w' := by
  have hm := fun w => make_k (P := Try.prog) 29 57 _ 4 32 Try.underlying29 infoTile ts.length (by omega) (by omega) w
  go_enter Try.func21, Try.ntmps21
  go_wp2
  clear hm
  go_loopw [4] (fun i wr => ∃ k : Nat, k ≤ ts.length ∧ i = .int .i64 k ∧ Blk wr w.heap.size (tcells (ts.take k ++ List.replicate (ts.length - k) T4z)) 57 ∧ Below w.heap.size w wr) (fun i _ => ts.length - (intOf i).toNat)
  case atStart => exact ⟨0, by omega, rfl, by simp only [List.take_zero, List.nil_append, Nat.sub_zero]; rw [← madeCells_tiles]; exact Blk.newA _ _ _, by (repeat (first | (with_reducible exact Below.refl _ _) | (with_reducible assumption) | (with_reducible refine below_al ?_) | (with_reducible refine below_dr ?_) | (with_reducible refine below_drN ?_) | (with_reducible refine below_set ?_ (by first | exact Nat.le_refl _ | (dsimp only; omega) | omega)) | (with_reducible refine below_tr (by with_reducible assumption) ?_)))⟩
  case round =>
    obtain ⟨k, hk, rfl, hB, hb⟩ := hrel
    have HB := Lib.hid hB
    by_cases h1 : k < ts.length
    · obtain ⟨b, off, rfl, hlt, c0, c1, c2, c3⟩ := (hT.below hb) k h1
      have HS := Lib.hid (take_rep_set ts T4z k h1)
      obtain ⟨r0, r1, r2, r3⟩ := hB.tile k (by simp; omega)
      have z0 := hB.frozen (k * 4)
      have z1 := hB.frozen (k * 4 + 1)
      have z2 := hB.frozen (k * 4 + 2)
      have z3 := hB.frozen (k * 4 + 3)
      have hk4 : k < (ts.take k ++ List.replicate (ts.length - k) T4z).length := by simp; omega
      have Hk4 := Lib.hid hk4
      have HT := Lib.hid hT
      have Hbb := Lib.hid hb
      clear hB hT hk4 hb
      generalize hts : ts[k] = t at *
      clear hts
      have hlt0 := HB.out.lt
      go_wp2_with (go_at_call 32; refine (toTile_c t _).mono ?_; rintro e w1 ⟨rfl, hb1⟩; have Hb1 := Lib.hid hb1; obtain ⟨hc1, hf1⟩ := bcell hb1)
      go_roundw
      case rel => exact ⟨k + 1, by omega, by go_num, by rw [← HS.out]; exact (HB.out.under Hb1.out).setTile k Hk4.out t,
        ((((Hbb.out.trans (Hb1.out.mono (by omega))).setCell (Nat.le_refl _) _).setCell (Nat.le_refl _) _).setCell (Nat.le_refl _) _).setCell (Nat.le_refl _) _⟩
      case measure => simp [intOf]; omega
    · obtain rfl : k = ts.length := by omega
      clear hB
      go_wp2
      go_ret
      exact ⟨_, rfl, Nat.le_refl _, by have := HB.out; simpa using this, hb⟩
set_option maxRecDepth 100000 in
set_option maxHeartbeats 1000000 in
theorem toSet_c (c : Int) (ts : List T4) (A : Option Addr) (cx : Nat) (w : World) (hT : TileCells w A ts) (hl : ts.length ≤ 1048576) :
    Calls Try.prog 11 #[.agg #[.int .i64 c, .slice A ts.length cx]] w fun e w' => ∃ b, e = .returned (.agg #[.int .i64 c, .slice (some ⟨b, 0, none⟩) ts.length ts.length]) ∧ w.heap.size ≤ b ∧ Blk w' b (tcells ts) 57 ∧ Below w.heap.size w w' := by
  have HT := Lib.hid hT
  clear hT
  go_enter Try.func11, Try.ntmps11
  go_wp2_with fail
  refine (toTileS_c ts A cx _ ((HT.out.below (by (repeat (first | (with_reducible exact Below.refl _ _) | (with_reducible assumption) | (with_reducible refine below_al ?_) | (with_reducible refine below_dr ?_) | (with_reducible refine below_drN ?_) | (with_reducible refine below_set ?_ (by first | exact Nat.le_refl _ | (dsimp only; omega) | omega)) | (with_reducible refine below_tr (by with_reducible assumption) ?_)))))) hl).mono ?_
  rintro e w1 ⟨b, rfl, hle, hB, hb1⟩
  have HB := Lib.hid hB
  have Hb1 := Lib.hid hb1
  obtain ⟨hc1, hf1⟩ := bcell hb1
  clear hB hb1
  have hle' : w.heap.size + 3 ≤ b := by simpa using hle
  go_wp2
  refine bodyPost_ret (v := .agg #[.int .i64 c, .slice (some ⟨b, 0, none⟩) ts.length ts.length]) (by simp [results, Try.results11, go_sem, hc1]) rfl ⟨b, rfl, by omega, ?_, ?_⟩
  · exact ((HB.out.other (by dsimp only; omega) _).other (by dsimp only; omega) _).other (by dsimp only; omega) _
  · have hb1 := Hb1.out
    (repeat (first | (with_reducible exact Below.refl _ _) | (with_reducible assumption) | (with_reducible refine below_al ?_) | (with_reducible refine below_dr ?_) | (with_reducible refine below_drN ?_) | (with_reducible refine below_set ?_ (by first | exact Nat.le_refl _ | (dsimp only; omega) | omega)) | (with_reducible refine below_tr (by with_reducible assumption) ?_)))
def eqTs (xs ys : List T4) : Bool := decide (xs = ys)
theorem eqTs_len {xs ys : List T4} (h : xs.length ≠ ys.length) : eqTs xs ys = false := by
  simp only [eqTs, decide_eq_false_iff_not]; intro e; exact h (by rw [e])
theorem eqTs_bad {xs ys : List T4} {k : Nat} (h1 : k < xs.length) (h2 : k < ys.length) (h : eqT xs[k] ys[k] = false) : eqTs xs ys = false := by
  simp only [eqTs, decide_eq_false_iff_not]; intro e; subst e; simp [eqT] at h
theorem eqTs_all {xs ys : List T4} (hl : xs.length = ys.length) (h : ∀ j (h1 : j < xs.length) (h2 : j < ys.length), eqT xs[j] ys[j] = true) : eqTs xs ys = true := by
  simp only [eqTs, decide_eq_true_eq]
  exact List.ext_getElem hl fun j h1 h2 => eqT_iff.1 (h j h1 h2)
set_option maxRecDepth 100000 in
set_option maxHeartbeats 1000000 in
theorem eqTileS_c (xs ys : List T4) (A B : Option Addr) (cx cy : Nat) (w : World) (hx : TileCells w A xs) (hy : TileCells w B ys) (lx : xs.length ≤ 1000000000) (ly : ys.length ≤ 1000000000) :
    Calls Try.prog 25 #[.slice A xs.length cx, .slice B ys.length cy] w fun e w' => e = .returned (.bool (eqTs xs ys)) ∧ Below w.heap.size w w' := by
  by_cases hl : xs.length = ys.length
  · have HL := Lib.hid hl
    have hl' : ((xs.length : Int) != (ys.length : Int)) = false := by simp; omega
    have hl2 : ys.length ≤ xs.length := by omega
    have hl3 : xs.length ≤ ys.length := by omega
    clear hl
    go_enter Try.func25, Try.ntmps25
    go_wp2
    go_loopw [5] (fun i wr => ∃ k : Nat, k ≤ xs.length ∧ i = .int .i64 k ∧ Hid (∀ j (h1 : j < xs.length) (h2 : j < ys.length), j < k → eqT xs[j] ys[j] = true) ∧ Below w.heap.size w wr) (fun i _ => xs.length - (intOf i).toNat)
    case atStart => exact ⟨0, by omega, rfl, fun j _ _ h => by omega, Below.refl _ _⟩
    case round =>
      obtain ⟨k, hk, rfl, Hn, hb⟩ := hrel
      have Hb := Lib.hid hb
      by_cases h1 : k < xs.length
      · have h2 : k < ys.length := by omega
        obtain ⟨b, off, rfl, hlt, c0, c1, c2, c3⟩ := (hx.below hb) k h1
        obtain ⟨b', off', rfl, hlt', d0, d1, d2, d3⟩ := (hy.below hb) k h2
        have HA := Lib.hid (fun w => eqTile_c xs[k] ys[k] w)
        have HF : Hid (∀ r, eqT xs[k] ys[k] = r → eqT xs[k] ys[k] = r) := fun r h => h
        cases hE : eqT xs[k] ys[k]
        · have HE := Lib.hid (eqTs_bad h1 h2 hE)
          rw [hE] at HA
          clear hE HF hx hy hb
          generalize xs[k] = s at *
          generalize ys[k] = t at *
          have e0 := keepC c0
          have e1 := keepC c1
          have e2 := keepC c2
          have e3 := keepC c3
          have f0 := keepC d0
          have f1 := keepC d1
          have f2 := keepC d2
          have f3 := keepC d3
          clear c0 c1 c2 c3 d0 d1 d2 d3
          go_wp2_with fail
          refine wp_region_add (fun w' => Below (wr).heap.size (wr) w') (by kernel_rfl) (by kernel_rfl) ((Below.refl _ _).drew) ?_
          repeat (first
            | (refine add_skip rfl (fun K' hK' => ?_); go_simp; refine hK' _ ?_; clear hK' K')
            | (refine add_do (v := ?_) rfl (fun w1 hb => ?_) (fun K' hK' => ?_); rotate_left
               · go_simp
                 first
                 | (with_reducible exact rfl)
                 | (with_reducible exact ⟨rfl, hb⟩)
                 | (with_reducible exact (addCall (HA.out w1) hb).2)
                 | exact (addCall (HA.out w1) hb).2
                 | exact rfl
                 | exact ⟨rfl, hb⟩
               go_simp; refine hK' _ ?_; clear hK' K'))
          refine add_nil ?_
          intro wa hba
          go_wp2
          go_ret
          exact ⟨ret_bool HE.out.symm, by have h3 := Hb.out; (repeat (first | (with_reducible exact Below.refl _ _) | (with_reducible assumption) | (with_reducible refine below_al ?_) | (with_reducible refine below_dr ?_) | (with_reducible refine below_drN ?_) | (with_reducible refine below_set ?_ (by first | exact Nat.le_refl _ | (dsimp only; omega) | omega)) | (with_reducible refine below_tr (by with_reducible assumption) ?_)))⟩
        · have HE : Hid (∀ j (h1 : j < xs.length) (h2 : j < ys.length), j < k + 1 → eqT xs[j] ys[j] = true) := fun j h1 h2 hj => by
            by_cases e : j = k
            · subst e; exact hE
            · exact Hn.out j h1 h2 (by omega)
          rw [hE] at HA
          clear hE HF hx hy hb
          generalize xs[k] = s at *
          generalize ys[k] = t at *
          have e0 := keepC c0
          have e1 := keepC c1
          have e2 := keepC c2
          have e3 := keepC c3
          have f0 := keepC d0
          have f1 := keepC d1
          have f2 := keepC d2
          have f3 := keepC d3
          clear c0 c1 c2 c3 d0 d1 d2 d3
          go_wp2_with fail
          refine wp_region_add (fun w' => Below (wr).heap.size (wr) w') (by kernel_rfl) (by kernel_rfl) ((Below.refl _ _).drew) ?_
          repeat (first
            | (refine add_skip rfl (fun K' hK' => ?_); go_simp; refine hK' _ ?_; clear hK' K')
            | (refine add_do (v := ?_) rfl (fun w1 hb => ?_) (fun K' hK' => ?_); rotate_left
               · go_simp
                 first
                 | (with_reducible exact rfl)
                 | (with_reducible exact ⟨rfl, hb⟩)
                 | (with_reducible exact (addCall (HA.out w1) hb).2)
                 | exact (addCall (HA.out w1) hb).2
                 | exact rfl
                 | exact ⟨rfl, hb⟩
               go_simp; refine hK' _ ?_; clear hK' K'))
          refine add_nil ?_
          intro wa hba
          go_wp2
          go_roundw
          case rel => exact ⟨k + 1, by omega, by go_num, HE, by have h3 := Hb.out; (repeat (first | (with_reducible exact Below.refl _ _) | (with_reducible assumption) | (with_reducible refine below_al ?_) | (with_reducible refine below_dr ?_) | (with_reducible refine below_drN ?_) | (with_reducible refine below_set ?_ (by first | exact Nat.le_refl _ | (dsimp only; omega) | omega)) | (with_reducible refine below_tr (by with_reducible assumption) ?_)))⟩
          case measure => simp [intOf]; omega
      · have hE := Lib.hid (eqTs_all HL.out (fun j h1 h2 => Hn.out j h1 h2 (by omega)))
        clear hx hy
        go_wp2
        go_ret
        exact ⟨ret_bool hE.out.symm, hb⟩
  · have hR := Lib.hid (eqTs_len hl)
    have hl' : ((xs.length : Int) != (ys.length : Int)) = true := by simp; omega
    clear hl
    go_enter Try.func25, Try.ntmps25
    go_wp2
    go_ret
    exact ⟨ret_bool hR.out.symm, Below.refl _ _⟩
def eqS (c : Int) (xs : List T4) (d : Int) (ys : List T4) : Bool := c == d && eqTs xs ys
set_option maxRecDepth 100000 in
set_option maxHeartbeats 1000000 in
theorem eqSet_c (c d : Int) (xs ys : List T4) (A B : Option Addr) (cx cy : Nat) (w : World) (hx : TileCells w A xs) (hy : TileCells w B ys) (lx : xs.length ≤ 1000000000) (ly : ys.length ≤ 1000000000) :
    Calls Try.prog 14 #[.agg #[.int .i64 c, .slice A xs.length cx], .agg #[.int .i64 d, .slice B ys.length cy]] w fun e w' => e = .returned (.bool (eqS c xs d ys)) ∧ Below w.heap.size w w' := by
  have HX := Lib.hid hx
  have HY := Lib.hid hy
  clear hx hy
  by_cases hc : c = d
  · have hc' : (c != d) = false := by simp [hc]
    have hR := Lib.hid (show eqS c xs d ys = eqTs xs ys from by simp [eqS, hc])
    clear hc
    cases hE : eqTs xs ys
    · have HA := Lib.hid (fun w hx hy => eqTileS_c xs ys A B cx cy w hx hy lx ly)
      rw [hE] at HA hR; clear hE
      go_enter Try.func14, Try.ntmps14
      go_wp2_with fail
      refine (HA.out _ (HX.out.below (by (repeat (first | (with_reducible exact Below.refl _ _) | (with_reducible assumption) | (with_reducible refine below_al ?_) | (with_reducible refine below_dr ?_) | (with_reducible refine below_drN ?_) | (with_reducible refine below_set ?_ (by first | exact Nat.le_refl _ | (dsimp only; omega) | omega)) | (with_reducible refine below_tr (by with_reducible assumption) ?_))))) (HY.out.below (by (repeat (first | (with_reducible exact Below.refl _ _) | (with_reducible assumption) | (with_reducible refine below_al ?_) | (with_reducible refine below_dr ?_) | (with_reducible refine below_drN ?_) | (with_reducible refine below_set ?_ (by first | exact Nat.le_refl _ | (dsimp only; omega) | omega)) | (with_reducible refine below_tr (by with_reducible assumption) ?_)))))).mono ?_
      rintro e w1 ⟨rfl, hb1⟩
      go_wp2
      go_ret
      exact ⟨ret_bool hR.out.symm, by (repeat (first | (with_reducible exact Below.refl _ _) | (with_reducible assumption) | (with_reducible refine below_al ?_) | (with_reducible refine below_dr ?_) | (with_reducible refine below_drN ?_) | (with_reducible refine below_set ?_ (by first | exact Nat.le_refl _ | (dsimp only; omega) | omega)) | (with_reducible refine below_tr (by with_reducible assumption) ?_)))⟩
    · have HA := Lib.hid (fun w hx hy => eqTileS_c xs ys A B cx cy w hx hy lx ly)
      rw [hE] at HA hR; clear hE
      go_enter Try.func14, Try.ntmps14
      go_wp2_with fail
      refine (HA.out _ (HX.out.below (by (repeat (first | (with_reducible exact Below.refl _ _) | (with_reducible assumption) | (with_reducible refine below_al ?_) | (with_reducible refine below_dr ?_) | (with_reducible refine below_drN ?_) | (with_reducible refine below_set ?_ (by first | exact Nat.le_refl _ | (dsimp only; omega) | omega)) | (with_reducible refine below_tr (by with_reducible assumption) ?_))))) (HY.out.below (by (repeat (first | (with_reducible exact Below.refl _ _) | (with_reducible assumption) | (with_reducible refine below_al ?_) | (with_reducible refine below_dr ?_) | (with_reducible refine below_drN ?_) | (with_reducible refine below_set ?_ (by first | exact Nat.le_refl _ | (dsimp only; omega) | omega)) | (with_reducible refine below_tr (by with_reducible assumption) ?_)))))).mono ?_
      rintro e w1 ⟨rfl, hb1⟩
      go_wp2
      go_ret
      exact ⟨ret_bool hR.out.symm, by (repeat (first | (with_reducible exact Below.refl _ _) | (with_reducible assumption) | (with_reducible refine below_al ?_) | (with_reducible refine below_dr ?_) | (with_reducible refine below_drN ?_) | (with_reducible refine below_set ?_ (by first | exact Nat.le_refl _ | (dsimp only; omega) | omega)) | (with_reducible refine below_tr (by with_reducible assumption) ?_)))⟩
  · have hc' : (c != d) = true := by simp [hc]
    have hR := Lib.hid (show eqS c xs d ys = false from by simp [eqS, hc])
    clear hc
    go_enter Try.func14, Try.ntmps14
    go_wp2
    go_ret
    exact ⟨ret_bool hR.out.symm, by (repeat (first | (with_reducible exact Below.refl _ _) | (with_reducible assumption) | (with_reducible refine below_al ?_) | (with_reducible refine below_dr ?_) | (with_reducible refine below_drN ?_) | (with_reducible refine below_set ?_ (by first | exact Nat.le_refl _ | (dsimp only; omega) | omega)) | (with_reducible refine below_tr (by with_reducible assumption) ?_)))⟩
end Go.Proofs.Ytfkmophmiiehlaa
