/- Contracts and lemmas for the statements of this seat, written for this claim; each theorem states its own conditions. -/
import Derived.Test.YtfkmophmiiehlaaKbM7
set_option linter.unusedVariables false
set_option linter.unusedSimpArgs false
namespace Go.Proofs.Ytfkmophmiiehlaa
open Go.RowKit
def FtL (w : World) (R : Value) (y x : Nat) : Option Int → Prop
  | none => x = 0
  | some e => 0 < x ∧ ∃ bR oR nR cR b o n c, R = .slice (some ⟨bR, oR, none⟩) nR cR ∧ y < nR ∧ w.cell? ⟨bR, oR + y, none⟩ = some (.slice (some ⟨b, o, none⟩) n c) ∧ x - 1 < n ∧ w.cell? ⟨b, o + (x - 1) * 4 + 2, none⟩ = some (.int .i64 e)
def FtA (w : World) (R : Value) (y x : Nat) : Option Int → Prop
  | none => y = 0
  | some d => 0 < y ∧ ∃ bR oR nR cR b o n c, R = .slice (some ⟨bR, oR, none⟩) nR cR ∧ y - 1 < nR ∧ w.cell? ⟨bR, oR + (y - 1), none⟩ = some (.slice (some ⟨b, o, none⟩) n c) ∧ x < n ∧ w.cell? ⟨b, o + x * 4 + 3, none⟩ = some (.int .i64 d)
def fitB (t : T4) (b : Int) (y x h w : Nat) (u v : Option Int) : Bool := joinB t u v && edgeB t b y x h w
set_option maxRecDepth 100000 in
set_option maxHeartbeats 4000000 in
theorem l07Fits_c (t : T4) (b : Int) (y x h w1 : Nat) (R : Value) (u v : Option Int) (w : World) (hy : y < h) (hx : x < w1) (hh : h ≤ 1000000000) (hw : w1 ≤ 1000000000) (hu : FtA w R y x u) (hv : FtL w R y x v) :
    Calls Try.prog 116 #[R, .int .i64 b, .int .i64 y, .int .i64 x, .int .i64 h, .int .i64 w1, .agg #[.int .i64 t.a, .int .i64 t.b, .int .i64 t.c, .int .i64 t.d]] w fun e w' => e = .returned (.bool (fitB t b y x h w1 u v)) ∧ Below w.heap.size w w' := by
  obtain ⟨a, b', c, d⟩ := t
  have q1 : IntKind.i64.wrap ((w1 : Int) - 1) = ((w1 - 1 : Nat) : Int) := by rw [IntWalk.i64_in _ (by omega)]; omega
  have q2 : IntKind.i64.wrap ((h : Int) - 1) = ((h - 1 : Nat) : Int) := by rw [IntWalk.i64_in _ (by omega)]; omega
  have q := Blk.newA w #[.int .i64 a, .int .i64 b', .int .i64 c, .int .i64 d] 57
  have z0 := q.cell 0 (by simp)
  have z1 := q.cell 1 (by simp)
  have z2 := q.cell 2 (by simp)
  have z3 := q.cell 3 (by simp)
  simp only [List.getElem_cons_zero, List.getElem_cons_succ] at z0 z1 z2 z3
  clear q
  cases u with
  | none =>
    obtain rfl : y = 0 := hu
    cases v with
    | none =>
      obtain rfl : x = 0 := hv
      go_enter Try.func116, Try.ntmps116
      go_wp2_with fail
      go_quiet (fail)
      go_wp2
      all_goals
        go_ret
        refine ⟨ret_bool ?_, below_drN (by (repeat (first | (with_reducible exact Below.refl _ _) | (with_reducible assumption) | (with_reducible refine below_al ?_) | (with_reducible refine below_dr ?_) | (with_reducible refine below_drN ?_) | (with_reducible refine below_set ?_ (by first | exact Nat.le_refl _ | (dsimp only; omega) | omega)) | (with_reducible refine below_tr (by with_reducible assumption) ?_))))⟩
        first
        | (rw [eq_comm, Bool.eq_iff_iff]; simp [fitB, joinB, edgeB]; done)
        | (rw [eq_comm, Bool.eq_iff_iff]; simp [fitB, joinB, edgeB]; omega)
        | (rw [eq_comm, Bool.eq_iff_iff]; simp_all [fitB, joinB, edgeB]; done)
        | (rw [eq_comm, Bool.eq_iff_iff]; simp_all [fitB, joinB, edgeB]; omega)
    | some e =>
      obtain ⟨h0, bR, oR, nR, cR, b1, o1, n1, c1, rfl, hyn, hr, hxn, hc⟩ := hv
      have hr' := cell_alloc_old w (.cells #[.int .i64 a, .int .i64 b', .int .i64 c, .int .i64 d] 57) _ _ _ hr
      have hc' := cell_alloc_old w (.cells #[.int .i64 a, .int .i64 b', .int .i64 c, .int .i64 d] 57) _ _ _ hc
      have qx : IntKind.i64.wrap ((x : Int) - 1) = ((x - 1 : Nat) : Int) := by rw [IntWalk.i64_in _ (by omega)]; omega
      simp only [Nat.add_zero] at hr'
      clear hr hc
      by_cases hne : e = a
      · subst hne
        go_enter Try.func116, Try.ntmps116
        go_wp2_with fail
        go_quiet (fail)
        go_wp2
        all_goals
          go_ret
          refine ⟨ret_bool ?_, below_drN (by (repeat (first | (with_reducible exact Below.refl _ _) | (with_reducible assumption) | (with_reducible refine below_al ?_) | (with_reducible refine below_dr ?_) | (with_reducible refine below_drN ?_) | (with_reducible refine below_set ?_ (by first | exact Nat.le_refl _ | (dsimp only; omega) | omega)) | (with_reducible refine below_tr (by with_reducible assumption) ?_))))⟩
          first
          | (rw [eq_comm, Bool.eq_iff_iff]; simp [fitB, joinB, edgeB]; done)
          | (rw [eq_comm, Bool.eq_iff_iff]; simp [fitB, joinB, edgeB]; omega)
          | (rw [eq_comm, Bool.eq_iff_iff]; simp_all [fitB, joinB, edgeB]; done)
          | (rw [eq_comm, Bool.eq_iff_iff]; simp_all [fitB, joinB, edgeB]; omega)
      · have hne' : (e != a) = true := by simp [hne]
        have HF := Lib.hid (show fitB ⟨a, b', c, d⟩ b 0 x h w1 none (some e) = false by simp [fitB, joinB, hne])
        clear hne
        go_enter Try.func116, Try.ntmps116
        go_wp2_with fail
        go_quiet (fail)
        go_wp2
        go_ret
        exact ⟨ret_bool HF.out.symm, below_drN (by (repeat (first | (with_reducible exact Below.refl _ _) | (with_reducible assumption) | (with_reducible refine below_al ?_) | (with_reducible refine below_dr ?_) | (with_reducible refine below_drN ?_) | (with_reducible refine below_set ?_ (by first | exact Nat.le_refl _ | (dsimp only; omega) | omega)) | (with_reducible refine below_tr (by with_reducible assumption) ?_))))⟩
  | some d0 =>
    obtain ⟨h0y, bR, oR, nR, cR, b2, o2, n2, c2, rfl, hyn2, hr2, hxn2, hc2⟩ := hu
    have hr2' := cell_alloc_old w (.cells #[.int .i64 a, .int .i64 b', .int .i64 c, .int .i64 d] 57) _ _ _ hr2
    have hc2' := cell_alloc_old w (.cells #[.int .i64 a, .int .i64 b', .int .i64 c, .int .i64 d] 57) _ _ _ hc2
    have qy : IntKind.i64.wrap ((y : Int) - 1) = ((y - 1 : Nat) : Int) := by rw [IntWalk.i64_in _ (by omega)]; omega
    clear hr2 hc2
    cases v with
    | none =>
      obtain rfl : x = 0 := hv
      simp only [Nat.zero_mul, Nat.add_zero] at hc2'
      by_cases hne : d0 = b'
      · subst hne
        go_enter Try.func116, Try.ntmps116
        go_wp2_with fail
        go_quiet (fail)
        go_wp2
        all_goals
          go_ret
          refine ⟨ret_bool ?_, below_drN (by (repeat (first | (with_reducible exact Below.refl _ _) | (with_reducible assumption) | (with_reducible refine below_al ?_) | (with_reducible refine below_dr ?_) | (with_reducible refine below_drN ?_) | (with_reducible refine below_set ?_ (by first | exact Nat.le_refl _ | (dsimp only; omega) | omega)) | (with_reducible refine below_tr (by with_reducible assumption) ?_))))⟩
          first
          | (rw [eq_comm, Bool.eq_iff_iff]; simp [fitB, joinB, edgeB]; done)
          | (rw [eq_comm, Bool.eq_iff_iff]; simp [fitB, joinB, edgeB]; omega)
          | (rw [eq_comm, Bool.eq_iff_iff]; simp_all [fitB, joinB, edgeB]; done)
          | (rw [eq_comm, Bool.eq_iff_iff]; simp_all [fitB, joinB, edgeB]; omega)
      · have hne' : (d0 != b') = true := by simp [hne]
        have HF := Lib.hid (show fitB ⟨a, b', c, d⟩ b y 0 h w1 (some d0) none = false by simp [fitB, joinB, hne])
        clear hne
        go_enter Try.func116, Try.ntmps116
        go_wp2_with fail
        go_quiet (fail)
        go_wp2
        go_ret
        exact ⟨ret_bool HF.out.symm, below_drN (by (repeat (first | (with_reducible exact Below.refl _ _) | (with_reducible assumption) | (with_reducible refine below_al ?_) | (with_reducible refine below_dr ?_) | (with_reducible refine below_drN ?_) | (with_reducible refine below_set ?_ (by first | exact Nat.le_refl _ | (dsimp only; omega) | omega)) | (with_reducible refine below_tr (by with_reducible assumption) ?_))))⟩
    | some e =>
      obtain ⟨h0, bR', oR', nR', cR', b1, o1, n1, c1, e1, hyn, hr, hxn, hc⟩ := hv
      injection e1 with e1 e2 e3
      injection e1 with e1
      injection e1 with e1 e4
      subst e1 e2 e3 e4
      have hr' := cell_alloc_old w (.cells #[.int .i64 a, .int .i64 b', .int .i64 c, .int .i64 d] 57) _ _ _ hr
      have hc' := cell_alloc_old w (.cells #[.int .i64 a, .int .i64 b', .int .i64 c, .int .i64 d] 57) _ _ _ hc
      have qx : IntKind.i64.wrap ((x : Int) - 1) = ((x - 1 : Nat) : Int) := by rw [IntWalk.i64_in _ (by omega)]; omega
      clear hr hc
      by_cases hne : e = a
      · subst hne
        by_cases hne : d0 = b'
        · subst hne
          go_enter Try.func116, Try.ntmps116
          go_wp2_with fail
          go_quiet (fail)
          go_wp2
          all_goals
            go_ret
            refine ⟨ret_bool ?_, below_drN (by (repeat (first | (with_reducible exact Below.refl _ _) | (with_reducible assumption) | (with_reducible refine below_al ?_) | (with_reducible refine below_dr ?_) | (with_reducible refine below_drN ?_) | (with_reducible refine below_set ?_ (by first | exact Nat.le_refl _ | (dsimp only; omega) | omega)) | (with_reducible refine below_tr (by with_reducible assumption) ?_))))⟩
            first
            | (rw [eq_comm, Bool.eq_iff_iff]; simp [fitB, joinB, edgeB]; done)
            | (rw [eq_comm, Bool.eq_iff_iff]; simp [fitB, joinB, edgeB]; omega)
            | (rw [eq_comm, Bool.eq_iff_iff]; simp_all [fitB, joinB, edgeB]; done)
            | (rw [eq_comm, Bool.eq_iff_iff]; simp_all [fitB, joinB, edgeB]; omega)
        · have hne' : (d0 != b') = true := by simp [hne]
          have HF := Lib.hid (show fitB ⟨e, b', c, d⟩ b y x h w1 (some d0) (some e) = false by simp [fitB, joinB, hne])
          clear hne
          go_enter Try.func116, Try.ntmps116
          go_wp2_with fail
          go_quiet (fail)
          go_wp2
          go_ret
          exact ⟨ret_bool HF.out.symm, below_drN (by (repeat (first | (with_reducible exact Below.refl _ _) | (with_reducible assumption) | (with_reducible refine below_al ?_) | (with_reducible refine below_dr ?_) | (with_reducible refine below_drN ?_) | (with_reducible refine below_set ?_ (by first | exact Nat.le_refl _ | (dsimp only; omega) | omega)) | (with_reducible refine below_tr (by with_reducible assumption) ?_))))⟩
      · have hne' : (e != a) = true := by simp [hne]
        have HF := Lib.hid (show fitB ⟨a, b', c, d⟩ b y x h w1 (some d0) (some e) = false by simp [fitB, joinB, hne])
        clear hne
        go_enter Try.func116, Try.ntmps116
        go_wp2_with fail
        go_quiet (fail)
        go_wp2
        go_ret
        exact ⟨ret_bool HF.out.symm, below_drN (by (repeat (first | (with_reducible exact Below.refl _ _) | (with_reducible assumption) | (with_reducible refine below_al ?_) | (with_reducible refine below_dr ?_) | (with_reducible refine below_drN ?_) | (with_reducible refine below_set ?_ (by first | exact Nat.le_refl _ | (dsimp only; omega) | omega)) | (with_reducible refine below_tr (by with_reducible assumption) ?_))))⟩

end Go.Proofs.Ytfkmophmiiehlaa
