/- Contracts and lemmas for the statements of this seat, written for this claim; each theorem states its own conditions. -/
import Derived.Test.YtfkmophmiiehlaaKbM6
set_option linter.unusedVariables false
set_option linter.unusedSimpArgs false
namespace Go.Proofs.Ytfkmophmiiehlaa
open Go.RowKit
def AbOk (w : World) (V : Value) (x : Nat) : Option Int → Prop
  | none => V = .slice none 0 0
  | some d => ∃ b o n c, V = .slice (some ⟨b, o, none⟩) n c ∧ x < n ∧ w.cell? ⟨b, o + x * 4 + 3, none⟩ = some (.int .i64 d)
def LfOk (w : World) (V : Value) (x : Nat) : Option Int → Prop
  | none => x = 0
  | some e => 0 < x ∧ ∃ b o n c, V = .slice (some ⟨b, o, none⟩) n c ∧ x - 1 < n ∧ w.cell? ⟨b, o + (x - 1) * 4 + 2, none⟩ = some (.int .i64 e)
def joinB (t : T4) (u v : Option Int) : Bool := (u.all fun d => d == t.b) && (v.all fun e => e == t.a)
def edgeB (t : T4) (b : Int) (y x h w : Nat) : Bool := decide (b < 0) || ((decide (x ≠ 0) || t.a == b) && ((decide (y ≠ 0) || t.b == b) && ((decide (x + 1 ≠ w) || t.c == b) && (decide (y + 1 ≠ h) || t.d == b))))
set_option maxRecDepth 100000 in
set_option maxHeartbeats 1000000 in
theorem joins_c (t : T4) (x : Nat) (V Lv : Value) (u v : Option Int) (w : World) (hx : x ≤ 1000000000) (hu : AbOk w V x u) (hv : LfOk w Lv x v) :
    Calls Try.prog 120 #[.agg #[.int .i64 t.a, .int .i64 t.b, .int .i64 t.c, .int .i64 t.d], .int .i64 x, V, Lv] w fun e w' => e = .returned (.bool (joinB t u v)) ∧ Below w.heap.size w w' := by
  obtain ⟨a, b, c, d⟩ := t
  have hold : ∀ p v, w.cell? ⟨p, v, none⟩ = w.cell? ⟨p, v, none⟩ := fun _ _ => rfl
  clear hold
  cases u with
  | none =>
    obtain rfl : V = _ := hu
    have hq := fun w => Go.Lib.run_eql_slice_nil (P := Try.prog) w 29 57 none 0 0 0 0 Try.underlying29
    simp only [Option.isNone_none] at hq
    cases v with
    | none =>
      obtain rfl : x = 0 := hv
      go_enter Try.func120, Try.ntmps120
      go_wp2_with fail
      go_quiet (fail)
      go_wp2
      go_ret
      exact ⟨ret_bool rfl, below_drN (by (repeat (first | (with_reducible exact Below.refl _ _) | (with_reducible assumption) | (with_reducible refine below_al ?_) | (with_reducible refine below_dr ?_) | (with_reducible refine below_drN ?_) | (with_reducible refine below_set ?_ (by first | exact Nat.le_refl _ | (dsimp only; omega) | omega)) | (with_reducible refine below_tr (by with_reducible assumption) ?_))))⟩
    | some e =>
      obtain ⟨h0, b', o, n, c', rfl, hn, hc⟩ := hv
      have hc' := cell_alloc_old w (.cells #[.int .i64 a, .int .i64 b, .int .i64 c, .int .i64 d] 57) _ _ _ hc
      have hx0 : ((x : Int) == 0) = false := by simp; omega
      have q1 : IntKind.i64.wrap ((x : Int) - 1) = ((x - 1 : Nat) : Int) := by rw [IntWalk.i64_in _ (by omega)]; omega
      have HR := Lib.hid (show joinB ⟨a, b, c, d⟩ none (some e) = (e == a) by simp [joinB])
      have q := Blk.newA w #[.int .i64 a, .int .i64 b, .int .i64 c, .int .i64 d] 57
      have z0 := q.cell 0 (by simp)
      have z1 := q.cell 1 (by simp)
      simp only [List.getElem_cons_zero, List.getElem_cons_succ] at z0 z1
      clear q
      clear hc
      go_enter Try.func120, Try.ntmps120
      go_wp2_with fail
      go_quiet (fail)
      go_wp2
      go_ret
      exact ⟨ret_bool HR.out.symm, below_drN (by (repeat (first | (with_reducible exact Below.refl _ _) | (with_reducible assumption) | (with_reducible refine below_al ?_) | (with_reducible refine below_dr ?_) | (with_reducible refine below_drN ?_) | (with_reducible refine below_set ?_ (by first | exact Nat.le_refl _ | (dsimp only; omega) | omega)) | (with_reducible refine below_tr (by with_reducible assumption) ?_))))⟩
  | some d0 =>
    obtain ⟨ba, oa, na, ca, rfl, hna, hca⟩ := hu
    have hca' := cell_alloc_old w (.cells #[.int .i64 a, .int .i64 b, .int .i64 c, .int .i64 d] 57) _ _ _ hca
    have hq := fun w => Go.Lib.run_eql_slice_nil (P := Try.prog) w 29 57 (some ⟨ba, oa, none⟩) na ca 0 0 Try.underlying29
    simp only [Option.isNone_some] at hq
    clear hca
    cases v with
    | none =>
      obtain rfl : x = 0 := hv
      have HR := Lib.hid (show joinB ⟨a, b, c, d⟩ (some d0) none = (d0 == b) by simp [joinB])
      simp only [Nat.zero_mul, Nat.add_zero] at hca'
      have q := Blk.newA w #[.int .i64 a, .int .i64 b, .int .i64 c, .int .i64 d] 57
      have z0 := q.cell 0 (by simp)
      have z1 := q.cell 1 (by simp)
      simp only [List.getElem_cons_zero, List.getElem_cons_succ] at z0 z1
      clear q
      generalize hr : (d0 == b) = r at *
      cases r <;>
      · go_enter Try.func120, Try.ntmps120
        go_wp2_with fail
        go_quiet (fail)
        go_wp2
        go_ret
        exact ⟨ret_bool HR.out.symm, below_drN (by (repeat (first | (with_reducible exact Below.refl _ _) | (with_reducible assumption) | (with_reducible refine below_al ?_) | (with_reducible refine below_dr ?_) | (with_reducible refine below_drN ?_) | (with_reducible refine below_set ?_ (by first | exact Nat.le_refl _ | (dsimp only; omega) | omega)) | (with_reducible refine below_tr (by with_reducible assumption) ?_))))⟩
    | some e =>
      obtain ⟨h0, b', o, n, c', rfl, hn, hc⟩ := hv
      have hc' := cell_alloc_old w (.cells #[.int .i64 a, .int .i64 b, .int .i64 c, .int .i64 d] 57) _ _ _ hc
      have hx0 : ((x : Int) == 0) = false := by simp; omega
      have q1 : IntKind.i64.wrap ((x : Int) - 1) = ((x - 1 : Nat) : Int) := by rw [IntWalk.i64_in _ (by omega)]; omega
      have HR := Lib.hid (show joinB ⟨a, b, c, d⟩ (some d0) (some e) = ((d0 == b) && (e == a)) by simp [joinB])
      have q := Blk.newA w #[.int .i64 a, .int .i64 b, .int .i64 c, .int .i64 d] 57
      have z0 := q.cell 0 (by simp)
      have z1 := q.cell 1 (by simp)
      simp only [List.getElem_cons_zero, List.getElem_cons_succ] at z0 z1
      clear q
      clear hc
      generalize hr : (d0 == b) = r at *
      cases r <;>
      · go_enter Try.func120, Try.ntmps120
        go_wp2_with fail
        go_quiet (fail)
        go_wp2
        go_ret
        exact ⟨ret_bool (by rw [HR.out]; rfl), below_drN (by (repeat (first | (with_reducible exact Below.refl _ _) | (with_reducible assumption) | (with_reducible refine below_al ?_) | (with_reducible refine below_dr ?_) | (with_reducible refine below_drN ?_) | (with_reducible refine below_set ?_ (by first | exact Nat.le_refl _ | (dsimp only; omega) | omega)) | (with_reducible refine below_tr (by with_reducible assumption) ?_))))⟩
set_option maxRecDepth 100000 in
set_option maxHeartbeats 1000000 in
theorem edges_c (t : T4) (b : Int) (y x h w1 : Nat) (w : World) (hy : y < h) (hx : x < w1) (hh : h ≤ 1000000000) (hw : w1 ≤ 1000000000) :
    Calls Try.prog 121 #[.agg #[.int .i64 t.a, .int .i64 t.b, .int .i64 t.c, .int .i64 t.d], .int .i64 b, .int .i64 y, .int .i64 x, .int .i64 h, .int .i64 w1] w fun e w' => e = .returned (.bool (edgeB t b y x h w1)) ∧ Below w.heap.size w w' := by
  obtain ⟨a, b', c, d⟩ := t
  have q1 : IntKind.i64.wrap ((w1 : Int) - 1) = ((w1 - 1 : Nat) : Int) := by rw [IntWalk.i64_in _ (by omega)]; omega
  have q2 : IntKind.i64.wrap ((h : Int) - 1) = ((h - 1 : Nat) : Int) := by rw [IntWalk.i64_in _ (by omega)]; omega
  obtain ⟨p0, hp0⟩ : ∃ p, p = decide (x = 0) := ⟨_, rfl⟩
  obtain ⟨p1, hp1⟩ : ∃ p, p = decide (y = 0) := ⟨_, rfl⟩
  obtain ⟨p2, hp2⟩ : ∃ p, p = decide (x + 1 = w1) := ⟨_, rfl⟩
  obtain ⟨p3, hp3⟩ : ∃ p, p = decide (y + 1 = h) := ⟨_, rfl⟩
  have e0 : ((x : Int) == 0) = p0 := by rw [hp0, Bool.eq_iff_iff]; simp
  have e1 : ((y : Int) == 0) = p1 := by rw [hp1, Bool.eq_iff_iff]; simp
  have e2 : ((x : Int) == ((w1 - 1 : Nat) : Int)) = p2 := by rw [hp2, Bool.eq_iff_iff]; simp; omega
  have e3 : ((y : Int) == ((h - 1 : Nat) : Int)) = p3 := by rw [hp3, Bool.eq_iff_iff]; simp; omega
  have HR : Hid (edgeB ⟨a, b', c, d⟩ b y x h w1 = (decide (b < 0) || ((!p0 || a == b) && ((!p1 || b' == b) && ((!p2 || c == b) && (!p3 || d == b)))))) := by
    show _ = _
    rw [hp0, hp1, hp2, hp3]
    simp [edgeB]
  clear hp0 hp1 hp2 hp3
  have i0 : ∀ (a0 a1 a2 a3 : Bool) w, (Instr.index 167 (.agg #[.bool a0, .bool a1, .bool a2, .bool a3]) (.int .i64 0)).run Try.prog w = .ok (.bool a0) w := fun _ _ _ _ _ => by kernel_rfl
  have i1 : ∀ (a0 a1 a2 a3 : Bool) w, (Instr.index 167 (.agg #[.bool a0, .bool a1, .bool a2, .bool a3]) (.int .i64 1)).run Try.prog w = .ok (.bool a1) w := fun _ _ _ _ _ => by kernel_rfl
  have i2 : ∀ (a0 a1 a2 a3 : Bool) w, (Instr.index 167 (.agg #[.bool a0, .bool a1, .bool a2, .bool a3]) (.int .i64 2)).run Try.prog w = .ok (.bool a2) w := fun _ _ _ _ _ => by kernel_rfl
  have i3 : ∀ (a0 a1 a2 a3 : Bool) w, (Instr.index 167 (.agg #[.bool a0, .bool a1, .bool a2, .bool a3]) (.int .i64 3)).run Try.prog w = .ok (.bool a3) w := fun _ _ _ _ _ => by kernel_rfl
  by_cases hb : b < 0
  · have HR2 : Hid (edgeB ⟨a, b', c, d⟩ b y x h w1 = true) := by show _ = _; rw [HR.out]; simp [hb]
    have hb0 : ¬ 0 ≤ b := by omega
    clear HR
    go_enter Try.func121, Try.ntmps121
    go_wp2
    refine wp_loop_rounds 5 ?_
    rw [rounds_succ]
    cases p0 <;>
    · go_wp2
      rw [rounds_succ]
      cases p1 <;>
      · go_wp2
        rw [rounds_succ]
        cases p2 <;>
        · go_wp2
          rw [rounds_succ]
          cases p3 <;>
          · go_wp2
            rw [rounds_succ]
            go_wp2
            go_ret
            exact ⟨ret_bool HR2.out.symm, by (repeat (first | (with_reducible exact Below.refl _ _) | (with_reducible assumption) | (with_reducible refine below_al ?_) | (with_reducible refine below_dr ?_) | (with_reducible refine below_drN ?_) | (with_reducible refine below_set ?_ (by first | exact Nat.le_refl _ | (dsimp only; omega) | omega)) | (with_reducible refine below_tr (by with_reducible assumption) ?_)))⟩
  · have hb0 : 0 ≤ b := by omega
    have HR2 : Hid (edgeB ⟨a, b', c, d⟩ b y x h w1 = ((!p0 || a == b) && ((!p1 || b' == b) && ((!p2 || c == b) && (!p3 || d == b))))) := by show _ = _; rw [HR.out]; simp [hb]
    clear HR
    have tri : ∀ (p : Bool) (a b : Int), p = false ∨ (p = true ∧ (a != b) = false) ∨ (p = true ∧ (a != b) = true) := by intro p a b; cases p <;> cases h : (a != b) <;> simp
    have H0 := Lib.hid (tri p0 a b)
    have H1 := Lib.hid (tri p1 b' b)
    have H2 := Lib.hid (tri p2 c b)
    have H3 := Lib.hid (tri p3 d b)
    clear tri
    go_enter Try.func121, Try.ntmps121
    go_wp2
    refine wp_loop_rounds 5 ?_
    rw [rounds_succ]
    rcases H0.out with rfl | ⟨rfl, n0⟩ | ⟨rfl, n0⟩
    · go_wp2
      rw [rounds_succ]
      rcases H1.out with rfl | ⟨rfl, n1⟩ | ⟨rfl, n1⟩
      · go_wp2
        rw [rounds_succ]
        rcases H2.out with rfl | ⟨rfl, n2⟩ | ⟨rfl, n2⟩
        · go_wp2
          rw [rounds_succ]
          rcases H3.out with rfl | ⟨rfl, n3⟩ | ⟨rfl, n3⟩
          · go_wp2
            rw [rounds_succ]
            go_wp2
            go_ret
            exact ⟨ret_bool (by rw [HR2.out]; simp_all [bne]), by (repeat (first | (with_reducible exact Below.refl _ _) | (with_reducible assumption) | (with_reducible refine below_al ?_) | (with_reducible refine below_dr ?_) | (with_reducible refine below_drN ?_) | (with_reducible refine below_set ?_ (by first | exact Nat.le_refl _ | (dsimp only; omega) | omega)) | (with_reducible refine below_tr (by with_reducible assumption) ?_)))⟩
          · go_wp2
            rw [rounds_succ]
            go_wp2
            go_ret
            exact ⟨ret_bool (by rw [HR2.out]; simp_all [bne]), by (repeat (first | (with_reducible exact Below.refl _ _) | (with_reducible assumption) | (with_reducible refine below_al ?_) | (with_reducible refine below_dr ?_) | (with_reducible refine below_drN ?_) | (with_reducible refine below_set ?_ (by first | exact Nat.le_refl _ | (dsimp only; omega) | omega)) | (with_reducible refine below_tr (by with_reducible assumption) ?_)))⟩
          · go_wp2
            go_ret
            exact ⟨ret_bool (by rw [HR2.out]; simp_all [bne]), by (repeat (first | (with_reducible exact Below.refl _ _) | (with_reducible assumption) | (with_reducible refine below_al ?_) | (with_reducible refine below_dr ?_) | (with_reducible refine below_drN ?_) | (with_reducible refine below_set ?_ (by first | exact Nat.le_refl _ | (dsimp only; omega) | omega)) | (with_reducible refine below_tr (by with_reducible assumption) ?_)))⟩
        · go_wp2
          rw [rounds_succ]
          rcases H3.out with rfl | ⟨rfl, n3⟩ | ⟨rfl, n3⟩
          · go_wp2
            rw [rounds_succ]
            go_wp2
            go_ret
            exact ⟨ret_bool (by rw [HR2.out]; simp_all [bne]), by (repeat (first | (with_reducible exact Below.refl _ _) | (with_reducible assumption) | (with_reducible refine below_al ?_) | (with_reducible refine below_dr ?_) | (with_reducible refine below_drN ?_) | (with_reducible refine below_set ?_ (by first | exact Nat.le_refl _ | (dsimp only; omega) | omega)) | (with_reducible refine below_tr (by with_reducible assumption) ?_)))⟩
          · go_wp2
            rw [rounds_succ]
            go_wp2
            go_ret
            exact ⟨ret_bool (by rw [HR2.out]; simp_all [bne]), by (repeat (first | (with_reducible exact Below.refl _ _) | (with_reducible assumption) | (with_reducible refine below_al ?_) | (with_reducible refine below_dr ?_) | (with_reducible refine below_drN ?_) | (with_reducible refine below_set ?_ (by first | exact Nat.le_refl _ | (dsimp only; omega) | omega)) | (with_reducible refine below_tr (by with_reducible assumption) ?_)))⟩
          · go_wp2
            go_ret
            exact ⟨ret_bool (by rw [HR2.out]; simp_all [bne]), by (repeat (first | (with_reducible exact Below.refl _ _) | (with_reducible assumption) | (with_reducible refine below_al ?_) | (with_reducible refine below_dr ?_) | (with_reducible refine below_drN ?_) | (with_reducible refine below_set ?_ (by first | exact Nat.le_refl _ | (dsimp only; omega) | omega)) | (with_reducible refine below_tr (by with_reducible assumption) ?_)))⟩
        · go_wp2
          go_ret
          exact ⟨ret_bool (by rw [HR2.out]; simp_all [bne]), by (repeat (first | (with_reducible exact Below.refl _ _) | (with_reducible assumption) | (with_reducible refine below_al ?_) | (with_reducible refine below_dr ?_) | (with_reducible refine below_drN ?_) | (with_reducible refine below_set ?_ (by first | exact Nat.le_refl _ | (dsimp only; omega) | omega)) | (with_reducible refine below_tr (by with_reducible assumption) ?_)))⟩
      · go_wp2
        rw [rounds_succ]
        rcases H2.out with rfl | ⟨rfl, n2⟩ | ⟨rfl, n2⟩
        · go_wp2
          rw [rounds_succ]
          rcases H3.out with rfl | ⟨rfl, n3⟩ | ⟨rfl, n3⟩
          · go_wp2
            rw [rounds_succ]
            go_wp2
            go_ret
            exact ⟨ret_bool (by rw [HR2.out]; simp_all [bne]), by (repeat (first | (with_reducible exact Below.refl _ _) | (with_reducible assumption) | (with_reducible refine below_al ?_) | (with_reducible refine below_dr ?_) | (with_reducible refine below_drN ?_) | (with_reducible refine below_set ?_ (by first | exact Nat.le_refl _ | (dsimp only; omega) | omega)) | (with_reducible refine below_tr (by with_reducible assumption) ?_)))⟩
          · go_wp2
            rw [rounds_succ]
            go_wp2
            go_ret
            exact ⟨ret_bool (by rw [HR2.out]; simp_all [bne]), by (repeat (first | (with_reducible exact Below.refl _ _) | (with_reducible assumption) | (with_reducible refine below_al ?_) | (with_reducible refine below_dr ?_) | (with_reducible refine below_drN ?_) | (with_reducible refine below_set ?_ (by first | exact Nat.le_refl _ | (dsimp only; omega) | omega)) | (with_reducible refine below_tr (by with_reducible assumption) ?_)))⟩
          · go_wp2
            go_ret
            exact ⟨ret_bool (by rw [HR2.out]; simp_all [bne]), by (repeat (first | (with_reducible exact Below.refl _ _) | (with_reducible assumption) | (with_reducible refine below_al ?_) | (with_reducible refine below_dr ?_) | (with_reducible refine below_drN ?_) | (with_reducible refine below_set ?_ (by first | exact Nat.le_refl _ | (dsimp only; omega) | omega)) | (with_reducible refine below_tr (by with_reducible assumption) ?_)))⟩
        · go_wp2
          rw [rounds_succ]
          rcases H3.out with rfl | ⟨rfl, n3⟩ | ⟨rfl, n3⟩
          · go_wp2
            rw [rounds_succ]
            go_wp2
            go_ret
            exact ⟨ret_bool (by rw [HR2.out]; simp_all [bne]), by (repeat (first | (with_reducible exact Below.refl _ _) | (with_reducible assumption) | (with_reducible refine below_al ?_) | (with_reducible refine below_dr ?_) | (with_reducible refine below_drN ?_) | (with_reducible refine below_set ?_ (by first | exact Nat.le_refl _ | (dsimp only; omega) | omega)) | (with_reducible refine below_tr (by with_reducible assumption) ?_)))⟩
          · go_wp2
            rw [rounds_succ]
            go_wp2
            go_ret
            exact ⟨ret_bool (by rw [HR2.out]; simp_all [bne]), by (repeat (first | (with_reducible exact Below.refl _ _) | (with_reducible assumption) | (with_reducible refine below_al ?_) | (with_reducible refine below_dr ?_) | (with_reducible refine below_drN ?_) | (with_reducible refine below_set ?_ (by first | exact Nat.le_refl _ | (dsimp only; omega) | omega)) | (with_reducible refine below_tr (by with_reducible assumption) ?_)))⟩
          · go_wp2
            go_ret
            exact ⟨ret_bool (by rw [HR2.out]; simp_all [bne]), by (repeat (first | (with_reducible exact Below.refl _ _) | (with_reducible assumption) | (with_reducible refine below_al ?_) | (with_reducible refine below_dr ?_) | (with_reducible refine below_drN ?_) | (with_reducible refine below_set ?_ (by first | exact Nat.le_refl _ | (dsimp only; omega) | omega)) | (with_reducible refine below_tr (by with_reducible assumption) ?_)))⟩
        · go_wp2
          go_ret
          exact ⟨ret_bool (by rw [HR2.out]; simp_all [bne]), by (repeat (first | (with_reducible exact Below.refl _ _) | (with_reducible assumption) | (with_reducible refine below_al ?_) | (with_reducible refine below_dr ?_) | (with_reducible refine below_drN ?_) | (with_reducible refine below_set ?_ (by first | exact Nat.le_refl _ | (dsimp only; omega) | omega)) | (with_reducible refine below_tr (by with_reducible assumption) ?_)))⟩
      · go_wp2
        go_ret
        exact ⟨ret_bool (by rw [HR2.out]; simp_all [bne]), by (repeat (first | (with_reducible exact Below.refl _ _) | (with_reducible assumption) | (with_reducible refine below_al ?_) | (with_reducible refine below_dr ?_) | (with_reducible refine below_drN ?_) | (with_reducible refine below_set ?_ (by first | exact Nat.le_refl _ | (dsimp only; omega) | omega)) | (with_reducible refine below_tr (by with_reducible assumption) ?_)))⟩
    · go_wp2
      rw [rounds_succ]
      rcases H1.out with rfl | ⟨rfl, n1⟩ | ⟨rfl, n1⟩
      · go_wp2
        rw [rounds_succ]
        rcases H2.out with rfl | ⟨rfl, n2⟩ | ⟨rfl, n2⟩
        · go_wp2
          rw [rounds_succ]
          rcases H3.out with rfl | ⟨rfl, n3⟩ | ⟨rfl, n3⟩
          · go_wp2
            rw [rounds_succ]
            go_wp2
            go_ret
            exact ⟨ret_bool (by rw [HR2.out]; simp_all [bne]), by (repeat (first | (with_reducible exact Below.refl _ _) | (with_reducible assumption) | (with_reducible refine below_al ?_) | (with_reducible refine below_dr ?_) | (with_reducible refine below_drN ?_) | (with_reducible refine below_set ?_ (by first | exact Nat.le_refl _ | (dsimp only; omega) | omega)) | (with_reducible refine below_tr (by with_reducible assumption) ?_)))⟩
          · go_wp2
            rw [rounds_succ]
            go_wp2
            go_ret
            exact ⟨ret_bool (by rw [HR2.out]; simp_all [bne]), by (repeat (first | (with_reducible exact Below.refl _ _) | (with_reducible assumption) | (with_reducible refine below_al ?_) | (with_reducible refine below_dr ?_) | (with_reducible refine below_drN ?_) | (with_reducible refine below_set ?_ (by first | exact Nat.le_refl _ | (dsimp only; omega) | omega)) | (with_reducible refine below_tr (by with_reducible assumption) ?_)))⟩
          · go_wp2
            go_ret
            exact ⟨ret_bool (by rw [HR2.out]; simp_all [bne]), by (repeat (first | (with_reducible exact Below.refl _ _) | (with_reducible assumption) | (with_reducible refine below_al ?_) | (with_reducible refine below_dr ?_) | (with_reducible refine below_drN ?_) | (with_reducible refine below_set ?_ (by first | exact Nat.le_refl _ | (dsimp only; omega) | omega)) | (with_reducible refine below_tr (by with_reducible assumption) ?_)))⟩
        · go_wp2
          rw [rounds_succ]
          rcases H3.out with rfl | ⟨rfl, n3⟩ | ⟨rfl, n3⟩
          · go_wp2
            rw [rounds_succ]
            go_wp2
            go_ret
            exact ⟨ret_bool (by rw [HR2.out]; simp_all [bne]), by (repeat (first | (with_reducible exact Below.refl _ _) | (with_reducible assumption) | (with_reducible refine below_al ?_) | (with_reducible refine below_dr ?_) | (with_reducible refine below_drN ?_) | (with_reducible refine below_set ?_ (by first | exact Nat.le_refl _ | (dsimp only; omega) | omega)) | (with_reducible refine below_tr (by with_reducible assumption) ?_)))⟩
          · go_wp2
            rw [rounds_succ]
            go_wp2
            go_ret
            exact ⟨ret_bool (by rw [HR2.out]; simp_all [bne]), by (repeat (first | (with_reducible exact Below.refl _ _) | (with_reducible assumption) | (with_reducible refine below_al ?_) | (with_reducible refine below_dr ?_) | (with_reducible refine below_drN ?_) | (with_reducible refine below_set ?_ (by first | exact Nat.le_refl _ | (dsimp only; omega) | omega)) | (with_reducible refine below_tr (by with_reducible assumption) ?_)))⟩
          · go_wp2
            go_ret
            exact ⟨ret_bool (by rw [HR2.out]; simp_all [bne]), by (repeat (first | (with_reducible exact Below.refl _ _) | (with_reducible assumption) | (with_reducible refine below_al ?_) | (with_reducible refine below_dr ?_) | (with_reducible refine below_drN ?_) | (with_reducible refine below_set ?_ (by first | exact Nat.le_refl _ | (dsimp only; omega) | omega)) | (with_reducible refine below_tr (by with_reducible assumption) ?_)))⟩
        · go_wp2
          go_ret
          exact ⟨ret_bool (by rw [HR2.out]; simp_all [bne]), by (repeat (first | (with_reducible exact Below.refl _ _) | (with_reducible assumption) | (with_reducible refine below_al ?_) | (with_reducible refine below_dr ?_) | (with_reducible refine below_drN ?_) | (with_reducible refine below_set ?_ (by first | exact Nat.le_refl _ | (dsimp only; omega) | omega)) | (with_reducible refine below_tr (by with_reducible assumption) ?_)))⟩
      · go_wp2
        rw [rounds_succ]
        rcases H2.out with rfl | ⟨rfl, n2⟩ | ⟨rfl, n2⟩
        · go_wp2
          rw [rounds_succ]
          rcases H3.out with rfl | ⟨rfl, n3⟩ | ⟨rfl, n3⟩
          · go_wp2
            rw [rounds_succ]
            go_wp2
            go_ret
            exact ⟨ret_bool (by rw [HR2.out]; simp_all [bne]), by (repeat (first | (with_reducible exact Below.refl _ _) | (with_reducible assumption) | (with_reducible refine below_al ?_) | (with_reducible refine below_dr ?_) | (with_reducible refine below_drN ?_) | (with_reducible refine below_set ?_ (by first | exact Nat.le_refl _ | (dsimp only; omega) | omega)) | (with_reducible refine below_tr (by with_reducible assumption) ?_)))⟩
          · go_wp2
            rw [rounds_succ]
            go_wp2
            go_ret
            exact ⟨ret_bool (by rw [HR2.out]; simp_all [bne]), by (repeat (first | (with_reducible exact Below.refl _ _) | (with_reducible assumption) | (with_reducible refine below_al ?_) | (with_reducible refine below_dr ?_) | (with_reducible refine below_drN ?_) | (with_reducible refine below_set ?_ (by first | exact Nat.le_refl _ | (dsimp only; omega) | omega)) | (with_reducible refine below_tr (by with_reducible assumption) ?_)))⟩
          · go_wp2
            go_ret
            exact ⟨ret_bool (by rw [HR2.out]; simp_all [bne]), by (repeat (first | (with_reducible exact Below.refl _ _) | (with_reducible assumption) | (with_reducible refine below_al ?_) | (with_reducible refine below_dr ?_) | (with_reducible refine below_drN ?_) | (with_reducible refine below_set ?_ (by first | exact Nat.le_refl _ | (dsimp only; omega) | omega)) | (with_reducible refine below_tr (by with_reducible assumption) ?_)))⟩
        · go_wp2
          rw [rounds_succ]
          rcases H3.out with rfl | ⟨rfl, n3⟩ | ⟨rfl, n3⟩
          · go_wp2
            rw [rounds_succ]
            go_wp2
            go_ret
            exact ⟨ret_bool (by rw [HR2.out]; simp_all [bne]), by (repeat (first | (with_reducible exact Below.refl _ _) | (with_reducible assumption) | (with_reducible refine below_al ?_) | (with_reducible refine below_dr ?_) | (with_reducible refine below_drN ?_) | (with_reducible refine below_set ?_ (by first | exact Nat.le_refl _ | (dsimp only; omega) | omega)) | (with_reducible refine below_tr (by with_reducible assumption) ?_)))⟩
          · go_wp2
            rw [rounds_succ]
            go_wp2
            go_ret
            exact ⟨ret_bool (by rw [HR2.out]; simp_all [bne]), by (repeat (first | (with_reducible exact Below.refl _ _) | (with_reducible assumption) | (with_reducible refine below_al ?_) | (with_reducible refine below_dr ?_) | (with_reducible refine below_drN ?_) | (with_reducible refine below_set ?_ (by first | exact Nat.le_refl _ | (dsimp only; omega) | omega)) | (with_reducible refine below_tr (by with_reducible assumption) ?_)))⟩
          · go_wp2
            go_ret
            exact ⟨ret_bool (by rw [HR2.out]; simp_all [bne]), by (repeat (first | (with_reducible exact Below.refl _ _) | (with_reducible assumption) | (with_reducible refine below_al ?_) | (with_reducible refine below_dr ?_) | (with_reducible refine below_drN ?_) | (with_reducible refine below_set ?_ (by first | exact Nat.le_refl _ | (dsimp only; omega) | omega)) | (with_reducible refine below_tr (by with_reducible assumption) ?_)))⟩
        · go_wp2
          go_ret
          exact ⟨ret_bool (by rw [HR2.out]; simp_all [bne]), by (repeat (first | (with_reducible exact Below.refl _ _) | (with_reducible assumption) | (with_reducible refine below_al ?_) | (with_reducible refine below_dr ?_) | (with_reducible refine below_drN ?_) | (with_reducible refine below_set ?_ (by first | exact Nat.le_refl _ | (dsimp only; omega) | omega)) | (with_reducible refine below_tr (by with_reducible assumption) ?_)))⟩
      · go_wp2
        go_ret
        exact ⟨ret_bool (by rw [HR2.out]; simp_all [bne]), by (repeat (first | (with_reducible exact Below.refl _ _) | (with_reducible assumption) | (with_reducible refine below_al ?_) | (with_reducible refine below_dr ?_) | (with_reducible refine below_drN ?_) | (with_reducible refine below_set ?_ (by first | exact Nat.le_refl _ | (dsimp only; omega) | omega)) | (with_reducible refine below_tr (by with_reducible assumption) ?_)))⟩
    · go_wp2
      go_ret
      exact ⟨ret_bool (by rw [HR2.out]; simp_all [bne]), by (repeat (first | (with_reducible exact Below.refl _ _) | (with_reducible assumption) | (with_reducible refine below_al ?_) | (with_reducible refine below_dr ?_) | (with_reducible refine below_drN ?_) | (with_reducible refine below_set ?_ (by first | exact Nat.le_refl _ | (dsimp only; omega) | omega)) | (with_reducible refine below_tr (by with_reducible assumption) ?_)))⟩

end Go.Proofs.Ytfkmophmiiehlaa
