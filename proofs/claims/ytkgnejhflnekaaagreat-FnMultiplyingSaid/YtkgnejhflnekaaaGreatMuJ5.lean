/- Contracts and lemmas for the statements of this seat, written for this claim; each theorem states its own conditions. -/
import Derived.Test.YtkgnejhflnekaaaGreatMuJ4
import Derived.Test.YtkgnejhflnekaaaGreatMuSe
import Derived.Test.YtkgnejhflnekaaaGreatMuMk
set_option linter.unusedVariables false
set_option linter.unusedSimpArgs false
namespace Go.Proofs.YtkgnejhflnekaaaGreat
open Go.RowKit
def okM (p q m n u v : Int) : Prop := factB p q = true ∧ 0 ≤ m ∧ m ≤ n ∧ n ≤ 5 ∧ 0 ≤ u ∧ u ≤ v ∧ v ≤ 5
instance (p q m n u v : Int) : Decidable (okM p q m n u v) := by unfold okM; infer_instance
def msSet (p q m n u v : Int) : List T4 := if okM p q m n u v then mSet p q m n u v else []
def msCol (p q m n u v : Int) : Int := if okM p q m n u v then mCol p q m n u v else 0
def msCode (p q m n u v : Int) : Int := if okM p q m n u v then mCode p q m n u v else 2
set_option maxRecDepth 100000 in
set_option maxHeartbeats 1000000 in
theorem implMultiplyingSet_c (p q m n u v : Int) (w : World) :
    Calls Tryz.prog 44 #[.int .i64 p, .int .i64 q, .int .i64 m, .int .i64 n, .int .i64 u, .int .i64 v] w (RetS w (msCol p q m n u v) (msSet p q m n u v) (msCode p q m n u v)) := by
  have HF := Lib.hid (fun w => isFactor_c p q w)
  have q0 := (Blk.newA w #[.int .i64 0, .slice none 0 0] 26)
  have HB0 := Lib.hid q0
  have y0 := q0.cell 0 (by simp)
  have y1 := q0.cell 1 (by simp)
  have g0 := q0.frozen 0
  have g1 := q0.frozen 1
  simp only [List.getElem_cons_zero, List.getElem_cons_succ] at y0 y1
  clear q0
  have HO : Hid (okM p q m n u v ↔ factB p q = true ∧ 0 ≤ m ∧ m ≤ n ∧ n ≤ 5 ∧ 0 ≤ u ∧ u ≤ v ∧ v ≤ 5) := Iff.rfl
  have HFI := Lib.hid (factB_iff (p := p) (q := q))
  have HM := Lib.hid (fun w a b c d e f g h i j => multiplying_c p q m n u v w a b c d e f g h i j)
  have HV : Hid (msCol p q m n u v = if okM p q m n u v then mCol p q m n u v else 0) := rfl
  have HW : Hid (msSet p q m n u v = if okM p q m n u v then mSet p q m n u v else []) := rfl
  have HX : Hid (msCode p q m n u v = if okM p q m n u v then mCode p q m n u v else 2) := rfl
  generalize msCol p q m n u v = cc at *
  generalize msSet p q m n u v = ss at *
  generalize msCode p q m n u v = kk at *
  cases hf : factB p q
  · rw [hf] at HF
    have HN : Hid (¬ okM p q m n u v) := fun h => by have := (HO.out.1 h).1; rw [hf] at this; cases this
    clear hf
    go_enter Tryz.func44, Tryz.ntmps44
    go_wp2_with fail
    refine (HF.out _).mono ?_
    rintro e w1 ⟨rfl, rfl⟩
    rw [if_neg HN.out] at HV HW HX
    obtain rfl := HV.out
    obtain rfl := HW.out
    obtain rfl := HX.out
    go_wp2
    refine bodyPost_ret (v := .tuple #[.agg #[.int .i64 0, .slice none 0 0], .int .i64 2]) (by
      have x0 := ((HB0.out.set 0 (.int .i64 0)).set 1 (.slice none 0 0)).cell 0 (by simp)
      have x1 := ((HB0.out.set 0 (.int .i64 0)).set 1 (.slice none 0 0)).cell 1 (by simp)
      simp only [List.set_cons_zero, List.set_cons_succ, List.getElem_cons_zero, List.getElem_cons_succ] at x0 x1
      simp [results, Tryz.results44, go_sem, x0, x1]) rfl ⟨none, 0, rfl, World.ownsRow_nil _ _ _ _, by (repeat (first | (with_reducible exact Below.refl _ _) | (with_reducible assumption) | (with_reducible refine below_al ?_) | (with_reducible refine below_dr ?_) | (with_reducible refine below_drN ?_) | (with_reducible refine below_set ?_ (by first | exact Nat.le_refl _ | (dsimp only; omega) | omega)) | (with_reducible refine below_tr (by with_reducible assumption) ?_)))⟩
  · rw [hf] at HF
    obtain ⟨⟨hp, hp'⟩, hq, hq'⟩ := HFI.out.1 hf
    have HFT := Lib.hid hf
    clear hf
    go_enter Tryz.func44, Tryz.ntmps44
    go_wp2_with fail
    refine (HF.out _).mono ?_
    rintro e w1 ⟨rfl, rfl⟩
    by_cases h1 : 0 ≤ m
    · by_cases h2 : m ≤ n
      · by_cases h3 : n ≤ 5
        · by_cases h4 : 0 ≤ u
          · by_cases h5 : u ≤ v
            · by_cases h6 : v ≤ 5
              · rw [if_pos (HO.out.2 ⟨HFT.out, h1, h2, h3, h4, h5, h6⟩)] at HV HW HX
                go_wp2_with fail
                refine (HM.out _ hp hp' hq hq' h1 h2 h3 h4 h5 h6).mono ?_
                rintro e w1 ⟨A, cx, rfl, hO, hb⟩
                rw [← HV.out, ← HW.out, ← HX.out] at *
                have HOv := Lib.hid hO
                have Hb := Lib.hid hb
                have q1 := HB0.out.under hb
                have Q := Lib.hid q1
                have y0 := q1.cell 0 (by simp)
                have y1 := q1.cell 1 (by simp)
                have g0 := q1.frozen 0
                have g1 := q1.frozen 1
                simp only [List.getElem_cons_zero, List.getElem_cons_succ] at y0 y1
                have hs := Lib.hid (show w.heap.size < w1.heap.size by have := hb.size; simp at this; omega)
                clear q1 hO hb
                go_wp2
                refine bodyPost_ret (v := .tuple #[.agg #[.int .i64 cc, .slice A ss.length cx], .int .i64 kk]) (by
                  have x0 := ((Q.out.set 0 (.int .i64 cc)).set 1 (.slice A ss.length cx)).cell 0 (by simp)
                  have x1 := ((Q.out.set 0 (.int .i64 cc)).set 1 (.slice A ss.length cx)).cell 1 (by simp)
                  simp only [List.set_cons_zero, List.set_cons_succ, List.getElem_cons_zero, List.getElem_cons_succ] at x0 x1
                  simp [results, Tryz.results44, go_sem, x0, x1]) rfl ⟨A, cx, rfl, ?_, ?_⟩
                · have hB := HOv.out
                  rw [World.size_alloc] at hB
                  exact ((hB.other _ 0 (by omega) _).other _ 1 (by omega) _).weaken (by omega)
                · have hb := Hb.out
                  (repeat (first | (with_reducible exact Below.refl _ _) | (with_reducible assumption) | (with_reducible refine below_al ?_) | (with_reducible refine below_dr ?_) | (with_reducible refine below_drN ?_) | (with_reducible refine below_set ?_ (by first | exact Nat.le_refl _ | (dsimp only; omega) | omega)) | (with_reducible refine below_tr (by with_reducible assumption) ?_)))
              · have HN : Hid (¬ okM p q m n u v) := fun h => by have := HO.out.1 h; omega
                rw [if_neg HN.out] at HV HW HX
                obtain rfl := HV.out
                obtain rfl := HW.out
                obtain rfl := HX.out
                go_wp2
                refine bodyPost_ret (v := .tuple #[.agg #[.int .i64 0, .slice none 0 0], .int .i64 2]) (by
                  have x0 := ((HB0.out.set 0 (.int .i64 0)).set 1 (.slice none 0 0)).cell 0 (by simp)
                  have x1 := ((HB0.out.set 0 (.int .i64 0)).set 1 (.slice none 0 0)).cell 1 (by simp)
                  simp only [List.set_cons_zero, List.set_cons_succ, List.getElem_cons_zero, List.getElem_cons_succ] at x0 x1
                  simp [results, Tryz.results44, go_sem, x0, x1]) rfl ⟨none, 0, rfl, World.ownsRow_nil _ _ _ _, by (repeat (first | (with_reducible exact Below.refl _ _) | (with_reducible assumption) | (with_reducible refine below_al ?_) | (with_reducible refine below_dr ?_) | (with_reducible refine below_drN ?_) | (with_reducible refine below_set ?_ (by first | exact Nat.le_refl _ | (dsimp only; omega) | omega)) | (with_reducible refine below_tr (by with_reducible assumption) ?_)))⟩
            · have HN : Hid (¬ okM p q m n u v) := fun h => by have := HO.out.1 h; omega
              rw [if_neg HN.out] at HV HW HX
              obtain rfl := HV.out
              obtain rfl := HW.out
              obtain rfl := HX.out
              go_wp2
              refine bodyPost_ret (v := .tuple #[.agg #[.int .i64 0, .slice none 0 0], .int .i64 2]) (by
                have x0 := ((HB0.out.set 0 (.int .i64 0)).set 1 (.slice none 0 0)).cell 0 (by simp)
                have x1 := ((HB0.out.set 0 (.int .i64 0)).set 1 (.slice none 0 0)).cell 1 (by simp)
                simp only [List.set_cons_zero, List.set_cons_succ, List.getElem_cons_zero, List.getElem_cons_succ] at x0 x1
                simp [results, Tryz.results44, go_sem, x0, x1]) rfl ⟨none, 0, rfl, World.ownsRow_nil _ _ _ _, by (repeat (first | (with_reducible exact Below.refl _ _) | (with_reducible assumption) | (with_reducible refine below_al ?_) | (with_reducible refine below_dr ?_) | (with_reducible refine below_drN ?_) | (with_reducible refine below_set ?_ (by first | exact Nat.le_refl _ | (dsimp only; omega) | omega)) | (with_reducible refine below_tr (by with_reducible assumption) ?_)))⟩
          · have HN : Hid (¬ okM p q m n u v) := fun h => by have := HO.out.1 h; omega
            rw [if_neg HN.out] at HV HW HX
            obtain rfl := HV.out
            obtain rfl := HW.out
            obtain rfl := HX.out
            go_wp2
            refine bodyPost_ret (v := .tuple #[.agg #[.int .i64 0, .slice none 0 0], .int .i64 2]) (by
              have x0 := ((HB0.out.set 0 (.int .i64 0)).set 1 (.slice none 0 0)).cell 0 (by simp)
              have x1 := ((HB0.out.set 0 (.int .i64 0)).set 1 (.slice none 0 0)).cell 1 (by simp)
              simp only [List.set_cons_zero, List.set_cons_succ, List.getElem_cons_zero, List.getElem_cons_succ] at x0 x1
              simp [results, Tryz.results44, go_sem, x0, x1]) rfl ⟨none, 0, rfl, World.ownsRow_nil _ _ _ _, by (repeat (first | (with_reducible exact Below.refl _ _) | (with_reducible assumption) | (with_reducible refine below_al ?_) | (with_reducible refine below_dr ?_) | (with_reducible refine below_drN ?_) | (with_reducible refine below_set ?_ (by first | exact Nat.le_refl _ | (dsimp only; omega) | omega)) | (with_reducible refine below_tr (by with_reducible assumption) ?_)))⟩
        · have HN : Hid (¬ okM p q m n u v) := fun h => by have := HO.out.1 h; omega
          rw [if_neg HN.out] at HV HW HX
          obtain rfl := HV.out
          obtain rfl := HW.out
          obtain rfl := HX.out
          go_wp2
          refine bodyPost_ret (v := .tuple #[.agg #[.int .i64 0, .slice none 0 0], .int .i64 2]) (by
            have x0 := ((HB0.out.set 0 (.int .i64 0)).set 1 (.slice none 0 0)).cell 0 (by simp)
            have x1 := ((HB0.out.set 0 (.int .i64 0)).set 1 (.slice none 0 0)).cell 1 (by simp)
            simp only [List.set_cons_zero, List.set_cons_succ, List.getElem_cons_zero, List.getElem_cons_succ] at x0 x1
            simp [results, Tryz.results44, go_sem, x0, x1]) rfl ⟨none, 0, rfl, World.ownsRow_nil _ _ _ _, by (repeat (first | (with_reducible exact Below.refl _ _) | (with_reducible assumption) | (with_reducible refine below_al ?_) | (with_reducible refine below_dr ?_) | (with_reducible refine below_drN ?_) | (with_reducible refine below_set ?_ (by first | exact Nat.le_refl _ | (dsimp only; omega) | omega)) | (with_reducible refine below_tr (by with_reducible assumption) ?_)))⟩
      · have HN : Hid (¬ okM p q m n u v) := fun h => by have := HO.out.1 h; omega
        rw [if_neg HN.out] at HV HW HX
        obtain rfl := HV.out
        obtain rfl := HW.out
        obtain rfl := HX.out
        go_wp2
        refine bodyPost_ret (v := .tuple #[.agg #[.int .i64 0, .slice none 0 0], .int .i64 2]) (by
          have x0 := ((HB0.out.set 0 (.int .i64 0)).set 1 (.slice none 0 0)).cell 0 (by simp)
          have x1 := ((HB0.out.set 0 (.int .i64 0)).set 1 (.slice none 0 0)).cell 1 (by simp)
          simp only [List.set_cons_zero, List.set_cons_succ, List.getElem_cons_zero, List.getElem_cons_succ] at x0 x1
          simp [results, Tryz.results44, go_sem, x0, x1]) rfl ⟨none, 0, rfl, World.ownsRow_nil _ _ _ _, by (repeat (first | (with_reducible exact Below.refl _ _) | (with_reducible assumption) | (with_reducible refine below_al ?_) | (with_reducible refine below_dr ?_) | (with_reducible refine below_drN ?_) | (with_reducible refine below_set ?_ (by first | exact Nat.le_refl _ | (dsimp only; omega) | omega)) | (with_reducible refine below_tr (by with_reducible assumption) ?_)))⟩
    · have HN : Hid (¬ okM p q m n u v) := fun h => by have := HO.out.1 h; omega
      rw [if_neg HN.out] at HV HW HX
      obtain rfl := HV.out
      obtain rfl := HW.out
      obtain rfl := HX.out
      go_wp2
      refine bodyPost_ret (v := .tuple #[.agg #[.int .i64 0, .slice none 0 0], .int .i64 2]) (by
        have x0 := ((HB0.out.set 0 (.int .i64 0)).set 1 (.slice none 0 0)).cell 0 (by simp)
        have x1 := ((HB0.out.set 0 (.int .i64 0)).set 1 (.slice none 0 0)).cell 1 (by simp)
        simp only [List.set_cons_zero, List.set_cons_succ, List.getElem_cons_zero, List.getElem_cons_succ] at x0 x1
        simp [results, Tryz.results44, go_sem, x0, x1]) rfl ⟨none, 0, rfl, World.ownsRow_nil _ _ _ _, by (repeat (first | (with_reducible exact Below.refl _ _) | (with_reducible assumption) | (with_reducible refine below_al ?_) | (with_reducible refine below_dr ?_) | (with_reducible refine below_drN ?_) | (with_reducible refine below_set ?_ (by first | exact Nat.le_refl _ | (dsimp only; omega) | omega)) | (with_reducible refine below_tr (by with_reducible assumption) ?_)))⟩
set_option maxRecDepth 100000 in
set_option maxHeartbeats 1000000 in
theorem specMultiplyingSet_c (p q m n u v : Int) (w : World) :
    Calls Tryz.prog 45 #[.int .i64 p, .int .i64 q, .int .i64 m, .int .i64 n, .int .i64 u, .int .i64 v] w (RetS w (msCol p q m n u v) (msSet p q m n u v) (msCode p q m n u v)) := by
  have HF := Lib.hid (fun w => l08Factor_c p q w)
  have q0 := (Blk.newA w #[.int .i64 0, .slice none 0 0] 26)
  have HB0 := Lib.hid q0
  have y0 := q0.cell 0 (by simp)
  have y1 := q0.cell 1 (by simp)
  have g0 := q0.frozen 0
  have g1 := q0.frozen 1
  simp only [List.getElem_cons_zero, List.getElem_cons_succ] at y0 y1
  clear q0
  have HO : Hid (okM p q m n u v ↔ factB p q = true ∧ 0 ≤ m ∧ m ≤ n ∧ n ≤ 5 ∧ 0 ≤ u ∧ u ≤ v ∧ v ≤ 5) := Iff.rfl
  have HFI := Lib.hid (factB_iff (p := p) (q := q))
  have HM := Lib.hid (fun w a b c d e f g h i j => l08Made_c p q m n u v w a b c d e f g h i j)
  have HV : Hid (msCol p q m n u v = if okM p q m n u v then mCol p q m n u v else 0) := rfl
  have HW : Hid (msSet p q m n u v = if okM p q m n u v then mSet p q m n u v else []) := rfl
  have HX : Hid (msCode p q m n u v = if okM p q m n u v then mCode p q m n u v else 2) := rfl
  have H1 := Lib.hid (fun w => l01In_c m 0 5 w)
  have H2 := Lib.hid (fun w => l01In_c n m 5 w)
  have H3 := Lib.hid (fun w => l01In_c u 0 5 w)
  have H4 := Lib.hid (fun w => l01In_c v u 5 w)
  have I1 := Lib.hid (inR_iff (lo := 0) (hi := 5) (n := m))
  have I2 := Lib.hid (inR_iff (lo := m) (hi := 5) (n := n))
  have I3 := Lib.hid (inR_iff (lo := 0) (hi := 5) (n := u))
  have I4 := Lib.hid (inR_iff (lo := u) (hi := 5) (n := v))
  generalize msCol p q m n u v = cc at *
  generalize msSet p q m n u v = ss at *
  generalize msCode p q m n u v = kk at *
  generalize hb1 : inR 0 5 m = b1 at *
  generalize hb2 : inR m 5 n = b2 at *
  generalize hb3 : inR 0 5 u = b3 at *
  generalize hb4 : inR u 5 v = b4 at *
  clear hb1 hb2 hb3 hb4
  cases hf : factB p q
  · rw [hf] at HF
    have HN : Hid (¬ okM p q m n u v) := fun h => by have := (HO.out.1 h).1; rw [hf] at this; cases this
    clear hf
    go_enter Tryz.func45, Tryz.ntmps45
    go_wp2_with fail
    refine (HF.out _).mono ?_
    rintro e w1 ⟨rfl, rfl⟩
    rw [if_neg HN.out] at HV HW HX
    obtain rfl := HV.out
    obtain rfl := HW.out
    obtain rfl := HX.out
    go_wp2
    refine bodyPost_ret (v := .tuple #[.agg #[.int .i64 0, .slice none 0 0], .int .i64 2]) (by
      have x0 := ((HB0.out.set 0 (.int .i64 0)).set 1 (.slice none 0 0)).cell 0 (by simp)
      have x1 := ((HB0.out.set 0 (.int .i64 0)).set 1 (.slice none 0 0)).cell 1 (by simp)
      simp only [List.set_cons_zero, List.set_cons_succ, List.getElem_cons_zero, List.getElem_cons_succ] at x0 x1
      simp [results, Tryz.results45, go_sem, x0, x1]) rfl ⟨none, 0, rfl, World.ownsRow_nil _ _ _ _, by (repeat (first | (with_reducible exact Below.refl _ _) | (with_reducible assumption) | (with_reducible refine below_al ?_) | (with_reducible refine below_dr ?_) | (with_reducible refine below_drN ?_) | (with_reducible refine below_set ?_ (by first | exact Nat.le_refl _ | (dsimp only; omega) | omega)) | (with_reducible refine below_tr (by with_reducible assumption) ?_)))⟩
  · rw [hf] at HF
    obtain ⟨⟨hp, hp'⟩, hq, hq'⟩ := HFI.out.1 hf
    have HFT := Lib.hid hf
    clear hf
    go_enter Tryz.func45, Tryz.ntmps45
    go_wp2_with fail
    refine (HF.out _).mono ?_
    rintro e w1 ⟨rfl, rfl⟩
    go_wp2_with fail
    refine (H1.out _).mono ?_
    rintro e w1 ⟨rfl, rfl⟩
    cases b1
    · have HN : Hid (¬ okM p q m n u v) := fun h => by have := HO.out.1 h; have := I1.out.2 (by omega); cases this
      rw [if_neg HN.out] at HV HW HX
      obtain rfl := HV.out
      obtain rfl := HW.out
      obtain rfl := HX.out
      go_wp2
      refine bodyPost_ret (v := .tuple #[.agg #[.int .i64 0, .slice none 0 0], .int .i64 2]) (by
        have x0 := ((HB0.out.set 0 (.int .i64 0)).set 1 (.slice none 0 0)).cell 0 (by simp)
        have x1 := ((HB0.out.set 0 (.int .i64 0)).set 1 (.slice none 0 0)).cell 1 (by simp)
        simp only [List.set_cons_zero, List.set_cons_succ, List.getElem_cons_zero, List.getElem_cons_succ] at x0 x1
        simp [results, Tryz.results45, go_sem, x0, x1]) rfl ⟨none, 0, rfl, World.ownsRow_nil _ _ _ _, by (repeat (first | (with_reducible exact Below.refl _ _) | (with_reducible assumption) | (with_reducible refine below_al ?_) | (with_reducible refine below_dr ?_) | (with_reducible refine below_drN ?_) | (with_reducible refine below_set ?_ (by first | exact Nat.le_refl _ | (dsimp only; omega) | omega)) | (with_reducible refine below_tr (by with_reducible assumption) ?_)))⟩
    · go_wp2_with fail
      refine (H2.out _).mono ?_
      rintro e w1 ⟨rfl, rfl⟩
      cases b2
      · have HN : Hid (¬ okM p q m n u v) := fun h => by have := HO.out.1 h; have := I2.out.2 (by omega); cases this
        rw [if_neg HN.out] at HV HW HX
        obtain rfl := HV.out
        obtain rfl := HW.out
        obtain rfl := HX.out
        go_wp2
        refine bodyPost_ret (v := .tuple #[.agg #[.int .i64 0, .slice none 0 0], .int .i64 2]) (by
          have x0 := ((HB0.out.set 0 (.int .i64 0)).set 1 (.slice none 0 0)).cell 0 (by simp)
          have x1 := ((HB0.out.set 0 (.int .i64 0)).set 1 (.slice none 0 0)).cell 1 (by simp)
          simp only [List.set_cons_zero, List.set_cons_succ, List.getElem_cons_zero, List.getElem_cons_succ] at x0 x1
          simp [results, Tryz.results45, go_sem, x0, x1]) rfl ⟨none, 0, rfl, World.ownsRow_nil _ _ _ _, by (repeat (first | (with_reducible exact Below.refl _ _) | (with_reducible assumption) | (with_reducible refine below_al ?_) | (with_reducible refine below_dr ?_) | (with_reducible refine below_drN ?_) | (with_reducible refine below_set ?_ (by first | exact Nat.le_refl _ | (dsimp only; omega) | omega)) | (with_reducible refine below_tr (by with_reducible assumption) ?_)))⟩
      · go_wp2_with fail
        refine (H3.out _).mono ?_
        rintro e w1 ⟨rfl, rfl⟩
        cases b3
        · have HN : Hid (¬ okM p q m n u v) := fun h => by have := HO.out.1 h; have := I3.out.2 (by omega); cases this
          rw [if_neg HN.out] at HV HW HX
          obtain rfl := HV.out
          obtain rfl := HW.out
          obtain rfl := HX.out
          go_wp2
          refine bodyPost_ret (v := .tuple #[.agg #[.int .i64 0, .slice none 0 0], .int .i64 2]) (by
            have x0 := ((HB0.out.set 0 (.int .i64 0)).set 1 (.slice none 0 0)).cell 0 (by simp)
            have x1 := ((HB0.out.set 0 (.int .i64 0)).set 1 (.slice none 0 0)).cell 1 (by simp)
            simp only [List.set_cons_zero, List.set_cons_succ, List.getElem_cons_zero, List.getElem_cons_succ] at x0 x1
            simp [results, Tryz.results45, go_sem, x0, x1]) rfl ⟨none, 0, rfl, World.ownsRow_nil _ _ _ _, by (repeat (first | (with_reducible exact Below.refl _ _) | (with_reducible assumption) | (with_reducible refine below_al ?_) | (with_reducible refine below_dr ?_) | (with_reducible refine below_drN ?_) | (with_reducible refine below_set ?_ (by first | exact Nat.le_refl _ | (dsimp only; omega) | omega)) | (with_reducible refine below_tr (by with_reducible assumption) ?_)))⟩
        · go_wp2_with fail
          refine (H4.out _).mono ?_
          rintro e w1 ⟨rfl, rfl⟩
          cases b4
          · have HN : Hid (¬ okM p q m n u v) := fun h => by have := HO.out.1 h; have := I4.out.2 (by omega); cases this
            rw [if_neg HN.out] at HV HW HX
            obtain rfl := HV.out
            obtain rfl := HW.out
            obtain rfl := HX.out
            go_wp2
            refine bodyPost_ret (v := .tuple #[.agg #[.int .i64 0, .slice none 0 0], .int .i64 2]) (by
              have x0 := ((HB0.out.set 0 (.int .i64 0)).set 1 (.slice none 0 0)).cell 0 (by simp)
              have x1 := ((HB0.out.set 0 (.int .i64 0)).set 1 (.slice none 0 0)).cell 1 (by simp)
              simp only [List.set_cons_zero, List.set_cons_succ, List.getElem_cons_zero, List.getElem_cons_succ] at x0 x1
              simp [results, Tryz.results45, go_sem, x0, x1]) rfl ⟨none, 0, rfl, World.ownsRow_nil _ _ _ _, by (repeat (first | (with_reducible exact Below.refl _ _) | (with_reducible assumption) | (with_reducible refine below_al ?_) | (with_reducible refine below_dr ?_) | (with_reducible refine below_drN ?_) | (with_reducible refine below_set ?_ (by first | exact Nat.le_refl _ | (dsimp only; omega) | omega)) | (with_reducible refine below_tr (by with_reducible assumption) ?_)))⟩
          · obtain ⟨h1, h1'⟩ := I1.out.1 (by simp)
            obtain ⟨h2, h3⟩ := I2.out.1 (by simp)
            obtain ⟨h4, h4'⟩ := I3.out.1 (by simp)
            obtain ⟨h5, h6⟩ := I4.out.1 (by simp)
            rw [if_pos (HO.out.2 ⟨HFT.out, h1, h2, h3, h4, h5, h6⟩)] at HV HW HX
            go_wp2_with fail
            refine (HM.out _ hp hp' hq hq' h1 h2 h3 h4 h5 h6).mono ?_
            rintro e w1 ⟨A, cx, rfl, hO, hb⟩
            rw [← HV.out, ← HW.out, ← HX.out] at *
            have HOv := Lib.hid hO
            have Hb := Lib.hid hb
            have q1 := HB0.out.under hb
            have hs := Lib.hid (show w.heap.size < w1.heap.size by have := hb.size; simp at this; omega)
            have qa := Lib.hid (q1.alloc (.cells #[.int .i64 cc, .slice A ss.length cx] 26))
            have y0 := qa.out.cell 0 (by simp)
            have y1 := qa.out.cell 1 (by simp)
            have g0 := qa.out.frozen 0
            have g1 := qa.out.frozen 1
            simp only [List.getElem_cons_zero, List.getElem_cons_succ] at y0 y1
            clear hO hb q1
            go_wp2
            refine bodyPost_ret (v := .tuple #[.agg #[.int .i64 cc, .slice A ss.length cx], .int .i64 kk]) (by
              have x0 := ((qa.out.set 0 (.int .i64 cc)).set 1 (.slice A ss.length cx)).cell 0 (by simp)
              have x1 := ((qa.out.set 0 (.int .i64 cc)).set 1 (.slice A ss.length cx)).cell 1 (by simp)
              simp only [List.set_cons_zero, List.set_cons_succ, List.getElem_cons_zero, List.getElem_cons_succ] at x0 x1
              simp [results, Tryz.results45, go_sem, x0, x1]) rfl ⟨A, cx, rfl, ?_, ?_⟩
            · have hB := HOv.out
              rw [World.size_alloc] at hB
              have hs' := hs.out
              exact (((hB.alloc _).other _ 0 (by omega) _).other _ 1 (by omega) _).weaken (by omega)
            · have hb := Hb.out
              have hs' := hs.out
              (repeat (first | (with_reducible exact Below.refl _ _) | (with_reducible assumption) | (with_reducible refine below_al ?_) | (with_reducible refine below_dr ?_) | (with_reducible refine below_drN ?_) | (with_reducible refine below_set ?_ (by first | exact Nat.le_refl _ | (dsimp only; omega) | omega)) | (with_reducible refine below_tr (by with_reducible assumption) ?_)))

end Go.Proofs.YtkgnejhflnekaaaGreat
namespace Go.Proofs.YtkgnejhflnekaaaGreat
open Go.RowKit
theorem Blk.grownB {w w' : World} {b : Nat} {cs : List Value} {T : TypeId} {row : Option Nat} (h : Blk w b cs T) (hg : w.grownBy w' row) (hne : row ≠ some b) : Blk w' b cs T := (hg.block b h.lt (fun e => hne e.symm)).trans h
theorem OwnT.grown {w w1 : World} {B : Nat} {v : Value} {ts : List T4} {row : Option Nat} (h : OwnT w B v ts) (hg : w.grownBy w1 row) (hne : v.ownBlock = none ∨ v.ownBlock ≠ row) : OwnT w1 B v ts := World.ownsRow.kept h hg hne
theorem OwnT.blt {w : World} {B : Nat} {v : Value} {ts : List T4} (h : OwnT w B v ts) : ∀ k, v.ownBlock = some k → B ≤ k ∧ k < w.heap.size := fun k hk => World.ownsRow.lt h k hk
theorem OwnT.tilesAt {w : World} {B n cx : Nat} {A : Option Addr} {ts : List T4} (h : OwnT w B (.slice A n cx) ts) : TileCells w A ts := by
  obtain ⟨A', cx', e, hT⟩ := h.tiles
  injection e with a1 a2 a3
  subst a1
  exact hT
end Go.Proofs.YtkgnejhflnekaaaGreat
