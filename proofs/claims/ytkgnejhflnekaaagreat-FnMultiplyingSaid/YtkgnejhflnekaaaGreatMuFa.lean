/- Contracts and lemmas for the statements of this seat, written for this claim; each theorem states its own conditions. -/
import Derived.Test.YtkgnejhflnekaaaGreatMuMk
import Derived.Test.YtkgnejhflnekaaaGreatMuBs
import Derived.Test.YtkgnejhflnekaaaGreatMuGc
import Derived.Test.YtkgnejhflnekaaaGreatMuB
set_option linter.unusedVariables false
set_option linter.unusedSimpArgs false
namespace Go.Proofs.YtkgnejhflnekaaaGreat
open Go.RowKit
/-- the factors: all pairs up to 5 by 5 in lowest terms by which the set is balanced -/
def facOk (ts : List T4) (p q : Int) : Bool := gcdI p q == 1 && balancedB ts p q
def facRow (ts : List T4) (p : Int) (m : Nat) : List (List Int) := ((List.range m).map fun j : Nat => ((j : Int) + 1)).flatMap fun q => if facOk ts p q = true then [[p, q]] else []
def facs (ts : List T4) (n : Nat) : List (List Int) := ((List.range n).map fun j : Nat => ((j : Int) + 1)).flatMap fun p => facRow ts p 5
theorem facRow_succ (ts : List T4) (p : Int) (m : Nat) : facRow ts p (m + 1) = facRow ts p m ++ (if facOk ts p ((m : Int) + 1) = true then [[p, (m : Int) + 1]] else []) := by
  simp [facRow, List.range_succ]
theorem facs_succ (ts : List T4) (n : Nat) : facs ts (n + 1) = facs ts n ++ facRow ts ((n : Int) + 1) 5 := by simp [facs, List.range_succ]
theorem facRow_len (ts : List T4) (p : Int) : ∀ m, (facRow ts p m).length ≤ m
  | 0 => by simp [facRow]
  | m + 1 => by rw [facRow_succ, List.length_append]; have := facRow_len ts p m; split <;> simp <;> omega
theorem facs_len (ts : List T4) : ∀ n, (facs ts n).length ≤ n * 5
  | 0 => by simp [facs]
  | n + 1 => by rw [facs_succ, List.length_append]; have := facs_len ts n; have := facRow_len ts ((n : Int) + 1) 5; omega
theorem facRow_two (ts : List T4) (p : Int) : ∀ m, ∀ r ∈ facRow ts p m, r.length = 2
  | 0 => by simp [facRow]
  | m + 1 => by
    intro r hr
    rw [facRow_succ, List.mem_append] at hr
    rcases hr with hr | hr
    · exact facRow_two ts p m r hr
    · split at hr <;> simp at hr; subst hr; rfl
theorem facs_two (ts : List T4) : ∀ n, ∀ r ∈ facs ts n, r.length = 2
  | 0 => by simp [facs]
  | n + 1 => by
    intro r hr
    rw [facs_succ, List.mem_append] at hr
    rcases hr with hr | hr
    · exact facs_two ts n r hr
    · exact facRow_two ts _ 5 r hr
def facV (c : Int) (ts : List T4) : List (List Int) := if isSetB c ts = true then facs ts 5 else []
def facCode (c : Int) (ts : List T4) : Int := if isSetB c ts = true then 0 else 1
/-- what a call gives back that returns a new list of lists of numbers and a code -/
def RetIIC2 (w : World) (L : List (List Int)) (c : Int) (e : Ending) (w' : World) : Prop :=
  ∃ v, e = .returned (.tuple #[v, .int .i64 c]) ∧ OwnII w' w.heap.size v L ∧ Below w.heap.size w w'
theorem ret_vc {v : Value} {a b : Int} (h : a = b) : Ending.returned (.tuple #[v, .int .i64 a]) = .returned (.tuple #[v, .int .i64 b]) := by rw [h]
set_option maxRecDepth 100000 in
set_option maxHeartbeats 1000000 in
theorem implFactorsOf_c (c : Int) (ts : List T4) (A : Option Addr) (cx : Nat) (w : World) (hT : TileCells w A ts) (hl : ts.length ≤ 1000000000) :
    Calls Tryz.prog 57 #[.agg #[.int .i64 c, .slice A ts.length cx]] w (RetIIC2 w (facV c ts) (facCode c ts)) := by
  have HI := Lib.hid (fun w h => isSet_c c ts A cx w h hl)
  have HT := Lib.hid hT
  have HV : Hid (facV c ts = if isSetB c ts = true then facs ts 5 else []) := rfl
  have HVc : Hid (facCode c ts = if isSetB c ts = true then 0 else 1) := rfl
  clear hT
  cases hs : isSetB c ts
  · rw [hs] at HI HV HVc
    clear hs
    go_enter Tryz.func57, Tryz.ntmps57
    go_wp2_with fail
    refine (HI.out _ (HT.out.below (by (repeat (first | (with_reducible exact Below.refl _ _) | (with_reducible assumption) | (with_reducible refine below_al ?_) | (with_reducible refine below_dr ?_) | (with_reducible refine below_drN ?_) | (with_reducible refine below_set ?_ (by first | exact Nat.le_refl _ | (dsimp only; omega) | omega)) | (with_reducible refine below_tr (by with_reducible assumption) ?_)))))).mono ?_
    rintro e w1 ⟨rfl, hb1⟩
    have Hw1 : Hid (Below w.heap.size w w1) := by (show Below _ _ _); (repeat (first | (with_reducible exact Below.refl _ _) | (with_reducible assumption) | (with_reducible refine below_al ?_) | (with_reducible refine below_dr ?_) | (with_reducible refine below_drN ?_) | (with_reducible refine below_set ?_ (by first | exact Nat.le_refl _ | (dsimp only; omega) | omega)) | (with_reducible refine below_tr (by with_reducible assumption) ?_)))
    clear hb1
    go_wp2
    go_ret2
    exact ⟨_, by first | rfl | exact ret_vc HVc.out.symm, by rw [HV.out]; exact OwnII.nil _ _, Hw1.out⟩
  · obtain ⟨hS, h16⟩ := isSetB_small hs
    have HB := Lib.hid (fun p q a b d e w h => balanced_c c ts A cx p q w h (by omega) hS a b d e)
    rw [hs] at HI HV HVc
    clear hs hS
    go_enter Tryz.func57, Tryz.ntmps57
    go_wp2_with fail
    refine (HI.out _ (HT.out.below (by (repeat (first | (with_reducible exact Below.refl _ _) | (with_reducible assumption) | (with_reducible refine below_al ?_) | (with_reducible refine below_dr ?_) | (with_reducible refine below_drN ?_) | (with_reducible refine below_set ?_ (by first | exact Nat.le_refl _ | (dsimp only; omega) | omega)) | (with_reducible refine below_tr (by with_reducible assumption) ?_)))))).mono ?_
    rintro e w1 ⟨rfl, hb1⟩
    have Hw1 : Hid (Below w.heap.size w w1) := by (show Below _ _ _); (repeat (first | (with_reducible exact Below.refl _ _) | (with_reducible assumption) | (with_reducible refine below_al ?_) | (with_reducible refine below_dr ?_) | (with_reducible refine below_drN ?_) | (with_reducible refine below_set ?_ (by first | exact Nat.le_refl _ | (dsimp only; omega) | omega)) | (with_reducible refine below_tr (by with_reducible assumption) ?_)))
    have d0 : ∀ w2, Below w1.heap.size w1 w2 → w2.cell? ⟨w.heap.size, 0, none⟩ = some (.int .i64 c) := keepC (by rw [(bcell hb1).1 _ _ (by simp)]; simp)
    have d1 : ∀ w2, Below w1.heap.size w1 w2 → w2.cell? ⟨w.heap.size, 1, none⟩ = some (.slice A ts.length cx) := keepC (by rw [(bcell hb1).1 _ _ (by simp)]; simp)
    have hN : w.heap.size < w1.heap.size := by have := hb1.size; simp at this; omega
    have D0 := Lib.hid d0
    have D1 := Lib.hid d1
    clear hb1 d0 d1
    go_wp2_with fail
    go_loopw [4, 5] (fun v p wr => ∃ n : Nat, n ≤ 5 ∧ p = .int .i64 ((n : Int) + 1) ∧ OwnII wr w1.heap.size v (facs ts n) ∧ Below w1.heap.size w1 wr) (fun _ p _ => 6 - (intOf p).toNat)
    case atStart => exact ⟨0, by omega, rfl, OwnII.empty rfl (Nat.le_refl _), by (repeat (first | (with_reducible exact Below.refl _ _) | (with_reducible assumption) | (with_reducible refine below_al ?_) | (with_reducible refine below_dr ?_) | (with_reducible refine below_drN ?_) | (with_reducible refine below_set ?_ (by first | exact Nat.le_refl _ | (dsimp only; omega) | omega)) | (with_reducible refine below_tr (by with_reducible assumption) ?_)))⟩
    case round =>
      obtain ⟨n, hn, rfl, hO, hb⟩ := hrel
      have HO := Lib.hid hO
      have Hb := Lib.hid hb
      clear hO hb
      by_cases hn5 : n < 5
      · have hn6 : (n : Int) + 1 ≤ 5 := by omega
        go_wp2_with fail
        go_loopw [4, 6] (fun v q wr => ∃ m : Nat, m ≤ 5 ∧ q = .int .i64 ((m : Int) + 1) ∧ OwnII wr w1.heap.size v (facs ts n ++ facRow ts ((n : Int) + 1) m) ∧ Below w1.heap.size w1 wr) (fun _ q _ => 6 - (intOf q).toNat)
        case atStart => exact ⟨0, by omega, rfl, by simpa [facRow] using HO.out, Hb.out⟩
        case round =>
          obtain ⟨m, hm, rfl, hO2, hb2⟩ := hrel
          have HO2 := Lib.hid hO2
          have Hb2 := Lib.hid hb2
          have e0 := D0.out _ hb2
          have e1 := D1.out _ hb2
          have hN2 : w.heap.size < wr.heap.size := by have := hb2.size; omega
          clear hO2 hb2
          by_cases hm5 : m < 5
          · have hm6 : (m : Int) + 1 ≤ 5 := by omega
            have HG := Lib.hid (fun w => divisor_c ((n : Int) + 1) ((m : Int) + 1) w (by omega) (by omega) (by omega) (by omega))
            have HB2 := Lib.hid (HB.out ((n : Int) + 1) ((m : Int) + 1) (by omega) (by omega) (by omega) (by omega))
            have HS := Lib.hid (facRow_succ ts ((n : Int) + 1) m)
            have HF : Hid (facOk ts ((n : Int) + 1) ((m : Int) + 1) = (gcdI ((n : Int) + 1) ((m : Int) + 1) == 1 && balancedB ts ((n : Int) + 1) ((m : Int) + 1))) := rfl
            have hlen : (facs ts n ++ facRow ts ((n : Int) + 1) m).length ≤ 1000 := by
              rw [List.length_append]; have h1 := facs_len ts n; have h2 := facRow_len ts ((n : Int) + 1) m; omega
            generalize gcdI ((n : Int) + 1) ((m : Int) + 1) = g at *
            generalize balancedB ts ((n : Int) + 1) ((m : Int) + 1) = bb at *
            cases hg : (g == 1)
            · have HS2 : Hid (facRow ts ((n : Int) + 1) (m + 1) = facRow ts ((n : Int) + 1) m) := by rw [Hid, HS.out, HF.out, hg]; simp
              go_wp2_with fail
              refine (HG.out _).mono ?_
              rintro e w2 ⟨rfl, hbg⟩
              skip
              try clear hbg0
              have Hbg := Lib.hid hbg
              clear e0 e1
              go_wp2_with fail
              go_roundw
              case rel => exact ⟨m + 1, by omega, by go_num, by rw [HS2.out]; exact HO2.out.below Hbg.out, Hb2.out.trans (Hbg.out.mono Hb2.out.size)⟩
              case measure => simp [intOf]; omega
            · cases bb
              · have HS2 : Hid (facRow ts ((n : Int) + 1) (m + 1) = facRow ts ((n : Int) + 1) m) := by rw [Hid, HS.out, HF.out, hg]; simp
                go_wp2_with fail
                refine (HG.out _).mono ?_
                rintro e w2 ⟨rfl, hbg⟩
                skip
                try clear hbg0
                have Hbg := Lib.hid hbg
                have Hb3 : Hid (Below w1.heap.size w1 w2) := Hb2.out.trans (hbg.mono Hb2.out.size)
                have e0 := D0.out _ Hb3.out
                have e1 := D1.out _ Hb3.out
                have hN2 : w.heap.size < w2.heap.size := by have := Hb3.out.size; omega
                clear hbg
                go_wp2_with fail
                refine (HB2.out _ (HT.out.below (Hw1.out.trans (Hb3.out.mono Hw1.out.size)))).mono ?_
                rintro e w3 ⟨rfl, hb3⟩
                have HO3 := Lib.hid ((HO2.out.below Hbg.out).below hb3)
                have Hb4 : Hid (Below w1.heap.size w1 w3) := Hb3.out.trans (hb3.mono Hb3.out.size)
                clear e0 e1 hb3
                go_wp2_with fail
                go_roundw
                case rel => exact ⟨m + 1, by omega, by go_num, by rw [HS2.out]; exact HO3.out, Hb4.out⟩
                case measure => simp [intOf]; omega
              · have HS2 : Hid (facRow ts ((n : Int) + 1) (m + 1) = facRow ts ((n : Int) + 1) m ++ [[(n : Int) + 1, (m : Int) + 1]]) := by rw [Hid, HS.out, HF.out, hg]; simp
                go_wp2_with fail
                refine (HG.out _).mono ?_
                rintro e w2 ⟨rfl, hbg⟩
                skip
                try clear hbg0
                have Hbg := Lib.hid hbg
                have Hb3 : Hid (Below w1.heap.size w1 w2) := Hb2.out.trans (hbg.mono Hb2.out.size)
                have e0 := D0.out _ Hb3.out
                have e1 := D1.out _ Hb3.out
                have hN2 : w.heap.size < w2.heap.size := by have := Hb3.out.size; omega
                clear hbg
                go_wp2_with fail
                refine (HB2.out _ (HT.out.below (Hw1.out.trans (Hb3.out.mono Hw1.out.size)))).mono ?_
                rintro e w3 ⟨rfl, hb3⟩
                have HO3 := Lib.hid ((HO2.out.below Hbg.out).below hb3)
                have Hb4 : Hid (Below w1.heap.size w1 w3) := Hb3.out.trans (hb3.mono Hb3.out.size)
                clear e0 e1 hb3
                go_wp2_with (at_builtin; refine Hold.of ?_)
                refine Hold.to ?_
                refine wpl_app_row (W0 := w3) rfl (.tmp 29) (.tmp 33) rfl w1.heap.size _ _ _ [(n : Int) + 1, (m : Int) + 1] rfl HO3.out (below_al (below_al (Below.refl _ _))) ((OwnI.made w3 _ #[.int .i64 ((n : Int) + 1), .int .i64 ((m : Int) + 1)] [(n : Int) + 1, (m : Int) + 1] rfl (Nat.le_refl _) (by simp)).alloc _) (w3.heap.size + 1) 0 rfl (cell_al _ _ _ _ _ _ (by simp) rfl) (by omega) Hb4.out.size (fun v' w' h1 h2 h3 => ?_)
                have h4 : Below w1.heap.size w1 w' := Below.grown (below_al (below_al Hb4.out)) h2 (by have := Hb4.out.size; simp; omega) h3
                have HO4 := Lib.hid h1
                have H4 := Lib.hid h4
                clear h1 h2 h3 h4
                go_wp2_with fail
                go_roundw
                case rel => exact ⟨m + 1, by omega, by go_num, by rw [HS2.out, ← List.append_assoc]; exact HO4.out, H4.out⟩
                case measure => simp [intOf]; omega
          · obtain rfl : m = 5 := by omega
            have HS := Lib.hid (facs_succ ts n)
            go_wp2_with fail
            go_roundw
            case rel => exact ⟨n + 1, by omega, by go_num, by rw [HS.out]; exact HO2.out, Hb2.out⟩
            case measure => simp [intOf]; omega
      · obtain rfl : n = 5 := by omega
        go_wp2_with fail
        go_ret2
        exact ⟨_, by first | rfl | exact ret_vc HVc.out.symm, by rw [HV.out]; exact HO.out.weaken Hw1.out.size, Hw1.out.trans (Hb.out.mono Hw1.out.size)⟩
set_option maxRecDepth 100000 in
set_option maxHeartbeats 1000000 in
theorem specFactorsOf_c (c : Int) (ts : List T4) (A : Option Addr) (cx : Nat) (w : World) (hT : TileCells w A ts) (hl : ts.length ≤ 1000000000) :
    Calls Tryz.prog 58 #[.agg #[.int .i64 c, .slice A ts.length cx]] w (RetIIC2 w (facV c ts) (facCode c ts)) := by
  have HI := Lib.hid (fun w h => l01Is_c c ts A cx w h hl)
  have HT := Lib.hid hT
  have HV : Hid (facV c ts = if isSetB c ts = true then facs ts 5 else []) := rfl
  have HVc : Hid (facCode c ts = if isSetB c ts = true then 0 else 1) := rfl
  clear hT
  cases hs : isSetB c ts
  · rw [hs] at HI HV HVc
    clear hs
    go_enter Tryz.func58, Tryz.ntmps58
    go_wp2_with fail
    refine (HI.out _ (HT.out.below (by (repeat (first | (with_reducible exact Below.refl _ _) | (with_reducible assumption) | (with_reducible refine below_al ?_) | (with_reducible refine below_dr ?_) | (with_reducible refine below_drN ?_) | (with_reducible refine below_set ?_ (by first | exact Nat.le_refl _ | (dsimp only; omega) | omega)) | (with_reducible refine below_tr (by with_reducible assumption) ?_)))))).mono ?_
    rintro e w1 ⟨rfl, hb1⟩
    have Hw1 : Hid (Below w.heap.size w w1) := by (show Below _ _ _); (repeat (first | (with_reducible exact Below.refl _ _) | (with_reducible assumption) | (with_reducible refine below_al ?_) | (with_reducible refine below_dr ?_) | (with_reducible refine below_drN ?_) | (with_reducible refine below_set ?_ (by first | exact Nat.le_refl _ | (dsimp only; omega) | omega)) | (with_reducible refine below_tr (by with_reducible assumption) ?_)))
    clear hb1
    go_wp2
    go_ret2
    exact ⟨_, by first | rfl | exact ret_vc HVc.out.symm, by rw [HV.out]; exact OwnII.nil _ _, Hw1.out⟩
  · obtain ⟨hS, h16⟩ := isSetB_small hs
    have HB := Lib.hid (fun p q a b d e w h => l08Balanced_c c ts A cx p q w h (by omega) hS a b d e)
    rw [hs] at HI HV HVc
    clear hs hS
    go_enter Tryz.func58, Tryz.ntmps58
    go_wp2_with fail
    refine (HI.out _ (HT.out.below (by (repeat (first | (with_reducible exact Below.refl _ _) | (with_reducible assumption) | (with_reducible refine below_al ?_) | (with_reducible refine below_dr ?_) | (with_reducible refine below_drN ?_) | (with_reducible refine below_set ?_ (by first | exact Nat.le_refl _ | (dsimp only; omega) | omega)) | (with_reducible refine below_tr (by with_reducible assumption) ?_)))))).mono ?_
    rintro e w1 ⟨rfl, hb1⟩
    have Hw1 : Hid (Below w.heap.size w w1) := by (show Below _ _ _); (repeat (first | (with_reducible exact Below.refl _ _) | (with_reducible assumption) | (with_reducible refine below_al ?_) | (with_reducible refine below_dr ?_) | (with_reducible refine below_drN ?_) | (with_reducible refine below_set ?_ (by first | exact Nat.le_refl _ | (dsimp only; omega) | omega)) | (with_reducible refine below_tr (by with_reducible assumption) ?_)))
    have d0 : ∀ w2, Below w1.heap.size w1 w2 → w2.cell? ⟨w.heap.size, 0, none⟩ = some (.int .i64 c) := keepC (by rw [(bcell hb1).1 _ _ (by simp)]; simp)
    have d1 : ∀ w2, Below w1.heap.size w1 w2 → w2.cell? ⟨w.heap.size, 1, none⟩ = some (.slice A ts.length cx) := keepC (by rw [(bcell hb1).1 _ _ (by simp)]; simp)
    have hN : w.heap.size < w1.heap.size := by have := hb1.size; simp at this; omega
    have D0 := Lib.hid d0
    have D1 := Lib.hid d1
    clear hb1 d0 d1
    go_wp2_with fail
    go_loopw [4, 5] (fun v p wr => ∃ n : Nat, n ≤ 5 ∧ p = .int .i64 ((n : Int) + 1) ∧ OwnII wr w1.heap.size v (facs ts n) ∧ Below w1.heap.size w1 wr) (fun _ p _ => 6 - (intOf p).toNat)
    case atStart => exact ⟨0, by omega, rfl, OwnII.empty rfl (Nat.le_refl _), by (repeat (first | (with_reducible exact Below.refl _ _) | (with_reducible assumption) | (with_reducible refine below_al ?_) | (with_reducible refine below_dr ?_) | (with_reducible refine below_drN ?_) | (with_reducible refine below_set ?_ (by first | exact Nat.le_refl _ | (dsimp only; omega) | omega)) | (with_reducible refine below_tr (by with_reducible assumption) ?_)))⟩
    case round =>
      obtain ⟨n, hn, rfl, hO, hb⟩ := hrel
      have HO := Lib.hid hO
      have Hb := Lib.hid hb
      clear hO hb
      by_cases hn5 : n < 5
      · have hn6 : (n : Int) + 1 ≤ 5 := by omega
        go_wp2_with fail
        go_loopw [4, 6] (fun v q wr => ∃ m : Nat, m ≤ 5 ∧ q = .int .i64 ((m : Int) + 1) ∧ OwnII wr w1.heap.size v (facs ts n ++ facRow ts ((n : Int) + 1) m) ∧ Below w1.heap.size w1 wr) (fun _ q _ => 6 - (intOf q).toNat)
        case atStart => exact ⟨0, by omega, rfl, by simpa [facRow] using HO.out, Hb.out⟩
        case round =>
          obtain ⟨m, hm, rfl, hO2, hb2⟩ := hrel
          have HO2 := Lib.hid hO2
          have Hb2 := Lib.hid hb2
          have e0 := D0.out _ hb2
          have e1 := D1.out _ hb2
          have hN2 : w.heap.size < wr.heap.size := by have := hb2.size; omega
          clear hO2 hb2
          by_cases hm5 : m < 5
          · have hm6 : (m : Int) + 1 ≤ 5 := by omega
            have HG := Lib.hid (fun w => l06Gcd_c ((n : Int) + 1) ((m : Int) + 1) w (by omega) (by omega) (by omega) (by omega))
            have HB2 := Lib.hid (HB.out ((n : Int) + 1) ((m : Int) + 1) (by omega) (by omega) (by omega) (by omega))
            have HS := Lib.hid (facRow_succ ts ((n : Int) + 1) m)
            have HF : Hid (facOk ts ((n : Int) + 1) ((m : Int) + 1) = (gcdI ((n : Int) + 1) ((m : Int) + 1) == 1 && balancedB ts ((n : Int) + 1) ((m : Int) + 1))) := rfl
            have hlen : (facs ts n ++ facRow ts ((n : Int) + 1) m).length ≤ 1000 := by
              rw [List.length_append]; have h1 := facs_len ts n; have h2 := facRow_len ts ((n : Int) + 1) m; omega
            generalize gcdI ((n : Int) + 1) ((m : Int) + 1) = g at *
            generalize balancedB ts ((n : Int) + 1) ((m : Int) + 1) = bb at *
            cases hg : (g == 1)
            · have HS2 : Hid (facRow ts ((n : Int) + 1) (m + 1) = facRow ts ((n : Int) + 1) m) := by rw [Hid, HS.out, HF.out, hg]; simp
              go_wp2_with fail
              refine (HG.out _).mono ?_
              rintro e w2 ⟨rfl, hbg0⟩
              have hbg : Below wr.heap.size wr w2 := by subst hbg0; exact Below.refl _ _
              try clear hbg0
              have Hbg := Lib.hid hbg
              clear e0 e1
              go_wp2_with fail
              go_roundw
              case rel => exact ⟨m + 1, by omega, by go_num, by rw [HS2.out]; exact HO2.out.below Hbg.out, Hb2.out.trans (Hbg.out.mono Hb2.out.size)⟩
              case measure => simp [intOf]; omega
            · cases bb
              · have HS2 : Hid (facRow ts ((n : Int) + 1) (m + 1) = facRow ts ((n : Int) + 1) m) := by rw [Hid, HS.out, HF.out, hg]; simp
                go_wp2_with fail
                refine (HG.out _).mono ?_
                rintro e w2 ⟨rfl, hbg0⟩
                have hbg : Below wr.heap.size wr w2 := by subst hbg0; exact Below.refl _ _
                try clear hbg0
                have Hbg := Lib.hid hbg
                have Hb3 : Hid (Below w1.heap.size w1 w2) := Hb2.out.trans (hbg.mono Hb2.out.size)
                have e0 := D0.out _ Hb3.out
                have e1 := D1.out _ Hb3.out
                have hN2 : w.heap.size < w2.heap.size := by have := Hb3.out.size; omega
                clear hbg
                go_wp2_with fail
                refine (HB2.out _ (HT.out.below (Hw1.out.trans (Hb3.out.mono Hw1.out.size)))).mono ?_
                rintro e w3 ⟨rfl, hb3⟩
                have HO3 := Lib.hid ((HO2.out.below Hbg.out).below hb3)
                have Hb4 : Hid (Below w1.heap.size w1 w3) := Hb3.out.trans (hb3.mono Hb3.out.size)
                clear e0 e1 hb3
                go_wp2_with fail
                go_roundw
                case rel => exact ⟨m + 1, by omega, by go_num, by rw [HS2.out]; exact HO3.out, Hb4.out⟩
                case measure => simp [intOf]; omega
              · have HS2 : Hid (facRow ts ((n : Int) + 1) (m + 1) = facRow ts ((n : Int) + 1) m ++ [[(n : Int) + 1, (m : Int) + 1]]) := by rw [Hid, HS.out, HF.out, hg]; simp
                go_wp2_with fail
                refine (HG.out _).mono ?_
                rintro e w2 ⟨rfl, hbg0⟩
                have hbg : Below wr.heap.size wr w2 := by subst hbg0; exact Below.refl _ _
                try clear hbg0
                have Hbg := Lib.hid hbg
                have Hb3 : Hid (Below w1.heap.size w1 w2) := Hb2.out.trans (hbg.mono Hb2.out.size)
                have e0 := D0.out _ Hb3.out
                have e1 := D1.out _ Hb3.out
                have hN2 : w.heap.size < w2.heap.size := by have := Hb3.out.size; omega
                clear hbg
                go_wp2_with fail
                refine (HB2.out _ (HT.out.below (Hw1.out.trans (Hb3.out.mono Hw1.out.size)))).mono ?_
                rintro e w3 ⟨rfl, hb3⟩
                have HO3 := Lib.hid ((HO2.out.below Hbg.out).below hb3)
                have Hb4 : Hid (Below w1.heap.size w1 w3) := Hb3.out.trans (hb3.mono Hb3.out.size)
                clear e0 e1 hb3
                go_wp2_with (at_builtin; refine Hold.of ?_)
                refine Hold.to ?_
                refine wpl_app_row (W0 := w3) rfl (.tmp 29) (.tmp 33) rfl w1.heap.size _ _ _ [(n : Int) + 1, (m : Int) + 1] rfl HO3.out (below_al (below_al (Below.refl _ _))) ((OwnI.made w3 _ #[.int .i64 ((n : Int) + 1), .int .i64 ((m : Int) + 1)] [(n : Int) + 1, (m : Int) + 1] rfl (Nat.le_refl _) (by simp)).alloc _) (w3.heap.size + 1) 0 rfl (cell_al _ _ _ _ _ _ (by simp) rfl) (by omega) Hb4.out.size (fun v' w' h1 h2 h3 => ?_)
                have h4 : Below w1.heap.size w1 w' := Below.grown (below_al (below_al Hb4.out)) h2 (by have := Hb4.out.size; simp; omega) h3
                have HO4 := Lib.hid h1
                have H4 := Lib.hid h4
                clear h1 h2 h3 h4
                go_wp2_with fail
                go_roundw
                case rel => exact ⟨m + 1, by omega, by go_num, by rw [HS2.out, ← List.append_assoc]; exact HO4.out, H4.out⟩
                case measure => simp [intOf]; omega
          · obtain rfl : m = 5 := by omega
            have HS := Lib.hid (facs_succ ts n)
            go_wp2_with fail
            go_roundw
            case rel => exact ⟨n + 1, by omega, by go_num, by rw [HS.out]; exact HO2.out, Hb2.out⟩
            case measure => simp [intOf]; omega
      · obtain rfl : n = 5 := by omega
        go_wp2_with fail
        go_ret2
        exact ⟨_, by first | rfl | exact ret_vc HVc.out.symm, by rw [HV.out]; exact HO.out.weaken Hw1.out.size, Hw1.out.trans (Hb.out.mono Hw1.out.size)⟩

end Go.Proofs.YtkgnejhflnekaaaGreat
