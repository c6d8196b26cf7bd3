/- Contracts and lemmas for the statements of this seat, written for this claim; each theorem states its own conditions. -/
import Derived.Test.YtkgnejhflnekaaaGreatMuJ3
import Derived.Test.YtkgnejhflnekaaaGreatMuN8
set_option linter.unusedVariables false
set_option linter.unusedSimpArgs false
namespace Go.Proofs.YtkgnejhflnekaaaGreat
open Go.RowKit
/-- the code of a multiplying set -/
def RetS (w : World) (c : Int) (ts : List T4) (code : Int) (e : Ending) (w' : World) : Prop :=
  ∃ A cx, e = .returned (.tuple #[.agg #[.int .i64 c, .slice A ts.length cx], .int .i64 code]) ∧ OwnT w' w.heap.size (.slice A ts.length cx) ts ∧ Below w.heap.size w w'
def mTiles (p q m n u v : Int) : List T4 := mAll p q m u (n - m + 1).toNat (v - u + 1).toNat (p + q - 1).toNat
def mC (p q n v : Int) : Int := max (max (p + q - 1) (n + 1)) (v + 1)
def mSet (p q m n u v : Int) : List T4 := if (mTiles p q m n u v).length ≤ 16 then setT (mTiles p q m n u v) else []
def mCol (p q m n u v : Int) : Int := if (mTiles p q m n u v).length ≤ 16 then mC p q n v else 0
def mCode (p q m n u v : Int) : Int := if (mTiles p q m n u v).length ≤ 16 then 0 else 3
set_option maxRecDepth 100000 in
set_option maxHeartbeats 1000000 in
theorem l01Made_c (c : Int) (ts : List T4) (A : Option Addr) (cx : Nat) (w : World) (hT : TileCells w A ts) (hl : ts.length ≤ 100000000) :
    Calls Tryz.prog 80 #[.int .i64 c, .slice A ts.length cx] w fun e w' => ∃ A' cx', e = .returned (.agg #[.int .i64 c, .slice A' (setT ts).length cx']) ∧ OwnT w' w.heap.size (.slice A' (setT ts).length cx') (setT ts) ∧ Below w.heap.size w w' := by
  have HT := Lib.hid hT
  have HL := Lib.hid hl
  clear hT hl
  have HS := Lib.hid (fun (ss : List T4) (h : setT ts = ss) => h)
  generalize hS : setT ts = ss at *
  go_enter Tryz.func80, Tryz.ntmps80
  go_wp2_with fail
  refine (l01Sort_c ts A cx _ (HT.out.below (by (repeat (first | (with_reducible exact Below.refl _ _) | (with_reducible assumption) | (with_reducible refine below_al ?_) | (with_reducible refine below_dr ?_) | (with_reducible refine below_drN ?_) | (with_reducible refine below_set ?_ (by first | exact Nat.le_refl _ | (dsimp only; omega) | omega)) | (with_reducible refine below_tr (by with_reducible assumption) ?_))))) HL.out).mono ?_
  rintro e w1 ⟨g, cap, rfl, hO, hb1⟩
  rw [hS] at hO ⊢
  clear hS HS
  have HO := Lib.hid hO
  have q := (Blk.newA w #[.int .i64 0, .slice none 0 0] 26).under hb1
  have Hb1 := Lib.hid (show Below w.heap.size w w1 by (repeat (first | (with_reducible exact Below.refl _ _) | (with_reducible assumption) | (with_reducible refine below_al ?_) | (with_reducible refine below_dr ?_) | (with_reducible refine below_drN ?_) | (with_reducible refine below_set ?_ (by first | exact Nat.le_refl _ | (dsimp only; omega) | omega)) | (with_reducible refine below_tr (by with_reducible assumption) ?_))))
  have hs1 := Lib.hid (show w.heap.size < w1.heap.size by have := hb1.size; simp at this; omega)
  have y0 := q.cell 0 (by simp)
  have y1 := q.cell 1 (by simp)
  have g0 := q.frozen 0
  have g1 := q.frozen 1
  have Q := Lib.hid q
  clear q hO hb1
  go_wp2
  refine bodyPost_ret (v := .agg #[.int .i64 c, .slice (some ⟨g, 0, none⟩) ss.length cap]) (by
    have x0 := ((Q.out.set 0 (.int .i64 c)).set 1 (.slice (some ⟨g, 0, none⟩) ss.length cap)).cell 0 (by simp)
    have x1 := ((Q.out.set 0 (.int .i64 c)).set 1 (.slice (some ⟨g, 0, none⟩) ss.length cap)).cell 1 (by simp)
    simp only [List.set_cons_zero, List.set_cons_succ, List.getElem_cons_zero, List.getElem_cons_succ] at x0 x1
    simp [results, Tryz.results80, go_sem, x0, x1]) rfl ⟨_, _, rfl, ?_, ?_⟩
  · have hB := HO.out
    rw [World.size_alloc] at hB
    exact ((hB.other _ 0 (by omega) _).other _ 1 (by omega) _).weaken (by omega)
  · have hb1 := Hb1.out
    (repeat (first | (with_reducible exact Below.refl _ _) | (with_reducible assumption) | (with_reducible refine below_al ?_) | (with_reducible refine below_dr ?_) | (with_reducible refine below_drN ?_) | (with_reducible refine below_set ?_ (by first | exact Nat.le_refl _ | (dsimp only; omega) | omega)) | (with_reducible refine below_tr (by with_reducible assumption) ?_)))
set_option maxRecDepth 100000 in
set_option maxHeartbeats 1000000 in
theorem multiplying_c (p q m n u v : Int) (w : World) (hp : 1 ≤ p) (hp' : p ≤ 3) (hq : 1 ≤ q) (hq' : q ≤ 3) (hm : 0 ≤ m) (hmn : m ≤ n) (hn : n ≤ 5) (hu : 0 ≤ u) (huv : u ≤ v) (hv : v ≤ 5) :
    Calls Tryz.prog 115 #[.int .i64 p, .int .i64 q, .int .i64 m, .int .i64 n, .int .i64 u, .int .i64 v] w (RetS w (mCol p q m n u v) (mSet p q m n u v) (mCode p q m n u v)) := by
  obtain ⟨N, hN⟩ : ∃ N : Nat, N = (n - m + 1).toNat := ⟨_, rfl⟩
  obtain ⟨K, hK⟩ : ∃ K : Nat, K = (v - u + 1).toNat := ⟨_, rfl⟩
  obtain ⟨M, hM⟩ : ∃ M : Nat, M = (p + q - 1).toNat := ⟨_, rfl⟩
  have HT : Hid (mTiles p q m n u v = mAll p q m u N K M) := by show _ = _; rw [hN, hK, hM]; rfl
  have hN1 : m + N = n + 1 := by omega
  have hK1 : u + K = v + 1 := by omega
  have hM1 : 1 - p + M = q := by omega
  have hK6 : K ≤ 6 := by omega
  have hN6 : N ≤ 6 := by omega
  have hM6 : M ≤ 5 := by omega
  have HN1 := Lib.hid hN1
  have HK1 := Lib.hid hK1
  have HM1 := Lib.hid hM1
  clear hN hK hM hN1 hK1 hM1
  go_enter Tryz.func115, Tryz.ntmps115
  go_wp2_with fail
  go_loopw [14, 15] (fun t l wr => ∃ (i : Nat), i ≤ M ∧ l = .int .i64 (1 - p + i) ∧ Hid (OwnT wr (w.heap.size + 1) t (mAll p q m u N K i)) ∧ Hid (Below (w.heap.size + 1) (w.alloc (.cells #[.int .i64 0, .slice none 0 0] 26)) wr)) (fun _ l _ => M - (intOf l + p - 1).toNat)
  case atStart =>
    refine ⟨0, by omega, by simp, ?_, ?_⟩
    · show OwnT _ _ _ _
      have := OwnT.empty (w.alloc (.cells #[.int .i64 0, .slice none 0 0] 26)) (w.heap.size + 1) (by simp)
      rw [World.size_alloc] at this
      exact this
    · show Below _ _ _
      exact (Below.refl _ _).alloc (by simp) _
  case round =>
    obtain ⟨i, hi, rfl, HO, HB⟩ := hrel
    by_cases hi1 : i < M
    · have hl : 1 - p + (i : Int) < q := by have := HM1.out; omega
      obtain ⟨l, hl'⟩ : ∃ l : Int, l = 1 - p + i := ⟨_, rfl⟩
      have Hl := Lib.hid hl'
      have hl3 : -2 ≤ l := by omega
      rw [← hl'] at hl ⊢
      clear hl'
      go_wp2_with fail
      go_loopw [14, 16] (fun t dd wr => ∃ (j : Nat), j ≤ N ∧ dd = .int .i64 (m + j) ∧ Hid (OwnT wr (w.heap.size + 1) t (mAll p q m u N K i ++ mDs p q l m u K j)) ∧ Hid (Below (w.heap.size + 1) (w.alloc (.cells #[.int .i64 0, .slice none 0 0] 26)) wr)) (fun _ dd _ => N - (intOf dd - m).toNat)
      case atStart => exact ⟨0, by omega, by simp, by show OwnT _ _ _ _; simpa [mDs] using HO.out, HB.out⟩
      case round =>
        obtain ⟨j, hj, rfl, HO1, HB1⟩ := hrel
        by_cases hj1 : j < N
        · have hd5 : m + (j : Int) ≤ n := by have := HN1.out; omega
          have hd0 : 0 ≤ m + (j : Int) := by omega
          obtain ⟨d, hd'⟩ : ∃ d : Int, d = m + j := ⟨_, rfl⟩
          have Hd := Lib.hid hd'
          rw [← hd'] at hd5 hd0 ⊢
          clear hd'
          go_wp2_with fail
          go_loopw [14, 17] (fun t ee wr => ∃ (k : Nat), k ≤ K ∧ ee = .int .i64 (u + k) ∧ Hid (OwnT wr (w.heap.size + 1) t (mAll p q m u N K i ++ mDs p q l m u K j ++ mRow p q l d u k)) ∧ Hid (Below (w.heap.size + 1) (w.alloc (.cells #[.int .i64 0, .slice none 0 0] 26)) wr)) (fun _ ee _ => K - (intOf ee - u).toNat)
          case atStart => exact ⟨0, by omega, by simp, by show OwnT _ _ _ _; simpa [mRow] using HO1.out, HB1.out⟩
          case round =>
            obtain ⟨k, hk, rfl, HO2, HB2⟩ := hrel
            by_cases hk1 : k < K
            · have he5 : u + (k : Int) ≤ v := by have := HK1.out; omega
              have he0 : 0 ≤ u + (k : Int) := by omega
              obtain ⟨e, he'⟩ : ∃ e : Int, e = u + k := ⟨_, rfl⟩
              have He := Lib.hid he'
              rw [← he'] at he5 he0 ⊢
              clear he'
              obtain ⟨x, hx⟩ : ∃ x : Int, x = p * d := ⟨_, rfl⟩
              obtain ⟨y, hy⟩ : ∃ y : Int, y = q * e := ⟨_, rfl⟩
              have x0 : 0 ≤ x := by rw [hx]; exact Int.mul_nonneg (by omega) hd0
              have x1 : x ≤ 15 := by rw [hx]; exact Int.mul_le_mul hp' (show d ≤ 5 by omega) hd0 (by omega)
              have y0 : 0 ≤ y := by rw [hy]; exact Int.mul_nonneg (by omega) he0
              have y1 : y ≤ 15 := by rw [hy]; exact Int.mul_le_mul hq' (show e ≤ 5 by omega) he0 (by omega)
              have ex : IntKind.i64.wrap (p * d) = x := by rw [hx]; exact IntWalk.i64_in _ (by omega)
              have ey : IntKind.i64.wrap (q * e) = y := by rw [hy]; exact IntWalk.i64_in _ (by omega)
              have HC : Hid (mCell p q l d e = if 1 - p ≤ x + l - y ∧ x + l - y ≤ q - 1 then [⟨l + p - 1, d, x + l - y + p - 1, e⟩] else []) := by show _ = _; rw [hx, hy]; rfl
              clear hx hy
              have HI := Lib.hid (fun w => within_c (x + l - y) (1 - p) (q - 1) w)
              have hb1 := mAll_len p q m u N K hK6 hN6 i
              have hb2 := mDs_len p q l m u K hK6 j
              have hb3 := mRow_len p q l d u k
              have hlen : (mAll p q m u N K i ++ mDs p q l m u K j ++ mRow p q l d u k).length ≤ 1000 := by rw [List.length_append, List.length_append]; omega
              have HLEN := Lib.hid hlen
              have HR : Hid (mRow p q l d u (k + 1) = mRow p q l d u k ++ mCell p q l d e) := by show _ = _; rw [mRow_succ, He.out]
              clear hb1 hb2 hb3 hlen
              cases hc : inR (1 - p) (q - 1) (x + l - y)
              · rw [hc] at HI
                have HC2 : Hid (mCell p q l d e = []) := by
                  show _ = _
                  rw [HC.out, if_neg]
                  intro h
                  rw [inR_iff.2 h] at hc
                  cases hc
                clear hc
                go_wp2_with fail
                refine (HI.out _).mono ?_
                rintro e' w1 ⟨rfl, rfl⟩
                go_wp2_with fail
                go_roundw
                case rel => exact ⟨k + 1, by omega, by have := He.out; go_num, by show OwnT _ _ _ _; rw [HR.out, HC2.out, List.append_nil]; exact HO2.out, HB2.out⟩
                case measure => have := He.out; simp [intOf]; omega
              · rw [hc] at HI
                have HC2 : Hid (mCell p q l d e = [⟨l + p - 1, d, x + l - y + p - 1, e⟩]) := by
                  show _ = _
                  rw [HC.out, if_pos (inR_iff.1 hc)]
                clear hc
                go_wp2_with fail
                refine (HI.out _).mono ?_
                rintro e' w1 ⟨rfl, rfl⟩
                go_wp2_with (at_builtin; refine Hold.of ?_)
                refine Hold.to ?_
                refine wpl_app_tile rfl (.tmp 54) (.tmp 66) rfl (w.heap.size + 1) _ _ ⟨l + p - 1, d, x + l - y + p - 1, e⟩ rfl (HO2.out.alloc _) wr.heap.size rfl (Blk.newA _ _ _) (by have := HLEN.out; omega) (by have := HB2.out.size; simp at this ⊢; omega) (fun v' w' h1 h2 => ?_)
                have h3 : Below (w.heap.size + 1) (w.alloc (.cells #[.int .i64 0, .slice none 0 0] 26)) w' := (HB2.out.alloc (by have := HB2.out.size; simp at this; omega) _).grown h2 (by have := HB2.out.size; simp at this ⊢; omega) HO2.out.rowlt
                have H1 := Lib.hid h1
                have H3 := Lib.hid h3
                clear h1 h2 h3
                go_wp2_with fail
                go_roundw
                case rel => exact ⟨k + 1, by omega, by have := He.out; go_num, by show OwnT _ _ _ _; rw [HR.out, HC2.out, ← List.append_assoc]; exact H1.out, H3.out⟩
                case measure => have := He.out; simp [intOf]; omega
            · have hkK : k = K := by omega
              have hend : ¬ u + (k : Int) ≤ v := by have := HK1.out; omega
              have HR : Hid (mDs p q l m u K (j + 1) = mDs p q l m u K j ++ mRow p q l d u k) := by show _ = _; rw [mDs_succ, Hd.out, hkK]
              clear hkK
              go_wp2_with fail
              go_roundw
              case rel => exact ⟨j + 1, by omega, by have := Hd.out; go_num, by show OwnT _ _ _ _; rw [HR.out, ← List.append_assoc]; exact HO2.out, HB2.out⟩
              case measure => have := Hd.out; simp [intOf]; omega
        · have hjN : j = N := by omega
          have hend : ¬ m + (j : Int) ≤ n := by have := HN1.out; omega
          have HR : Hid (mAll p q m u N K (i + 1) = mAll p q m u N K i ++ mDs p q l m u K j) := by show _ = _; rw [mAll_succ, Hl.out, hjN]
          clear hjN
          go_wp2_with fail
          go_roundw
          case rel => exact ⟨i + 1, by omega, by have := Hl.out; go_num, by show OwnT _ _ _ _; rw [HR.out]; exact HO1.out, HB1.out⟩
          case measure => have := Hl.out; simp [intOf]; omega
    · have hiM : i = M := by omega
      have hend : ¬ 1 - p + (i : Int) < q := by have := HM1.out; omega
      have HR : Hid (mTiles p q m n u v = mAll p q m u N K i) := by show _ = _; rw [HT.out, hiM]
      clear hiM
      obtain ⟨A, cx, rfl, hTA⟩ := HO.out.tiles
      have hnd := setT_len_nodup (mAll_nodup p q m u N K i)
      have hlen := mAll_len p q m u N K hK6 hN6 i
      rw [← HR.out] at hnd hlen HO hTA ⊢
      have HTA := Lib.hid hTA
      have HND := Lib.hid hnd
      have HLEN := Lib.hid hlen
      have HRC : Hid (mCol p q m n u v = if (mTiles p q m n u v).length ≤ 16 then mC p q n v else 0) := rfl
      have HRS : Hid (mSet p q m n u v = if (mTiles p q m n u v).length ≤ 16 then setT (mTiles p q m n u v) else []) := rfl
      have HRK : Hid (mCode p q m n u v = if (mTiles p q m n u v).length ≤ 16 then 0 else 3) := rfl
      have HC6 : Hid (mC p q n v ≤ 6) := by show _ ≤ _; unfold mC; omega
      have HCV : Hid (mC p q n v = max (max (p + q - 1) (n + 1)) (v + 1)) := rfl
      clear hTA hnd hlen
      have hZ := Lib.hid (((Blk.newA w #[.int .i64 0, .slice none 0 0] 26)).below HB.out (by omega))
      have hN := Lib.hid (show w.heap.size < wr.heap.size by have := HB.out.size; simp at this; omega)
      have hBw := Lib.hid (show Below w.heap.size w wr from ((Below.refl w.heap.size w).alloc (Nat.le_refl _) _).trans (HB.out.mono (by omega)))
      have HMC : Hid (∀ x : Int, x = max (max (p + q - 1) (n + 1)) (v + 1) → x = mC p q n v) := fun x h => h
      have H3 : Hid (p + q - 1 = mC p q n v ∨ n + 1 = mC p q n v ∨ v + 1 = mC p q n v) := by show _ ∨ _; unfold mC; omega
      clear HT HO HR HB HCV
      generalize mTiles p q m n u v = ts at *
      generalize mSet p q m n u v = s at *
      generalize mCol p q m n u v = cc at *
      generalize mCode p q m n u v = kk at *
      go_wp2_with fail
      all_goals
        first
        | rw [HMC.out (v + 1) (by omega)]
        | rw [HMC.out (n + 1) (by omega)]
        | rw [HMC.out (p + q - 1) (by omega)]
        generalize mC p q n v = c at *
        have HS := Lib.hid (fun (ss : List T4) (h : setT ts = ss) => h)
        refine (limited_c c ts A cx _ HTA.out (by have := HLEN.out; omega)).mono ?_
        rintro e w1 ⟨hb1, ⟨h6, h16, Av, xv, rfl, hO'⟩ | ⟨hno, rfl⟩⟩
        · have h16' : ts.length ≤ 16 := by rw [← HND.out]; exact h16
          rw [if_pos h16'] at HRC HRS HRK
          generalize setT ts = ss at *
          have HOv := Lib.hid hO'
          have Hb1 := Lib.hid hb1
          have q := hZ.out.under hb1
          clear hb1 hO' h16 h6 h16' HND
          have Q := Lib.hid q
          have y0 := q.cell 0 (by simp)
          have y1 := q.cell 1 (by simp)
          have g0 := q.frozen 0
          have g1 := q.frozen 1
          simp only [List.getElem_cons_zero, List.getElem_cons_succ] at y0 y1
          clear q
          go_wp2
          refine bodyPost_ret (v := .tuple #[.agg #[.int .i64 c, .slice Av ss.length xv], .int .i64 0]) (by
            have x0 := ((Q.out.set 0 (.int .i64 c)).set 1 (.slice Av ss.length xv)).cell 0 (by simp)
            have x1 := ((Q.out.set 0 (.int .i64 c)).set 1 (.slice Av ss.length xv)).cell 1 (by simp)
            simp only [List.set_cons_zero, List.set_cons_succ, List.getElem_cons_zero, List.getElem_cons_succ] at x0 x1
            simp [results, Tryz.results115, go_sem, x0, x1]) rfl ?_
          have hbw := hBw.out
          have hb1 := Hb1.out
          rw [HRC.out, HRS.out, HRK.out]
          refine ⟨Av, xv, rfl, ((HOv.out.other _ 0 (by have := hN.out; omega) _).other _ 1 (by have := hN.out; omega) _).weaken (by have := hN.out; omega), ?_⟩
          have hbb := hbw.trans (hb1.mono hbw.size)
          (repeat (first | (with_reducible exact Below.refl _ _) | (with_reducible assumption) | (with_reducible refine below_al ?_) | (with_reducible refine below_dr ?_) | (with_reducible refine below_drN ?_) | (with_reducible refine below_set ?_ (by first | exact Nat.le_refl _ | (dsimp only; omega) | omega)) | (with_reducible refine below_tr (by with_reducible assumption) ?_)))
        · have h16' : ¬ ts.length ≤ 16 := by rw [← HND.out]; exact fun h => hno ⟨HC6.out, h⟩
          rw [if_neg h16'] at HRC HRS HRK
          have Hb1 := Lib.hid hb1
          have q := hZ.out.under hb1
          clear hb1 hno h16' HND
          have Q := Lib.hid q
          have y0 := q.cell 0 (by simp)
          have y1 := q.cell 1 (by simp)
          have g0 := q.frozen 0
          have g1 := q.frozen 1
          simp only [List.getElem_cons_zero, List.getElem_cons_succ] at y0 y1
          clear q
          go_wp2
          refine bodyPost_ret (v := .tuple #[.agg #[.int .i64 0, .slice none 0 0], .int .i64 3]) (by
            have x0 := ((Q.out.set 0 (.int .i64 0)).set 1 (.slice none 0 0)).cell 0 (by simp)
            have x1 := ((Q.out.set 0 (.int .i64 0)).set 1 (.slice none 0 0)).cell 1 (by simp)
            simp only [List.set_cons_zero, List.set_cons_succ, List.getElem_cons_zero, List.getElem_cons_succ] at x0 x1
            simp [results, Tryz.results115, go_sem, x0, x1]) rfl ?_
          have hbw := hBw.out
          have hb1 := Hb1.out
          rw [HRC.out, HRS.out, HRK.out]
          refine ⟨none, 0, rfl, World.ownsRow_nil _ _ _ _, ?_⟩
          have hbb := hbw.trans (hb1.mono hbw.size)
          (repeat (first | (with_reducible exact Below.refl _ _) | (with_reducible assumption) | (with_reducible refine below_al ?_) | (with_reducible refine below_dr ?_) | (with_reducible refine below_drN ?_) | (with_reducible refine below_set ?_ (by first | exact Nat.le_refl _ | (dsimp only; omega) | omega)) | (with_reducible refine below_tr (by with_reducible assumption) ?_)))
set_option maxRecDepth 100000 in
set_option maxHeartbeats 1000000 in
theorem l08Made_c (p q m n u v : Int) (w : World) (hp : 1 ≤ p) (hp' : p ≤ 3) (hq : 1 ≤ q) (hq' : q ≤ 3) (hm : 0 ≤ m) (hmn : m ≤ n) (hn : n ≤ 5) (hu : 0 ≤ u) (huv : u ≤ v) (hv : v ≤ 5) :
    Calls Tryz.prog 117 #[.int .i64 p, .int .i64 q, .int .i64 m, .int .i64 n, .int .i64 u, .int .i64 v] w (RetS w (mCol p q m n u v) (mSet p q m n u v) (mCode p q m n u v)) := by
  obtain ⟨N, hN⟩ : ∃ N : Nat, N = (n - m + 1).toNat := ⟨_, rfl⟩
  obtain ⟨K, hK⟩ : ∃ K : Nat, K = (v - u + 1).toNat := ⟨_, rfl⟩
  obtain ⟨M, hM⟩ : ∃ M : Nat, M = (p + q - 1).toNat := ⟨_, rfl⟩
  have HT : Hid (mTiles p q m n u v = mAll p q m u N K M) := by show _ = _; rw [hN, hK, hM]; rfl
  have hN1 : m + N = n + 1 := by omega
  have hK1 : u + K = v + 1 := by omega
  have hM1 : 1 - p + M = q := by omega
  have hK6 : K ≤ 6 := by omega
  have hN6 : N ≤ 6 := by omega
  have hM6 : M ≤ 5 := by omega
  have HN1 := Lib.hid hN1
  have HK1 := Lib.hid hK1
  have HM1 := Lib.hid hM1
  clear hN hK hM hN1 hK1 hM1
  go_enter Tryz.func117, Tryz.ntmps117
  go_wp2_with fail
  go_loopw [14, 15] (fun t l wr => ∃ (i : Nat), i ≤ M ∧ l = .int .i64 (1 - p + i) ∧ Hid (OwnT wr (w.heap.size + 1) t (mAll p q m u N K i)) ∧ Hid (Below (w.heap.size + 1) (w.alloc (.cells #[.int .i64 0, .slice none 0 0] 26)) wr)) (fun _ l _ => M - (intOf l + p - 1).toNat)
  case atStart =>
    refine ⟨0, by omega, by simp, ?_, ?_⟩
    · show OwnT _ _ _ _
      have := OwnT.empty (w.alloc (.cells #[.int .i64 0, .slice none 0 0] 26)) (w.heap.size + 1) (by simp)
      rw [World.size_alloc] at this
      exact this
    · show Below _ _ _
      exact (Below.refl _ _).alloc (by simp) _
  case round =>
    obtain ⟨i, hi, rfl, HO, HB⟩ := hrel
    by_cases hi1 : i < M
    · have hl : 1 - p + (i : Int) < q := by have := HM1.out; omega
      obtain ⟨l, hl'⟩ : ∃ l : Int, l = 1 - p + i := ⟨_, rfl⟩
      have Hl := Lib.hid hl'
      have hl3 : -2 ≤ l := by omega
      rw [← hl'] at hl ⊢
      clear hl'
      go_wp2_with fail
      go_loopw [14, 16] (fun t dd wr => ∃ (j : Nat), j ≤ N ∧ dd = .int .i64 (m + j) ∧ Hid (OwnT wr (w.heap.size + 1) t (mAll p q m u N K i ++ mDs p q l m u K j)) ∧ Hid (Below (w.heap.size + 1) (w.alloc (.cells #[.int .i64 0, .slice none 0 0] 26)) wr)) (fun _ dd _ => N - (intOf dd - m).toNat)
      case atStart => exact ⟨0, by omega, by simp, by show OwnT _ _ _ _; simpa [mDs] using HO.out, HB.out⟩
      case round =>
        obtain ⟨j, hj, rfl, HO1, HB1⟩ := hrel
        by_cases hj1 : j < N
        · have hd5 : m + (j : Int) ≤ n := by have := HN1.out; omega
          have hd0 : 0 ≤ m + (j : Int) := by omega
          obtain ⟨d, hd'⟩ : ∃ d : Int, d = m + j := ⟨_, rfl⟩
          have Hd := Lib.hid hd'
          rw [← hd'] at hd5 hd0 ⊢
          clear hd'
          go_wp2_with fail
          go_loopw [14, 17] (fun t ee wr => ∃ (k : Nat), k ≤ K ∧ ee = .int .i64 (u + k) ∧ Hid (OwnT wr (w.heap.size + 1) t (mAll p q m u N K i ++ mDs p q l m u K j ++ mRow p q l d u k)) ∧ Hid (Below (w.heap.size + 1) (w.alloc (.cells #[.int .i64 0, .slice none 0 0] 26)) wr)) (fun _ ee _ => K - (intOf ee - u).toNat)
          case atStart => exact ⟨0, by omega, by simp, by show OwnT _ _ _ _; simpa [mRow] using HO1.out, HB1.out⟩
          case round =>
            obtain ⟨k, hk, rfl, HO2, HB2⟩ := hrel
            by_cases hk1 : k < K
            · have he5 : u + (k : Int) ≤ v := by have := HK1.out; omega
              have he0 : 0 ≤ u + (k : Int) := by omega
              obtain ⟨e, he'⟩ : ∃ e : Int, e = u + k := ⟨_, rfl⟩
              have He := Lib.hid he'
              rw [← he'] at he5 he0 ⊢
              clear he'
              obtain ⟨x, hx⟩ : ∃ x : Int, x = p * d := ⟨_, rfl⟩
              obtain ⟨y, hy⟩ : ∃ y : Int, y = q * e := ⟨_, rfl⟩
              have x0 : 0 ≤ x := by rw [hx]; exact Int.mul_nonneg (by omega) hd0
              have x1 : x ≤ 15 := by rw [hx]; exact Int.mul_le_mul hp' (show d ≤ 5 by omega) hd0 (by omega)
              have y0 : 0 ≤ y := by rw [hy]; exact Int.mul_nonneg (by omega) he0
              have y1 : y ≤ 15 := by rw [hy]; exact Int.mul_le_mul hq' (show e ≤ 5 by omega) he0 (by omega)
              have ex : IntKind.i64.wrap (p * d) = x := by rw [hx]; exact IntWalk.i64_in _ (by omega)
              have ey : IntKind.i64.wrap (q * e) = y := by rw [hy]; exact IntWalk.i64_in _ (by omega)
              have HC : Hid (mCell p q l d e = if 1 - p ≤ x + l - y ∧ x + l - y ≤ q - 1 then [⟨l + p - 1, d, x + l - y + p - 1, e⟩] else []) := by show _ = _; rw [hx, hy]; rfl
              clear hx hy
              have HI := Lib.hid (fun w => l01In_c (x + l - y) (1 - p) (q - 1) w)
              have hb1 := mAll_len p q m u N K hK6 hN6 i
              have hb2 := mDs_len p q l m u K hK6 j
              have hb3 := mRow_len p q l d u k
              have hlen : (mAll p q m u N K i ++ mDs p q l m u K j ++ mRow p q l d u k).length ≤ 1000 := by rw [List.length_append, List.length_append]; omega
              have HLEN := Lib.hid hlen
              have HR : Hid (mRow p q l d u (k + 1) = mRow p q l d u k ++ mCell p q l d e) := by show _ = _; rw [mRow_succ, He.out]
              clear hb1 hb2 hb3 hlen
              cases hc : inR (1 - p) (q - 1) (x + l - y)
              · rw [hc] at HI
                have HC2 : Hid (mCell p q l d e = []) := by
                  show _ = _
                  rw [HC.out, if_neg]
                  intro h
                  rw [inR_iff.2 h] at hc
                  cases hc
                clear hc
                go_wp2_with fail
                refine (HI.out _).mono ?_
                rintro e' w1 ⟨rfl, rfl⟩
                go_wp2_with fail
                go_roundw
                case rel => exact ⟨k + 1, by omega, by have := He.out; go_num, by show OwnT _ _ _ _; rw [HR.out, HC2.out, List.append_nil]; exact HO2.out, HB2.out⟩
                case measure => have := He.out; simp [intOf]; omega
              · rw [hc] at HI
                have HC2 : Hid (mCell p q l d e = [⟨l + p - 1, d, x + l - y + p - 1, e⟩]) := by
                  show _ = _
                  rw [HC.out, if_pos (inR_iff.1 hc)]
                clear hc
                go_wp2_with fail
                refine (HI.out _).mono ?_
                rintro e' w1 ⟨rfl, rfl⟩
                go_wp2_with (at_builtin; refine Hold.of ?_)
                refine Hold.to ?_
                refine wpl_app_tile rfl (.tmp 54) (.tmp 66) rfl (w.heap.size + 1) _ _ ⟨l + p - 1, d, x + l - y + p - 1, e⟩ rfl (HO2.out.alloc _) wr.heap.size rfl (Blk.newA _ _ _) (by have := HLEN.out; omega) (by have := HB2.out.size; simp at this ⊢; omega) (fun v' w' h1 h2 => ?_)
                have h3 : Below (w.heap.size + 1) (w.alloc (.cells #[.int .i64 0, .slice none 0 0] 26)) w' := (HB2.out.alloc (by have := HB2.out.size; simp at this; omega) _).grown h2 (by have := HB2.out.size; simp at this ⊢; omega) HO2.out.rowlt
                have H1 := Lib.hid h1
                have H3 := Lib.hid h3
                clear h1 h2 h3
                go_wp2_with fail
                go_roundw
                case rel => exact ⟨k + 1, by omega, by have := He.out; go_num, by show OwnT _ _ _ _; rw [HR.out, HC2.out, ← List.append_assoc]; exact H1.out, H3.out⟩
                case measure => have := He.out; simp [intOf]; omega
            · have hkK : k = K := by omega
              have hend : ¬ u + (k : Int) ≤ v := by have := HK1.out; omega
              have HR : Hid (mDs p q l m u K (j + 1) = mDs p q l m u K j ++ mRow p q l d u k) := by show _ = _; rw [mDs_succ, Hd.out, hkK]
              clear hkK
              go_wp2_with fail
              go_roundw
              case rel => exact ⟨j + 1, by omega, by have := Hd.out; go_num, by show OwnT _ _ _ _; rw [HR.out, ← List.append_assoc]; exact HO2.out, HB2.out⟩
              case measure => have := Hd.out; simp [intOf]; omega
        · have hjN : j = N := by omega
          have hend : ¬ m + (j : Int) ≤ n := by have := HN1.out; omega
          have HR : Hid (mAll p q m u N K (i + 1) = mAll p q m u N K i ++ mDs p q l m u K j) := by show _ = _; rw [mAll_succ, Hl.out, hjN]
          clear hjN
          go_wp2_with fail
          go_roundw
          case rel => exact ⟨i + 1, by omega, by have := Hl.out; go_num, by show OwnT _ _ _ _; rw [HR.out]; exact HO1.out, HB1.out⟩
          case measure => have := Hl.out; simp [intOf]; omega
    · have hiM : i = M := by omega
      have hend : ¬ 1 - p + (i : Int) < q := by have := HM1.out; omega
      have HR : Hid (mTiles p q m n u v = mAll p q m u N K i) := by show _ = _; rw [HT.out, hiM]
      clear hiM
      obtain ⟨A, cx, rfl, hTA⟩ := HO.out.tiles
      have hnd := setT_len_nodup (mAll_nodup p q m u N K i)
      have hlen := mAll_len p q m u N K hK6 hN6 i
      rw [← HR.out] at hnd hlen HO hTA ⊢
      have HTA := Lib.hid hTA
      have HND := Lib.hid hnd
      have HLEN := Lib.hid hlen
      have HRC : Hid (mCol p q m n u v = if (mTiles p q m n u v).length ≤ 16 then mC p q n v else 0) := rfl
      have HRS : Hid (mSet p q m n u v = if (mTiles p q m n u v).length ≤ 16 then setT (mTiles p q m n u v) else []) := rfl
      have HRK : Hid (mCode p q m n u v = if (mTiles p q m n u v).length ≤ 16 then 0 else 3) := rfl
      have HC6 : Hid (mC p q n v ≤ 6) := by show _ ≤ _; unfold mC; omega
      have HCV : Hid (mC p q n v = max (max (p + q - 1) (n + 1)) (v + 1)) := rfl
      clear hTA hnd hlen
      have hZ := Lib.hid (((Blk.newA w #[.int .i64 0, .slice none 0 0] 26)).below HB.out (by omega))
      have hN := Lib.hid (show w.heap.size < wr.heap.size by have := HB.out.size; simp at this; omega)
      have hBw := Lib.hid (show Below w.heap.size w wr from ((Below.refl w.heap.size w).alloc (Nat.le_refl _) _).trans (HB.out.mono (by omega)))
      have HMC : Hid (∀ x : Int, x = max (max (p + q - 1) (n + 1)) (v + 1) → x = mC p q n v) := fun x h => h
      have H3 : Hid (p + q - 1 = mC p q n v ∨ n + 1 = mC p q n v ∨ v + 1 = mC p q n v) := by show _ ∨ _; unfold mC; omega
      clear HT HO HR HB HCV
      generalize mTiles p q m n u v = ts at *
      generalize mSet p q m n u v = s at *
      generalize mCol p q m n u v = cc at *
      generalize mCode p q m n u v = kk at *
      by_cases h16 : ts.length ≤ 16
      · rw [if_pos h16] at HRC HRS HRK
        go_wp2_with fail
        all_goals
          first
          | rw [HMC.out (v + 1) (by omega)]
          | rw [HMC.out (n + 1) (by omega)]
          | rw [HMC.out (p + q - 1) (by omega)]
          generalize mC p q n v = c at *
          refine (l01Made_c c ts A cx _ HTA.out (by have := HLEN.out; omega)).mono ?_
          rintro e w1 ⟨Av, xv, rfl, hO', hb1⟩
          generalize setT ts = ss at *
          have HOv := Lib.hid hO'
          have Hb1 := Lib.hid hb1
          have q := hZ.out.under hb1
          clear hb1 hO' HND
          have Q := Lib.hid q
          have y0 := q.cell 0 (by simp)
          have y1 := q.cell 1 (by simp)
          have g0 := q.frozen 0
          have g1 := q.frozen 1
          simp only [List.getElem_cons_zero, List.getElem_cons_succ] at y0 y1
          clear q
          go_wp2
          refine bodyPost_ret (v := .tuple #[.agg #[.int .i64 c, .slice Av ss.length xv], .int .i64 0]) (by
            have x0 := ((Q.out.set 0 (.int .i64 c)).set 1 (.slice Av ss.length xv)).cell 0 (by simp)
            have x1 := ((Q.out.set 0 (.int .i64 c)).set 1 (.slice Av ss.length xv)).cell 1 (by simp)
            simp only [List.set_cons_zero, List.set_cons_succ, List.getElem_cons_zero, List.getElem_cons_succ] at x0 x1
            simp [results, Tryz.results117, go_sem, x0, x1]) rfl ?_
          have hbw := hBw.out
          have hb1 := Hb1.out
          rw [HRC.out, HRS.out, HRK.out]
          refine ⟨Av, xv, rfl, ((HOv.out.other _ 0 (by have := hN.out; omega) _).other _ 1 (by have := hN.out; omega) _).weaken (by have := hN.out; omega), ?_⟩
          have hbb := hbw.trans (hb1.mono hbw.size)
          (repeat (first | (with_reducible exact Below.refl _ _) | (with_reducible assumption) | (with_reducible refine below_al ?_) | (with_reducible refine below_dr ?_) | (with_reducible refine below_drN ?_) | (with_reducible refine below_set ?_ (by first | exact Nat.le_refl _ | (dsimp only; omega) | omega)) | (with_reducible refine below_tr (by with_reducible assumption) ?_)))
      · rw [if_neg h16] at HRC HRS HRK
        have q := hZ.out
        have Hb1 : Hid (Below wr.heap.size wr wr) := Below.refl _ _
        have Q := Lib.hid q
        have y0 := q.cell 0 (by simp)
        have y1 := q.cell 1 (by simp)
        have g0 := q.frozen 0
        have g1 := q.frozen 1
        simp only [List.getElem_cons_zero, List.getElem_cons_succ] at y0 y1
        clear q
        go_wp2
        refine bodyPost_ret (v := .tuple #[.agg #[.int .i64 0, .slice none 0 0], .int .i64 3]) (by
          have x0 := ((Q.out.set 0 (.int .i64 0)).set 1 (.slice none 0 0)).cell 0 (by simp)
          have x1 := ((Q.out.set 0 (.int .i64 0)).set 1 (.slice none 0 0)).cell 1 (by simp)
          simp only [List.set_cons_zero, List.set_cons_succ, List.getElem_cons_zero, List.getElem_cons_succ] at x0 x1
          simp [results, Tryz.results117, go_sem, x0, x1]) rfl ?_
        have hbw := hBw.out
        have hb1 := Hb1.out
        rw [HRC.out, HRS.out, HRK.out]
        refine ⟨none, 0, rfl, World.ownsRow_nil _ _ _ _, ?_⟩
        have hbb := hbw.trans (hb1.mono hbw.size)
        (repeat (first | (with_reducible exact Below.refl _ _) | (with_reducible assumption) | (with_reducible refine below_al ?_) | (with_reducible refine below_dr ?_) | (with_reducible refine below_drN ?_) | (with_reducible refine below_set ?_ (by first | exact Nat.le_refl _ | (dsimp only; omega) | omega)) | (with_reducible refine below_tr (by with_reducible assumption) ?_)))

end Go.Proofs.YtkgnejhflnekaaaGreat
