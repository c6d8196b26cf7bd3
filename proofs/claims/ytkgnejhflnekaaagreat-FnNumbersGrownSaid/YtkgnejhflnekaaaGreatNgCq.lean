/- Contracts and lemmas for the statements of this seat, written for this claim; each theorem states its own conditions. -/
import Derived.Test.YtkgnejhflnekaaaGreatNgCp
import Derived.Test.YtkgnejhflnekaaaGreatNgMk
set_option linter.unusedVariables false
set_option linter.unusedSimpArgs false
namespace Go.Proofs.YtkgnejhflnekaaaGreat
open Go.RowKit
def corCode (c : Int) (ts : List T4) (L : List (List Int)) (i n : Int) : Int := codeB (isSetB c ts) (stepB ts.length L i n 20)
def corV (c : Int) (ts : List T4) (L : List (List Int)) (i n : Int) : List Int := if corCode c ts L i n = 0 then corners L i (n.toNat + 1) else []
theorem corV_len (c : Int) (ts : List T4) (L : List (List Int)) (i n : Int) : (corV c ts L i n).length ≤ 1000000 := by
  unfold corV
  split
  · rename_i h
    obtain ⟨_, h2⟩ := codeB_zero h
    obtain ⟨_, _, _, h3⟩ := stepB_parts h2
    rw [corners_len]
    omega
  · simp
/-- what a call gives back that returns a new list of numbers and a code -/
def RetIC1 (w : World) (xs : List Int) (c : Int) (e : Ending) (w' : World) : Prop :=
  ∃ v, e = .returned (.tuple #[v, .int .i64 c]) ∧ OwnI w' w.heap.size v xs ∧ Below w.heap.size w w'
theorem ret_vcI {v : Value} {a b : Int} (h : a = b) : Ending.returned (.tuple #[v, .int .i64 a]) = .returned (.tuple #[v, .int .i64 b]) := by rw [h]
set_option maxRecDepth 100000 in
set_option maxHeartbeats 1000000 in
theorem specCornersOf_c (c : Int) (ts : List T4) (A : Option Addr) (cx : Nat) (L : List (List Int)) (B : Option Addr) (cr : Nat) (i n : Int) (w : World) (hT : TileCells w A ts) (hl : ts.length ≤ 1000000000) (hR : RowsC w B L) (hn : L.length ≤ 1000000000) (hS : Short 1000000000 L) :
    Calls Tryz.prog 29 #[.agg #[.int .i64 c, .slice A ts.length cx], .slice B L.length cr, .int .i64 i, .int .i64 n] w (RetIC1 w (corV c ts L i n) (corCode c ts L i n)) := by
  have HC := Lib.hid (fun (wq : World) (hq : Below w.heap.size w wq) => l09Tile_c c ts A cx L B cr i n 20 wq (hT.below hq) hl (hR.below hq) hn hS)
  have HR := Lib.hid hR
  have HV : Hid (corCode c ts L i n = codeB (isSetB c ts) (stepB ts.length L i n 20)) := rfl
  have HV1 : Hid (corV c ts L i n = if corCode c ts L i n = 0 then corners L i (n.toNat + 1) else []) := rfl
  clear hT hR
  by_cases h0 : codeB (isSetB c ts) (stepB ts.length L i n 20) = 0
  · obtain ⟨hs, hst⟩ := codeB_zero h0
    obtain ⟨hB, ⟨i0, i1⟩, n0, n1⟩ := stepB_parts hst
    obtain ⟨m, rfl⟩ := Int.eq_ofNat_of_zero_le n0
    have HCo := Lib.hid (fun (wq : World) (hq : Below w.heap.size w wq) => l09Corners_c L B cr i m ts.length wq (HR.out.below hq) hB i0 i1 (by omega))
    rw [h0] at HV HC
    have hc0 := HV.out
    have HF1 : Hid (corV c ts L i m = corners L i (m + 1)) := by rw [Hid, HV1.out, if_pos hc0]; rfl
    rw [hc0]
    clear hs hst hB i0 i1 h0 hc0 HV HV1 hS
    go_enter Tryz.func29, Tryz.ntmps29
    go_wp2_with fail
    refine (HC.out _ (by (repeat (first | (with_reducible exact Below.refl _ _) | (with_reducible assumption) | (with_reducible refine below_al ?_) | (with_reducible refine below_dr ?_) | (with_reducible refine below_drN ?_) | (with_reducible refine below_set ?_ (by first | exact Nat.le_refl _ | (dsimp only; omega) | omega)) | (with_reducible refine below_tr (by with_reducible assumption) ?_))))).mono ?_
    rintro e w1 ⟨rfl, hb1⟩
    have Hw1 : Hid (Below w.heap.size w w1) := by (show Below _ _ _); (repeat (first | (with_reducible exact Below.refl _ _) | (with_reducible assumption) | (with_reducible refine below_al ?_) | (with_reducible refine below_dr ?_) | (with_reducible refine below_drN ?_) | (with_reducible refine below_set ?_ (by first | exact Nat.le_refl _ | (dsimp only; omega) | omega)) | (with_reducible refine below_tr (by with_reducible assumption) ?_)))
    clear hb1
    go_wp2_with fail
    refine (HCo.out _ Hw1.out).mono ?_
    rintro e w2 ⟨v, rfl, hO, hb2⟩
    go_wp2
    go_ret2
    exact ⟨_, rfl, by rw [HF1.out]; exact hO.weaken Hw1.out.size, Hw1.out.trans (hb2.mono Hw1.out.size)⟩
  · have HF1 : Hid (corV c ts L i n = []) := by rw [Hid, HV1.out, HV.out, if_neg h0]
    rw [HV.out]
    generalize codeB (isSetB c ts) (stepB ts.length L i n 20) = d at *
    have hne : (d != 0) = true := by simpa using h0
    clear h0
    go_enter Tryz.func29, Tryz.ntmps29
    go_wp2_with fail
    refine (HC.out _ (by (repeat (first | (with_reducible exact Below.refl _ _) | (with_reducible assumption) | (with_reducible refine below_al ?_) | (with_reducible refine below_dr ?_) | (with_reducible refine below_drN ?_) | (with_reducible refine below_set ?_ (by first | exact Nat.le_refl _ | (dsimp only; omega) | omega)) | (with_reducible refine below_tr (by with_reducible assumption) ?_))))).mono ?_
    rintro e w1 ⟨rfl, hb1⟩
    have Hw1 : Hid (Below w.heap.size w w1) := by (show Below _ _ _); (repeat (first | (with_reducible exact Below.refl _ _) | (with_reducible assumption) | (with_reducible refine below_al ?_) | (with_reducible refine below_dr ?_) | (with_reducible refine below_drN ?_) | (with_reducible refine below_set ?_ (by first | exact Nat.le_refl _ | (dsimp only; omega) | omega)) | (with_reducible refine below_tr (by with_reducible assumption) ?_)))
    clear hb1
    go_wp2
    go_ret2
    exact ⟨_, rfl, by rw [HF1.out]; exact OwnI.nil _ _, Hw1.out⟩
set_option maxRecDepth 100000 in
set_option maxHeartbeats 1000000 in
theorem implCornersOf_c (c : Int) (ts : List T4) (A : Option Addr) (cx : Nat) (L : List (List Int)) (B : Option Addr) (cr : Nat) (i n : Int) (w : World) (hT : TileCells w A ts) (hl : ts.length ≤ 1000000000) (hR : RowsC w B L) (hn : L.length ≤ 1000000000) (hS : Short 1000000000 L) :
    Calls Tryz.prog 28 #[.agg #[.int .i64 c, .slice A ts.length cx], .slice B L.length cr, .int .i64 i, .int .i64 n] w (RetIC1 w (corV c ts L i n) (corCode c ts L i n)) := by
  have HC := Lib.hid (fun (wq : World) (hq : Below w.heap.size w wq) => stepsCode_c c ts A cx L B cr i n 20 wq (hT.below hq) hl (hR.below hq) hn hS)
  have HR := Lib.hid hR
  have HV : Hid (corCode c ts L i n = codeB (isSetB c ts) (stepB ts.length L i n 20)) := rfl
  have HV1 : Hid (corV c ts L i n = if corCode c ts L i n = 0 then corners L i (n.toNat + 1) else []) := rfl
  clear hT hR
  by_cases h0 : codeB (isSetB c ts) (stepB ts.length L i n 20) = 0
  · obtain ⟨hs, hst⟩ := codeB_zero h0
    obtain ⟨hB, ⟨i0, i1⟩, n0, n1⟩ := stepB_parts hst
    obtain ⟨m, rfl⟩ := Int.eq_ofNat_of_zero_le n0
    have HK := Lib.hid (corner_step hB i0 i1)
    rw [h0] at HV HC
    have hc0 := HV.out
    have HF1 : Hid (corV c ts L i m = corners L i (m + 1)) := by rw [Hid, HV1.out, if_pos hc0]; rfl
    rw [hc0]
    clear hs hst hB i0 i1 h0 hc0 HV HV1 hS
    go_enter Tryz.func28, Tryz.ntmps28
    go_wp2_with fail
    refine (HC.out _ (by (repeat (first | (with_reducible exact Below.refl _ _) | (with_reducible assumption) | (with_reducible refine below_al ?_) | (with_reducible refine below_dr ?_) | (with_reducible refine below_drN ?_) | (with_reducible refine below_set ?_ (by first | exact Nat.le_refl _ | (dsimp only; omega) | omega)) | (with_reducible refine below_tr (by with_reducible assumption) ?_))))).mono ?_
    rintro e w1 ⟨rfl, hb1⟩
    have Hw1 : Hid (Below w.heap.size w w1) := by (show Below _ _ _); (repeat (first | (with_reducible exact Below.refl _ _) | (with_reducible assumption) | (with_reducible refine below_al ?_) | (with_reducible refine below_dr ?_) | (with_reducible refine below_drN ?_) | (with_reducible refine below_set ?_ (by first | exact Nat.le_refl _ | (dsimp only; omega) | omega)) | (with_reducible refine below_tr (by with_reducible assumption) ?_)))
    clear hb1
    go_wp2_with fail
    go_loopw [2, 11, 23] (fun x v j wr => ∃ k : Nat, k ≤ m ∧ j = .int .i64 k ∧ x = .int .i64 (cornerAt L i k) ∧ OwnI wr w.heap.size v (corners L i (k + 1)) ∧ Below w.heap.size w wr) (fun _ _ j _ => m - (intOf j).toNat)
    case atStart => exact ⟨0, by omega, rfl, rfl, OwnI.newly rfl rfl rfl Hw1.out.size (by simp [corners]), by have h1 := Hw1.out; (repeat (first | (with_reducible exact Below.refl _ _) | (with_reducible assumption) | (with_reducible refine below_al ?_) | (with_reducible refine below_dr ?_) | (with_reducible refine below_drN ?_) | (with_reducible refine below_set ?_ (by first | exact Nat.le_refl _ | (dsimp only; omega) | omega)) | (with_reducible refine below_tr (by with_reducible assumption) ?_)))⟩
    case round =>
      obtain ⟨k, hk, rfl, rfl, hO, hb⟩ := hrel
      have hO' := Lib.hid hO
      have hb' := Lib.hid hb
      by_cases hkn : k < m
      · obtain ⟨mm, hm, h4, e1, e2⟩ := HK.out k
        obtain ⟨b, off, A1, c1, rfl, hlt, c0, r1⟩ := (HR.out.below hb) mm hm
        obtain ⟨b2, off2, rfl, hlt2, d0⟩ := r1.int 0 h4
        rw [← e2, Nat.add_zero] at d0
        have HS := Lib.hid (corners_succ L i (k + 1))
        have HL := corners_len L i (k + 1)
        rw [e1]
        generalize hy : cornerAt L i (k + 1) = y at *
        have HYY := Lib.hid hy
        clear r1 e2 hy hO hb
        go_wp2_with (at_builtin; refine Hold.of ?_)
        refine Hold.to ?_
        obtain ⟨A3, cx3, e3, -, -⟩ := hO'.out.shape
        refine wpl_app_int rfl (.tmp 31) (.tmp 33) rfl w.heap.size _ _ y rfl (hO'.out.alloc _) wr.heap.size 0 rfl (cell_alloc_at _ _ _ _ _ rfl) (by omega) (by have := hb'.out.size; simp; omega) (fun v' w' h1 h2 h3 => ?_)
        rw [← HS.out] at h1
        have h4 := below_grown (below_al hb'.out) h2 (hO'.out.alloc _) (Nat.le_refl _)
        clear h2 h3
        go_wp2_with fail
        go_roundw
        case rel => exact ⟨k + 1, by omega, by go_num, by rw [HYY.out], h1, h4⟩
        case measure => simp [intOf]; omega
      · obtain rfl : k = m := by omega
        clear hO hb
        go_wp2
        go_ret2
        exact ⟨_, rfl, by rw [HF1.out]; exact hO'.out, hb'.out⟩
  · have HF1 : Hid (corV c ts L i n = []) := by rw [Hid, HV1.out, HV.out, if_neg h0]
    rw [HV.out]
    generalize codeB (isSetB c ts) (stepB ts.length L i n 20) = d at *
    have hne : (d != 0) = true := by simpa using h0
    clear h0
    go_enter Tryz.func28, Tryz.ntmps28
    go_wp2_with fail
    refine (HC.out _ (by (repeat (first | (with_reducible exact Below.refl _ _) | (with_reducible assumption) | (with_reducible refine below_al ?_) | (with_reducible refine below_dr ?_) | (with_reducible refine below_drN ?_) | (with_reducible refine below_set ?_ (by first | exact Nat.le_refl _ | (dsimp only; omega) | omega)) | (with_reducible refine below_tr (by with_reducible assumption) ?_))))).mono ?_
    rintro e w1 ⟨rfl, hb1⟩
    have Hw1 : Hid (Below w.heap.size w w1) := by (show Below _ _ _); (repeat (first | (with_reducible exact Below.refl _ _) | (with_reducible assumption) | (with_reducible refine below_al ?_) | (with_reducible refine below_dr ?_) | (with_reducible refine below_drN ?_) | (with_reducible refine below_set ?_ (by first | exact Nat.le_refl _ | (dsimp only; omega) | omega)) | (with_reducible refine below_tr (by with_reducible assumption) ?_)))
    clear hb1
    go_wp2
    go_ret2
    exact ⟨_, rfl, by rw [HF1.out]; exact OwnI.nil _ _, Hw1.out⟩

end Go.Proofs.YtkgnejhflnekaaaGreat
