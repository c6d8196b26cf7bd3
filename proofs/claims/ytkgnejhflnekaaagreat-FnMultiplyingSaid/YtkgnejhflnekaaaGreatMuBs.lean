/- Contracts and lemmas for the statements of this seat, written for this claim; each theorem states its own conditions. -/
import Derived.Test.YtkgnejhflnekaaaGreatMuBa
import Derived.Test.YtkgnejhflnekaaaGreatMuB
set_option linter.unusedVariables false
set_option linter.unusedSimpArgs false
namespace Go.Proofs.YtkgnejhflnekaaaGreat
open Go.RowKit
attribute [local go_sem] addUpon_value addUpon_skip addUpon_enter
def norths (ts : List T4) (row : List Int) : List Int := row.map fun k => (tA ts k).b
def souths (ts : List T4) (row : List Int) : List Int := row.map fun k => (tA ts k).d
theorem norths_succ {ts : List T4} {row : List Int} {k m : Nat} (hk : k < row.length) (hm : row[k] = (m : Int)) (h : m < ts.length) : norths ts (row.take (k + 1)) = norths ts (row.take k) ++ [ts[m].b] := by
  unfold norths; rw [List.take_succ_eq_append_getElem hk, List.map_append]; simp [hm, tA_nat ts m h]
theorem souths_succ {ts : List T4} {row : List Int} {k m : Nat} (hk : k < row.length) (hm : row[k] = (m : Int)) (h : m < ts.length) : souths ts (row.take (k + 1)) = souths ts (row.take k) ++ [ts[m].d] := by
  unfold souths; rw [List.take_succ_eq_append_getElem hk, List.map_append]; simp [hm, tA_nat ts m h]
/-- what a call gives back that returns two new lists of numbers, apart from each other -/
def RetII (w : World) (xs ys : List Int) (e : Ending) (w' : World) : Prop :=
  ∃ v u, e = .returned (.tuple #[v, u]) ∧ OwnI w' w.heap.size v xs ∧ OwnI w' w.heap.size u ys ∧ Apart v u ∧ Below w.heap.size w w'
set_option maxRecDepth 100000 in
set_option maxHeartbeats 1000000 in
theorem l02Words_c (c : Int) (ts : List T4) (A : Option Addr) (cx : Nat) (row : List Int) (B : Option Addr) (cr : Nat) (w : World) (hT : TileCells w A ts) (hR : Cells w B (ints row)) (hl : ts.length ≤ 1000000)
    (hr : InRow ts row) (hn : row.length ≤ 1000000) :
    Calls Tryz.prog 192 #[.agg #[.int .i64 c, .slice A ts.length cx], .slice B row.length cr] w (RetII w (norths ts row) (souths ts row)) := by
  go_enter Tryz.func192, Tryz.ntmps192
  go_wp2_with fail
  go_loopw [6, 7, 8] (fun v u i wr => ∃ k : Nat, k ≤ row.length ∧ i = .int .i64 k ∧ OwnI wr (w.heap.size + 1) v (norths ts (row.take k)) ∧ OwnI wr (w.heap.size + 1) u (souths ts (row.take k)) ∧ Apart v u ∧ Below (w.heap.size + 1) (w.alloc (.cells #[.int .i64 c, .slice A ts.length cx] 26)) wr) (fun _ _ i _ => row.length - (intOf i).toNat)
  case atStart => exact ⟨0, by omega, rfl, (OwnI.newly (by simp) rfl rfl (by simp) (by simp [norths])).alloc _, OwnI.newly (by simp) rfl rfl (by simp) (by simp [souths]), Apart.blk (by omega), by
    refine Below.alloc (Below.alloc (Below.refl _ _) ?_ _) ?_ _ <;> simp⟩
  case round =>
    obtain ⟨k, hk, rfl, hO, hU, hAp, hbw⟩ := hrel
    have hW : Below w.heap.size w (w.alloc (.cells #[.int .i64 c, .slice A ts.length cx] 26)) := by (repeat (first | (with_reducible exact Below.refl _ _) | (with_reducible assumption) | (with_reducible refine below_al ?_) | (with_reducible refine below_dr ?_) | (with_reducible refine below_drN ?_) | (with_reducible refine below_set ?_ (by first | exact Nat.le_refl _ | (dsimp only; omega) | omega)) | (with_reducible refine below_tr (by with_reducible assumption) ?_)))
    have hWs : (w.alloc (.cells #[.int .i64 c, .slice A ts.length cx] 26)).heap.size = w.heap.size + 1 := by simp
    by_cases h1 : k < row.length
    · obtain ⟨x2, y2⟩ := hr k h1
      obtain ⟨m2, g2⟩ := Int.eq_ofNat_of_zero_le x2
      have k2 : m2 < ts.length := by omega
      obtain ⟨b3, off3, rfl, hlt3, c0⟩ := (hR.below hW).int k h1
      obtain ⟨b4, off4, rfl, hlt4, _, tb, _, td⟩ := (hT.below hW) m2 k2
      rw [g2] at c0
      have HN := Lib.hid (norths_succ h1 g2 k2)
      have HS := Lib.hid (souths_succ h1 g2 k2)
      have LN : (norths ts (row.take k)).length ≤ 1000000 := by simp [norths]; omega
      have LS : (souths ts (row.take k)).length ≤ 1000000 := by simp [souths]; omega
      have f0 := keepC c0
      have f1 := keepC tb
      have f2 := keepC td
      have f3 := keepC (cell_alloc_at w #[.int .i64 c, .slice (some ⟨b4, off4, none⟩) ts.length cx] 26 1 _ rfl)
      generalize ts[m2].b = vb at *
      generalize ts[m2].d = vd at *
      clear c0 tb td x2 y2 g2 hT hR hr
      generalize w.alloc (.cells #[.int .i64 c, .slice (some ⟨b4, off4, none⟩) ts.length cx] 26) = W at *
      rw [← hWs] at hbw hO hU
      have hws := hbw.size
      have HWs := Lib.hid hWs
      clear hWs
      go_wp2_with fail
      refine wp_region_mix [(0, true), (1, true), (2, true), (3, true), (4, true), (5, true), (6, true), (7, true), (8, true), (9, true), (10, false), (11, false), (12, false)] (fun w' => Below (W).heap.size (W) w') (by kernel_rfl) (by kernel_rfl) (fun _ _ d _ _ h => by cases d <;> exact h) (hbw.drew) ?_
      repeat (first
        | (refine mix_skip rfl rfl (fun K' hK' => ?_); go_simp; refine hK' _ ?_; clear hK' K')
        | (refine mix_do (v := ?_) rfl rfl (fun w1 hb => ?_) (fun K' hK' => ?_); rotate_left
           · go_simp
             rfl
           go_simp; refine hK' _ ?_; clear hK' K'))
      refine mix_call rfl rfl (fun K' hK' => ?_)
      go_simp
      refine hK' _ _ (Below.alloc hbw.drew hws _) ?_; clear hK' K'
      refine mix_call rfl rfl (fun K' hK' => ?_)
      refine app_int2 (.tmp 17) (.tmp 27) rfl W.heap.size u6 _ _ rfl (hO.drew.alloc _) wr.heap.size 0 rfl (cell_alloc_at _ _ _ _ _ rfl) (by omega) (by simp; omega) (fun v' w' h1 h2 h3 => ?_)
      rw [← HN.out] at h1
      have hU2 : OwnI w' W.heap.size u7 (souths ts (row.take k)) := (hU.drew.alloc _).grown h2 hAp.symm
      have hAp2 : Apart v' u7 := hAp.app (hU.drew.alloc _).blt h3
      have h4 : Below W.heap.size W w' := Below.grown (Below.alloc hbw.drew hws _) h2 (by simp; omega) (fun j hj => (World.ownsRow.lt hO j hj).1)
      have hws4 := h4.size
      clear h2 h3 hO hU hAp
      refine hK' _ _ h4 ?_
      clear hK' K'
      refine mix_call rfl rfl (fun K' hK' => ?_)
      go_simp
      refine hK' _ _ (h4) ?_; clear hK' K'
      refine mix_nil ?_
      go_wp2_with fail
      refine wp_region_mix [(0, true), (1, true), (2, true), (3, true), (4, true), (5, true), (6, true), (7, true), (8, true), (9, true), (10, false), (11, false), (12, false)] (fun w' => Below (W).heap.size (W) w') (by kernel_rfl) (by kernel_rfl) (fun _ _ d _ _ h => by cases d <;> exact h) (h4.drew) ?_
      repeat (first
        | (refine mix_skip rfl rfl (fun K' hK' => ?_); go_simp; refine hK' _ ?_; clear hK' K')
        | (refine mix_do (v := ?_) rfl rfl (fun w1 hb => ?_) (fun K' hK' => ?_); rotate_left
           · go_simp
             rfl
           go_simp; refine hK' _ ?_; clear hK' K'))
      refine mix_call rfl rfl (fun K' hK' => ?_)
      go_simp
      refine hK' _ _ (Below.alloc h4.drew hws4 _) ?_; clear hK' K'
      refine mix_call rfl rfl (fun K' hK' => ?_)
      refine app_int2 (.tmp 29) (.tmp 39) rfl W.heap.size u7 _ _ rfl (hU2.drew.alloc _) w'.heap.size 0 rfl (cell_alloc_at _ _ _ _ _ rfl) (by omega) (by simp; omega) (fun v2 w2 k1 k2 k3 => ?_)
      rw [← HS.out] at k1
      have hO2 : OwnI w2 W.heap.size v' (norths ts (row.take (k + 1))) := (h1.drew.alloc _).grown k2 hAp2
      have hAp3 : Apart v' v2 := (hAp2.symm.app (h1.drew.alloc _).blt k3).symm
      have h5 : Below W.heap.size W w2 := Below.grown (Below.alloc h4.drew hws4 _) k2 (by simp; omega) (fun j hj => (World.ownsRow.lt hU2 j hj).1)
      clear k2 k3 h1 hU2 hAp2
      refine hK' _ _ h5 ?_
      clear hK' K'
      refine mix_call rfl rfl (fun K' hK' => ?_)
      go_simp
      refine hK' _ _ (h5) ?_; clear hK' K'
      refine mix_nil ?_
      go_wp2_with fail
      go_roundw
      case rel => exact ⟨k + 1, by omega, by go_num, by rw [← HWs.out]; exact hO2, by rw [← HWs.out]; exact k1, hAp3, by rw [← HWs.out]; exact h5⟩
      case measure => simp [intOf]; omega
    · obtain rfl : k = row.length := by omega
      rw [List.take_length] at hO hU
      go_wp2
      go_ret2
      exact ⟨_, _, rfl, hO.weaken (by omega), hU.weaken (by omega), hAp, hW.trans (hbw.mono (by omega))⟩
def In5 (xs : List Int) : Prop := ∀ j (h : j < xs.length), 0 ≤ xs[j] ∧ xs[j] ≤ 5
theorem sum_take (xs : List Int) (k : Nat) (hk : k < xs.length) : (xs.take (k + 1)).sum = (xs.take k).sum + xs[k] := by
  rw [List.take_succ_eq_append_getElem hk, List.sum_append]; simp
theorem in5_sum {xs : List Int} (h : In5 xs) : ∀ k, k ≤ xs.length → 0 ≤ (xs.take k).sum ∧ (xs.take k).sum ≤ 5 * k
  | 0, _ => by simp
  | k + 1, hk => by
    have h1 := in5_sum h k (by omega)
    have h2 := h k (by omega)
    rw [sum_take xs k (by omega)]
    omega
theorem in5_all {xs : List Int} (h : In5 xs) : 0 ≤ xs.sum ∧ xs.sum ≤ 5 * xs.length := by have := in5_sum h xs.length (Nat.le_refl _); rwa [List.take_length] at this
theorem norths_in5 {ts : List T4} (hS : Small ts) {row : List Int} (hr : InRow ts row) : In5 (norths ts row) ∧ In5 (souths ts row) := by
  constructor <;> intro j hj
  all_goals
    have hj' : j < row.length := by simpa [norths, souths] using hj
    obtain ⟨h1, h2⟩ := hr j hj'
    obtain ⟨m, hm⟩ := Int.eq_ofNat_of_zero_le h1
    have hm' : m < ts.length := by omega
    obtain ⟨_, hb, _, hd⟩ := hS m hm'
    simp only [norths, souths, List.getElem_map, hm, tA_nat ts m hm']
    assumption
theorem balSum_split (ts : List T4) (p q : Int) (row : List Int) : balSum ts p q row = p * (norths ts row).sum - q * (souths ts row).sum := by
  unfold balSum norths souths
  induction row with
  | nil => simp
  | cons x xs ih =>
    simp only [List.map_cons, List.sum_cons, ih, balAt, Int.mul_add]
    omega
set_option maxRecDepth 100000 in
set_option maxHeartbeats 1000000 in
theorem l08Sum_c (xs : List Int) (A : Option Addr) (cx : Nat) (w : World) (hX : Cells w A (ints xs)) (hl : xs.length ≤ 1000000) (hb : In5 xs) :
    Calls Tryz.prog 193 #[.slice A xs.length cx] w fun e w' => e = .returned (.int .i64 xs.sum) ∧ Below w.heap.size w w' := by
  go_enter Tryz.func193, Tryz.ntmps193
  go_wp2
  go_loop [3, 4] (fun s i => ∃ k : Nat, k ≤ xs.length ∧ i = .int .i64 k ∧ s = .int .i64 (xs.take k).sum) (fun _ i => xs.length - (intOf i).toNat)
  case atStart => exact ⟨0, by omega, rfl, by simp⟩
  case round =>
    obtain ⟨k, hk, rfl, rfl⟩ := hrel
    by_cases h1 : k < xs.length
    · obtain ⟨b, off, rfl, hlt, c0⟩ := hX.int k h1
      have HS := Lib.hid (sum_take xs k h1)
      obtain ⟨s1, s2⟩ := in5_sum hb k hk
      obtain ⟨x1, x2⟩ := hb k h1
      generalize (xs.take k).sum = s at *
      generalize xs[k] = x at *
      have e1 : IntKind.i64.wrap (s + x) = s + x := IntWalk.i64_in _ (by omega)
      clear hX hb
      go_wp2
      go_round
      case rel => exact ⟨k + 1, by omega, by go_num, by rw [HS.out]⟩
      case measure => simp [intOf]; omega
    · obtain rfl : k = xs.length := by omega
      rw [List.take_length]
      go_wp2
      go_ret
      exact ⟨rfl, Below.refl _ _⟩
set_option maxRecDepth 100000 in
set_option maxHeartbeats 1000000 in
theorem l08Balance_c (c : Int) (ts : List T4) (A : Option Addr) (cx : Nat) (row : List Int) (B : Option Addr) (cr : Nat) (p q : Int) (w : World) (hT : TileCells w A ts) (hR : Cells w B (ints row)) (hl : ts.length ≤ 1000000) (hS : Small ts)
    (hr : InRow ts row) (h0 : 0 < row.length) (hn : row.length ≤ 1000000) (hp : 1 ≤ p) (hp' : p ≤ 5) (hq : 1 ≤ q) (hq' : q ≤ 5) :
    Calls Tryz.prog 138 #[.agg #[.int .i64 c, .slice A ts.length cx], .slice B row.length cr, .int .i64 p, .int .i64 q] w fun e w' => e = .returned (.int .i64 (balV ts row p q)) ∧ Below w.heap.size w w' := by
  obtain ⟨x0, y0⟩ := hr 0 h0
  obtain ⟨x1, y1⟩ := hr (row.length - 1) (by omega)
  obtain ⟨m0, g0⟩ := Int.eq_ofNat_of_zero_le x0
  obtain ⟨m1, g1⟩ := Int.eq_ofNat_of_zero_le x1
  have k0 : m0 < ts.length := by omega
  have k1 : m1 < ts.length := by omega
  have HW := Lib.hid (fun w h h' => l02Words_c c ts A cx row B cr w h h' hl hr hn)
  have HV := Lib.hid (show balV ts row p q = ts[m0].a - ts[m1].c + (p * (norths ts row).sum - q * (souths ts row).sum) from by
    rw [← balSum_split]
    unfold balV
    rw [show row.getD 0 0 = (m0 : Int) by simp [h0, g0], show row.getD (row.length - 1) 0 = (m1 : Int) by simp [show row.length - 1 < row.length by omega, g1], tA_nat ts m0 k0, tA_nat ts m1 k1])
  obtain ⟨z2, -, -, -⟩ := hS m0 k0
  obtain ⟨-, -, z3, -⟩ := hS m1 k1
  obtain ⟨N5, S5⟩ := norths_in5 hS hr
  have nb := in5_all N5
  have sb := in5_all S5
  have nl : (norths ts row).length = row.length := by simp [norths]
  have sl : (souths ts row).length = row.length := by simp [souths]
  rw [nl] at nb
  rw [sl] at sb
  have HN := Lib.hid (fun A cx w h => l08Sum_c (norths ts row) A cx w h (by omega) N5)
  have HS := Lib.hid (fun A cx w h => l08Sum_c (souths ts row) A cx w h (by omega) S5)
  have HY : Hid (IntKind.i64.wrap (IntKind.i64.wrap (IntKind.i64.wrap (IntKind.i64.wrap (p * (norths ts row).sum) + ts[m0].a) - IntKind.i64.wrap (q * (souths ts row).sum)) - ts[m1].c) = balV ts row p q) := by
    show _ = _
    rw [HV.out]
    generalize (norths ts row).sum = n at *
    generalize (souths ts row).sum = s at *
    have w1 : 0 ≤ p * n := Int.mul_nonneg (by omega) nb.1
    have w2 : p * n ≤ 5 * (5 * row.length) := Int.mul_le_mul hp' nb.2 nb.1 (by omega)
    have w3 : 0 ≤ q * s := Int.mul_nonneg (by omega) sb.1
    have w4 : q * s ≤ 5 * (5 * row.length) := Int.mul_le_mul hq' sb.2 sb.1 (by omega)
    rw [IntWalk.i64_in (p * n) (by omega), IntWalk.i64_in (q * s) (by omega), IntWalk.i64_in (p * n + ts[m0].a) (by omega), IntWalk.i64_in (p * n + ts[m0].a - q * s) (by omega), IntWalk.i64_in _ (by omega)]
    omega
  have HT := Lib.hid hT
  have HR := Lib.hid hR
  clear hT hR hS hr N5 S5 nb sb nl sl HV x0 y0 x1 y1
  generalize norths ts row = N at *
  generalize souths ts row = S at *
  go_enter Tryz.func138, Tryz.ntmps138
  go_wp2_with fail
  refine (HW.out _ (HT.out.below (by (repeat (first | (with_reducible exact Below.refl _ _) | (with_reducible assumption) | (with_reducible refine below_al ?_) | (with_reducible refine below_dr ?_) | (with_reducible refine below_drN ?_) | (with_reducible refine below_set ?_ (by first | exact Nat.le_refl _ | (dsimp only; omega) | omega)) | (with_reducible refine below_tr (by with_reducible assumption) ?_))))) (HR.out.below (by (repeat (first | (with_reducible exact Below.refl _ _) | (with_reducible assumption) | (with_reducible refine below_al ?_) | (with_reducible refine below_dr ?_) | (with_reducible refine below_drN ?_) | (with_reducible refine below_set ?_ (by first | exact Nat.le_refl _ | (dsimp only; omega) | omega)) | (with_reducible refine below_tr (by with_reducible assumption) ?_)))))).mono ?_
  rintro e w1 ⟨v, u, rfl, hv, hu, -, hb1⟩
  have Hb1 := Lib.hid hb1
  obtain ⟨hc1, hf1⟩ := bcell hb1
  have hw : Below w.heap.size w w1 := by (repeat (first | (with_reducible exact Below.refl _ _) | (with_reducible assumption) | (with_reducible refine below_al ?_) | (with_reducible refine below_dr ?_) | (with_reducible refine below_drN ?_) | (with_reducible refine below_set ?_ (by first | exact Nat.le_refl _ | (dsimp only; omega) | omega)) | (with_reducible refine below_tr (by with_reducible assumption) ?_)))
  have Hw := Lib.hid hw
  obtain ⟨b, off, rfl, hlt, t0, _, _, _⟩ := (HT.out.below hw) m0 k0
  obtain ⟨_, _, t1, _⟩ := (HT.out.below hw).pair rfl m1 k1
  obtain ⟨b', off', rfl, hlt', r0⟩ := (HR.out.below hw).int 0 h0
  rw [Nat.add_zero] at r0
  have r1 : w1.cell? ⟨b', off' + (row.length - 1), none⟩ = some (.int .i64 m1) := by
    obtain ⟨b2, off2, e2, _, h⟩ := (HR.out.below hw).int (row.length - 1) (by omega)
    injection e2 with e2
    injection e2 with e3 e4
    subst e3 e4
    rw [h, g1]
  rw [g0] at r0
  have hn1 : row.length - 1 < row.length := by omega
  have q1 : IntKind.i64.wrap ((row.length : Int) - 1) = ((row.length - 1 : Nat) : Int) := by rw [IntWalk.i64_in _ (by omega)]; omega
  obtain ⟨A1, cx1, rfl, hN1, _⟩ := hv.shape
  obtain ⟨A2, cx2, rfl, hS1, _⟩ := hu.shape
  have HN1 := Lib.hid hN1
  have HS1 := Lib.hid hS1
  have f0 := keepC t0
  have f1 := keepC t1
  have f2 := keepC r0
  have f3 := keepC r1
  have f4 : ∀ w2, Below w1.heap.size w1 w2 → w2.cell? ⟨w.heap.size, 1, none⟩ = some (.slice (some ⟨b, off, none⟩) ts.length cx) := keepC (by rw [hc1 _ _ (by simp)]; simp)
  generalize ts[m0].a = v0 at *
  generalize ts[m1].c = v1 at *
  generalize N.sum = n at *
  generalize S.sum = s at *
  clear hw hb1 t0 t1 r0 r1 hN1 hS1 hv hu g0 g1 hc1 hf1 hlt hlt'
  go_wp2_with fail
  refine wp_region_add (fun w' => Below (w1).heap.size (w1) w') (by kernel_rfl) (by kernel_rfl) ((Below.refl _ _).drew) ?_
  repeat (first
    | (refine add_skip rfl (fun K' hK' => ?_); go_simp; refine hK' _ ?_; clear hK' K')
    | (refine add_do (v := ?_) rfl (fun w1 hb => ?_) (fun K' hK' => ?_); rotate_left
       · go_simp
         first
         | (with_reducible exact rfl)
         | (with_reducible exact ⟨rfl, hb⟩)
         | (with_reducible exact (addCall (HN.out A1 cx1 w1 (HN1.out.below hb)) hb).2)
         | (with_reducible exact (addCall (HS.out A2 cx2 w1 (HS1.out.below hb)) hb).2)
         | exact (addCall (HN.out A1 cx1 w1 (HN1.out.below hb)) hb).2
         | exact (addCall (HS.out A2 cx2 w1 (HS1.out.below hb)) hb).2
         | exact rfl
         | exact ⟨rfl, hb⟩
       go_simp; refine hK' _ ?_; clear hK' K'))
  refine add_nil ?_
  intro wa hba
  go_wp2
  go_ret
  exact ⟨ret_int HY.out, by have h1 := Hw.out; (repeat (first | (with_reducible exact Below.refl _ _) | (with_reducible assumption) | (with_reducible refine below_al ?_) | (with_reducible refine below_dr ?_) | (with_reducible refine below_drN ?_) | (with_reducible refine below_set ?_ (by first | exact Nat.le_refl _ | (dsimp only; omega) | omega)) | (with_reducible refine below_tr (by with_reducible assumption) ?_)))⟩
set_option maxRecDepth 100000 in
set_option maxHeartbeats 1000000 in
theorem l08Balanced_c (c : Int) (ts : List T4) (A : Option Addr) (cx : Nat) (p q : Int) (w : World) (hT : TileCells w A ts) (hl : ts.length ≤ 1000000) (hS : Small ts) (hp : 1 ≤ p) (hp' : p ≤ 5) (hq : 1 ≤ q) (hq' : q ≤ 5) :
    Calls Tryz.prog 141 #[.agg #[.int .i64 c, .slice A ts.length cx], .int .i64 p, .int .i64 q] w fun e w' => e = .returned (.bool (balancedB ts p q)) ∧ Below w.heap.size w w' := by
  have HB := Lib.hid (fun (k : Nat) (hk : k < ts.length) (B : Option Addr) (cr : Nat) w h1 h2 => l08Balance_c c ts A cx [(k : Int)] B cr p q w h1 h2 hl hS (fun j hj => by simp at hj; subst hj; simp; omega) (by simp) (by simp) hp hp' hq hq')
  have HT := Lib.hid hT
  clear hT hS
  go_enter Tryz.func141, Tryz.ntmps141
  go_wp2
  go_loopw [7] (fun i wr => ∃ k : Nat, k ≤ ts.length ∧ i = .int .i64 k ∧ Hid (∀ j, j < k → (balV ts [(j : Int)] p q != 0) = false) ∧ Below (w.heap.size + 1) (w.alloc (.cells #[.int .i64 c, .slice A ts.length cx] 26)) wr) (fun i _ => ts.length - (intOf i).toNat)
  case atStart => exact ⟨0, by omega, rfl, fun j hj => by omega, Below.refl _ _⟩
  case round =>
    obtain ⟨k, hk, rfl, Hn, hb⟩ := hrel
    have Hbw := Lib.hid (show Below w.heap.size w wr from ((Below.refl w.heap.size w).alloc (Nat.le_refl _) _).trans (hb.mono (by omega)))
    have Hb := Lib.hid hb
    have d0 : wr.cell? ⟨w.heap.size, 0, none⟩ = some (.int .i64 c) := (hb.cell (p := ⟨w.heap.size, 0, none⟩) (by simp)).trans (by simp)
    have d1 : wr.cell? ⟨w.heap.size, 1, none⟩ = some (.slice A ts.length cx) := (hb.cell (p := ⟨w.heap.size, 1, none⟩) (by simp)).trans (by simp)
    have hN : w.heap.size < wr.heap.size := by have := hb.size; simp at this; omega
    clear hb
    by_cases h1 : k < ts.length
    · have HC := Lib.hid (HB.out k h1)
      have HNo := Lib.hid (fun h => balancedB_no (p := p) (q := q) h1 h)
      have HSt : Hid ((balV ts [(k : Int)] p q != 0) = false → ∀ j, j < k + 1 → (balV ts [(j : Int)] p q != 0) = false) := fun h j hj => by
        by_cases e : j = k
        · subst e; exact h
        · exact Hn.out j (by omega)
      generalize balV ts [(k : Int)] p q = y at *
      cases hy : (y != 0)
      · have HSt2 := Lib.hid (HSt.out hy)
        go_wp2_with fail
        refine (HC.out _ _ _ (HT.out.below (by have h := Hbw.out; (repeat (first | (with_reducible exact Below.refl _ _) | (with_reducible assumption) | (with_reducible refine below_al ?_) | (with_reducible refine below_dr ?_) | (with_reducible refine below_drN ?_) | (with_reducible refine below_set ?_ (by first | exact Nat.le_refl _ | (dsimp only; omega) | omega)) | (with_reducible refine below_tr (by with_reducible assumption) ?_))))) (Cells.below (w := wr.alloc (.cells #[.int .i64 k] 2)) (Blk.cells (Blk.newA _ _ _)) (by (repeat (first | (with_reducible exact Below.refl _ _) | (with_reducible assumption) | (with_reducible refine below_al ?_) | (with_reducible refine below_dr ?_) | (with_reducible refine below_drN ?_) | (with_reducible refine below_set ?_ (by first | exact Nat.le_refl _ | (dsimp only; omega) | omega)) | (with_reducible refine below_tr (by with_reducible assumption) ?_)))))).mono ?_
        rintro e w1 ⟨rfl, hb1⟩
        go_wp2
        go_roundw
        case rel => exact ⟨k + 1, by omega, by go_num, HSt2, Hb.out.trans ((below_tr hb1 (below_al (Below.refl _ _))).mono (by omega))⟩
        case measure => simp [intOf]; omega
      · have HR := Lib.hid (HNo.out hy)
        go_wp2_with fail
        refine (HC.out _ _ _ (HT.out.below (by have h := Hbw.out; (repeat (first | (with_reducible exact Below.refl _ _) | (with_reducible assumption) | (with_reducible refine below_al ?_) | (with_reducible refine below_dr ?_) | (with_reducible refine below_drN ?_) | (with_reducible refine below_set ?_ (by first | exact Nat.le_refl _ | (dsimp only; omega) | omega)) | (with_reducible refine below_tr (by with_reducible assumption) ?_))))) (Cells.below (w := wr.alloc (.cells #[.int .i64 k] 2)) (Blk.cells (Blk.newA _ _ _)) (by (repeat (first | (with_reducible exact Below.refl _ _) | (with_reducible assumption) | (with_reducible refine below_al ?_) | (with_reducible refine below_dr ?_) | (with_reducible refine below_drN ?_) | (with_reducible refine below_set ?_ (by first | exact Nat.le_refl _ | (dsimp only; omega) | omega)) | (with_reducible refine below_tr (by with_reducible assumption) ?_)))))).mono ?_
        rintro e w1 ⟨rfl, hb1⟩
        go_wp2
        go_ret
        exact ⟨ret_bool HR.out.symm, by have h := Hbw.out; (repeat (first | (with_reducible exact Below.refl _ _) | (with_reducible assumption) | (with_reducible refine below_al ?_) | (with_reducible refine below_dr ?_) | (with_reducible refine below_drN ?_) | (with_reducible refine below_set ?_ (by first | exact Nat.le_refl _ | (dsimp only; omega) | omega)) | (with_reducible refine below_tr (by with_reducible assumption) ?_)))⟩
    · have HR := Lib.hid (balancedB_yes (fun j hj => Hn.out j (by omega)))
      go_wp2
      go_ret
      exact ⟨ret_bool HR.out.symm, Hbw.out⟩
set_option maxRecDepth 100000 in
set_option maxHeartbeats 1000000 in
theorem specIsBalanced_c (c : Int) (ts : List T4) (A : Option Addr) (cx : Nat) (p q : Int) (w : World) (hT : TileCells w A ts) (hl : ts.length ≤ 1000000000) :
    Calls Tryz.prog 55 #[.agg #[.int .i64 c, .slice A ts.length cx], .int .i64 p, .int .i64 q] w fun e w' => e = .returned (.tuple #[.bool (isBalV c ts p q), .int .i64 (codeB (isSetB c ts) (fiveB p q))]) ∧ Below w.heap.size w w' := by
  have H1 := Lib.hid (fun w h => l01Is_c c ts A cx w h hl)
  have HP := Lib.hid (fun w => l01In_c p 1 5 w)
  have HQ := Lib.hid (fun w => l01In_c q 1 5 w)
  have HS := Lib.hid (isSetB_small (c := c) (ts := ts))
  have HF := Lib.hid (fiveB_iff (p := p) (q := q)).1
  have HB := Lib.hid (fun hl hS a b d e w h => l08Balanced_c c ts A cx p q w h hl hS a b d e)
  have HV : Hid (isBalV c ts p q = (isSetB c ts && fiveB p q && balancedB ts p q)) := rfl
  have h5 : fiveB p q = (inR 1 5 p && inR 1 5 q) := rfl
  have HT := Lib.hid hT
  clear hT
  generalize isSetB c ts = s at *
  rw [h5] at HV HF ⊢
  clear h5
  generalize inR 1 5 p = f at *
  generalize inR 1 5 q = g at *
  cases s
  · have HR := Lib.hid HV.out
    go_enter Tryz.func55, Tryz.ntmps55
    go_wp2_with fail
    refine (H1.out _ (HT.out.below (by (repeat (first | (with_reducible exact Below.refl _ _) | (with_reducible assumption) | (with_reducible refine below_al ?_) | (with_reducible refine below_dr ?_) | (with_reducible refine below_drN ?_) | (with_reducible refine below_set ?_ (by first | exact Nat.le_refl _ | (dsimp only; omega) | omega)) | (with_reducible refine below_tr (by with_reducible assumption) ?_)))))).mono ?_
    rintro e w1 ⟨rfl, hb1⟩
    have Hw1 : Hid (Below w.heap.size w w1) := by (show Below _ _ _); (repeat (first | (with_reducible exact Below.refl _ _) | (with_reducible assumption) | (with_reducible refine below_al ?_) | (with_reducible refine below_dr ?_) | (with_reducible refine below_drN ?_) | (with_reducible refine below_set ?_ (by first | exact Nat.le_refl _ | (dsimp only; omega) | omega)) | (with_reducible refine below_tr (by with_reducible assumption) ?_)))
    obtain ⟨hc1, hf1⟩ := bcell hb1
    clear hb1
    go_wp2
    go_ret2
    exact ⟨ret_bc HR.out.symm rfl, Hw1.out⟩
  · cases f
    · have HR := Lib.hid HV.out
      go_enter Tryz.func55, Tryz.ntmps55
      go_wp2_with fail
      refine (H1.out _ (HT.out.below (by (repeat (first | (with_reducible exact Below.refl _ _) | (with_reducible assumption) | (with_reducible refine below_al ?_) | (with_reducible refine below_dr ?_) | (with_reducible refine below_drN ?_) | (with_reducible refine below_set ?_ (by first | exact Nat.le_refl _ | (dsimp only; omega) | omega)) | (with_reducible refine below_tr (by with_reducible assumption) ?_)))))).mono ?_
      rintro e w1 ⟨rfl, hb1⟩
      have Hw1 : Hid (Below w.heap.size w w1) := by (show Below _ _ _); (repeat (first | (with_reducible exact Below.refl _ _) | (with_reducible assumption) | (with_reducible refine below_al ?_) | (with_reducible refine below_dr ?_) | (with_reducible refine below_drN ?_) | (with_reducible refine below_set ?_ (by first | exact Nat.le_refl _ | (dsimp only; omega) | omega)) | (with_reducible refine below_tr (by with_reducible assumption) ?_)))
      obtain ⟨hc1, hf1⟩ := bcell hb1
      clear hb1
      go_wp2_with (go_at_call 66; first | (refine (HP.out _).mono ?_; rintro e w2 ⟨rfl, rfl⟩) | (refine (HQ.out _).mono ?_; rintro e w2 ⟨rfl, rfl⟩))
      go_ret2
      exact ⟨ret_bc HR.out.symm rfl, Hw1.out⟩
    · cases g
      · have HR := Lib.hid HV.out
        go_enter Tryz.func55, Tryz.ntmps55
        go_wp2_with fail
        refine (H1.out _ (HT.out.below (by (repeat (first | (with_reducible exact Below.refl _ _) | (with_reducible assumption) | (with_reducible refine below_al ?_) | (with_reducible refine below_dr ?_) | (with_reducible refine below_drN ?_) | (with_reducible refine below_set ?_ (by first | exact Nat.le_refl _ | (dsimp only; omega) | omega)) | (with_reducible refine below_tr (by with_reducible assumption) ?_)))))).mono ?_
        rintro e w1 ⟨rfl, hb1⟩
        have Hw1 : Hid (Below w.heap.size w w1) := by (show Below _ _ _); (repeat (first | (with_reducible exact Below.refl _ _) | (with_reducible assumption) | (with_reducible refine below_al ?_) | (with_reducible refine below_dr ?_) | (with_reducible refine below_drN ?_) | (with_reducible refine below_set ?_ (by first | exact Nat.le_refl _ | (dsimp only; omega) | omega)) | (with_reducible refine below_tr (by with_reducible assumption) ?_)))
        obtain ⟨hc1, hf1⟩ := bcell hb1
        clear hb1
        go_wp2_with fail
        refine (HP.out _).mono ?_
        rintro e w2 ⟨rfl, rfl⟩
        go_wp2_with fail
        refine (HQ.out _).mono ?_
        rintro e w2 ⟨rfl, rfl⟩
        go_wp2
        go_ret2
        exact ⟨ret_bc HR.out.symm rfl, Hw1.out⟩
      · have HR := Lib.hid HV.out
        obtain ⟨⟨a1, a2⟩, a3, a4⟩ := HF.out rfl
        have HB2 := Lib.hid (HB.out (by have := (HS.out rfl).2; omega) (HS.out rfl).1 a1 a2 a3 a4)
        go_enter Tryz.func55, Tryz.ntmps55
        go_wp2_with fail
        refine (H1.out _ (HT.out.below (by (repeat (first | (with_reducible exact Below.refl _ _) | (with_reducible assumption) | (with_reducible refine below_al ?_) | (with_reducible refine below_dr ?_) | (with_reducible refine below_drN ?_) | (with_reducible refine below_set ?_ (by first | exact Nat.le_refl _ | (dsimp only; omega) | omega)) | (with_reducible refine below_tr (by with_reducible assumption) ?_)))))).mono ?_
        rintro e w1 ⟨rfl, hb1⟩
        have Hw1 : Hid (Below w.heap.size w w1) := by (show Below _ _ _); (repeat (first | (with_reducible exact Below.refl _ _) | (with_reducible assumption) | (with_reducible refine below_al ?_) | (with_reducible refine below_dr ?_) | (with_reducible refine below_drN ?_) | (with_reducible refine below_set ?_ (by first | exact Nat.le_refl _ | (dsimp only; omega) | omega)) | (with_reducible refine below_tr (by with_reducible assumption) ?_)))
        obtain ⟨hc1, hf1⟩ := bcell hb1
        clear hb1
        go_wp2_with fail
        refine (HP.out _).mono ?_
        rintro e w2 ⟨rfl, rfl⟩
        go_wp2_with fail
        refine (HQ.out _).mono ?_
        rintro e w2 ⟨rfl, rfl⟩
        go_wp2_with fail
        refine (HB2.out _ (HT.out.below Hw1.out)).mono ?_
        rintro e w2 ⟨rfl, hb2⟩
        go_wp2
        go_ret2
        exact ⟨ret_bc (by rw [HR.out]; rfl) rfl, Hw1.out.trans (hb2.mono Hw1.out.size)⟩

end Go.Proofs.YtkgnejhflnekaaaGreat
