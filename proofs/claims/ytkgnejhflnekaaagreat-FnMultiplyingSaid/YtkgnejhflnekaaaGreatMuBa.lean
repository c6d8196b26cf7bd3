/- Contracts and lemmas for the statements of this seat, written for this claim; each theorem states its own conditions. -/
import Derived.Test.YtkgnejhflnekaaaGreatMuGc
set_option linter.unusedVariables false
set_option linter.unusedSimpArgs false
namespace Go.Proofs.YtkgnejhflnekaaaGreat
open Go.RowKit
attribute [local go_sem] addUpon_value addUpon_skip addUpon_enter
/-- every number of every tile is in 0..5 -/
def Small (ts : List T4) : Prop := ∀ k (h : k < ts.length), (0 ≤ ts[k].a ∧ ts[k].a ≤ 5) ∧ (0 ≤ ts[k].b ∧ ts[k].b ≤ 5) ∧ (0 ≤ ts[k].c ∧ ts[k].c ≤ 5) ∧ (0 ≤ ts[k].d ∧ ts[k].d ≤ 5)
theorem isSetB_parts {c : Int} {ts : List T4} (h : isSetB c ts = true) : (∀ j, j < ts.length → okAt c ts j = true) ∧ (1 ≤ c ∧ c ≤ 6) ∧ ts.length ≤ 16 := by
  unfold isSetB at h
  simp only [Bool.and_eq_true, List.all_eq_true, List.mem_range, inR_iff, decide_eq_true_eq] at h
  exact ⟨h.1.1, h.1.2, h.2⟩
theorem isSetB_small {c : Int} {ts : List T4} (h : isSetB c ts = true) : Small ts ∧ ts.length ≤ 16 := by
  obtain ⟨h1, h2, h3⟩ := isSetB_parts h
  refine ⟨fun k hk => ?_, h3⟩
  have h4 := h1 k hk
  unfold okAt at h4
  simp only [Bool.and_eq_true] at h4
  have h5 := h4.1
  rw [getD_at hk] at h5
  have hw : wrap64 (c - 1) = c - 1 := by unfold wrap64; omega
  simp only [isTileB, T4.l, List.all_cons, List.all_nil, Bool.and_eq_true, inR_iff, hw] at h5
  omega
def tA (ts : List T4) (k : Int) : T4 := ts.getD k.toNat default
def balAt (ts : List T4) (p q k : Int) : Int := p * (tA ts k).b - q * (tA ts k).d
def balSum (ts : List T4) (p q : Int) (row : List Int) : Int := (row.map (balAt ts p q)).sum
def balV (ts : List T4) (row : List Int) (p q : Int) : Int := (tA ts (row.getD 0 0)).a - (tA ts (row.getD (row.length - 1) 0)).c + balSum ts p q row
def InRow (ts : List T4) (row : List Int) : Prop := ∀ j (h : j < row.length), 0 ≤ row[j] ∧ row[j] < ts.length
theorem tA_nat (ts : List T4) (m : Nat) (h : m < ts.length) : tA ts (m : Int) = ts[m] := by simp [tA, h]
theorem balAt_bound {ts : List T4} (hS : Small ts) {p q k : Int} (hp : 1 ≤ p) (hp' : p ≤ 5) (hq : 1 ≤ q) (hq' : q ≤ 5) (hk : 0 ≤ k) (hk' : k < ts.length) : -25 ≤ balAt ts p q k ∧ balAt ts p q k ≤ 25 := by
  obtain ⟨m, rfl⟩ := Int.eq_ofNat_of_zero_le hk
  have hm : m < ts.length := by omega
  unfold balAt
  rw [tA_nat ts m hm]
  obtain ⟨_, ⟨b1, b2⟩, _, d1, d2⟩ := hS m hm
  have e1 : 0 ≤ p * ts[m].b := Int.mul_nonneg (by omega) b1
  have e2 : p * ts[m].b ≤ 5 * 5 := Int.mul_le_mul hp' b2 b1 (by omega)
  have e3 : 0 ≤ q * ts[m].d := Int.mul_nonneg (by omega) d1
  have e4 : q * ts[m].d ≤ 5 * 5 := Int.mul_le_mul hq' d2 d1 (by omega)
  omega
theorem balSum_succ (ts : List T4) (p q : Int) (row : List Int) (k : Nat) (hk : k < row.length) : balSum ts p q (row.take (k + 1)) = balSum ts p q (row.take k) + balAt ts p q row[k] := by
  unfold balSum
  rw [List.take_succ_eq_append_getElem hk, List.map_append, List.sum_append]
  simp
theorem balSum_bound {ts : List T4} (hS : Small ts) {p q : Int} (hp : 1 ≤ p) (hp' : p ≤ 5) (hq : 1 ≤ q) (hq' : q ≤ 5) {row : List Int} (hr : InRow ts row) : ∀ k, k ≤ row.length → -(25 * k : Int) ≤ balSum ts p q (row.take k) ∧ balSum ts p q (row.take k) ≤ 25 * k
  | 0, _ => by simp [balSum]
  | k + 1, hk => by
    have h1 := balSum_bound hS hp hp' hq hq' hr k (by omega)
    have h2 := hr k (by omega)
    have h3 := balAt_bound hS hp hp' hq hq' h2.1 h2.2
    rw [balSum_succ ts p q row k (by omega)]
    omega
set_option maxRecDepth 100000 in
set_option maxHeartbeats 1000000 in
theorem balance_c (c : Int) (ts : List T4) (A : Option Addr) (cx : Nat) (row : List Int) (B : Option Addr) (cr : Nat) (p q : Int) (w : World) (hT : TileCells w A ts) (hR : Cells w B (ints row)) (hl : ts.length ≤ 1000000) (hS : Small ts)
    (hr : InRow ts row) (h0 : 0 < row.length) (hn : row.length ≤ 1000000) (hp : 1 ≤ p) (hp' : p ≤ 5) (hq : 1 ≤ q) (hq' : q ≤ 5) :
    Calls Tryz.prog 136 #[.agg #[.int .i64 c, .slice A ts.length cx], .slice B row.length cr, .int .i64 p, .int .i64 q] w fun e w' => e = .returned (.int .i64 (balV ts row p q)) ∧ Below w.heap.size w w' := by
  obtain ⟨x0, y0⟩ := hr 0 h0
  obtain ⟨x1, y1⟩ := hr (row.length - 1) (by omega)
  obtain ⟨m0, g0⟩ := Int.eq_ofNat_of_zero_le x0
  obtain ⟨m1, g1⟩ := Int.eq_ofNat_of_zero_le x1
  have k0 : m0 < ts.length := by omega
  have k1 : m1 < ts.length := by omega
  obtain ⟨b, off, rfl, hlt, t0, _, _, _⟩ := hT m0 k0
  obtain ⟨_, _, t1, _⟩ := hT.pair rfl m1 k1
  obtain ⟨b', off', rfl, hlt', r0⟩ := hR.int 0 h0
  rw [Nat.add_zero] at r0
  have r1 : w.cell? ⟨b', off' + (row.length - 1), none⟩ = some (.int .i64 m1) := by
    obtain ⟨b2, off2, e2, _, h⟩ := hR.int (row.length - 1) (by omega)
    injection e2 with e2
    injection e2 with e3 e4
    subst e3 e4
    rw [h, g1]
  rw [g0] at r0
  have hn1 : row.length - 1 < row.length := by omega
  have q1 : IntKind.i64.wrap ((row.length : Int) - 1) = ((row.length - 1 : Nat) : Int) := by rw [IntWalk.i64_in _ (by omega)]; omega
  have HV := Lib.hid (show balV ts row p q = ts[m0].a - ts[m1].c + balSum ts p q row from by
    unfold balV
    rw [show row.getD 0 0 = (m0 : Int) by simp [h0, g0], show row.getD (row.length - 1) 0 = (m1 : Int) by simp [show row.length - 1 < row.length by omega, g1], tA_nat ts m0 k0, tA_nat ts m1 k1])
  have z0 := hS m0 k0
  have z1 := hS m1 k1
  generalize ts[m0].a = v0 at *
  generalize ts[m1].c = v1 at *
  obtain ⟨z2, -, -, -⟩ := z0
  obtain ⟨-, -, z3, -⟩ := z1
  have hbs := Lib.hid (balSum_bound hS hp hp' hq hq' hr)
  have hTH := Lib.hid hT
  have hRH := Lib.hid hR
  have HS := Lib.hid hS
  have Hr := Lib.hid hr
  clear hT hR hS hr x0 y0 x1 y1 g0 g1
  go_enter Tryz.func136, Tryz.ntmps136
  go_wp2_with fail
  have e0 := keepC (cell_alloc_old w (.cells #[.int .i64 c, .slice (some ⟨b, off, none⟩) ts.length cx] 26) _ _ _ t0)
  have e1 := keepC (cell_alloc_old w (.cells #[.int .i64 c, .slice (some ⟨b, off, none⟩) ts.length cx] 26) _ _ _ t1)
  have e2 := keepC (cell_alloc_old w (.cells #[.int .i64 c, .slice (some ⟨b, off, none⟩) ts.length cx] 26) _ _ _ r0)
  have e3 := keepC (cell_alloc_old w (.cells #[.int .i64 c, .slice (some ⟨b, off, none⟩) ts.length cx] 26) _ _ _ r1)
  have e4 := keepC (cell_alloc_at w #[.int .i64 c, .slice (some ⟨b, off, none⟩) ts.length cx] 26 1 _ rfl)
  have hW : Below w.heap.size w (w.alloc (.cells #[.int .i64 c, .slice (some ⟨b, off, none⟩) ts.length cx] 26)) := by (repeat (first | (with_reducible exact Below.refl _ _) | (with_reducible assumption) | (with_reducible refine below_al ?_) | (with_reducible refine below_dr ?_) | (with_reducible refine below_drN ?_) | (with_reducible refine below_set ?_ (by first | exact Nat.le_refl _ | (dsimp only; omega) | omega)) | (with_reducible refine below_tr (by with_reducible assumption) ?_)))
  clear t0 t1 r0 r1
  generalize w.alloc (.cells #[.int .i64 c, .slice (some ⟨b, off, none⟩) ts.length cx] 26) = W at *
  refine wp_region_add (fun w' => Below (W).heap.size (W) w') (by kernel_rfl) (by kernel_rfl) ((Below.refl _ _).drew) ?_
  repeat (first
    | (refine add_skip rfl (fun K' hK' => ?_); go_simp; refine hK' _ ?_; clear hK' K')
    | (refine add_do (v := ?_) rfl (fun w1 hb => ?_) (fun K' hK' => ?_); rotate_left
       · go_simp
         first
         | (with_reducible exact rfl)
         | (with_reducible exact ⟨rfl, hb⟩)
         | exact rfl
         | exact ⟨rfl, hb⟩
       go_simp; refine hK' _ ?_; clear hK' K'))
  refine add_nil ?_
  intro wa hba
  go_wp2_with fail
  have HWa := Lib.hid hba
  have hv : IntKind.i64.wrap (v0 - v1) = v0 - v1 := IntWalk.i64_in _ (by omega)
  go_loopw [9, 11, 34] (fun sv _ i wr => ∃ k : Nat, k ≤ row.length ∧ i = .int .i64 k ∧ sv = .int .i64 (v0 - v1 + balSum ts p q (row.take k)) ∧ Below W.heap.size W wr) (fun _ _ i _ => row.length - (intOf i).toNat)
  case atStart => exact ⟨0, by omega, rfl, by simp [balSum, hv], HWa.out⟩
  case round =>
    obtain ⟨k, hk, rfl, rfl, hbw⟩ := hrel
    clear hv
    have Hbw := Lib.hid (show Below w.heap.size w wr from hW.trans (hbw.mono hW.size))
    have bk := hbs.out k hk
    have HB := Lib.hid (fun h => balSum_succ ts p q row k h)
    by_cases h1 : k < row.length
    · obtain ⟨x2, y2⟩ := Hr.out k h1
      obtain ⟨m2, g2⟩ := Int.eq_ofNat_of_zero_le x2
      have k2 : m2 < ts.length := by omega
      have bb := balAt_bound HS.out hp hp' hq hq' x2 y2
      obtain ⟨zz1, ⟨zb, zb'⟩, zz2, zd, zd'⟩ := HS.out m2 k2
      obtain ⟨b3, off3, e5, hlt3, c0⟩ := (hRH.out.below Hbw.out).int k h1
      injection e5 with e5
      injection e5 with e6 e7
      subst e6 e7
      obtain ⟨_, tb, _, td⟩ := (hTH.out.below Hbw.out).pair rfl m2 k2
      rw [g2] at c0
      have HB2 := HB.out h1
      rw [g2] at HB2 bb
      unfold balAt at HB2 bb
      rw [tA_nat ts m2 k2] at HB2 bb
      have d4 := e4 _ hbw
      have f1 := keepC tb
      have f2 := keepC td
      have f4 := keepC d4
      generalize ts[m2].b = vb at *
      generalize ts[m2].d = vd at *
      have w1 : 0 ≤ p * vb := Int.mul_nonneg (by omega) zb
      have w2 : p * vb ≤ 5 * 5 := Int.mul_le_mul hp' zb' zb (by omega)
      have w3 : 0 ≤ q * vd := Int.mul_nonneg (by omega) zd
      have w4 : q * vd ≤ 5 * 5 := Int.mul_le_mul hq' zd' zd (by omega)
      have HY : Hid (IntKind.i64.wrap (v0 - v1 + balSum ts p q (row.take k) + IntKind.i64.wrap (IntKind.i64.wrap (p * vb) - IntKind.i64.wrap (q * vd))) = v0 - v1 + balSum ts p q (row.take (k + 1))) := by
        show _ = _
        rw [IntWalk.i64_in (p * vb) (by omega), IntWalk.i64_in (q * vd) (by omega), IntWalk.i64_in (p * vb - q * vd) (by omega), IntWalk.i64_in _ (by omega), HB2]
        omega
      clear tb td d4 HB HB2 w1 w2 w3 w4 bb bk x2 y2 g2
      generalize balSum ts p q (row.take k) = S0 at *
      go_wp2_with fail
      clear c0
      refine wp_region_add (fun w' => Below (wr).heap.size (wr) w') (by kernel_rfl) (by kernel_rfl) ((Below.refl _ _).drew) ?_
      repeat (first
        | (refine add_skip rfl (fun K' hK' => ?_); go_simp; refine hK' _ ?_; clear hK' K')
        | (refine add_do (v := ?_) rfl (fun w1 hb => ?_) (fun K' hK' => ?_); rotate_left
           · go_simp
             first
             | (with_reducible exact rfl)
             | (with_reducible exact ⟨rfl, hb⟩)
             | exact rfl
             | exact ⟨rfl, hb⟩
           go_simp; refine hK' _ ?_; clear hK' K'))
      refine add_nil ?_
      intro wa hba
      go_wp2_with fail
      go_roundw
      case rel => exact ⟨k + 1, by omega, by go_num, by rw [HY.out], hbw.trans (hba.mono hbw.size)⟩
      case measure => simp [intOf]; omega
    · obtain rfl : k = row.length := by omega
      rw [List.take_length]
      go_wp2
      go_ret
      exact ⟨ret_int HV.out.symm, Hbw.out⟩
def balancedB (ts : List T4) (p q : Int) : Bool := (List.range ts.length).all fun k => balV ts [(k : Int)] p q == 0
theorem balancedB_no {ts : List T4} {p q : Int} {k : Nat} (hk : k < ts.length) (h : (balV ts [(k : Int)] p q != 0) = true) : balancedB ts p q = false := by
  unfold balancedB; rw [List.all_eq_false]
  exact ⟨k, List.mem_range.2 hk, by simpa using h⟩
theorem balancedB_yes {ts : List T4} {p q : Int} (h : ∀ k, k < ts.length → (balV ts [(k : Int)] p q != 0) = false) : balancedB ts p q = true := by
  unfold balancedB; rw [List.all_eq_true]
  exact fun k hk => by simpa using h k (List.mem_range.1 hk)
set_option maxRecDepth 100000 in
set_option maxHeartbeats 1000000 in
theorem balanced_c (c : Int) (ts : List T4) (A : Option Addr) (cx : Nat) (p q : Int) (w : World) (hT : TileCells w A ts) (hl : ts.length ≤ 1000000) (hS : Small ts) (hp : 1 ≤ p) (hp' : p ≤ 5) (hq : 1 ≤ q) (hq' : q ≤ 5) :
    Calls Tryz.prog 140 #[.agg #[.int .i64 c, .slice A ts.length cx], .int .i64 p, .int .i64 q] w fun e w' => e = .returned (.bool (balancedB ts p q)) ∧ Below w.heap.size w w' := by
  have HB := Lib.hid (fun (k : Nat) (hk : k < ts.length) (B : Option Addr) (cr : Nat) w h1 h2 => balance_c c ts A cx [(k : Int)] B cr p q w h1 h2 hl hS (fun j hj => by simp at hj; subst hj; simp; omega) (by simp) (by simp) hp hp' hq hq')
  have HT := Lib.hid hT
  clear hT hS
  go_enter Tryz.func140, Tryz.ntmps140
  go_wp2
  go_loopw [7, 11] (fun _ i wr => ∃ k : Nat, k ≤ ts.length ∧ i = .int .i64 k ∧ Hid (∀ j, j < k → (balV ts [(j : Int)] p q != 0) = false) ∧ Below (w.heap.size + 1) (w.alloc (.cells #[.int .i64 c, .slice A ts.length cx] 26)) wr) (fun _ i _ => ts.length - (intOf i).toNat)
  case atStart => exact ⟨0, by omega, rfl, fun j hj => by omega, Below.refl _ _⟩
  case round =>
    obtain ⟨k, hk, rfl, Hn, hb⟩ := hrel
    have Hbw := Lib.hid (show Below w.heap.size w wr from ((Below.refl w.heap.size w).alloc (Nat.le_refl _) _).trans (hb.mono (by omega)))
    have Hb := Lib.hid hb
    have d0 : wr.cell? ⟨w.heap.size, 0, none⟩ = some (.int .i64 c) := (hb.cell (p := ⟨w.heap.size, 0, none⟩) (by simp)).trans (by simp)
    have d1 : wr.cell? ⟨w.heap.size, 1, none⟩ = some (.slice A ts.length cx) := (hb.cell (p := ⟨w.heap.size, 1, none⟩) (by simp)).trans (by simp)
    have hN : w.heap.size < wr.heap.size := by have := hb.size; simp at this; omega
    clear hb
    by_cases h1 : k < ts.length
    · have HC := Lib.hid (HB.out k h1)
      have HNo := Lib.hid (fun h => balancedB_no (p := p) (q := q) h1 h)
      have HSt : Hid ((balV ts [(k : Int)] p q != 0) = false → ∀ j, j < k + 1 → (balV ts [(j : Int)] p q != 0) = false) := fun h j hj => by
        by_cases e : j = k
        · subst e; exact h
        · exact Hn.out j (by omega)
      generalize balV ts [(k : Int)] p q = y at *
      cases hy : (y != 0)
      · have HSt2 := Lib.hid (HSt.out hy)
        go_wp2_with fail
        refine (HC.out _ _ _ (HT.out.below (by have h := Hbw.out; (repeat (first | (with_reducible exact Below.refl _ _) | (with_reducible assumption) | (with_reducible refine below_al ?_) | (with_reducible refine below_dr ?_) | (with_reducible refine below_drN ?_) | (with_reducible refine below_set ?_ (by first | exact Nat.le_refl _ | (dsimp only; omega) | omega)) | (with_reducible refine below_tr (by with_reducible assumption) ?_))))) (Cells.below (w := wr.alloc (.cells #[.int .i64 k] 2)) (Blk.cells (Blk.newA _ _ _)) (by (repeat (first | (with_reducible exact Below.refl _ _) | (with_reducible assumption) | (with_reducible refine below_al ?_) | (with_reducible refine below_dr ?_) | (with_reducible refine below_drN ?_) | (with_reducible refine below_set ?_ (by first | exact Nat.le_refl _ | (dsimp only; omega) | omega)) | (with_reducible refine below_tr (by with_reducible assumption) ?_)))))).mono ?_
        rintro e w1 ⟨rfl, hb1⟩
        go_wp2
        go_roundw
        case rel => exact ⟨k + 1, by omega, by go_num, HSt2, Hb.out.trans ((below_tr hb1 (below_al (Below.refl _ _))).mono (by omega))⟩
        case measure => simp [intOf]; omega
      · have HR := Lib.hid (HNo.out hy)
        go_wp2_with fail
        refine (HC.out _ _ _ (HT.out.below (by have h := Hbw.out; (repeat (first | (with_reducible exact Below.refl _ _) | (with_reducible assumption) | (with_reducible refine below_al ?_) | (with_reducible refine below_dr ?_) | (with_reducible refine below_drN ?_) | (with_reducible refine below_set ?_ (by first | exact Nat.le_refl _ | (dsimp only; omega) | omega)) | (with_reducible refine below_tr (by with_reducible assumption) ?_))))) (Cells.below (w := wr.alloc (.cells #[.int .i64 k] 2)) (Blk.cells (Blk.newA _ _ _)) (by (repeat (first | (with_reducible exact Below.refl _ _) | (with_reducible assumption) | (with_reducible refine below_al ?_) | (with_reducible refine below_dr ?_) | (with_reducible refine below_drN ?_) | (with_reducible refine below_set ?_ (by first | exact Nat.le_refl _ | (dsimp only; omega) | omega)) | (with_reducible refine below_tr (by with_reducible assumption) ?_)))))).mono ?_
        rintro e w1 ⟨rfl, hb1⟩
        go_wp2
        go_ret
        exact ⟨ret_bool HR.out.symm, by have h := Hbw.out; (repeat (first | (with_reducible exact Below.refl _ _) | (with_reducible assumption) | (with_reducible refine below_al ?_) | (with_reducible refine below_dr ?_) | (with_reducible refine below_drN ?_) | (with_reducible refine below_set ?_ (by first | exact Nat.le_refl _ | (dsimp only; omega) | omega)) | (with_reducible refine below_tr (by with_reducible assumption) ?_)))⟩
    · have HR := Lib.hid (balancedB_yes (fun j hj => Hn.out j (by omega)))
      go_wp2
      go_ret
      exact ⟨ret_bool HR.out.symm, Hbw.out⟩
def isBalV (c : Int) (ts : List T4) (p q : Int) : Bool := isSetB c ts && fiveB p q && balancedB ts p q
set_option maxRecDepth 100000 in
set_option maxHeartbeats 1000000 in
theorem implIsBalanced_c (c : Int) (ts : List T4) (A : Option Addr) (cx : Nat) (p q : Int) (w : World) (hT : TileCells w A ts) (hl : ts.length ≤ 1000000000) :
    Calls Tryz.prog 54 #[.agg #[.int .i64 c, .slice A ts.length cx], .int .i64 p, .int .i64 q] w fun e w' => e = .returned (.tuple #[.bool (isBalV c ts p q), .int .i64 (codeB (isSetB c ts) (fiveB p q))]) ∧ Below w.heap.size w w' := by
  have HC := Lib.hid (fun (w : World) (b1 b2 : Nat) h (h1 : ∀ w1, Below w.heap.size w w1 → w1.cell? ⟨b1, 0, none⟩ = some (.int .i64 p)) (h2 : ∀ w1, Below w.heap.size w w1 → w1.cell? ⟨b2, 0, none⟩ = some (.int .i64 q)) => setCode_c c ts A cx 139 #[.pointer (some ⟨b1, 0, none⟩), .pointer (some ⟨b2, 0, none⟩)] (fiveB p q) w (fun _ _ => rfl) h (by omega) (fun _ w1 hb => (isBalanced1_c p q b1 b2 w1 (h1 w1 hb) (h2 w1 hb)).mono (fun e w2 ⟨a, b⟩ => ⟨a, by subst b; exact Below.refl _ _⟩)))
  have HS := Lib.hid (isSetB_small (c := c) (ts := ts))
  have HF := Lib.hid (fiveB_iff (p := p) (q := q)).1
  have HB := Lib.hid (fun hl hS a b d e w h => balanced_c c ts A cx p q w h hl hS a b d e)
  have hv : isBalV c ts p q = (isSetB c ts && fiveB p q && balancedB ts p q) := rfl
  have HT := Lib.hid hT
  clear hT
  generalize isSetB c ts = s at *
  generalize fiveB p q = f at *
  cases s
  · have HR := Lib.hid hv
    go_enter Tryz.func54, Tryz.ntmps54
    go_wp2_with fail
    refine (HC.out _ _ _ (HT.out.below (by (repeat (first | (with_reducible exact Below.refl _ _) | (with_reducible assumption) | (with_reducible refine below_al ?_) | (with_reducible refine below_dr ?_) | (with_reducible refine below_drN ?_) | (with_reducible refine below_set ?_ (by first | exact Nat.le_refl _ | (dsimp only; omega) | omega)) | (with_reducible refine below_tr (by with_reducible assumption) ?_))))) ?_ ?_).mono ?_
    · intro w1 hb
      refine ((bcell hb).1 _ _ ?_).trans ?_
      · first | omega | (simp; done) | (simp; omega)
      · first | (go_simp; done) | simp
    · intro w1 hb
      refine ((bcell hb).1 _ _ ?_).trans ?_
      · first | omega | (simp; done) | (simp; omega)
      · first | (go_simp; done) | simp
    rintro e w1 ⟨rfl, hb1⟩
    go_wp2
    go_ret2
    exact ⟨ret_bc HR.out.symm rfl, by (repeat (first | (with_reducible exact Below.refl _ _) | (with_reducible assumption) | (with_reducible refine below_al ?_) | (with_reducible refine below_dr ?_) | (with_reducible refine below_drN ?_) | (with_reducible refine below_set ?_ (by first | exact Nat.le_refl _ | (dsimp only; omega) | omega)) | (with_reducible refine below_tr (by with_reducible assumption) ?_)))⟩
  · cases f
    · have HR := Lib.hid hv
      go_enter Tryz.func54, Tryz.ntmps54
      go_wp2_with fail
      refine (HC.out _ _ _ (HT.out.below (by (repeat (first | (with_reducible exact Below.refl _ _) | (with_reducible assumption) | (with_reducible refine below_al ?_) | (with_reducible refine below_dr ?_) | (with_reducible refine below_drN ?_) | (with_reducible refine below_set ?_ (by first | exact Nat.le_refl _ | (dsimp only; omega) | omega)) | (with_reducible refine below_tr (by with_reducible assumption) ?_))))) ?_ ?_).mono ?_
      · intro w1 hb
        refine ((bcell hb).1 _ _ ?_).trans ?_
        · first | omega | (simp; done) | (simp; omega)
        · first | (go_simp; done) | simp
      · intro w1 hb
        refine ((bcell hb).1 _ _ ?_).trans ?_
        · first | omega | (simp; done) | (simp; omega)
        · first | (go_simp; done) | simp
      rintro e w1 ⟨rfl, hb1⟩
      go_wp2
      go_ret2
      exact ⟨ret_bc HR.out.symm rfl, by (repeat (first | (with_reducible exact Below.refl _ _) | (with_reducible assumption) | (with_reducible refine below_al ?_) | (with_reducible refine below_dr ?_) | (with_reducible refine below_drN ?_) | (with_reducible refine below_set ?_ (by first | exact Nat.le_refl _ | (dsimp only; omega) | omega)) | (with_reducible refine below_tr (by with_reducible assumption) ?_)))⟩
    · have HR := Lib.hid hv
      obtain ⟨⟨a1, a2⟩, a3, a4⟩ := HF.out rfl
      have HB2 := Lib.hid (HB.out (by have := (HS.out rfl).2; omega) (HS.out rfl).1 a1 a2 a3 a4)
      go_enter Tryz.func54, Tryz.ntmps54
      go_wp2_with fail
      refine (HC.out _ _ _ (HT.out.below (by (repeat (first | (with_reducible exact Below.refl _ _) | (with_reducible assumption) | (with_reducible refine below_al ?_) | (with_reducible refine below_dr ?_) | (with_reducible refine below_drN ?_) | (with_reducible refine below_set ?_ (by first | exact Nat.le_refl _ | (dsimp only; omega) | omega)) | (with_reducible refine below_tr (by with_reducible assumption) ?_))))) ?_ ?_).mono ?_
      · intro w1 hb
        refine ((bcell hb).1 _ _ ?_).trans ?_
        · first | omega | (simp; done) | (simp; omega)
        · first | (go_simp; done) | simp
      · intro w1 hb
        refine ((bcell hb).1 _ _ ?_).trans ?_
        · first | omega | (simp; done) | (simp; omega)
        · first | (go_simp; done) | simp
      rintro e w1 ⟨rfl, hb1⟩
      have Hw1 : Hid (Below w.heap.size w w1) := by (show Below _ _ _); (repeat (first | (with_reducible exact Below.refl _ _) | (with_reducible assumption) | (with_reducible refine below_al ?_) | (with_reducible refine below_dr ?_) | (with_reducible refine below_drN ?_) | (with_reducible refine below_set ?_ (by first | exact Nat.le_refl _ | (dsimp only; omega) | omega)) | (with_reducible refine below_tr (by with_reducible assumption) ?_)))
      obtain ⟨hc1, hf1⟩ := bcell hb1
      clear hb1
      go_wp2_with fail
      refine (HB2.out _ (HT.out.below Hw1.out)).mono ?_
      rintro e w2 ⟨rfl, hb2⟩
      go_wp2
      go_ret2
      exact ⟨ret_bc (by rw [HR.out]; rfl) rfl, Hw1.out.trans (hb2.mono Hw1.out.size)⟩

end Go.Proofs.YtkgnejhflnekaaaGreat
