/- Contracts and lemmas for the statements of this seat, written for this claim; each theorem states its own conditions. -/
import Derived.Test.YtkgnejhflnekaaaFrGr
set_option linter.unusedVariables false
set_option linter.unusedSimpArgs false
namespace Go.Proofs.Ytkgnejhflnekaaa
open Go.RowKit
attribute [local go_sem] addUpon_value addUpon_skip addUpon_enter
def meetE (ts : List T4) (i k : Int) : Bool := (tA ts i).c == (tA ts k).a
def meetS (ts : List T4) (i k : Int) : Bool := (tA ts i).d == (tA ts k).b
set_option maxRecDepth 100000 in
set_option maxHeartbeats 1000000 in
theorem meetsE_c (c : Int) (ts : List T4) (A : Option Addr) (cx : Nat) (i k : Int) (w : World) (hT : TileCells w A ts) (hl : ts.length ≤ 1000000) (hi : 0 ≤ i ∧ i < ts.length) (hk : 0 ≤ k ∧ k < ts.length) :
    Calls Try.prog 56 #[.agg #[.int .i64 c, .slice A ts.length cx], .int .i64 i, .int .i64 k, .int .i64 2] w fun e w' => e = .returned (.bool (meetE ts i k)) ∧ Below w.heap.size w w' := by
  obtain ⟨m, rfl⟩ := Int.eq_ofNat_of_zero_le hi.1
  obtain ⟨n, rfl⟩ := Int.eq_ofNat_of_zero_le hk.1
  have hm : m < ts.length := by omega
  have hn : n < ts.length := by omega
  obtain ⟨b, off, rfl, hlt, a0, a1, a2, a3⟩ := hT m hm
  obtain ⟨c0, c1, c2, c3⟩ := hT.pair rfl n hn
  have HV : Hid (meetE ts m n = (ts[m].c == ts[n].a)) := by unfold Hid meetE; rw [tA_nat ts m hm, tA_nat ts n hn]
  have g0 := keepC (cell_alloc_old w (.cells #[.int .i64 c, .slice (some ⟨b, off, none⟩) ts.length cx] 26) _ _ _ a0)
  have g1 := keepC (cell_alloc_old w (.cells #[.int .i64 c, .slice (some ⟨b, off, none⟩) ts.length cx] 26) _ _ _ a1)
  have g2 := keepC (cell_alloc_old w (.cells #[.int .i64 c, .slice (some ⟨b, off, none⟩) ts.length cx] 26) _ _ _ a2)
  have g3 := keepC (cell_alloc_old w (.cells #[.int .i64 c, .slice (some ⟨b, off, none⟩) ts.length cx] 26) _ _ _ a3)
  have h0 := keepC (cell_alloc_old w (.cells #[.int .i64 c, .slice (some ⟨b, off, none⟩) ts.length cx] 26) _ _ _ c0)
  have h1 := keepC (cell_alloc_old w (.cells #[.int .i64 c, .slice (some ⟨b, off, none⟩) ts.length cx] 26) _ _ _ c1)
  have h2 := keepC (cell_alloc_old w (.cells #[.int .i64 c, .slice (some ⟨b, off, none⟩) ts.length cx] 26) _ _ _ c2)
  have h3 := keepC (cell_alloc_old w (.cells #[.int .i64 c, .slice (some ⟨b, off, none⟩) ts.length cx] 26) _ _ _ c3)
  have e4 := keepC (cell_alloc_at w #[.int .i64 c, .slice (some ⟨b, off, none⟩) ts.length cx] 26 1 _ rfl)
  have hW : Below w.heap.size w (w.alloc (.cells #[.int .i64 c, .slice (some ⟨b, off, none⟩) ts.length cx] 26)) := by (repeat (first | (with_reducible exact Below.refl _ _) | (with_reducible assumption) | (with_reducible refine below_al ?_) | (with_reducible refine below_dr ?_) | (with_reducible refine below_drN ?_) | (with_reducible refine below_set ?_ (by first | exact Nat.le_refl _ | (dsimp only; omega) | omega)) | (with_reducible refine below_tr (by with_reducible assumption) ?_)))
  clear a0 a1 a2 a3 c0 c1 c2 c3 hT
  generalize ts[m] = s at *
  generalize ts[n] = t at *
  have w4 : IntKind.i64.wrap 4 = 4 := by decide
  have w5 : IntKind.i64.wrap 5 = 5 := by decide
  have r4 : (4 : Int).tmod 4 = 0 := by decide
  have r5 : (5 : Int).tmod 4 = 1 := by decide
  go_enter Try.func56, Try.ntmps56
  go_wp2_with fail
  generalize w.alloc (.cells #[.int .i64 c, .slice (some ⟨b, off, none⟩) ts.length cx] 26) = W at *
  refine wp_region_add (fun w' => Below (W).heap.size (W) w') (by kernel_rfl) (by kernel_rfl) ((Below.refl _ _).drew) ?_
  repeat (first
    | (refine add_skip rfl (fun K' hK' => ?_); go_simp; refine hK' _ ?_; clear hK' K')
    | (refine add_do (v := ?_) rfl (fun w1 hb => ?_) (fun K' hK' => ?_); rotate_left
       · go_simp
         first
         | (with_reducible exact rfl)
         | (with_reducible exact ⟨rfl, hb⟩)
         | exact rfl
         | exact ⟨rfl, hb⟩
       go_simp; refine hK' _ ?_; clear hK' K'))
  refine add_nil ?_
  intro wa hba
  go_wp2
  go_ret
  exact ⟨by first | exact ret_bool HV.out.symm | (rw [HV.out]; rfl), hW.trans (hba.mono hW.size)⟩
set_option maxRecDepth 100000 in
set_option maxHeartbeats 1000000 in
theorem meetsS_c (c : Int) (ts : List T4) (A : Option Addr) (cx : Nat) (i k : Int) (w : World) (hT : TileCells w A ts) (hl : ts.length ≤ 1000000) (hi : 0 ≤ i ∧ i < ts.length) (hk : 0 ≤ k ∧ k < ts.length) :
    Calls Try.prog 56 #[.agg #[.int .i64 c, .slice A ts.length cx], .int .i64 i, .int .i64 k, .int .i64 3] w fun e w' => e = .returned (.bool (meetS ts i k)) ∧ Below w.heap.size w w' := by
  obtain ⟨m, rfl⟩ := Int.eq_ofNat_of_zero_le hi.1
  obtain ⟨n, rfl⟩ := Int.eq_ofNat_of_zero_le hk.1
  have hm : m < ts.length := by omega
  have hn : n < ts.length := by omega
  obtain ⟨b, off, rfl, hlt, a0, a1, a2, a3⟩ := hT m hm
  obtain ⟨c0, c1, c2, c3⟩ := hT.pair rfl n hn
  have HV : Hid (meetS ts m n = (ts[m].d == ts[n].b)) := by unfold Hid meetS; rw [tA_nat ts m hm, tA_nat ts n hn]
  have g0 := keepC (cell_alloc_old w (.cells #[.int .i64 c, .slice (some ⟨b, off, none⟩) ts.length cx] 26) _ _ _ a0)
  have g1 := keepC (cell_alloc_old w (.cells #[.int .i64 c, .slice (some ⟨b, off, none⟩) ts.length cx] 26) _ _ _ a1)
  have g2 := keepC (cell_alloc_old w (.cells #[.int .i64 c, .slice (some ⟨b, off, none⟩) ts.length cx] 26) _ _ _ a2)
  have g3 := keepC (cell_alloc_old w (.cells #[.int .i64 c, .slice (some ⟨b, off, none⟩) ts.length cx] 26) _ _ _ a3)
  have h0 := keepC (cell_alloc_old w (.cells #[.int .i64 c, .slice (some ⟨b, off, none⟩) ts.length cx] 26) _ _ _ c0)
  have h1 := keepC (cell_alloc_old w (.cells #[.int .i64 c, .slice (some ⟨b, off, none⟩) ts.length cx] 26) _ _ _ c1)
  have h2 := keepC (cell_alloc_old w (.cells #[.int .i64 c, .slice (some ⟨b, off, none⟩) ts.length cx] 26) _ _ _ c2)
  have h3 := keepC (cell_alloc_old w (.cells #[.int .i64 c, .slice (some ⟨b, off, none⟩) ts.length cx] 26) _ _ _ c3)
  have e4 := keepC (cell_alloc_at w #[.int .i64 c, .slice (some ⟨b, off, none⟩) ts.length cx] 26 1 _ rfl)
  have hW : Below w.heap.size w (w.alloc (.cells #[.int .i64 c, .slice (some ⟨b, off, none⟩) ts.length cx] 26)) := by (repeat (first | (with_reducible exact Below.refl _ _) | (with_reducible assumption) | (with_reducible refine below_al ?_) | (with_reducible refine below_dr ?_) | (with_reducible refine below_drN ?_) | (with_reducible refine below_set ?_ (by first | exact Nat.le_refl _ | (dsimp only; omega) | omega)) | (with_reducible refine below_tr (by with_reducible assumption) ?_)))
  clear a0 a1 a2 a3 c0 c1 c2 c3 hT
  generalize ts[m] = s at *
  generalize ts[n] = t at *
  have w4 : IntKind.i64.wrap 4 = 4 := by decide
  have w5 : IntKind.i64.wrap 5 = 5 := by decide
  have r4 : (4 : Int).tmod 4 = 0 := by decide
  have r5 : (5 : Int).tmod 4 = 1 := by decide
  go_enter Try.func56, Try.ntmps56
  go_wp2_with fail
  generalize w.alloc (.cells #[.int .i64 c, .slice (some ⟨b, off, none⟩) ts.length cx] 26) = W at *
  refine wp_region_add (fun w' => Below (W).heap.size (W) w') (by kernel_rfl) (by kernel_rfl) ((Below.refl _ _).drew) ?_
  repeat (first
    | (refine add_skip rfl (fun K' hK' => ?_); go_simp; refine hK' _ ?_; clear hK' K')
    | (refine add_do (v := ?_) rfl (fun w1 hb => ?_) (fun K' hK' => ?_); rotate_left
       · go_simp
         first
         | (with_reducible exact rfl)
         | (with_reducible exact ⟨rfl, hb⟩)
         | exact rfl
         | exact ⟨rfl, hb⟩
       go_simp; refine hK' _ ?_; clear hK' K'))
  refine add_nil ?_
  intro wa hba
  go_wp2
  go_ret
  exact ⟨by first | exact ret_bool HV.out.symm | (rw [HV.out]; rfl), hW.trans (hba.mono hW.size)⟩
set_option maxRecDepth 100000 in
set_option maxHeartbeats 1000000 in
theorem l09Beside_c (c : Int) (ts : List T4) (A : Option Addr) (cx : Nat) (i k : Int) (w : World) (hT : TileCells w A ts) (hl : ts.length ≤ 1000000) (hi : 0 ≤ i ∧ i < ts.length) (hk : 0 ≤ k ∧ k < ts.length) :
    Calls Try.prog 62 #[.agg #[.int .i64 c, .slice A ts.length cx], .int .i64 i, .int .i64 k] w fun e w' => e = .returned (.bool (meetE ts i k)) ∧ Below w.heap.size w w' := by
  obtain ⟨m, rfl⟩ := Int.eq_ofNat_of_zero_le hi.1
  obtain ⟨n, rfl⟩ := Int.eq_ofNat_of_zero_le hk.1
  have hm : m < ts.length := by omega
  have hn : n < ts.length := by omega
  obtain ⟨b, off, rfl, hlt, a0, a1, a2, a3⟩ := hT m hm
  obtain ⟨c0, c1, c2, c3⟩ := hT.pair rfl n hn
  have HV : Hid (meetE ts m n = (ts[m].c == ts[n].a)) := by unfold Hid meetE; rw [tA_nat ts m hm, tA_nat ts n hn]
  have g0 := keepC (cell_alloc_old w (.cells #[.int .i64 c, .slice (some ⟨b, off, none⟩) ts.length cx] 26) _ _ _ a0)
  have g1 := keepC (cell_alloc_old w (.cells #[.int .i64 c, .slice (some ⟨b, off, none⟩) ts.length cx] 26) _ _ _ a1)
  have g2 := keepC (cell_alloc_old w (.cells #[.int .i64 c, .slice (some ⟨b, off, none⟩) ts.length cx] 26) _ _ _ a2)
  have g3 := keepC (cell_alloc_old w (.cells #[.int .i64 c, .slice (some ⟨b, off, none⟩) ts.length cx] 26) _ _ _ a3)
  have h0 := keepC (cell_alloc_old w (.cells #[.int .i64 c, .slice (some ⟨b, off, none⟩) ts.length cx] 26) _ _ _ c0)
  have h1 := keepC (cell_alloc_old w (.cells #[.int .i64 c, .slice (some ⟨b, off, none⟩) ts.length cx] 26) _ _ _ c1)
  have h2 := keepC (cell_alloc_old w (.cells #[.int .i64 c, .slice (some ⟨b, off, none⟩) ts.length cx] 26) _ _ _ c2)
  have h3 := keepC (cell_alloc_old w (.cells #[.int .i64 c, .slice (some ⟨b, off, none⟩) ts.length cx] 26) _ _ _ c3)
  have e4 := keepC (cell_alloc_at w #[.int .i64 c, .slice (some ⟨b, off, none⟩) ts.length cx] 26 1 _ rfl)
  have hW : Below w.heap.size w (w.alloc (.cells #[.int .i64 c, .slice (some ⟨b, off, none⟩) ts.length cx] 26)) := by (repeat (first | (with_reducible exact Below.refl _ _) | (with_reducible assumption) | (with_reducible refine below_al ?_) | (with_reducible refine below_dr ?_) | (with_reducible refine below_drN ?_) | (with_reducible refine below_set ?_ (by first | exact Nat.le_refl _ | (dsimp only; omega) | omega)) | (with_reducible refine below_tr (by with_reducible assumption) ?_)))
  clear a0 a1 a2 a3 c0 c1 c2 c3 hT
  generalize ts[m] = s at *
  generalize ts[n] = t at *
  have w4 : IntKind.i64.wrap 4 = 4 := by decide
  have w5 : IntKind.i64.wrap 5 = 5 := by decide
  have r4 : (4 : Int).tmod 4 = 0 := by decide
  have r5 : (5 : Int).tmod 4 = 1 := by decide
  go_enter Try.func62, Try.ntmps62
  go_wp2_with fail
  generalize w.alloc (.cells #[.int .i64 c, .slice (some ⟨b, off, none⟩) ts.length cx] 26) = W at *
  refine wp_region_add (fun w' => Below (W).heap.size (W) w') (by kernel_rfl) (by kernel_rfl) ((Below.refl _ _).drew) ?_
  repeat (first
    | (refine add_skip rfl (fun K' hK' => ?_); go_simp; refine hK' _ ?_; clear hK' K')
    | (refine add_do (v := ?_) rfl (fun w1 hb => ?_) (fun K' hK' => ?_); rotate_left
       · go_simp
         first
         | (with_reducible exact rfl)
         | (with_reducible exact ⟨rfl, hb⟩)
         | exact rfl
         | exact ⟨rfl, hb⟩
       go_simp; refine hK' _ ?_; clear hK' K'))
  refine add_nil ?_
  intro wa hba
  go_wp2
  go_ret
  exact ⟨by first | exact ret_bool HV.out.symm | (rw [HV.out]; rfl), hW.trans (hba.mono hW.size)⟩
set_option maxRecDepth 100000 in
set_option maxHeartbeats 1000000 in
theorem l09Below_c (c : Int) (ts : List T4) (A : Option Addr) (cx : Nat) (i k : Int) (w : World) (hT : TileCells w A ts) (hl : ts.length ≤ 1000000) (hi : 0 ≤ i ∧ i < ts.length) (hk : 0 ≤ k ∧ k < ts.length) :
    Calls Try.prog 63 #[.agg #[.int .i64 c, .slice A ts.length cx], .int .i64 i, .int .i64 k] w fun e w' => e = .returned (.bool (meetS ts i k)) ∧ Below w.heap.size w w' := by
  obtain ⟨m, rfl⟩ := Int.eq_ofNat_of_zero_le hi.1
  obtain ⟨n, rfl⟩ := Int.eq_ofNat_of_zero_le hk.1
  have hm : m < ts.length := by omega
  have hn : n < ts.length := by omega
  obtain ⟨b, off, rfl, hlt, a0, a1, a2, a3⟩ := hT m hm
  obtain ⟨c0, c1, c2, c3⟩ := hT.pair rfl n hn
  have HV : Hid (meetS ts m n = (ts[m].d == ts[n].b)) := by unfold Hid meetS; rw [tA_nat ts m hm, tA_nat ts n hn]
  have g0 := keepC (cell_alloc_old w (.cells #[.int .i64 c, .slice (some ⟨b, off, none⟩) ts.length cx] 26) _ _ _ a0)
  have g1 := keepC (cell_alloc_old w (.cells #[.int .i64 c, .slice (some ⟨b, off, none⟩) ts.length cx] 26) _ _ _ a1)
  have g2 := keepC (cell_alloc_old w (.cells #[.int .i64 c, .slice (some ⟨b, off, none⟩) ts.length cx] 26) _ _ _ a2)
  have g3 := keepC (cell_alloc_old w (.cells #[.int .i64 c, .slice (some ⟨b, off, none⟩) ts.length cx] 26) _ _ _ a3)
  have h0 := keepC (cell_alloc_old w (.cells #[.int .i64 c, .slice (some ⟨b, off, none⟩) ts.length cx] 26) _ _ _ c0)
  have h1 := keepC (cell_alloc_old w (.cells #[.int .i64 c, .slice (some ⟨b, off, none⟩) ts.length cx] 26) _ _ _ c1)
  have h2 := keepC (cell_alloc_old w (.cells #[.int .i64 c, .slice (some ⟨b, off, none⟩) ts.length cx] 26) _ _ _ c2)
  have h3 := keepC (cell_alloc_old w (.cells #[.int .i64 c, .slice (some ⟨b, off, none⟩) ts.length cx] 26) _ _ _ c3)
  have e4 := keepC (cell_alloc_at w #[.int .i64 c, .slice (some ⟨b, off, none⟩) ts.length cx] 26 1 _ rfl)
  have hW : Below w.heap.size w (w.alloc (.cells #[.int .i64 c, .slice (some ⟨b, off, none⟩) ts.length cx] 26)) := by (repeat (first | (with_reducible exact Below.refl _ _) | (with_reducible assumption) | (with_reducible refine below_al ?_) | (with_reducible refine below_dr ?_) | (with_reducible refine below_drN ?_) | (with_reducible refine below_set ?_ (by first | exact Nat.le_refl _ | (dsimp only; omega) | omega)) | (with_reducible refine below_tr (by with_reducible assumption) ?_)))
  clear a0 a1 a2 a3 c0 c1 c2 c3 hT
  generalize ts[m] = s at *
  generalize ts[n] = t at *
  have w4 : IntKind.i64.wrap 4 = 4 := by decide
  have w5 : IntKind.i64.wrap 5 = 5 := by decide
  have r4 : (4 : Int).tmod 4 = 0 := by decide
  have r5 : (5 : Int).tmod 4 = 1 := by decide
  go_enter Try.func63, Try.ntmps63
  go_wp2_with fail
  generalize w.alloc (.cells #[.int .i64 c, .slice (some ⟨b, off, none⟩) ts.length cx] 26) = W at *
  refine wp_region_add (fun w' => Below (W).heap.size (W) w') (by kernel_rfl) (by kernel_rfl) ((Below.refl _ _).drew) ?_
  repeat (first
    | (refine add_skip rfl (fun K' hK' => ?_); go_simp; refine hK' _ ?_; clear hK' K')
    | (refine add_do (v := ?_) rfl (fun w1 hb => ?_) (fun K' hK' => ?_); rotate_left
       · go_simp
         first
         | (with_reducible exact rfl)
         | (with_reducible exact ⟨rfl, hb⟩)
         | exact rfl
         | exact ⟨rfl, hb⟩
       go_simp; refine hK' _ ?_; clear hK' K'))
  refine add_nil ?_
  intro wa hba
  go_wp2
  go_ret
  exact ⟨by first | exact ret_bool HV.out.symm | (rw [HV.out]; rfl), hW.trans (hba.mono hW.size)⟩
/-- four numbers x0 x1 over x2 x3 fill a square -/
def fill4 (ts : List T4) (x0 x1 x2 x3 : Int) : Bool := meetE ts x0 x1 && meetE ts x2 x3 && meetS ts x0 x2 && meetS ts x1 x3
def pairOk (ts : List T4) (L : List (List Int)) (i k : Nat) : Bool :=
  (!meetE ts i k || (meetE ts ((L.getD i []).getD 1 0) ((L.getD k []).getD 0 0) && meetE ts ((L.getD i []).getD 3 0) ((L.getD k []).getD 2 0))) &&
  (!meetS ts i k || (meetS ts ((L.getD i []).getD 2 0) ((L.getD k []).getD 0 0) && meetS ts ((L.getD i []).getD 3 0) ((L.getD k []).getD 1 0)))
def ruleAt (ts : List T4) (L : List (List Int)) (i : Nat) : Bool := fill4 ts ((L.getD i []).getD 0 0) ((L.getD i []).getD 1 0) ((L.getD i []).getD 2 0) ((L.getD i []).getD 3 0) && (List.range L.length).all (pairOk ts L i)
def ruleB (ts : List T4) (L : List (List Int)) : Bool := (List.range L.length).all (ruleAt ts L)
theorem ruleB_bad {ts : List T4} {L : List (List Int)} {i : Nat} (hi : i < L.length) (h : ruleAt ts L i = false) : ruleB ts L = false := by
  unfold ruleB; rw [List.all_eq_false]; exact ⟨i, List.mem_range.2 hi, by simp [h]⟩
theorem ruleB_all {ts : List T4} {L : List (List Int)} (h : ∀ i, i < L.length → ruleAt ts L i = true) : ruleB ts L = true := by
  unfold ruleB; rw [List.all_eq_true]; exact fun i hi => h i (List.mem_range.1 hi)
theorem ruleAt_fill {ts : List T4} {L : List (List Int)} {i : Nat} (h : fill4 ts ((L.getD i []).getD 0 0) ((L.getD i []).getD 1 0) ((L.getD i []).getD 2 0) ((L.getD i []).getD 3 0) = false) : ruleAt ts L i = false := by unfold ruleAt; rw [h]; rfl
theorem ruleAt_pair {ts : List T4} {L : List (List Int)} {i k : Nat} (hk : k < L.length) (h : pairOk ts L i k = false) : ruleAt ts L i = false := by
  unfold ruleAt
  have : (List.range L.length).all (pairOk ts L i) = false := by rw [List.all_eq_false]; exact ⟨k, List.mem_range.2 hk, by simp [h]⟩
  rw [this, Bool.and_false]
theorem ruleAt_all {ts : List T4} {L : List (List Int)} {i : Nat} (hf : fill4 ts ((L.getD i []).getD 0 0) ((L.getD i []).getD 1 0) ((L.getD i []).getD 2 0) ((L.getD i []).getD 3 0) = true) (h : ∀ k, k < L.length → pairOk ts L i k = true) : ruleAt ts L i = true := by
  unfold ruleAt
  have : (List.range L.length).all (pairOk ts L i) = true := by rw [List.all_eq_true]; exact fun k hk => h k (List.mem_range.1 hk)
  rw [hf, this]; rfl
/-- what is known of a block in memory -/
theorem blk4 {N : Nat} {w : World} {B : Option Addr} {L : List (List Int)} (hR : RowsC w B L) (hB : Blocks N L) {k : Nat} (hk : k < L.length) : ∃ b off b5 off5 c5, B = some ⟨b, off, none⟩ ∧ w.cell? ⟨b, off + k, none⟩ = some (.slice (some ⟨b5, off5, none⟩) 4 c5) ∧
    w.cell? ⟨b5, off5, none⟩ = some (.int .i64 ((L.getD k []).getD 0 0)) ∧ w.cell? ⟨b5, off5 + 1, none⟩ = some (.int .i64 ((L.getD k []).getD 1 0)) ∧ w.cell? ⟨b5, off5 + 2, none⟩ = some (.int .i64 ((L.getD k []).getD 2 0)) ∧ w.cell? ⟨b5, off5 + 3, none⟩ = some (.int .i64 ((L.getD k []).getD 3 0)) ∧
    (0 ≤ (L.getD k []).getD 0 0 ∧ (L.getD k []).getD 0 0 < N) ∧ (0 ≤ (L.getD k []).getD 1 0 ∧ (L.getD k []).getD 1 0 < N) ∧ (0 ≤ (L.getD k []).getD 2 0 ∧ (L.getD k []).getD 2 0 < N) ∧ (0 ≤ (L.getD k []).getD 3 0 ∧ (L.getD k []).getD 3 0 < N) := by
  obtain ⟨b, off, A1, c1, eB, _, hc, hr⟩ := hR k hk
  obtain ⟨h4, hI⟩ := hB.2 k hk
  have e : L.getD k [] = L[k] := by simp [hk]
  rw [e]
  generalize L[k] = row at *
  obtain ⟨y0, y1, y2, y3, rfl⟩ := four_of h4
  have at_ := fun (q : Nat) (hq : q < 4) => hr.int q (by simpa using hq)
  obtain ⟨b5, off5, e5, _, p0⟩ := at_ 0 (by omega)
  subst e5
  obtain ⟨_, _, q1, _, p1⟩ := at_ 1 (by omega)
  injection q1 with q1; injection q1 with q1 q1'; subst q1 q1'
  obtain ⟨_, _, q2, _, p2⟩ := at_ 2 (by omega)
  injection q2 with q2; injection q2 with q2 q2'; subst q2 q2'
  obtain ⟨_, _, q3, _, p3⟩ := at_ 3 (by omega)
  injection q3 with q3; injection q3 with q3 q3'; subst q3 q3'
  exact ⟨b, off, b5, off5, c1, eB, hc, p0, p1, p2, p3, hI 0 (by simp), hI 1 (by simp), hI 2 (by simp), hI 3 (by simp)⟩
set_option maxRecDepth 100000 in
set_option maxHeartbeats 1000000 in
theorem isFilling4_c (c : Int) (ts : List T4) (A : Option Addr) (cx : Nat) (x0 x1 x2 x3 : Int) (b b1 b2 off1 off2 c1 c2 cR : Nat) (w : World) (hT : TileCells w A ts) (hl : ts.length ≤ 1000000)
    (i0 : 0 ≤ x0 ∧ x0 < ts.length) (i1 : 0 ≤ x1 ∧ x1 < ts.length) (i2 : 0 ≤ x2 ∧ x2 < ts.length) (i3 : 0 ≤ x3 ∧ x3 < ts.length)
    (r0 : w.cell? ⟨b, 0, none⟩ = some (.slice (some ⟨b1, off1, none⟩) 2 c1)) (r1 : w.cell? ⟨b, 1, none⟩ = some (.slice (some ⟨b2, off2, none⟩) 2 c2))
    (y0 : w.cell? ⟨b1, off1, none⟩ = some (.int .i64 x0)) (y1 : w.cell? ⟨b1, off1 + 1, none⟩ = some (.int .i64 x1)) (y2 : w.cell? ⟨b2, off2, none⟩ = some (.int .i64 x2)) (y3 : w.cell? ⟨b2, off2 + 1, none⟩ = some (.int .i64 x3)) :
    Calls Try.prog 36 #[.agg #[.int .i64 c, .slice A ts.length cx], .slice (some ⟨b, 0, none⟩) 2 cR] w fun e w' => e = .returned (.bool (fill4 ts x0 x1 x2 x3)) ∧ Below w.heap.size w w' := by
  obtain ⟨m0, rfl⟩ := Int.eq_ofNat_of_zero_le i0.1
  obtain ⟨m1, rfl⟩ := Int.eq_ofNat_of_zero_le i1.1
  obtain ⟨m2, rfl⟩ := Int.eq_ofNat_of_zero_le i2.1
  obtain ⟨m3, rfl⟩ := Int.eq_ofNat_of_zero_le i3.1
  have h0 : m0 < ts.length := by omega
  have h1 : m1 < ts.length := by omega
  have h2 : m2 < ts.length := by omega
  have h3 : m3 < ts.length := by omega
  have HV : Hid (fill4 ts m0 m1 m2 m3 = (ts[m0].c == ts[m1].a && ts[m2].c == ts[m3].a && ts[m0].d == ts[m2].b && ts[m1].d == ts[m3].b)) := by
    unfold Hid fill4 meetE meetS; rw [tA_nat ts m0 h0, tA_nat ts m1 h1, tA_nat ts m2 h2, tA_nat ts m3 h3]
  obtain ⟨b9, off9, rfl, hlt, -, -, a0, a1⟩ := hT m0 h0
  obtain ⟨c0, -, -, c3⟩ := hT.pair rfl m1 h1
  obtain ⟨-, d1, d2, -⟩ := hT.pair rfl m2 h2
  obtain ⟨e0, e1, -, -⟩ := hT.pair rfl m3 h3
  have W : ∀ bb o v, w.cell? ⟨bb, o, none⟩ = some v → ∀ w1, Below (w.alloc (.cells #[.int .i64 c, .slice (some ⟨b9, off9, none⟩) ts.length cx] 26)).heap.size (w.alloc (.cells #[.int .i64 c, .slice (some ⟨b9, off9, none⟩) ts.length cx] 26)) w1 → w1.cell? ⟨bb, o, none⟩ = some v := fun bb o v h => keepC (cell_alloc_old w _ _ _ _ h)
  have k0 := W _ _ _ a0
  have k1 := W _ _ _ a1
  have k2 := W _ _ _ c0
  have k3 := W _ _ _ c3
  have k4 := W _ _ _ d1
  have k5 := W _ _ _ d2
  have k6 := W _ _ _ e0
  have k7 := W _ _ _ e1
  have l0 := W _ _ _ r0
  have l1 := W _ _ _ r1
  have l2 := W _ _ _ y0
  have l3 := W _ _ _ y1
  have l4 := W _ _ _ y2
  have l5 := W _ _ _ y3
  have l6 := keepC (cell_alloc_at w #[.int .i64 c, .slice (some ⟨b9, off9, none⟩) ts.length cx] 26 1 _ rfl)
  have hW : Below w.heap.size w (w.alloc (.cells #[.int .i64 c, .slice (some ⟨b9, off9, none⟩) ts.length cx] 26)) := by (repeat (first | (with_reducible exact Below.refl _ _) | (with_reducible assumption) | (with_reducible refine below_al ?_) | (with_reducible refine below_dr ?_) | (with_reducible refine below_drN ?_) | (with_reducible refine below_set ?_ (by first | exact Nat.le_refl _ | (dsimp only; omega) | omega)) | (with_reducible refine below_tr (by with_reducible assumption) ?_)))
  clear a0 a1 c0 c3 d1 d2 e0 e1 r0 r1 y0 y1 y2 y3 hT W
  generalize ts[m0] = t0 at *
  generalize ts[m1] = t1 at *
  generalize ts[m2] = t2 at *
  generalize ts[m3] = t3 at *
  have w00 : IntKind.i64.wrap 0 = 0 := by decide
  have w01 : IntKind.i64.wrap 1 = 1 := by decide
  have w02 : IntKind.i64.wrap (1 - 1) = 0 := by decide
  have eqb : ∀ x y : Int, (x == y) = !(x != y) := fun x y => by simp [bne]
  rw [eqb t0.c, eqb t2.c, eqb t0.d, eqb t1.d] at HV
  clear eqb
  cases p1 : (t0.c != t1.a)
  · cases p2 : (t0.d != t2.b)
    · cases p3 : (t2.c != t3.a)
      · cases p4 : (t1.d != t3.b)
        · have HF : Hid (fill4 ts m0 m1 m2 m3 = true) := by rw [Hid, HV.out, p1, p2, p3, p4]; rfl
          go_enter Try.func36, Try.ntmps36
          go_wp2_with fail
          generalize w.alloc (.cells #[.int .i64 c, .slice (some ⟨b9, off9, none⟩) ts.length cx] 26) = W at *
          have hba : Below W.heap.size W W := Below.refl _ _
          refine wp_loop_rounds 3 ?_
          rw [rounds_succ]
          go_wp2_with fail
          refine wp_loop_rounds 3 ?_
          rw [rounds_succ]
          go_wp2_with fail
          refine wp_region_add (fun w' => Below (W).heap.size (W) w') (by kernel_rfl) (by kernel_rfl) (hba.drew) ?_
          repeat (first
            | (refine add_skip rfl (fun K' hK' => ?_); go_simp; refine hK' _ ?_; clear hK' K')
            | (refine add_do (v := ?_) rfl (fun w1 hb => ?_) (fun K' hK' => ?_); rotate_left
               · go_simp
                 first
                 | (with_reducible exact rfl)
                 | (with_reducible exact ⟨rfl, hb⟩)
                 | exact rfl
                 | exact ⟨rfl, hb⟩
               go_simp; refine hK' _ ?_; clear hK' K'))
          refine add_nil ?_
          intro wa hba
          go_wp2_with fail
          rw [rounds_succ]
          go_wp2_with fail
          refine wp_region_add (fun w' => Below (W).heap.size (W) w') (by kernel_rfl) (by kernel_rfl) (hba.drew) ?_
          repeat (first
            | (refine add_skip rfl (fun K' hK' => ?_); go_simp; refine hK' _ ?_; clear hK' K')
            | (refine add_do (v := ?_) rfl (fun w1 hb => ?_) (fun K' hK' => ?_); rotate_left
               · go_simp
                 first
                 | (with_reducible exact rfl)
                 | (with_reducible exact ⟨rfl, hb⟩)
                 | exact rfl
                 | exact ⟨rfl, hb⟩
               go_simp; refine hK' _ ?_; clear hK' K'))
          refine add_nil ?_
          intro wa hba
          go_wp2_with fail
          rw [rounds_succ]
          go_wp2_with fail
          rw [rounds_succ]
          go_wp2_with fail
          refine wp_loop_rounds 3 ?_
          rw [rounds_succ]
          go_wp2_with fail
          refine wp_region_add (fun w' => Below (W).heap.size (W) w') (by kernel_rfl) (by kernel_rfl) (hba.drew) ?_
          repeat (first
            | (refine add_skip rfl (fun K' hK' => ?_); go_simp; refine hK' _ ?_; clear hK' K')
            | (refine add_do (v := ?_) rfl (fun w1 hb => ?_) (fun K' hK' => ?_); rotate_left
               · go_simp
                 first
                 | (with_reducible exact rfl)
                 | (with_reducible exact ⟨rfl, hb⟩)
                 | exact rfl
                 | exact ⟨rfl, hb⟩
               go_simp; refine hK' _ ?_; clear hK' K'))
          refine add_nil ?_
          intro wa hba
          go_wp2_with fail
          rw [rounds_succ]
          go_wp2_with fail
          refine wp_region_add (fun w' => Below (W).heap.size (W) w') (by kernel_rfl) (by kernel_rfl) (hba.drew) ?_
          repeat (first
            | (refine add_skip rfl (fun K' hK' => ?_); go_simp; refine hK' _ ?_; clear hK' K')
            | (refine add_do (v := ?_) rfl (fun w1 hb => ?_) (fun K' hK' => ?_); rotate_left
               · go_simp
                 first
                 | (with_reducible exact rfl)
                 | (with_reducible exact ⟨rfl, hb⟩)
                 | exact rfl
                 | exact ⟨rfl, hb⟩
               go_simp; refine hK' _ ?_; clear hK' K'))
          refine add_nil ?_
          intro wa hba
          go_wp2_with fail
          rw [rounds_succ]
          go_wp2_with fail
          rw [rounds_succ]
          go_wp2_with fail
          go_ret
          exact ⟨ret_bool HF.out.symm, hW.trans (hba.mono hW.size)⟩
        · have HF : Hid (fill4 ts m0 m1 m2 m3 = false) := by rw [Hid, HV.out, p1, p2, p3, p4]; rfl
          go_enter Try.func36, Try.ntmps36
          go_wp2_with fail
          generalize w.alloc (.cells #[.int .i64 c, .slice (some ⟨b9, off9, none⟩) ts.length cx] 26) = W at *
          have hba : Below W.heap.size W W := Below.refl _ _
          refine wp_loop_rounds 3 ?_
          rw [rounds_succ]
          go_wp2_with fail
          refine wp_loop_rounds 3 ?_
          rw [rounds_succ]
          go_wp2_with fail
          refine wp_region_add (fun w' => Below (W).heap.size (W) w') (by kernel_rfl) (by kernel_rfl) (hba.drew) ?_
          repeat (first
            | (refine add_skip rfl (fun K' hK' => ?_); go_simp; refine hK' _ ?_; clear hK' K')
            | (refine add_do (v := ?_) rfl (fun w1 hb => ?_) (fun K' hK' => ?_); rotate_left
               · go_simp
                 first
                 | (with_reducible exact rfl)
                 | (with_reducible exact ⟨rfl, hb⟩)
                 | exact rfl
                 | exact ⟨rfl, hb⟩
               go_simp; refine hK' _ ?_; clear hK' K'))
          refine add_nil ?_
          intro wa hba
          go_wp2_with fail
          rw [rounds_succ]
          go_wp2_with fail
          refine wp_region_add (fun w' => Below (W).heap.size (W) w') (by kernel_rfl) (by kernel_rfl) (hba.drew) ?_
          repeat (first
            | (refine add_skip rfl (fun K' hK' => ?_); go_simp; refine hK' _ ?_; clear hK' K')
            | (refine add_do (v := ?_) rfl (fun w1 hb => ?_) (fun K' hK' => ?_); rotate_left
               · go_simp
                 first
                 | (with_reducible exact rfl)
                 | (with_reducible exact ⟨rfl, hb⟩)
                 | exact rfl
                 | exact ⟨rfl, hb⟩
               go_simp; refine hK' _ ?_; clear hK' K'))
          refine add_nil ?_
          intro wa hba
          go_wp2_with fail
          rw [rounds_succ]
          go_wp2_with fail
          rw [rounds_succ]
          go_wp2_with fail
          refine wp_loop_rounds 3 ?_
          rw [rounds_succ]
          go_wp2_with fail
          refine wp_region_add (fun w' => Below (W).heap.size (W) w') (by kernel_rfl) (by kernel_rfl) (hba.drew) ?_
          repeat (first
            | (refine add_skip rfl (fun K' hK' => ?_); go_simp; refine hK' _ ?_; clear hK' K')
            | (refine add_do (v := ?_) rfl (fun w1 hb => ?_) (fun K' hK' => ?_); rotate_left
               · go_simp
                 first
                 | (with_reducible exact rfl)
                 | (with_reducible exact ⟨rfl, hb⟩)
                 | exact rfl
                 | exact ⟨rfl, hb⟩
               go_simp; refine hK' _ ?_; clear hK' K'))
          refine add_nil ?_
          intro wa hba
          go_wp2_with fail
          rw [rounds_succ]
          go_wp2_with fail
          refine wp_region_add (fun w' => Below (W).heap.size (W) w') (by kernel_rfl) (by kernel_rfl) (hba.drew) ?_
          repeat (first
            | (refine add_skip rfl (fun K' hK' => ?_); go_simp; refine hK' _ ?_; clear hK' K')
            | (refine add_do (v := ?_) rfl (fun w1 hb => ?_) (fun K' hK' => ?_); rotate_left
               · go_simp
                 first
                 | (with_reducible exact rfl)
                 | (with_reducible exact ⟨rfl, hb⟩)
                 | exact rfl
                 | exact ⟨rfl, hb⟩
               go_simp; refine hK' _ ?_; clear hK' K'))
          refine add_nil ?_
          intro wa hba
          go_wp2
          go_ret
          exact ⟨ret_bool HF.out.symm, hW.trans (hba.mono hW.size)⟩
      · have HF : Hid (fill4 ts m0 m1 m2 m3 = false) := by rw [Hid, HV.out, p1, p2, p3]; rfl
        go_enter Try.func36, Try.ntmps36
        go_wp2_with fail
        generalize w.alloc (.cells #[.int .i64 c, .slice (some ⟨b9, off9, none⟩) ts.length cx] 26) = W at *
        have hba : Below W.heap.size W W := Below.refl _ _
        refine wp_loop_rounds 3 ?_
        rw [rounds_succ]
        go_wp2_with fail
        refine wp_loop_rounds 3 ?_
        rw [rounds_succ]
        go_wp2_with fail
        refine wp_region_add (fun w' => Below (W).heap.size (W) w') (by kernel_rfl) (by kernel_rfl) (hba.drew) ?_
        repeat (first
          | (refine add_skip rfl (fun K' hK' => ?_); go_simp; refine hK' _ ?_; clear hK' K')
          | (refine add_do (v := ?_) rfl (fun w1 hb => ?_) (fun K' hK' => ?_); rotate_left
             · go_simp
               first
               | (with_reducible exact rfl)
               | (with_reducible exact ⟨rfl, hb⟩)
               | exact rfl
               | exact ⟨rfl, hb⟩
             go_simp; refine hK' _ ?_; clear hK' K'))
        refine add_nil ?_
        intro wa hba
        go_wp2_with fail
        rw [rounds_succ]
        go_wp2_with fail
        refine wp_region_add (fun w' => Below (W).heap.size (W) w') (by kernel_rfl) (by kernel_rfl) (hba.drew) ?_
        repeat (first
          | (refine add_skip rfl (fun K' hK' => ?_); go_simp; refine hK' _ ?_; clear hK' K')
          | (refine add_do (v := ?_) rfl (fun w1 hb => ?_) (fun K' hK' => ?_); rotate_left
             · go_simp
               first
               | (with_reducible exact rfl)
               | (with_reducible exact ⟨rfl, hb⟩)
               | exact rfl
               | exact ⟨rfl, hb⟩
             go_simp; refine hK' _ ?_; clear hK' K'))
        refine add_nil ?_
        intro wa hba
        go_wp2_with fail
        rw [rounds_succ]
        go_wp2_with fail
        rw [rounds_succ]
        go_wp2_with fail
        refine wp_loop_rounds 3 ?_
        rw [rounds_succ]
        go_wp2_with fail
        refine wp_region_add (fun w' => Below (W).heap.size (W) w') (by kernel_rfl) (by kernel_rfl) (hba.drew) ?_
        repeat (first
          | (refine add_skip rfl (fun K' hK' => ?_); go_simp; refine hK' _ ?_; clear hK' K')
          | (refine add_do (v := ?_) rfl (fun w1 hb => ?_) (fun K' hK' => ?_); rotate_left
             · go_simp
               first
               | (with_reducible exact rfl)
               | (with_reducible exact ⟨rfl, hb⟩)
               | exact rfl
               | exact ⟨rfl, hb⟩
             go_simp; refine hK' _ ?_; clear hK' K'))
        refine add_nil ?_
        intro wa hba
        go_wp2_with fail
        rw [rounds_succ]
        go_wp2_with fail
        refine wp_region_add (fun w' => Below (W).heap.size (W) w') (by kernel_rfl) (by kernel_rfl) (hba.drew) ?_
        repeat (first
          | (refine add_skip rfl (fun K' hK' => ?_); go_simp; refine hK' _ ?_; clear hK' K')
          | (refine add_do (v := ?_) rfl (fun w1 hb => ?_) (fun K' hK' => ?_); rotate_left
             · go_simp
               first
               | (with_reducible exact rfl)
               | (with_reducible exact ⟨rfl, hb⟩)
               | exact rfl
               | exact ⟨rfl, hb⟩
             go_simp; refine hK' _ ?_; clear hK' K'))
        refine add_nil ?_
        intro wa hba
        go_wp2
        go_ret
        exact ⟨ret_bool HF.out.symm, hW.trans (hba.mono hW.size)⟩
    · have HF : Hid (fill4 ts m0 m1 m2 m3 = false) := by rw [Hid, HV.out, p1, p2]; simp
      go_enter Try.func36, Try.ntmps36
      go_wp2_with fail
      generalize w.alloc (.cells #[.int .i64 c, .slice (some ⟨b9, off9, none⟩) ts.length cx] 26) = W at *
      have hba : Below W.heap.size W W := Below.refl _ _
      refine wp_loop_rounds 3 ?_
      rw [rounds_succ]
      go_wp2_with fail
      refine wp_loop_rounds 3 ?_
      rw [rounds_succ]
      go_wp2_with fail
      refine wp_region_add (fun w' => Below (W).heap.size (W) w') (by kernel_rfl) (by kernel_rfl) (hba.drew) ?_
      repeat (first
        | (refine add_skip rfl (fun K' hK' => ?_); go_simp; refine hK' _ ?_; clear hK' K')
        | (refine add_do (v := ?_) rfl (fun w1 hb => ?_) (fun K' hK' => ?_); rotate_left
           · go_simp
             first
             | (with_reducible exact rfl)
             | (with_reducible exact ⟨rfl, hb⟩)
             | exact rfl
             | exact ⟨rfl, hb⟩
           go_simp; refine hK' _ ?_; clear hK' K'))
      refine add_nil ?_
      intro wa hba
      go_wp2_with fail
      rw [rounds_succ]
      go_wp2_with fail
      refine wp_region_add (fun w' => Below (W).heap.size (W) w') (by kernel_rfl) (by kernel_rfl) (hba.drew) ?_
      repeat (first
        | (refine add_skip rfl (fun K' hK' => ?_); go_simp; refine hK' _ ?_; clear hK' K')
        | (refine add_do (v := ?_) rfl (fun w1 hb => ?_) (fun K' hK' => ?_); rotate_left
           · go_simp
             first
             | (with_reducible exact rfl)
             | (with_reducible exact ⟨rfl, hb⟩)
             | exact rfl
             | exact ⟨rfl, hb⟩
           go_simp; refine hK' _ ?_; clear hK' K'))
      refine add_nil ?_
      intro wa hba
      go_wp2_with fail
      rw [rounds_succ]
      go_wp2_with fail
      rw [rounds_succ]
      go_wp2_with fail
      refine wp_loop_rounds 3 ?_
      rw [rounds_succ]
      go_wp2_with fail
      refine wp_region_add (fun w' => Below (W).heap.size (W) w') (by kernel_rfl) (by kernel_rfl) (hba.drew) ?_
      repeat (first
        | (refine add_skip rfl (fun K' hK' => ?_); go_simp; refine hK' _ ?_; clear hK' K')
        | (refine add_do (v := ?_) rfl (fun w1 hb => ?_) (fun K' hK' => ?_); rotate_left
           · go_simp
             first
             | (with_reducible exact rfl)
             | (with_reducible exact ⟨rfl, hb⟩)
             | exact rfl
             | exact ⟨rfl, hb⟩
           go_simp; refine hK' _ ?_; clear hK' K'))
      refine add_nil ?_
      intro wa hba
      go_wp2
      go_ret
      exact ⟨ret_bool HF.out.symm, hW.trans (hba.mono hW.size)⟩
  · have HF : Hid (fill4 ts m0 m1 m2 m3 = false) := by rw [Hid, HV.out, p1]; rfl
    go_enter Try.func36, Try.ntmps36
    go_wp2_with fail
    generalize w.alloc (.cells #[.int .i64 c, .slice (some ⟨b9, off9, none⟩) ts.length cx] 26) = W at *
    have hba : Below W.heap.size W W := Below.refl _ _
    refine wp_loop_rounds 3 ?_
    rw [rounds_succ]
    go_wp2_with fail
    refine wp_loop_rounds 3 ?_
    rw [rounds_succ]
    go_wp2_with fail
    refine wp_region_add (fun w' => Below (W).heap.size (W) w') (by kernel_rfl) (by kernel_rfl) (hba.drew) ?_
    repeat (first
      | (refine add_skip rfl (fun K' hK' => ?_); go_simp; refine hK' _ ?_; clear hK' K')
      | (refine add_do (v := ?_) rfl (fun w1 hb => ?_) (fun K' hK' => ?_); rotate_left
         · go_simp
           first
           | (with_reducible exact rfl)
           | (with_reducible exact ⟨rfl, hb⟩)
           | exact rfl
           | exact ⟨rfl, hb⟩
         go_simp; refine hK' _ ?_; clear hK' K'))
    refine add_nil ?_
    intro wa hba
    go_wp2_with fail
    rw [rounds_succ]
    go_wp2_with fail
    refine wp_region_add (fun w' => Below (W).heap.size (W) w') (by kernel_rfl) (by kernel_rfl) (hba.drew) ?_
    repeat (first
      | (refine add_skip rfl (fun K' hK' => ?_); go_simp; refine hK' _ ?_; clear hK' K')
      | (refine add_do (v := ?_) rfl (fun w1 hb => ?_) (fun K' hK' => ?_); rotate_left
         · go_simp
           first
           | (with_reducible exact rfl)
           | (with_reducible exact ⟨rfl, hb⟩)
           | exact rfl
           | exact ⟨rfl, hb⟩
         go_simp; refine hK' _ ?_; clear hK' K'))
    refine add_nil ?_
    intro wa hba
    go_wp2
    go_ret
    exact ⟨ret_bool HF.out.symm, hW.trans (hba.mono hW.size)⟩

end Go.Proofs.Ytkgnejhflnekaaa
