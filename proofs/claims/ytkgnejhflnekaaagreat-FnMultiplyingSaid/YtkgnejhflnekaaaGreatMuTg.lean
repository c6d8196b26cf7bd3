/- Contracts and lemmas for the statements of this seat, written for this claim; each theorem states its own conditions. -/
import Derived.ProofKit
import Derived.OpenShut
import Derived.ShutString
import Derived.ChangeOld
import Derived.Below
import Derived.SizedLaws
import Derived.Deep.Slices
import Derived.Deep.Fields
import Derived.ChangeSame
import Derived.Lib.SmallJoins
import Derived.Laws.IdiomArrays
import Derived.Carry
import Derived.Test.YtkgnejhflnekaaaGreatMuCp
import Derived.Test.YtkgnejhflnekaaaGreatMuMk
import Derived.Test.YtkgnejhflnekaaaGreatMuB
import Derived.Test.YtkgnejhflnekaaaGreatMuN8
set_option linter.unusedVariables false
set_option linter.unusedSimpArgs false
namespace Go.Proofs.YtkgnejhflnekaaaGreat
open Go.RowKit
theorem infoBool : (Tryz.prog.info? 4).map (fun i => (i.zero, i.size, i.bytes)) = some (some (.bool false), 1, 1) := by kernel_rfl
def bools (xs : List Bool) : List Value := xs.map fun x => .bool x
theorem bools_length (xs : List Bool) : (bools xs).length = xs.length := by simp [bools]
theorem bools_set (xs : List Bool) (k : Nat) (x : Bool) : (bools xs).set k (.bool x) = bools (xs.set k x) := by simp [bools, List.map_set]
theorem Blk.bool {w : World} {b : Nat} {xs : List Bool} {T : TypeId} (h : Blk w b (bools xs) T) (k : Nat) (hk : k < xs.length) : w.cell? ⟨b, k, none⟩ = some (.bool xs[k]) := by
  rw [h.cell k (by rw [bools_length]; exact hk)]; simp [bools]
theorem Blk.setBool {w : World} {b : Nat} {xs : List Bool} {T : TypeId} (h : Blk w b (bools xs) T) (k : Nat) (x : Bool) : Blk (w.setCell ⟨b, k, none⟩ (.bool x)) b (bools (xs.set k x)) T := by
  rw [← bools_set]; exact h.set k _
/-- which tiles were met, and the list of those that still are to be looked at -/
structure Met where
  met : List Bool
  list : List Int
def metOne (s : Met) (j : Int) : Met := if s.met.getD j.toNat false = true then s else ⟨s.met.set j.toNat true, s.list ++ [j]⟩
def metRow (row : List Int) (s : Met) (m : Nat) : Met := (row.take m).foldl metOne s
def metStep (L : List (List Int)) (s : Met) (k : Nat) : Met := metRow (L.getD (s.list.getD k 0).toNat []) s 4
def metTo (L : List (List Int)) (i : Int) : Nat → Met
  | 0 => ⟨(List.replicate L.length false).set i.toNat true, [i]⟩
  | k + 1 => metStep L (metTo L i k) k
theorem metRow_succ {row : List Int} {s : Met} {m : Nat} (h : m < row.length) : metRow row s (m + 1) = metOne (metRow row s m) row[m] := by
  unfold metRow; rw [List.take_succ_eq_append_getElem h, List.foldl_append]; rfl
theorem metRow_zero (row : List Int) (s : Met) : metRow row s 0 = s := by simp [metRow]
/-- what holds of all that is met: the list has each tile that was met, once -/
theorem getB_self {xs : List Bool} {m : Nat} (h : m < xs.length) : (xs.set m true).getD m false = true := by simp [h]
theorem getB_ne {xs : List Bool} {m k : Nat} (h : m ≠ k) : (xs.set m true).getD k false = xs.getD k false := by simp [List.getElem?_set_ne h]
def MetOk (N : Nat) (s : Met) : Prop := s.met.length = N ∧ (∀ x ∈ s.list, 0 ≤ x ∧ x < (N : Int) ∧ s.met.getD x.toNat false = true) ∧ s.list.Nodup
theorem metOne_ok {N : Nat} {s : Met} (h : MetOk N s) {j : Int} (j0 : 0 ≤ j) (j1 : j < N) : MetOk N (metOne s j) := by
  obtain ⟨h1, h2, h3⟩ := h
  obtain ⟨m, rfl⟩ := Int.eq_ofNat_of_zero_le j0
  have hm : m < N := by omega
  unfold metOne
  split
  · exact ⟨h1, h2, h3⟩
  · rename_i hf
    refine ⟨by simpa using h1, fun x hx => ?_, ?_⟩
    · rcases List.mem_append.1 hx with hx | hx
      · obtain ⟨a, b, c⟩ := h2 x hx
        refine ⟨a, b, ?_⟩
        rw [Int.toNat_natCast]
        by_cases e : m = x.toNat
        · rw [← e]; exact getB_self (by omega)
        · rw [getB_ne e]; exact c
      · simp at hx; subst hx
        exact ⟨by omega, by omega, getB_self (by rw [Int.toNat_natCast]; omega)⟩
    · rw [List.nodup_append]
      refine ⟨h3, by simp, fun x hx y hy => ?_⟩
      simp at hy; subst hy
      intro e; subst e
      exact hf (h2 _ hx).2.2
theorem metRow_ok {N : Nat} {row : List Int} {s : Met} (h : MetOk N s) (hr : ∀ j (hj : j < row.length), 0 ≤ row[j] ∧ row[j] < N) : ∀ m, m ≤ row.length → MetOk N (metRow row s m)
  | 0, _ => by rw [metRow_zero]; exact h
  | m + 1, hm => by
    rw [metRow_succ (by omega)]
    exact metOne_ok (metRow_ok h hr m (by omega)) (hr m (by omega)).1 (hr m (by omega)).2
theorem nodup_pigeon {N : Nat} {l : List Int} (h : l.Nodup) (hr : ∀ x ∈ l, 0 ≤ x ∧ x < (N : Int)) : l.length ≤ N := by
  refine pigeon N (fun k => l.getD k 0) l.length (fun a ha => ?_) (fun a b hab hb => ?_)
  · rw [show l.getD a 0 = l[a] by simp [ha]]; exact hr _ (List.getElem_mem ha)
  · have ha : a < l.length := by omega
    rw [show l.getD a 0 = l[a] by simp [ha], show l.getD b 0 = l[b] by simp [hb]]
    exact fun e => (List.pairwise_iff_getElem.1 h) a b ha hb hab e
theorem MetOk.len {N : Nat} {s : Met} (h : MetOk N s) : s.list.length ≤ N := nodup_pigeon h.2.2 (fun x hx => ⟨(h.2.1 x hx).1, (h.2.1 x hx).2.1⟩)
theorem metOne_len (s : Met) (j : Int) : s.list.length ≤ (metOne s j).list.length := by unfold metOne; split <;> simp
theorem metRow_len (row : List Int) (s : Met) (m : Nat) : s.list.length ≤ (metRow row s m).list.length := by
  unfold metRow
  generalize row.take m = l
  induction l generalizing s with
  | nil => exact Nat.le_refl _
  | cons x l ih => rw [List.foldl_cons]; exact Nat.le_trans (metOne_len s x) (ih _)
theorem metOne_pre (s : Met) (j : Int) : ∃ t, (metOne s j).list = s.list ++ t := by unfold metOne; split; exact ⟨[], by simp⟩; exact ⟨[j], rfl⟩
theorem metRow_pre (row : List Int) (s : Met) (m : Nat) : ∃ t, (metRow row s m).list = s.list ++ t := by
  unfold metRow
  generalize row.take m = l
  induction l generalizing s with
  | nil => exact ⟨[], by simp⟩
  | cons x l ih =>
    rw [List.foldl_cons]
    obtain ⟨t, ht⟩ := ih (metOne s x)
    obtain ⟨u, hu⟩ := metOne_pre s x
    exact ⟨u ++ t, by rw [ht, hu, List.append_assoc]⟩
def PreEnd (L : List (List Int)) (i : Int) (k : Nat) : Prop := ∀ j, j < k → j < (metTo L i j).list.length
def IsEnd (L : List (List Int)) (i : Int) (k : Nat) : Prop := PreEnd L i k ∧ (metTo L i k).list.length ≤ k
theorem IsEnd.uniq {L : List (List Int)} {i : Int} {k k' : Nat} (h : IsEnd L i k) (h' : IsEnd L i k') : k = k' := by
  rcases Nat.lt_trichotomy k k' with hh | hh | hh
  · have := h'.1 k hh; have := h.2; omega
  · exact hh
  · have := h.1 k' hh; have := h'.2; omega
noncomputable def endOf (L : List (List Int)) (i : Int) : Nat := open Classical in if h : ∃ k, IsEnd L i k then h.choose else 0
theorem endOf_eq {L : List (List Int)} {i : Int} {k : Nat} (h : IsEnd L i k) : endOf L i = k := by
  have he : ∃ k, IsEnd L i k := ⟨k, h⟩
  unfold endOf
  rw [dif_pos he]
  exact he.choose_spec.uniq h
noncomputable def metV (L : List (List Int)) (i : Int) : List Bool := (metTo L i (endOf L i)).met
theorem metTo_ok {N : Nat} {L : List (List Int)} (hB : Blocks N L) {i : Int} (h0 : 0 ≤ i) (h1 : i < N) : ∀ k, PreEnd L i k → MetOk N (metTo L i k)
  | 0, _ => by
    obtain ⟨m, rfl⟩ := Int.eq_ofNat_of_zero_le h0
    refine ⟨by simp [metTo, hB.1], fun x hx => ?_, by simp [metTo]⟩
    simp [metTo] at hx; subst hx
    exact ⟨by omega, h1, getB_self (by simp [hB.1]; omega)⟩
  | k + 1, hp => by
    have ih := metTo_ok hB h0 h1 k (fun j hj => hp j (by omega))
    have hk := hp k (by omega)
    obtain ⟨a, b, _⟩ := ih.2.1 _ (List.getElem_mem hk)
    obtain ⟨m, hm⟩ := Int.eq_ofNat_of_zero_le a
    have hmL : m < L.length := by rw [hB.1]; omega
    have h4 := (hB.2 m hmL)
    show MetOk N (metStep L (metTo L i k) k)
    unfold metStep
    rw [show (metTo L i k).list.getD k 0 = (metTo L i k).list[k] by simp [hk], hm, Int.toNat_natCast, show L.getD m [] = L[m] by simp [hmL]]
    exact metRow_ok ih h4.2 4 (by rw [h4.1]; omega)
theorem metTo_step {N : Nat} {L : List (List Int)} (hB : Blocks N L) {i : Int} (h0 : 0 ≤ i) (h1 : i < N) {k : Nat} (hp : PreEnd L i k) (hk : k < (metTo L i k).list.length) :
    ∃ m, ∃ h : m < L.length, (metTo L i k).list[k] = (m : Int) ∧ metTo L i (k + 1) = metRow L[m] (metTo L i k) 4 := by
  obtain ⟨a, b, _⟩ := (metTo_ok hB h0 h1 k hp).2.1 _ (List.getElem_mem hk)
  obtain ⟨m, hm⟩ := Int.eq_ofNat_of_zero_le a
  have hmL : m < L.length := by rw [hB.1]; omega
  refine ⟨m, hmL, hm, ?_⟩
  show metStep L (metTo L i k) k = _
  unfold metStep
  rw [show (metTo L i k).list.getD k 0 = (metTo L i k).list[k] by simp [hk], hm, Int.toNat_natCast, show L.getD m [] = L[m] by simp [hmL]]
theorem Blk.grown {w w' : World} {b : Nat} {cs : List Value} {T : TypeId} {row : Option Nat} (h : Blk w b cs T) (hg : w.grownBy w' row) (hne : some b ≠ row) : Blk w' b cs T := by
  obtain ⟨_, _, _, _, g5⟩ := hg
  exact (g5 b h.lt hne).trans h
theorem made_bools (n j : Nat) : ((madeCells #[Value.bool false] n).setIfInBounds j (.bool true)).toList = bools ((List.replicate n false).set j true) := by
  rw [Array.toList_setIfInBounds, toList_madeCells_one, ← bools_set]; simp [bools]
theorem made_bools0 (n : Nat) : (madeCells #[Value.bool false] n).toList = bools (List.replicate n false) := by
  rw [toList_madeCells_one]; simp [bools]
def tgTo (met : List Bool) (k : Nat) : List Int := ((List.range k).filter fun j => met.getD j false).map fun (j : Nat) => (j : Int)
theorem tgTo_succ (met : List Bool) (k : Nat) : tgTo met (k + 1) = tgTo met k ++ (if met.getD k false = true then [(k : Int)] else []) := by
  unfold tgTo; rw [List.range_succ, List.filter_append, List.map_append]
  cases h : met.getD k false <;> simp [List.filter_cons, h] <;> simp_all
theorem tgTo_len (met : List Bool) (k : Nat) : (tgTo met k).length ≤ k := by
  unfold tgTo; rw [List.length_map]
  exact Nat.le_trans (List.length_filter_le _ _) (by simp)
def tgCode (c : Int) (ts : List T4) (L : List (List Int)) (i : Int) : Int := codeB (isSetB c ts) (stepB ts.length L i 0 0)
noncomputable def tgV (c : Int) (ts : List T4) (L : List (List Int)) (i : Int) : List Int := if tgCode c ts L i = 0 then tgTo (metV L i) L.length else []
theorem tgV_len (c : Int) (ts : List T4) (L : List (List Int)) (i : Int) : (tgV c ts L i).length ≤ 1000000 := by
  unfold tgV
  split
  · rename_i h
    obtain ⟨h1, h2⟩ := codeB_zero h
    obtain ⟨hB, _⟩ := stepB_parts h2
    have := tgTo_len (metV L i) L.length
    have := (isSetB_small h1).2
    have := hB.1
    omega
  · simp
end Go.Proofs.YtkgnejhflnekaaaGreat
namespace Go.Proofs.YtkgnejhflnekaaaGreat
open Go.RowKit
theorem laidB : laidOutB Tryz.prog = true := by kernel_rfl
theorem ownKnobF : ownKnob Tryz.prog.godebug = none := by kernel_rfl
theorem cellsInt : Tryz.prog.cellsOf 2 = 1 := by kernel_rfl
end Go.Proofs.YtkgnejhflnekaaaGreat
namespace Go.Proofs.YtkgnejhflnekaaaGreat
open Go.RowKit
attribute [local go_sem] addUpon_value addUpon_skip addUpon_enter
def meetE (ts : List T4) (i k : Int) : Bool := (tA ts i).c == (tA ts k).a
def meetS (ts : List T4) (i k : Int) : Bool := (tA ts i).d == (tA ts k).b
set_option maxRecDepth 100000 in
set_option maxHeartbeats 1000000 in
theorem l09Beside_c (c : Int) (ts : List T4) (A : Option Addr) (cx : Nat) (i k : Int) (w : World) (hT : TileCells w A ts) (hl : ts.length ≤ 1000000) (hi : 0 ≤ i ∧ i < ts.length) (hk : 0 ≤ k ∧ k < ts.length) :
    Calls Tryz.prog 182 #[.agg #[.int .i64 c, .slice A ts.length cx], .int .i64 i, .int .i64 k] w fun e w' => e = .returned (.bool (meetE ts i k)) ∧ Below w.heap.size w w' := by
  obtain ⟨m, rfl⟩ := Int.eq_ofNat_of_zero_le hi.1
  obtain ⟨n, rfl⟩ := Int.eq_ofNat_of_zero_le hk.1
  have hm : m < ts.length := by omega
  have hn : n < ts.length := by omega
  obtain ⟨b, off, rfl, hlt, a0, a1, a2, a3⟩ := hT m hm
  obtain ⟨c0, c1, c2, c3⟩ := hT.pair rfl n hn
  have HV : Hid (meetE ts m n = (ts[m].c == ts[n].a)) := by unfold Hid meetE; rw [tA_nat ts m hm, tA_nat ts n hn]
  have g0 := keepC (cell_alloc_old w (.cells #[.int .i64 c, .slice (some ⟨b, off, none⟩) ts.length cx] 26) _ _ _ a0)
  have g1 := keepC (cell_alloc_old w (.cells #[.int .i64 c, .slice (some ⟨b, off, none⟩) ts.length cx] 26) _ _ _ a1)
  have g2 := keepC (cell_alloc_old w (.cells #[.int .i64 c, .slice (some ⟨b, off, none⟩) ts.length cx] 26) _ _ _ a2)
  have g3 := keepC (cell_alloc_old w (.cells #[.int .i64 c, .slice (some ⟨b, off, none⟩) ts.length cx] 26) _ _ _ a3)
  have h0 := keepC (cell_alloc_old w (.cells #[.int .i64 c, .slice (some ⟨b, off, none⟩) ts.length cx] 26) _ _ _ c0)
  have h1 := keepC (cell_alloc_old w (.cells #[.int .i64 c, .slice (some ⟨b, off, none⟩) ts.length cx] 26) _ _ _ c1)
  have h2 := keepC (cell_alloc_old w (.cells #[.int .i64 c, .slice (some ⟨b, off, none⟩) ts.length cx] 26) _ _ _ c2)
  have h3 := keepC (cell_alloc_old w (.cells #[.int .i64 c, .slice (some ⟨b, off, none⟩) ts.length cx] 26) _ _ _ c3)
  have e4 := keepC (cell_alloc_at w #[.int .i64 c, .slice (some ⟨b, off, none⟩) ts.length cx] 26 1 _ rfl)
  have hW : Below w.heap.size w (w.alloc (.cells #[.int .i64 c, .slice (some ⟨b, off, none⟩) ts.length cx] 26)) := by (repeat (first | (with_reducible exact Below.refl _ _) | (with_reducible assumption) | (with_reducible refine below_al ?_) | (with_reducible refine below_dr ?_) | (with_reducible refine below_drN ?_) | (with_reducible refine below_set ?_ (by first | exact Nat.le_refl _ | (dsimp only; omega) | omega)) | (with_reducible refine below_tr (by with_reducible assumption) ?_)))
  clear a0 a1 a2 a3 c0 c1 c2 c3 hT
  generalize ts[m] = s at *
  generalize ts[n] = t at *
  have w4 : IntKind.i64.wrap 4 = 4 := by decide
  have w5 : IntKind.i64.wrap 5 = 5 := by decide
  have r4 : (4 : Int).tmod 4 = 0 := by decide
  have r5 : (5 : Int).tmod 4 = 1 := by decide
  go_enter Tryz.func182, Tryz.ntmps182
  go_wp2_with fail
  generalize w.alloc (.cells #[.int .i64 c, .slice (some ⟨b, off, none⟩) ts.length cx] 26) = W at *
  refine wp_region_add (fun w' => Below (W).heap.size (W) w') (by kernel_rfl) (by kernel_rfl) ((Below.refl _ _).drew) ?_
  repeat (first
    | (refine add_skip rfl (fun K' hK' => ?_); go_simp; refine hK' _ ?_; clear hK' K')
    | (refine add_do (v := ?_) rfl (fun w1 hb => ?_) (fun K' hK' => ?_); rotate_left
       · go_simp
         first
         | (with_reducible exact rfl)
         | (with_reducible exact ⟨rfl, hb⟩)
         | exact rfl
         | exact ⟨rfl, hb⟩
       go_simp; refine hK' _ ?_; clear hK' K'))
  refine add_nil ?_
  intro wa hba
  go_wp2
  go_ret
  exact ⟨by first | exact ret_bool HV.out.symm | (rw [HV.out]; rfl), hW.trans (hba.mono hW.size)⟩
set_option maxRecDepth 100000 in
set_option maxHeartbeats 1000000 in
theorem l09Below_c (c : Int) (ts : List T4) (A : Option Addr) (cx : Nat) (i k : Int) (w : World) (hT : TileCells w A ts) (hl : ts.length ≤ 1000000) (hi : 0 ≤ i ∧ i < ts.length) (hk : 0 ≤ k ∧ k < ts.length) :
    Calls Tryz.prog 183 #[.agg #[.int .i64 c, .slice A ts.length cx], .int .i64 i, .int .i64 k] w fun e w' => e = .returned (.bool (meetS ts i k)) ∧ Below w.heap.size w w' := by
  obtain ⟨m, rfl⟩ := Int.eq_ofNat_of_zero_le hi.1
  obtain ⟨n, rfl⟩ := Int.eq_ofNat_of_zero_le hk.1
  have hm : m < ts.length := by omega
  have hn : n < ts.length := by omega
  obtain ⟨b, off, rfl, hlt, a0, a1, a2, a3⟩ := hT m hm
  obtain ⟨c0, c1, c2, c3⟩ := hT.pair rfl n hn
  have HV : Hid (meetS ts m n = (ts[m].d == ts[n].b)) := by unfold Hid meetS; rw [tA_nat ts m hm, tA_nat ts n hn]
  have g0 := keepC (cell_alloc_old w (.cells #[.int .i64 c, .slice (some ⟨b, off, none⟩) ts.length cx] 26) _ _ _ a0)
  have g1 := keepC (cell_alloc_old w (.cells #[.int .i64 c, .slice (some ⟨b, off, none⟩) ts.length cx] 26) _ _ _ a1)
  have g2 := keepC (cell_alloc_old w (.cells #[.int .i64 c, .slice (some ⟨b, off, none⟩) ts.length cx] 26) _ _ _ a2)
  have g3 := keepC (cell_alloc_old w (.cells #[.int .i64 c, .slice (some ⟨b, off, none⟩) ts.length cx] 26) _ _ _ a3)
  have h0 := keepC (cell_alloc_old w (.cells #[.int .i64 c, .slice (some ⟨b, off, none⟩) ts.length cx] 26) _ _ _ c0)
  have h1 := keepC (cell_alloc_old w (.cells #[.int .i64 c, .slice (some ⟨b, off, none⟩) ts.length cx] 26) _ _ _ c1)
  have h2 := keepC (cell_alloc_old w (.cells #[.int .i64 c, .slice (some ⟨b, off, none⟩) ts.length cx] 26) _ _ _ c2)
  have h3 := keepC (cell_alloc_old w (.cells #[.int .i64 c, .slice (some ⟨b, off, none⟩) ts.length cx] 26) _ _ _ c3)
  have e4 := keepC (cell_alloc_at w #[.int .i64 c, .slice (some ⟨b, off, none⟩) ts.length cx] 26 1 _ rfl)
  have hW : Below w.heap.size w (w.alloc (.cells #[.int .i64 c, .slice (some ⟨b, off, none⟩) ts.length cx] 26)) := by (repeat (first | (with_reducible exact Below.refl _ _) | (with_reducible assumption) | (with_reducible refine below_al ?_) | (with_reducible refine below_dr ?_) | (with_reducible refine below_drN ?_) | (with_reducible refine below_set ?_ (by first | exact Nat.le_refl _ | (dsimp only; omega) | omega)) | (with_reducible refine below_tr (by with_reducible assumption) ?_)))
  clear a0 a1 a2 a3 c0 c1 c2 c3 hT
  generalize ts[m] = s at *
  generalize ts[n] = t at *
  have w4 : IntKind.i64.wrap 4 = 4 := by decide
  have w5 : IntKind.i64.wrap 5 = 5 := by decide
  have r4 : (4 : Int).tmod 4 = 0 := by decide
  have r5 : (5 : Int).tmod 4 = 1 := by decide
  go_enter Tryz.func183, Tryz.ntmps183
  go_wp2_with fail
  generalize w.alloc (.cells #[.int .i64 c, .slice (some ⟨b, off, none⟩) ts.length cx] 26) = W at *
  refine wp_region_add (fun w' => Below (W).heap.size (W) w') (by kernel_rfl) (by kernel_rfl) ((Below.refl _ _).drew) ?_
  repeat (first
    | (refine add_skip rfl (fun K' hK' => ?_); go_simp; refine hK' _ ?_; clear hK' K')
    | (refine add_do (v := ?_) rfl (fun w1 hb => ?_) (fun K' hK' => ?_); rotate_left
       · go_simp
         first
         | (with_reducible exact rfl)
         | (with_reducible exact ⟨rfl, hb⟩)
         | exact rfl
         | exact ⟨rfl, hb⟩
       go_simp; refine hK' _ ?_; clear hK' K'))
  refine add_nil ?_
  intro wa hba
  go_wp2
  go_ret
  exact ⟨by first | exact ret_bool HV.out.symm | (rw [HV.out]; rfl), hW.trans (hba.mono hW.size)⟩
end Go.Proofs.YtkgnejhflnekaaaGreat
namespace Go.Proofs.YtkgnejhflnekaaaGreat
open Go.RowKit
theorem carAt_range {p q a b i : Int} (hp : 1 ≤ p) (hq : 1 ≤ q) (hb : 1 ≤ b) (ha : 0 ≤ a) (hi : 0 ≤ i) : 1 - p ≤ carAt p q a b i ∧ carAt p q a b i ≤ q - 1 := by
  unfold carAt
  have hm : 0 ≤ i * a := Int.mul_nonneg hi ha
  generalize i * a = m at *
  have hbq : 0 < b * q := Int.mul_pos (by omega) (by omega)
  have h1 : m / b * b ≤ m := Int.ediv_mul_le m (by omega)
  have h2 : m < (m / b + 1) * b := Int.lt_ediv_add_one_mul_self m (by omega)
  have h3 : m * p / (b * q) * (b * q) ≤ m * p := Int.ediv_mul_le _ (by omega)
  have h4 : m * p < (m * p / (b * q) + 1) * (b * q) := Int.lt_ediv_add_one_mul_self _ hbq
  generalize m / b = x at *
  generalize m * p / (b * q) = y at *
  have e1 : x * b * p ≤ m * p := Int.mul_le_mul_of_nonneg_right h1 (by omega)
  have e2 : m * p < (x + 1) * b * p := Int.mul_lt_mul_of_pos_right h2 (by omega)
  have k1 : p * x < q * y + q := by
    refine Int.lt_of_mul_lt_mul_right (a := b) ?_ (by omega)
    have a1 : p * x * b = x * b * p := by simp only [Int.mul_comm, Int.mul_left_comm, Int.mul_assoc]
    have a2 : (q * y + q) * b = (y + 1) * (b * q) := by
      rw [show q * y + q = q * (y + 1) by rw [Int.mul_add, Int.mul_one]]
      simp only [Int.mul_comm, Int.mul_left_comm, Int.mul_assoc]
    omega
  have k2 : q * y < p * x + p := by
    refine Int.lt_of_mul_lt_mul_right (a := b) ?_ (by omega)
    have a1 : q * y * b = y * (b * q) := by simp only [Int.mul_comm, Int.mul_left_comm, Int.mul_assoc]
    have a2 : (p * x + p) * b = (x + 1) * b * p := by
      rw [show p * x + p = p * (x + 1) by rw [Int.mul_add, Int.mul_one]]
      simp only [Int.mul_comm, Int.mul_left_comm, Int.mul_assoc]
    omega
  omega
theorem carAt_zero (p q a b : Int) : carAt p q a b 0 = 0 := by simp [carAt]
theorem digAt_range {a b i : Int} (hb : 1 ≤ b) : a / b ≤ digAt a b i ∧ digAt a b i ≤ a / b + 1 := by
  unfold digAt
  have e : i * a = (i - 1) * a + a := by rw [Int.sub_mul, Int.one_mul]; omega
  rw [e]
  generalize (i - 1) * a = m at *
  have h1 : m / b * b ≤ m := Int.ediv_mul_le m (by omega)
  have h2 : m < (m / b + 1) * b := Int.lt_ediv_add_one_mul_self m (by omega)
  have h3 : a / b * b ≤ a := Int.ediv_mul_le a (by omega)
  have h4 : a < (a / b + 1) * b := Int.lt_ediv_add_one_mul_self a (by omega)
  have h5 : (m + a) / b * b ≤ m + a := Int.ediv_mul_le _ (by omega)
  have h6 : m + a < ((m + a) / b + 1) * b := Int.lt_ediv_add_one_mul_self _ (by omega)
  generalize m / b = x at *
  generalize a / b = y at *
  generalize (m + a) / b = z at *
  have k1 : x + y < z + 1 := by
    refine Int.lt_of_mul_lt_mul_right (a := b) ?_ (by omega)
    have : (x + y) * b = x * b + y * b := Int.add_mul _ _ _
    omega
  have k2 : z < x + y + 2 := by
    refine Int.lt_of_mul_lt_mul_right (a := b) ?_ (by omega)
    have a1 : (x + y + 2) * b = (x + 1) * b + (y + 1) * b := by rw [← Int.add_mul]; congr 1; omega
    omega
  omega

end Go.Proofs.YtkgnejhflnekaaaGreat
