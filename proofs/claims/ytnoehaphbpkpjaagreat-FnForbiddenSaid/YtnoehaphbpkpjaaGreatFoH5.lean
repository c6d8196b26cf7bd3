/- Contracts and lemmas for the statements of this seat, written for this claim; each theorem states its own conditions. -/
import Derived.Deep.Cut
import Derived.Test.YtnoehaphbpkpjaaGreatFoH3
import Derived.Test.YtnoehaphbpkpjaaGreatFoW6
set_option linter.unusedVariables false
set_option linter.unusedSimpArgs false
namespace Go.Proofs.YtnoehaphbpkpjaaGreat
open Go.RowKit
theorem SeqIn.stored {w : World} {base bo bk bn : Nat} {out out' : List Int} {ok ok' : Bool} {n : Int} {v v' : Value} {W w' : World} (h : SeqIn w base bo bk bn out ok n v) (hbW : Below w.heap.size w W) (hO : OwnI w' base v' out') (hg : W.grownBy w' v.ownBlock) (hat : v'.ownBlock = v.ownBlock ∨ v'.ownBlock = some W.heap.size) :
    SeqIn ((w'.setCell ⟨bo, 0, none⟩ v').setCell ⟨bk, 0, none⟩ (.bool ok')) base bo bk bn out' ok' n v' ∧ Fr (SeqP bo bk v) w ((w'.setCell ⟨bo, 0, none⟩ v').setCell ⟨bk, 0, none⟩ (.bool ok')) ∧ Fr (SeqP bo bk v) w (w'.setCell ⟨bo, 0, none⟩ v') ∧ Fr (SeqP bo bk v) w w' := by
  have hne1 : v.ownBlock ≠ some bo := own_ne h.own h.out (by decide)
  have hne2 : v.ownBlock ≠ some bk := own_ne h.own h.ok (by decide)
  have hnn : v.ownBlock ≠ some bn := fun e => by have := (World.ownsRow.lt h.own bn e).1; have := h.bn0; omega
  have hF : Fr (SeqP bo bk v) w w' := (Fr.below hbW).trans (Fr.grown hg fun k hk => .inr (.inr hk))
  have hB1 : Blk w' bo [v] 39 := (h.out.under hbW).kept1 hg hne1
  have hB2 : Blk w' bk [.bool ok] 4 := (h.ok.under hbW).kept1 hg hne2
  have hbl : bo < W.heap.size := Nat.lt_of_lt_of_le h.out.lt hbW.size
  have hkl : bk < W.heap.size := Nat.lt_of_lt_of_le h.ok.lt hbW.size
  have hv1 : v'.ownBlock ≠ some bo := by rcases hat with e | e <;> rw [e]; exact hne1; intro e2; injection e2 with e2; omega
  have hv2 : v'.ownBlock ≠ some bk := by rcases hat with e | e <;> rw [e]; exact hne2; intro e2; injection e2 with e2; omega
  have hS1 : w'.grownBy (w'.setCell ⟨bo, 0, none⟩ v') (some bo) := grownBy_store w' bo 0 v'
  have hS2 : (w'.setCell ⟨bo, 0, none⟩ v').grownBy ((w'.setCell ⟨bo, 0, none⟩ v').setCell ⟨bk, 0, none⟩ (.bool ok')) (some bk) := grownBy_store _ bk 0 _
  have e1 : some bo ≠ some bk := fun e => by injection e with e; exact h.ne e
  refine ⟨⟨?_, ?_, ?_, ?_, h.bo0, h.bk0, h.bn0, h.ne⟩, (hF.set (.inl rfl)).set (.inr (.inl rfl)), hF.set (.inl rfl), hF⟩
  · exact (hB1.set 0 v').kept1 hS2 (fun e => e1 e.symm)
  · exact (hB2.kept1 hS1 e1).set 0 _
  · have hn1 : bn < w.heap.size := by have := h.bn0; have := h.bo0; have := h.out.lt; omega
    have hb : ¬ SeqP bo bk v bn := fun e => by
      have := h.bn0; have := h.bo0; have := h.bk0
      rcases e with e | e | e
      · omega
      · omega
      · exact hnn e
    exact (Fr.cell (p := ⟨bn, 0, none⟩) ((hF.set (.inl rfl)).set (.inr (.inl rfl))) hn1 hb).trans h.num
  · exact (own_same (own_same hO fun k hk => hS1.block k (World.ownsRow.lt hO k hk).2 (fun e => by rw [e] at hk; exact hv1 hk)) fun k hk => hS2.block k (by have := (World.ownsRow.lt hO k hk).2; simpa using this) (fun e => by rw [e] at hk; exact hv2 hk))
set_option maxRecDepth 100000 in
set_option maxHeartbeats 4000000 in
theorem visitT_c (base bo bk bn n : Nat) (out : List Int) (v : Value) (sum : Int) (w : World) (hI : SeqIn w base bo bk bn out true (n : Int) v) (hcap : InCap sum) (hlen : out.length < n) (hn : n ≤ 1000) :
    Calls Tryz.prog 54 #[.int .i64 sum, .pointer (some ⟨bo, 0, none⟩), .pointer (some ⟨bk, 0, none⟩), .pointer (some ⟨bn, 0, none⟩)] w
      (SeqRet w base bo bk bn (out ++ [sum]) (decide (sum ≤ 1000000000000000)) n v (decide (sum ≤ 1000000000000000) && decide (out.length + 1 < n))) := by
  obtain ⟨Av, kv, rfl, _⟩ := hI.own.shape
  have HI := Lib.hid hI
  have q0 := hI.out.cell 0 (by simp)
  have q4 := hI.ok.cell 0 (by simp)
  simp only [List.getElem_cons_zero] at q0 q4
  have O0 := Lib.hid (keepC q0)
  have O4 := Lib.hid (keepC q4)
  clear hI q0 q4
  go_enter Tryz.func54, Tryz.ntmps54
  go_wp2_with fail
  refine wp_region_plan (.det 1 (.three 0 (.two 2 (.two 3 (.one 4 (.det 5 (.det 6 (.det 7 (.det 8 (.one 9 (.one 10 (.done)))))))) 4 (.one 3 (.det 5 (.det 6 (.det 7 (.det 8 (.one 9 (.one 10 (.done))))))))) 4 (.one 2 (.one 3 (.det 5 (.det 6 (.det 7 (.det 8 (.one 9 (.one 10 (.done)))))))))) 2 (.two 0 (.two 3 (.one 4 (.det 5 (.det 6 (.det 7 (.det 8 (.one 9 (.one 10 (.done)))))))) 4 (.one 3 (.det 5 (.det 6 (.det 7 (.det 8 (.one 9 (.one 10 (.done))))))))) 4 (.one 0 (.one 3 (.det 5 (.det 6 (.det 7 (.det 8 (.one 9 (.one 10 (.done)))))))))) 4 (.two 0 (.one 2 (.one 3 (.det 5 (.det 6 (.det 7 (.det 8 (.one 9 (.one 10 (.done))))))))) 2 (.one 0 (.one 3 (.det 5 (.det 6 (.det 7 (.det 8 (.one 9 (.one 10 (.done)))))))))))) (fun w' => Fr (SeqP bo bk (.slice Av out.length kv)) w w') (fun a a' w' => ∃ x0 x1 x2 x3 x4 x5 x6 x7 x8, a' = (((((((((a.put (some 6) x0).put (some 7) x1).put (some 8) x2).put (some 9) x3).put (some 10) x4).put (some 11) x5).put (some 12) x6).put (some 13) x7).put (some 14) x8) ∧ ∃ A' k', Hid (SeqIn w' base bo bk bn (out ++ [sum]) (decide (sum ≤ 1000000000000000)) n (.slice A' (out.length + 1) k'))) (by kernel_rfl) (by kernel_rfl) (fun _ _ d _ _ h => by cases d <;> exact h) (Fr.below (Below.refl _ w).drew) ?_ ?_
  rotate_left
  · rintro a' wa hba ⟨x0, x1, x2, x3, x4, x5, x6, x7, x8, rfl, hP⟩
    obtain ⟨A', k', HP⟩ := hP
    have HF := Lib.hid hba
    have c0 := HP.out.out.cell 0 (by simp)
    have c1 := HP.out.ok.cell 0 (by simp)
    have c2 := HP.out.num
    simp only [List.getElem_cons_zero] at c0 c1
    clear hba O0 O4
    generalize decide (sum ≤ 1000000000000000) = q at *
    cases q
    · go_simp
      go_wp2
      go_ret
      exact ⟨rfl, HF.out, _, HP.out⟩
    · by_cases h9 : out.length + 1 < n
      · have h8 : ((out.length : Int) + 1 < (n : Int)) := by omega
        go_simp
        go_wp2
        go_ret
        exact ⟨by simp [h9], HF.out, _, HP.out⟩
      · have h8 : ¬ ((out.length : Int) + 1 < (n : Int)) := by omega
        go_simp
        go_wp2
        go_ret
        exact ⟨by simp [h9], HF.out, _, HP.out⟩
  obtain ⟨wd, hwd⟩ : ∃ wd : World, wd = { w with drawn := w.drawn + 1 } := ⟨_, rfl⟩
  rw [← hwd]
  have Hbd : Hid (Below w.heap.size w wd) := by rw [hwd]; exact (Below.refl _ w).drew
  clear hwd
  have o0 := O0.out _ Hbd.out
  have o4 := O4.out _ Hbd.out
  have a0 := O0.out _ (below_al (o := .cells #[.int .i64 sum] 2) Hbd.out)
  have a4 := O4.out _ (below_al (o := .cells #[.int .i64 sum] 2) Hbd.out)
  repeat (first
    | (refine plan_skip rfl rfl (fun K' hK' => ?_); go_simp; refine hK' _ ?_; clear hK' K')
    | (refine plan_do (v := ?_) rfl rfl (fun w1 hb => ?_) (fun K' hK' => ?_); rotate_left
       · go_simp
         rfl
       go_simp; refine hK' _ ?_; clear hK' K'))
  refine plan_three ?_ ?_ ?_
  · refine step_op rfl rfl (fun K' hK' => ?_)
    go_simp
    refine hK' _ _ (Fr.below Hbd.out) ?_; clear hK' K'
    refine plan_two ?_ ?_
    · refine step_op rfl rfl (fun K' hK' => ?_)
      go_simp
      refine hK' _ _ (Fr.below (below_al Hbd.out)) ?_; clear hK' K'
      refine plan_two ?_ ?_
      · refine step_op rfl rfl (fun K' hK' => ?_)
        refine app_int2 (.tmp 6) (.tmp 8) rfl base (.slice Av out.length kv) out sum rfl (HI.out.own.below (below_al Hbd.out)) wd.heap.size 0 rfl (cell_alloc_at _ _ _ _ _ rfl) (by omega) (by have := HI.out.bo0; have := HI.out.out.lt; have := Hbd.out.size; simp; omega) (fun v' w' h1 h2 h3 => ?_)
        have HS := Lib.hid (HI.out.stored (ok' := decide (sum ≤ 1000000000000000)) (below_al Hbd.out) h1 h2 h3)
        have HF : Hid (Fr (SeqP bo bk (.slice Av out.length kv)) w w') := HS.out.2.2.2
        obtain ⟨A', k', rfl, _⟩ := h1.shape
        rw [show (out ++ [sum]).length = out.length + 1 by simp] at HS
        have e0 : w'.cell? ⟨bo, 0, none⟩ = some (.slice Av out.length kv) := by
          have := ((HI.out.out.under (below_al Hbd.out)).kept1 h2 (own_ne HI.out.own HI.out.out (by decide))).cell 0 (by simp)
          simpa using this
        have f0 : w'.frozen? ⟨bo, 0, none⟩ = false := ((HI.out.out.under (below_al Hbd.out)).kept1 h2 (own_ne HI.out.own HI.out.out (by decide))).frozen 0
        have e4 : w'.cell? ⟨bk, 0, none⟩ = some (.bool true) := by
          have := ((HI.out.ok.under (below_al Hbd.out)).kept1 h2 (own_ne HI.out.own HI.out.ok (by decide))).cell 0 (by simp)
          simpa using this
        have f4 : w'.frozen? ⟨bk, 0, none⟩ = false := ((HI.out.ok.under (below_al Hbd.out)).kept1 h2 (own_ne HI.out.own HI.out.ok (by decide))).frozen 0
        clear h1 h2 h3
        refine hK' _ _ (HF.out) ?_; clear hK' K'
        refine plan_one (step_op rfl rfl (fun K' hK' => ?_))
        go_simp
        refine hK' _ _ (HF.out) ?_; clear hK' K'
        repeat (first
          | (refine plan_skip rfl rfl (fun K' hK' => ?_); go_simp; refine hK' _ ?_; clear hK' K')
          | (refine plan_do (v := ?_) rfl rfl (fun w1 hb => ?_) (fun K' hK' => ?_); rotate_left
             · go_simp
               rfl
             go_simp; refine hK' _ ?_; clear hK' K'))
        refine plan_one (step_op rfl rfl (fun K' hK' => ?_))
        go_simp
        refine hK' _ _ (HS.out.2.2.1) ?_; clear hK' K'
        have e5 : (w'.setCell ⟨bo, 0, none⟩ (.slice A' (out.length + 1) k')).cell? ⟨bk, 0, none⟩ = some (.bool true) := (World.cell?_of_block (a := ⟨bk, 0, none⟩) (Below.heap_setCell w' ⟨bo, 0, none⟩ _ bk (fun e => HI.out.ne e.symm))).trans e4
        have f5 : (w'.setCell ⟨bo, 0, none⟩ (.slice A' (out.length + 1) k')).frozen? ⟨bk, 0, none⟩ = false := by rw [World.frozen?_setCell]; exact f4
        refine plan_one (step_op rfl rfl (fun K' hK' => ?_))
        go_simp
        refine hK' _ _ (HS.out.2.1) ?_; clear hK' K'
        refine plan_done ⟨?_, ?_, ?_, ?_, ?_, ?_, ?_, ?_, ?_, ?_, ?_⟩
        rotate_left 9
        · go_simp; (first | rfl | (and_intros <;> rfl))
        · exact ⟨_, _, Lib.hid HS.out.1⟩
      · refine step_op rfl rfl (fun K' hK' => ?_)
        go_simp
        refine hK' _ _ (Fr.below (below_al Hbd.out)) ?_; clear hK' K'
        refine plan_one (step_op rfl rfl (fun K' hK' => ?_))
        refine app_int2 (.tmp 6) (.tmp 8) rfl base (.slice Av out.length kv) out sum rfl (HI.out.own.below (below_al Hbd.out)) wd.heap.size 0 rfl (cell_alloc_at _ _ _ _ _ rfl) (by omega) (by have := HI.out.bo0; have := HI.out.out.lt; have := Hbd.out.size; simp; omega) (fun v' w' h1 h2 h3 => ?_)
        have HS := Lib.hid (HI.out.stored (ok' := decide (sum ≤ 1000000000000000)) (below_al Hbd.out) h1 h2 h3)
        have HF : Hid (Fr (SeqP bo bk (.slice Av out.length kv)) w w') := HS.out.2.2.2
        obtain ⟨A', k', rfl, _⟩ := h1.shape
        rw [show (out ++ [sum]).length = out.length + 1 by simp] at HS
        have e0 : w'.cell? ⟨bo, 0, none⟩ = some (.slice Av out.length kv) := by
          have := ((HI.out.out.under (below_al Hbd.out)).kept1 h2 (own_ne HI.out.own HI.out.out (by decide))).cell 0 (by simp)
          simpa using this
        have f0 : w'.frozen? ⟨bo, 0, none⟩ = false := ((HI.out.out.under (below_al Hbd.out)).kept1 h2 (own_ne HI.out.own HI.out.out (by decide))).frozen 0
        have e4 : w'.cell? ⟨bk, 0, none⟩ = some (.bool true) := by
          have := ((HI.out.ok.under (below_al Hbd.out)).kept1 h2 (own_ne HI.out.own HI.out.ok (by decide))).cell 0 (by simp)
          simpa using this
        have f4 : w'.frozen? ⟨bk, 0, none⟩ = false := ((HI.out.ok.under (below_al Hbd.out)).kept1 h2 (own_ne HI.out.own HI.out.ok (by decide))).frozen 0
        clear h1 h2 h3
        refine hK' _ _ (HF.out) ?_; clear hK' K'
        repeat (first
          | (refine plan_skip rfl rfl (fun K' hK' => ?_); go_simp; refine hK' _ ?_; clear hK' K')
          | (refine plan_do (v := ?_) rfl rfl (fun w1 hb => ?_) (fun K' hK' => ?_); rotate_left
             · go_simp
               rfl
             go_simp; refine hK' _ ?_; clear hK' K'))
        refine plan_one (step_op rfl rfl (fun K' hK' => ?_))
        go_simp
        refine hK' _ _ (HS.out.2.2.1) ?_; clear hK' K'
        have e5 : (w'.setCell ⟨bo, 0, none⟩ (.slice A' (out.length + 1) k')).cell? ⟨bk, 0, none⟩ = some (.bool true) := (World.cell?_of_block (a := ⟨bk, 0, none⟩) (Below.heap_setCell w' ⟨bo, 0, none⟩ _ bk (fun e => HI.out.ne e.symm))).trans e4
        have f5 : (w'.setCell ⟨bo, 0, none⟩ (.slice A' (out.length + 1) k')).frozen? ⟨bk, 0, none⟩ = false := by rw [World.frozen?_setCell]; exact f4
        refine plan_one (step_op rfl rfl (fun K' hK' => ?_))
        go_simp
        refine hK' _ _ (HS.out.2.1) ?_; clear hK' K'
        refine plan_done ⟨?_, ?_, ?_, ?_, ?_, ?_, ?_, ?_, ?_, ?_, ?_⟩
        rotate_left 9
        · go_simp; (first | rfl | (and_intros <;> rfl))
        · exact ⟨_, _, Lib.hid HS.out.1⟩
    · refine step_op rfl rfl (fun K' hK' => ?_)
      go_simp
      refine hK' _ _ (Fr.below Hbd.out) ?_; clear hK' K'
      refine plan_one (step_op rfl rfl (fun K' hK' => ?_))
      go_simp
      refine hK' _ _ (Fr.below (below_al Hbd.out)) ?_; clear hK' K'
      refine plan_one (step_op rfl rfl (fun K' hK' => ?_))
      refine app_int2 (.tmp 6) (.tmp 8) rfl base (.slice Av out.length kv) out sum rfl (HI.out.own.below (below_al Hbd.out)) wd.heap.size 0 rfl (cell_alloc_at _ _ _ _ _ rfl) (by omega) (by have := HI.out.bo0; have := HI.out.out.lt; have := Hbd.out.size; simp; omega) (fun v' w' h1 h2 h3 => ?_)
      have HS := Lib.hid (HI.out.stored (ok' := decide (sum ≤ 1000000000000000)) (below_al Hbd.out) h1 h2 h3)
      have HF : Hid (Fr (SeqP bo bk (.slice Av out.length kv)) w w') := HS.out.2.2.2
      obtain ⟨A', k', rfl, _⟩ := h1.shape
      rw [show (out ++ [sum]).length = out.length + 1 by simp] at HS
      have e0 : w'.cell? ⟨bo, 0, none⟩ = some (.slice Av out.length kv) := by
        have := ((HI.out.out.under (below_al Hbd.out)).kept1 h2 (own_ne HI.out.own HI.out.out (by decide))).cell 0 (by simp)
        simpa using this
      have f0 : w'.frozen? ⟨bo, 0, none⟩ = false := ((HI.out.out.under (below_al Hbd.out)).kept1 h2 (own_ne HI.out.own HI.out.out (by decide))).frozen 0
      have e4 : w'.cell? ⟨bk, 0, none⟩ = some (.bool true) := by
        have := ((HI.out.ok.under (below_al Hbd.out)).kept1 h2 (own_ne HI.out.own HI.out.ok (by decide))).cell 0 (by simp)
        simpa using this
      have f4 : w'.frozen? ⟨bk, 0, none⟩ = false := ((HI.out.ok.under (below_al Hbd.out)).kept1 h2 (own_ne HI.out.own HI.out.ok (by decide))).frozen 0
      clear h1 h2 h3
      refine hK' _ _ (HF.out) ?_; clear hK' K'
      repeat (first
        | (refine plan_skip rfl rfl (fun K' hK' => ?_); go_simp; refine hK' _ ?_; clear hK' K')
        | (refine plan_do (v := ?_) rfl rfl (fun w1 hb => ?_) (fun K' hK' => ?_); rotate_left
           · go_simp
             rfl
           go_simp; refine hK' _ ?_; clear hK' K'))
      refine plan_one (step_op rfl rfl (fun K' hK' => ?_))
      go_simp
      refine hK' _ _ (HS.out.2.2.1) ?_; clear hK' K'
      have e5 : (w'.setCell ⟨bo, 0, none⟩ (.slice A' (out.length + 1) k')).cell? ⟨bk, 0, none⟩ = some (.bool true) := (World.cell?_of_block (a := ⟨bk, 0, none⟩) (Below.heap_setCell w' ⟨bo, 0, none⟩ _ bk (fun e => HI.out.ne e.symm))).trans e4
      have f5 : (w'.setCell ⟨bo, 0, none⟩ (.slice A' (out.length + 1) k')).frozen? ⟨bk, 0, none⟩ = false := by rw [World.frozen?_setCell]; exact f4
      refine plan_one (step_op rfl rfl (fun K' hK' => ?_))
      go_simp
      refine hK' _ _ (HS.out.2.1) ?_; clear hK' K'
      refine plan_done ⟨?_, ?_, ?_, ?_, ?_, ?_, ?_, ?_, ?_, ?_, ?_⟩
      rotate_left 9
      · go_simp; (first | rfl | (and_intros <;> rfl))
      · exact ⟨_, _, Lib.hid HS.out.1⟩
  · refine step_op rfl rfl (fun K' hK' => ?_)
    go_simp
    refine hK' _ _ (Fr.below (below_al Hbd.out)) ?_; clear hK' K'
    refine plan_two ?_ ?_
    · refine step_op rfl rfl (fun K' hK' => ?_)
      go_simp
      refine hK' _ _ (Fr.below (below_al Hbd.out)) ?_; clear hK' K'
      refine plan_two ?_ ?_
      · refine step_op rfl rfl (fun K' hK' => ?_)
        refine app_int2 (.tmp 6) (.tmp 8) rfl base (.slice Av out.length kv) out sum rfl (HI.out.own.below (below_al Hbd.out)) wd.heap.size 0 rfl (cell_alloc_at _ _ _ _ _ rfl) (by omega) (by have := HI.out.bo0; have := HI.out.out.lt; have := Hbd.out.size; simp; omega) (fun v' w' h1 h2 h3 => ?_)
        have HS := Lib.hid (HI.out.stored (ok' := decide (sum ≤ 1000000000000000)) (below_al Hbd.out) h1 h2 h3)
        have HF : Hid (Fr (SeqP bo bk (.slice Av out.length kv)) w w') := HS.out.2.2.2
        obtain ⟨A', k', rfl, _⟩ := h1.shape
        rw [show (out ++ [sum]).length = out.length + 1 by simp] at HS
        have e0 : w'.cell? ⟨bo, 0, none⟩ = some (.slice Av out.length kv) := by
          have := ((HI.out.out.under (below_al Hbd.out)).kept1 h2 (own_ne HI.out.own HI.out.out (by decide))).cell 0 (by simp)
          simpa using this
        have f0 : w'.frozen? ⟨bo, 0, none⟩ = false := ((HI.out.out.under (below_al Hbd.out)).kept1 h2 (own_ne HI.out.own HI.out.out (by decide))).frozen 0
        have e4 : w'.cell? ⟨bk, 0, none⟩ = some (.bool true) := by
          have := ((HI.out.ok.under (below_al Hbd.out)).kept1 h2 (own_ne HI.out.own HI.out.ok (by decide))).cell 0 (by simp)
          simpa using this
        have f4 : w'.frozen? ⟨bk, 0, none⟩ = false := ((HI.out.ok.under (below_al Hbd.out)).kept1 h2 (own_ne HI.out.own HI.out.ok (by decide))).frozen 0
        clear h1 h2 h3
        refine hK' _ _ (HF.out) ?_; clear hK' K'
        refine plan_one (step_op rfl rfl (fun K' hK' => ?_))
        go_simp
        refine hK' _ _ (HF.out) ?_; clear hK' K'
        repeat (first
          | (refine plan_skip rfl rfl (fun K' hK' => ?_); go_simp; refine hK' _ ?_; clear hK' K')
          | (refine plan_do (v := ?_) rfl rfl (fun w1 hb => ?_) (fun K' hK' => ?_); rotate_left
             · go_simp
               rfl
             go_simp; refine hK' _ ?_; clear hK' K'))
        refine plan_one (step_op rfl rfl (fun K' hK' => ?_))
        go_simp
        refine hK' _ _ (HS.out.2.2.1) ?_; clear hK' K'
        have e5 : (w'.setCell ⟨bo, 0, none⟩ (.slice A' (out.length + 1) k')).cell? ⟨bk, 0, none⟩ = some (.bool true) := (World.cell?_of_block (a := ⟨bk, 0, none⟩) (Below.heap_setCell w' ⟨bo, 0, none⟩ _ bk (fun e => HI.out.ne e.symm))).trans e4
        have f5 : (w'.setCell ⟨bo, 0, none⟩ (.slice A' (out.length + 1) k')).frozen? ⟨bk, 0, none⟩ = false := by rw [World.frozen?_setCell]; exact f4
        refine plan_one (step_op rfl rfl (fun K' hK' => ?_))
        go_simp
        refine hK' _ _ (HS.out.2.1) ?_; clear hK' K'
        refine plan_done ⟨?_, ?_, ?_, ?_, ?_, ?_, ?_, ?_, ?_, ?_, ?_⟩
        rotate_left 9
        · go_simp; (first | rfl | (and_intros <;> rfl))
        · exact ⟨_, _, Lib.hid HS.out.1⟩
      · refine step_op rfl rfl (fun K' hK' => ?_)
        go_simp
        refine hK' _ _ (Fr.below (below_al Hbd.out)) ?_; clear hK' K'
        refine plan_one (step_op rfl rfl (fun K' hK' => ?_))
        refine app_int2 (.tmp 6) (.tmp 8) rfl base (.slice Av out.length kv) out sum rfl (HI.out.own.below (below_al Hbd.out)) wd.heap.size 0 rfl (cell_alloc_at _ _ _ _ _ rfl) (by omega) (by have := HI.out.bo0; have := HI.out.out.lt; have := Hbd.out.size; simp; omega) (fun v' w' h1 h2 h3 => ?_)
        have HS := Lib.hid (HI.out.stored (ok' := decide (sum ≤ 1000000000000000)) (below_al Hbd.out) h1 h2 h3)
        have HF : Hid (Fr (SeqP bo bk (.slice Av out.length kv)) w w') := HS.out.2.2.2
        obtain ⟨A', k', rfl, _⟩ := h1.shape
        rw [show (out ++ [sum]).length = out.length + 1 by simp] at HS
        have e0 : w'.cell? ⟨bo, 0, none⟩ = some (.slice Av out.length kv) := by
          have := ((HI.out.out.under (below_al Hbd.out)).kept1 h2 (own_ne HI.out.own HI.out.out (by decide))).cell 0 (by simp)
          simpa using this
        have f0 : w'.frozen? ⟨bo, 0, none⟩ = false := ((HI.out.out.under (below_al Hbd.out)).kept1 h2 (own_ne HI.out.own HI.out.out (by decide))).frozen 0
        have e4 : w'.cell? ⟨bk, 0, none⟩ = some (.bool true) := by
          have := ((HI.out.ok.under (below_al Hbd.out)).kept1 h2 (own_ne HI.out.own HI.out.ok (by decide))).cell 0 (by simp)
          simpa using this
        have f4 : w'.frozen? ⟨bk, 0, none⟩ = false := ((HI.out.ok.under (below_al Hbd.out)).kept1 h2 (own_ne HI.out.own HI.out.ok (by decide))).frozen 0
        clear h1 h2 h3
        refine hK' _ _ (HF.out) ?_; clear hK' K'
        repeat (first
          | (refine plan_skip rfl rfl (fun K' hK' => ?_); go_simp; refine hK' _ ?_; clear hK' K')
          | (refine plan_do (v := ?_) rfl rfl (fun w1 hb => ?_) (fun K' hK' => ?_); rotate_left
             · go_simp
               rfl
             go_simp; refine hK' _ ?_; clear hK' K'))
        refine plan_one (step_op rfl rfl (fun K' hK' => ?_))
        go_simp
        refine hK' _ _ (HS.out.2.2.1) ?_; clear hK' K'
        have e5 : (w'.setCell ⟨bo, 0, none⟩ (.slice A' (out.length + 1) k')).cell? ⟨bk, 0, none⟩ = some (.bool true) := (World.cell?_of_block (a := ⟨bk, 0, none⟩) (Below.heap_setCell w' ⟨bo, 0, none⟩ _ bk (fun e => HI.out.ne e.symm))).trans e4
        have f5 : (w'.setCell ⟨bo, 0, none⟩ (.slice A' (out.length + 1) k')).frozen? ⟨bk, 0, none⟩ = false := by rw [World.frozen?_setCell]; exact f4
        refine plan_one (step_op rfl rfl (fun K' hK' => ?_))
        go_simp
        refine hK' _ _ (HS.out.2.1) ?_; clear hK' K'
        refine plan_done ⟨?_, ?_, ?_, ?_, ?_, ?_, ?_, ?_, ?_, ?_, ?_⟩
        rotate_left 9
        · go_simp; (first | rfl | (and_intros <;> rfl))
        · exact ⟨_, _, Lib.hid HS.out.1⟩
    · refine step_op rfl rfl (fun K' hK' => ?_)
      go_simp
      refine hK' _ _ (Fr.below (below_al Hbd.out)) ?_; clear hK' K'
      refine plan_one (step_op rfl rfl (fun K' hK' => ?_))
      go_simp
      refine hK' _ _ (Fr.below (below_al Hbd.out)) ?_; clear hK' K'
      refine plan_one (step_op rfl rfl (fun K' hK' => ?_))
      refine app_int2 (.tmp 6) (.tmp 8) rfl base (.slice Av out.length kv) out sum rfl (HI.out.own.below (below_al Hbd.out)) wd.heap.size 0 rfl (cell_alloc_at _ _ _ _ _ rfl) (by omega) (by have := HI.out.bo0; have := HI.out.out.lt; have := Hbd.out.size; simp; omega) (fun v' w' h1 h2 h3 => ?_)
      have HS := Lib.hid (HI.out.stored (ok' := decide (sum ≤ 1000000000000000)) (below_al Hbd.out) h1 h2 h3)
      have HF : Hid (Fr (SeqP bo bk (.slice Av out.length kv)) w w') := HS.out.2.2.2
      obtain ⟨A', k', rfl, _⟩ := h1.shape
      rw [show (out ++ [sum]).length = out.length + 1 by simp] at HS
      have e0 : w'.cell? ⟨bo, 0, none⟩ = some (.slice Av out.length kv) := by
        have := ((HI.out.out.under (below_al Hbd.out)).kept1 h2 (own_ne HI.out.own HI.out.out (by decide))).cell 0 (by simp)
        simpa using this
      have f0 : w'.frozen? ⟨bo, 0, none⟩ = false := ((HI.out.out.under (below_al Hbd.out)).kept1 h2 (own_ne HI.out.own HI.out.out (by decide))).frozen 0
      have e4 : w'.cell? ⟨bk, 0, none⟩ = some (.bool true) := by
        have := ((HI.out.ok.under (below_al Hbd.out)).kept1 h2 (own_ne HI.out.own HI.out.ok (by decide))).cell 0 (by simp)
        simpa using this
      have f4 : w'.frozen? ⟨bk, 0, none⟩ = false := ((HI.out.ok.under (below_al Hbd.out)).kept1 h2 (own_ne HI.out.own HI.out.ok (by decide))).frozen 0
      clear h1 h2 h3
      refine hK' _ _ (HF.out) ?_; clear hK' K'
      repeat (first
        | (refine plan_skip rfl rfl (fun K' hK' => ?_); go_simp; refine hK' _ ?_; clear hK' K')
        | (refine plan_do (v := ?_) rfl rfl (fun w1 hb => ?_) (fun K' hK' => ?_); rotate_left
           · go_simp
             rfl
           go_simp; refine hK' _ ?_; clear hK' K'))
      refine plan_one (step_op rfl rfl (fun K' hK' => ?_))
      go_simp
      refine hK' _ _ (HS.out.2.2.1) ?_; clear hK' K'
      have e5 : (w'.setCell ⟨bo, 0, none⟩ (.slice A' (out.length + 1) k')).cell? ⟨bk, 0, none⟩ = some (.bool true) := (World.cell?_of_block (a := ⟨bk, 0, none⟩) (Below.heap_setCell w' ⟨bo, 0, none⟩ _ bk (fun e => HI.out.ne e.symm))).trans e4
      have f5 : (w'.setCell ⟨bo, 0, none⟩ (.slice A' (out.length + 1) k')).frozen? ⟨bk, 0, none⟩ = false := by rw [World.frozen?_setCell]; exact f4
      refine plan_one (step_op rfl rfl (fun K' hK' => ?_))
      go_simp
      refine hK' _ _ (HS.out.2.1) ?_; clear hK' K'
      refine plan_done ⟨?_, ?_, ?_, ?_, ?_, ?_, ?_, ?_, ?_, ?_, ?_⟩
      rotate_left 9
      · go_simp; (first | rfl | (and_intros <;> rfl))
      · exact ⟨_, _, Lib.hid HS.out.1⟩
  · refine step_op rfl rfl (fun K' hK' => ?_)
    go_simp
    refine hK' _ _ (Fr.below Hbd.out) ?_; clear hK' K'
    refine plan_two ?_ ?_
    · refine step_op rfl rfl (fun K' hK' => ?_)
      go_simp
      refine hK' _ _ (Fr.below Hbd.out) ?_; clear hK' K'
      refine plan_one (step_op rfl rfl (fun K' hK' => ?_))
      go_simp
      refine hK' _ _ (Fr.below (below_al Hbd.out)) ?_; clear hK' K'
      refine plan_one (step_op rfl rfl (fun K' hK' => ?_))
      refine app_int2 (.tmp 6) (.tmp 8) rfl base (.slice Av out.length kv) out sum rfl (HI.out.own.below (below_al Hbd.out)) wd.heap.size 0 rfl (cell_alloc_at _ _ _ _ _ rfl) (by omega) (by have := HI.out.bo0; have := HI.out.out.lt; have := Hbd.out.size; simp; omega) (fun v' w' h1 h2 h3 => ?_)
      have HS := Lib.hid (HI.out.stored (ok' := decide (sum ≤ 1000000000000000)) (below_al Hbd.out) h1 h2 h3)
      have HF : Hid (Fr (SeqP bo bk (.slice Av out.length kv)) w w') := HS.out.2.2.2
      obtain ⟨A', k', rfl, _⟩ := h1.shape
      rw [show (out ++ [sum]).length = out.length + 1 by simp] at HS
      have e0 : w'.cell? ⟨bo, 0, none⟩ = some (.slice Av out.length kv) := by
        have := ((HI.out.out.under (below_al Hbd.out)).kept1 h2 (own_ne HI.out.own HI.out.out (by decide))).cell 0 (by simp)
        simpa using this
      have f0 : w'.frozen? ⟨bo, 0, none⟩ = false := ((HI.out.out.under (below_al Hbd.out)).kept1 h2 (own_ne HI.out.own HI.out.out (by decide))).frozen 0
      have e4 : w'.cell? ⟨bk, 0, none⟩ = some (.bool true) := by
        have := ((HI.out.ok.under (below_al Hbd.out)).kept1 h2 (own_ne HI.out.own HI.out.ok (by decide))).cell 0 (by simp)
        simpa using this
      have f4 : w'.frozen? ⟨bk, 0, none⟩ = false := ((HI.out.ok.under (below_al Hbd.out)).kept1 h2 (own_ne HI.out.own HI.out.ok (by decide))).frozen 0
      clear h1 h2 h3
      refine hK' _ _ (HF.out) ?_; clear hK' K'
      repeat (first
        | (refine plan_skip rfl rfl (fun K' hK' => ?_); go_simp; refine hK' _ ?_; clear hK' K')
        | (refine plan_do (v := ?_) rfl rfl (fun w1 hb => ?_) (fun K' hK' => ?_); rotate_left
           · go_simp
             rfl
           go_simp; refine hK' _ ?_; clear hK' K'))
      refine plan_one (step_op rfl rfl (fun K' hK' => ?_))
      go_simp
      refine hK' _ _ (HS.out.2.2.1) ?_; clear hK' K'
      have e5 : (w'.setCell ⟨bo, 0, none⟩ (.slice A' (out.length + 1) k')).cell? ⟨bk, 0, none⟩ = some (.bool true) := (World.cell?_of_block (a := ⟨bk, 0, none⟩) (Below.heap_setCell w' ⟨bo, 0, none⟩ _ bk (fun e => HI.out.ne e.symm))).trans e4
      have f5 : (w'.setCell ⟨bo, 0, none⟩ (.slice A' (out.length + 1) k')).frozen? ⟨bk, 0, none⟩ = false := by rw [World.frozen?_setCell]; exact f4
      refine plan_one (step_op rfl rfl (fun K' hK' => ?_))
      go_simp
      refine hK' _ _ (HS.out.2.1) ?_; clear hK' K'
      refine plan_done ⟨?_, ?_, ?_, ?_, ?_, ?_, ?_, ?_, ?_, ?_, ?_⟩
      rotate_left 9
      · go_simp; (first | rfl | (and_intros <;> rfl))
      · exact ⟨_, _, Lib.hid HS.out.1⟩
    · refine step_op rfl rfl (fun K' hK' => ?_)
      go_simp
      refine hK' _ _ (Fr.below (below_al Hbd.out)) ?_; clear hK' K'
      refine plan_one (step_op rfl rfl (fun K' hK' => ?_))
      go_simp
      refine hK' _ _ (Fr.below (below_al Hbd.out)) ?_; clear hK' K'
      refine plan_one (step_op rfl rfl (fun K' hK' => ?_))
      refine app_int2 (.tmp 6) (.tmp 8) rfl base (.slice Av out.length kv) out sum rfl (HI.out.own.below (below_al Hbd.out)) wd.heap.size 0 rfl (cell_alloc_at _ _ _ _ _ rfl) (by omega) (by have := HI.out.bo0; have := HI.out.out.lt; have := Hbd.out.size; simp; omega) (fun v' w' h1 h2 h3 => ?_)
      have HS := Lib.hid (HI.out.stored (ok' := decide (sum ≤ 1000000000000000)) (below_al Hbd.out) h1 h2 h3)
      have HF : Hid (Fr (SeqP bo bk (.slice Av out.length kv)) w w') := HS.out.2.2.2
      obtain ⟨A', k', rfl, _⟩ := h1.shape
      rw [show (out ++ [sum]).length = out.length + 1 by simp] at HS
      have e0 : w'.cell? ⟨bo, 0, none⟩ = some (.slice Av out.length kv) := by
        have := ((HI.out.out.under (below_al Hbd.out)).kept1 h2 (own_ne HI.out.own HI.out.out (by decide))).cell 0 (by simp)
        simpa using this
      have f0 : w'.frozen? ⟨bo, 0, none⟩ = false := ((HI.out.out.under (below_al Hbd.out)).kept1 h2 (own_ne HI.out.own HI.out.out (by decide))).frozen 0
      have e4 : w'.cell? ⟨bk, 0, none⟩ = some (.bool true) := by
        have := ((HI.out.ok.under (below_al Hbd.out)).kept1 h2 (own_ne HI.out.own HI.out.ok (by decide))).cell 0 (by simp)
        simpa using this
      have f4 : w'.frozen? ⟨bk, 0, none⟩ = false := ((HI.out.ok.under (below_al Hbd.out)).kept1 h2 (own_ne HI.out.own HI.out.ok (by decide))).frozen 0
      clear h1 h2 h3
      refine hK' _ _ (HF.out) ?_; clear hK' K'
      repeat (first
        | (refine plan_skip rfl rfl (fun K' hK' => ?_); go_simp; refine hK' _ ?_; clear hK' K')
        | (refine plan_do (v := ?_) rfl rfl (fun w1 hb => ?_) (fun K' hK' => ?_); rotate_left
           · go_simp
             rfl
           go_simp; refine hK' _ ?_; clear hK' K'))
      refine plan_one (step_op rfl rfl (fun K' hK' => ?_))
      go_simp
      refine hK' _ _ (HS.out.2.2.1) ?_; clear hK' K'
      have e5 : (w'.setCell ⟨bo, 0, none⟩ (.slice A' (out.length + 1) k')).cell? ⟨bk, 0, none⟩ = some (.bool true) := (World.cell?_of_block (a := ⟨bk, 0, none⟩) (Below.heap_setCell w' ⟨bo, 0, none⟩ _ bk (fun e => HI.out.ne e.symm))).trans e4
      have f5 : (w'.setCell ⟨bo, 0, none⟩ (.slice A' (out.length + 1) k')).frozen? ⟨bk, 0, none⟩ = false := by rw [World.frozen?_setCell]; exact f4
      refine plan_one (step_op rfl rfl (fun K' hK' => ?_))
      go_simp
      refine hK' _ _ (HS.out.2.1) ?_; clear hK' K'
      refine plan_done ⟨?_, ?_, ?_, ?_, ?_, ?_, ?_, ?_, ?_, ?_, ?_⟩
      rotate_left 9
      · go_simp; (first | rfl | (and_intros <;> rfl))
      · exact ⟨_, _, Lib.hid HS.out.1⟩
def sqCode (c : Int) (ts : List T4) (h n : Nat) : Int := if seqOk (powC c h).toNat (lev c ts h) n = true then 0 else 3
def sqVal (c : Int) (ts : List T4) (h n : Nat) : List Int := if seqOk (powC c h).toNat (lev c ts h) n = true then seqVals (powC c h).toNat (lev c ts h) n else []
set_option maxRecDepth 100000 in
set_option maxHeartbeats 1000000 in
theorem seq1_c (h n : Int) (b4 b5 : Nat) (w : World) (h4 : inR 1 4 h = true) (f0 : w.cell? ⟨b4, 0, none⟩ = some (.int .i64 h)) (f1 : w.cell? ⟨b5, 0, none⟩ = some (.int .i64 n)) :
    Calls Tryz.prog 50 #[.pointer (some ⟨b4, 0, none⟩), .pointer (some ⟨b5, 0, none⟩)] w fun e w' => e = .returned (.bool (inR 1 30 n)) ∧ Below w.heap.size w w' := by
  have H1 := Lib.hid (within_c h 1 4)
  have H2 := Lib.hid (within_c n 1 30)
  rw [h4] at H1
  clear h4
  generalize inR 1 30 n = q at *
  go_enter Tryz.func50, Tryz.ntmps50
  go_wp2_with fail
  refine (H1.out _).mono ?_
  rintro e w1 ⟨rfl, rfl⟩
  go_wp2_with fail
  refine (H2.out _).mono ?_
  rintro e w1 ⟨rfl, rfl⟩
  go_wp2
  go_ret
  exact ⟨rfl, Below.refl _ _⟩
set_option maxRecDepth 100000 in
set_option maxHeartbeats 4000000 in
theorem implStripSeq_c (c : Int) (ts : List T4) (A : Option Addr) (cx h n : Nat) (w : World) (hT : TileCells w A ts) (hl : ts.length ≤ 1000000000) (hz : tsCode c ts (h : Int) true = 0) (hn1 : 1 ≤ n) (hn : n ≤ 30) :
    Calls Tryz.prog 14 #[.agg #[.int .i64 c, .slice A ts.length cx], .int .i64 h, .int .i64 n] w fun e w' => ∃ v, e = .returned (.tuple #[v, .int .i64 (sqCode c ts h n)]) ∧ OwnI w' w.heap.size v (sqVal c ts h n) ∧ Below w.heap.size w w' := by
  obtain ⟨hs, _, n1, n3, hp⟩ := tsCode_zero hz
  rw [Int.toNat_natCast] at hp
  obtain ⟨_, ⟨c1, c6⟩, h16⟩ := isSetB_parts hs
  have p1 := powC_4 c1 c6 (h := h) (by omega)
  have hll := Nat.le_trans (lev_len c ts h) (pow16 h16 (by omega : h ≤ 3))
  have hcs := lev_Codes hs h
  have HC : Hid (∀ (wq : World) (hwq : Below w.heap.size w wq) (b4 b5 : Nat) (h0 : wq.cell? ⟨b4, 0, none⟩ = some (.int .i64 (h : Int))) (h1 : wq.cell? ⟨b5, 0, none⟩ = some (.int .i64 (n : Int))),
      Calls Tryz.prog 41 #[.agg #[.int .i64 c, .slice A ts.length cx], .func (.func 50) #[] #[.pointer (some ⟨b4, 0, none⟩), .pointer (some ⟨b5, 0, none⟩)]] wq fun e w' => e = .returned (.int .i64 0) ∧ Below wq.heap.size wq w') :=
    fun wq hwq b4 b5 h0 h1 => by
      have := setCode_c c ts A cx 50 #[.pointer (some ⟨b4, 0, none⟩), .pointer (some ⟨b5, 0, none⟩)] (inR 1 30 (n : Int)) wq (fun _ _ => rfl) (hT.below hwq) hl
        (fun _ w1 hb => seq1_c (h : Int) (n : Int) b4 b5 w1 (inR_iff.2 (by omega)) (keepC h0 _ hb) (keepC h1 _ hb))
      rwa [hs, inR_iff.2 (by omega : (1 : Int) ≤ (n : Int) ∧ (n : Int) ≤ 30)] at this
  have HN := Lib.hid (fun (wq : World) (hwq : Below w.heap.size w wq) => stripOf_c c ts A cx h wq hs (hT.below hwq) hl (by omega) (by omega))
  obtain ⟨S, hS'⟩ := Int.eq_ofNat_of_zero_le (by omega : 0 ≤ powC c h)
  have hv : sqCode c ts h n = if seqOk S (lev c ts h) n = true then 0 else 3 := by unfold sqCode; rw [hS', Int.toNat_natCast]
  have hv2 : sqVal c ts h n = if seqOk S (lev c ts h) n = true then seqVals S (lev c ts h) n else [] := by unfold sqVal; rw [hS', Int.toNat_natCast]
  rw [hS', Int.toNat_natCast] at hcs
  rw [hS'] at p1
  have HSq := Lib.hid (fun base bo bk bn v0 w g hR hI hb hgb hsep => sequenceT_c g c A ts.length cx (h : Int) S (lev c ts h) base bo bk bn n v0 w (by omega) (by omega) hcs (by omega) hR hI hn1 (by omega) hb hgb hsep
    (fun out v sum wv hI hc hl => visitT_c base bo bk bn n out v sum wv hI hc hl (by omega)))
  have HPw := Lib.hid hS'
  have HV := Lib.hid hv
  have HV2 := Lib.hid hv2
  have hp2 : powC c h ≤ 700 := hp
  clear hT hs hz hv hv2 hcs hll n1 n3 hp c1 c6 h16 p1 hS'
  go_enter Tryz.func14, Tryz.ntmps14
  go_wp2_with fail
  refine (HC.out _ (by (repeat (first | (with_reducible exact Below.refl _ _) | (with_reducible assumption) | (with_reducible refine below_al ?_) | (with_reducible refine below_dr ?_) | (with_reducible refine below_drN ?_) | (with_reducible refine below_set ?_ (by first | exact Nat.le_refl _ | (dsimp only; omega) | omega)) | (with_reducible refine below_tr (by with_reducible assumption) ?_)))) _ _ ?_ ?_).mono ?_
  · (repeat (first | (exact cell_al _ _ _ _ _ _ (by simp) rfl) | (refine cell_alloc_old _ _ _ _ _ ?_)))
  · (repeat (first | (exact cell_al _ _ _ _ _ _ (by simp) rfl) | (refine cell_alloc_old _ _ _ _ _ ?_)))
  rintro e w1 ⟨rfl, hb1⟩
  have Hw1 : Hid (Below w.heap.size w w1) := by (show Below _ _ _); (repeat (first | (with_reducible exact Below.refl _ _) | (with_reducible assumption) | (with_reducible refine below_al ?_) | (with_reducible refine below_dr ?_) | (with_reducible refine below_drN ?_) | (with_reducible refine below_set ?_ (by first | exact Nat.le_refl _ | (dsimp only; omega) | omega)) | (with_reducible refine below_tr (by with_reducible assumption) ?_)))
  have d0 : w1.cell? ⟨w.heap.size, 0, none⟩ = some (.int .i64 c) := by rw [(bcell hb1).1 _ _ (by simp; omega)]; (repeat (first | (exact cell_al _ _ _ _ _ _ (by simp) rfl) | (refine cell_alloc_old _ _ _ _ _ ?_)))
  have d1 : w1.cell? ⟨w.heap.size, 1, none⟩ = some (.slice A ts.length cx) := by rw [(bcell hb1).1 _ _ (by simp; omega)]; (repeat (first | (exact cell_al _ _ _ _ _ _ (by simp) rfl) | (refine cell_alloc_old _ _ _ _ _ ?_)))
  have d2 : w1.cell? ⟨w.heap.size + 1, 0, none⟩ = some (.int .i64 h) := by rw [(bcell hb1).1 _ _ (by simp)]; (repeat (first | (exact cell_al _ _ _ _ _ _ (by simp) rfl) | (refine cell_alloc_old _ _ _ _ _ ?_)))
  have d3 : w1.cell? ⟨w.heap.size + 2, 0, none⟩ = some (.int .i64 n) := by rw [(bcell hb1).1 _ _ (by simp)]; (repeat (first | (exact cell_al _ _ _ _ _ _ (by simp) rfl) | (refine cell_alloc_old _ _ _ _ _ ?_)))
  have hN : w.heap.size + 2 < w1.heap.size := by have := hb1.size; simp at this; omega
  clear hb1
  go_wp2_with fail
  refine (HN.out _ Hw1.out).mono ?_
  rintro e w2 ⟨hb2, ⟨hp, rfl⟩ | ⟨hp, g, rfl, hg, hS⟩⟩
  · exact absurd hp (by omega)
  · have d4 := keepC d3 _ hb2
    have hg2 := hS.below (Below.refl _ _)
    have Hw2 := Lib.hid (Hw1.out.trans (hb2.mono Hw1.out.size))
    rw [HPw.out] at hS
    have HS := Lib.hid hS
    have hgl : g < w2.heap.size := by obtain ⟨_, _, hB, _⟩ := hS; exact hB.lt
    have hN2 : w.heap.size + 2 < w2.heap.size := Nat.lt_of_lt_of_le hN hb2.size
    clear hb2 hS hg2 d0 d1 d2 d3
    generalize lev c ts h = cols at *
    unfold stripEnd
    go_upto_region 8 with (fail)
    obtain ⟨base, hba⟩ : ∃ b, b = w2.heap.size := ⟨_, rfl⟩
    obtain ⟨w3, hw3⟩ : ∃ w3, w3 = (((w2.alloc (.cells #[] 2)).alloc (.cells #[.slice (some ⟨w2.heap.size, 0, none⟩) 0 0] 39)).alloc (.cells #[.bool true] 4)) := ⟨_, rfl⟩
    obtain ⟨bk, hbk⟩ : ∃ b, b = w2.heap.size + 1 + 1 := ⟨_, rfl⟩
    obtain ⟨bo, hbo⟩ : ∃ b, b = w2.heap.size + 1 := ⟨_, rfl⟩
    obtain ⟨bn, hbn⟩ : ∃ b, b = w.heap.size + 1 + 1 := ⟨_, rfl⟩
    have hb3 : Below w2.heap.size w2 w3 := by rw [hw3]; exact below_al (below_al (below_al (Below.refl _ _)))
    have HI : Hid (SeqIn w3 base bo bk bn [] true (n : Int) (.slice (some ⟨w2.heap.size, 0, none⟩) 0 0)) := by
      refine ⟨?_, ?_, ?_, ?_, by omega, by omega, by omega, by omega⟩
      · have h9 := (Blk.newA (w2.alloc (.cells #[] 2)) #[.slice (some ⟨w2.heap.size, 0, none⟩) 0 0] 39).alloc (.cells #[.bool true] 4)
        rw [hw3, hbo]; simpa using h9
      · have h9 := Blk.newA ((w2.alloc (.cells #[] 2)).alloc (.cells #[.slice (some ⟨w2.heap.size, 0, none⟩) 0 0] 39)) #[.bool true] 4
        rw [hw3, hbk]; simpa using h9
      · rw [hbn]; exact keepC d4 _ hb3
      · have h9 := ((OwnI.made w2 base #[] [] rfl (by omega) (by simp)).alloc (.cells #[.slice (some ⟨w2.heap.size, 0, none⟩) 0 0] 39)).alloc (.cells #[.bool true] 4)
        rw [hw3]; exact h9
    have HB3 := Lib.hid hb3
    have HBa := Lib.hid hba
    rw [← hw3, ← hbk, ← hbo, ← hbn]
    have HLo := Lib.hid (show w.heap.size ≤ base by omega)
    clear hw3 hbk hbo hbn hb3 d4 hN hN2
    have HQ := Lib.hid (HSq.out base bo bk bn _ w3 g (HS.out.below HB3.out) HI.out (by have := HB3.out.size; omega) (by omega) (fun w' hb => HS.out.below ((HB3.out).trans ((HBa.out ▸ hb)))))
    clear hba HSq
    go_wp2_with fail
    refine HQ.out.mono ?_
    rintro e w4 ⟨rfl, hb4, m, v, m1, m2, ok1, hend, hI4⟩
    have HF := Lib.hid (show Below w.heap.size w w4 from Hw2.out.trans ((HB3.out.mono Hw2.out.size).trans (hb4.mono HLo.out)))
    have HI4 := Lib.hid hI4
    obtain ⟨Av, kv, rfl, _⟩ := hI4.own.shape
    have c0 := hI4.out.cell 0 (by simp)
    have c1 := hI4.ok.cell 0 (by simp)
    simp only [List.getElem_cons_zero] at c0 c1
    clear hb4 hI4 HQ HI
    cases hq : seqOk S cols m
    · rw [hq] at c1
      have hnn : ¬ seqOk S cols n = true := fun h9 => by
        have := seqOk_less h9 m2
        rw [hq] at this; cases this
      have hv := HV.out
      have hv2 := HV2.out
      rw [if_neg hnn] at hv hv2
      have HV3 := Lib.hid hv
      have HV4 := Lib.hid hv2
      clear hq hnn hv hv2 ok1 hend m1 m2
      go_wp2
      go_ret2
      exact ⟨_, by rw [HV3.out]; rfl, by rw [HV4.out]; exact OwnI.nil _ _, HF.out⟩
    · rw [hq] at c1
      have hmn : m = n := by
        rcases hend with e | e
        · exact e
        · rw [hq] at e; cases e
      subst hmn
      have hv := HV.out
      have hv2 := HV2.out
      rw [if_pos hq] at hv hv2
      have HV3 := Lib.hid hv
      have HV4 := Lib.hid hv2
      have HO4 := Lib.hid (HI4.out.own.weaken HLo.out)
      clear hq hv hv2 ok1 hend m1 m2
      go_wp2
      go_ret2
      exact ⟨_, by rw [HV3.out]; rfl, by rw [HV4.out]; exact HO4.out, HF.out⟩

end Go.Proofs.YtnoehaphbpkpjaaGreat
