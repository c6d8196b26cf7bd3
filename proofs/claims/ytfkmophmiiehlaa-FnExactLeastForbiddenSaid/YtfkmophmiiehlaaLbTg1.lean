/- Contracts and lemmas for the statements of this seat, written for this claim; each theorem states its own conditions. -/
import Derived.Test.YtfkmophmiiehlaaLbTf1
set_option linter.unusedVariables false
set_option linter.unusedSimpArgs false
namespace Go.Proofs.Ytfkmophmiiehlaa
open Go.RowKit
theorem l10Go_c (wB : World) (cols : List Col) (Ac : Option Addr) (kc S c n most : Nat) (AF : Option Addr) (kF : Nat) (hS1 : 1 ≤ S) (hS2 : S ≤ 100000) (hC : Codes S cols) (hcl : cols.length ≤ 1000000) (hn : n ≤ 100) (hc : c ≤ 6) (hm : most ≤ 1000000)
    (hR : RowsC wB Ac (crows cols)) (hF : RowsB wB AF (farL S cols n)) : ∀ l, GoSpec wB cols Ac kc S c n most AF kF l
  | 0 => l10Go_leaf wB cols Ac kc S c n most AF kF hn hm
  | l + 1 => l10Go_step wB cols Ac kc S c n most AF kF l hS1 hS2 hC hcl hn hc hm hR hF (l10Go_c wB cols Ac kc S c n most AF kF hS1 hS2 hC hcl hn hc hm hR hF l)
/-- the words of a length that are read off all tilings of a strip -/
def trWords (S : Nat) (cols : List Col) (c n : Nat) : List (List Int) := exts S cols c n (List.replicate S true)
theorem goWords (W w1 : World) (cols : List Col) (Ac : Option Addr) (kc S c n most : Nat) (AF : Option Addr) (kF : Nat) (A0 : Option Addr) (k0 : Nat) (b3 b8 : Nat) (hS1 : 1 ≤ S) (hS2 : S ≤ 100000) (hC : Codes S cols) (hcl : cols.length ≤ 1000000) (hn : n ≤ 100) (hc : c ≤ 6) (hm : most ≤ 1000000) (hm1 : 1 ≤ most)
    (hR : RowsC W Ac (crows cols)) (hF : RowsB W AF (farL S cols n)) (h0 : BoolC W A0 (List.replicate S true)) (hb : Below W.heap.size W w1) (hO : OwnII w1 W.heap.size (.slice (some ⟨b8, 0, none⟩) 0 0) []) :
    Calls Try.prog 142 #[.slice Ac cols.length kc, .int .i64 c, .slice (some ⟨b3, 0, none⟩) 0 0, .slice A0 S k0, .slice AF (n + 1) kF, .slice (some ⟨b8, 0, none⟩) 0 0, .int .i64 most] w1 fun e w' => ∃ v, e = .returned v ∧ OwnII w' W.heap.size v ((trWords S cols c n).take most) ∧ Below W.heap.size W w' := by
  refine (l10Go_c W cols Ac kc S c n most AF kF hS1 hS2 hC hcl hn hc hm hR hF n [] b3 0 0 (List.replicate S true) A0 k0 [] (.slice (some ⟨b8, 0, none⟩) 0 0) w1 (by simp) (by simp) hb hO (by simp; omega) (fun j h => by simp at h) (fun j h => ?_)).mono ?_
  · obtain ⟨b, off, e, hlt, hc⟩ := h0 j h
    refine ⟨b, off, e, Nat.lt_of_lt_of_le hlt hb.size, ?_, (hb.cell (p := ⟨b, _, none⟩) hlt).trans hc⟩
    intro e2
    have := (hO.lt b e2.symm).1
    omega
  · rintro e w' ⟨v, rfl, h1, h2, h3⟩
    refine ⟨v, rfl, by simpa [trWords] using h1, Below.grown hb h2 hb.size (fun k hk => (hO.lt k hk).1)⟩
set_option maxRecDepth 100000 in
set_option maxHeartbeats 1000000 in
theorem l10Words_c (c n0 cx : Nat) (A : Option Addr) (cols : List Col) (Ac : Option Addr) (kc h n most S : Nat) (w : World) (h1 : 1 ≤ c) (h6 : c ≤ 6) (hh : h ≤ 3) (hS : powC c h = S) (hS1 : 1 ≤ S) (hS2 : S ≤ 100000) (hC : Codes S cols) (hcl : cols.length ≤ 1000000) (hn : n ≤ 100) (hm : most ≤ 1000000) (hm1 : 1 ≤ most)
    (hR : RowsC w Ac (crows cols)) :
    Calls Try.prog 108 #[.agg #[.int .i64 c, .slice A n0 cx], .slice Ac cols.length kc, .int .i64 h, .int .i64 n, .int .i64 most] w fun e w' => ∃ v, e = .returned v ∧ OwnII w' w.heap.size v ((trWords S cols c n).take most) ∧ Below w.heap.size w w' := by
  have H1 := Lib.hid (fun w => l06Size_c (c : Int) n0 cx h A w (by omega) (by omega) (by omega))
  rw [hS] at H1
  have H2 := Lib.hid (fun wq (hq : Below w.heap.size w wq) => l10Far_c cols Ac kc S n wq hS1 hS2 hC hcl hn (hR.below hq))
  have HR := Lib.hid hR
  have HC := Lib.hid hC
  clear hC hR
  go_enter Try.func108, Try.ntmps108
  go_wp2_with fail
  refine (H1.out _).mono ?_
  rintro e w1 ⟨rfl, hb1⟩
  have Hb1 : Hid (Below w.heap.size w w1) := by (show Below _ _ _); (repeat (first | (with_reducible exact Below.refl _ _) | (with_reducible assumption) | (with_reducible refine below_al ?_) | (with_reducible refine below_dr ?_) | (with_reducible refine below_drN ?_) | (with_reducible refine below_set ?_ (by first | exact Nat.le_refl _ | (dsimp only; omega) | omega)) | (with_reducible refine below_tr (by with_reducible assumption) ?_)))
  have U0 := keepC (show (w.alloc (.cells #[.int .i64 c, .slice A n0 cx] 31)).cell? ⟨w.heap.size, 0, none⟩ = some (.int .i64 c) from cell_alloc_at _ _ _ _ _ rfl) _ hb1
  have hN1 : w.heap.size < w1.heap.size := by have := hb1.size; simp at this; omega
  clear hb1 H1
  go_wp2_with fail
  refine (H2.out _ Hb1.out).mono ?_
  rintro e W ⟨vF, rfl, hO, hbW⟩
  obtain ⟨AF, kF, rfl, hRF⟩ := hO.rows
  obtain ⟨bF, offF, A0, k0, rfl, hlF, c0, r0⟩ := hRF 0 (by rw [farL_len]; omega)
  rw [farL_get] at c0 r0
  have r0 : BoolC W A0 (List.replicate S true) := r0
  have c0 : W.cell? ⟨bF, offF + 0, none⟩ = some (.slice A0 S k0) := by rw [c0, farAt_len]
  rw [Nat.add_zero] at c0
  have u0 := keepC (keepC U0 _ hbW)
  have u1 := keepC c0
  have hN : w.heap.size < W.heap.size := Nat.lt_of_lt_of_le hN1 hbW.size
  rw [farL_len]
  have HW := Lib.hid (Hb1.out.trans (hbW.mono Hb1.out.size))
  have HCall := Lib.hid (fun b3 b8 w1 => goWords W w1 cols Ac kc S c n most (some ⟨bF, offF, none⟩) kF A0 k0 b3 b8 hS1 hS2 HC.out hcl hn h6 hm hm1 (HR.out.below HW.out) hRF r0)
  clear hRF r0 hO U0 H2 hbW c0
  go_wp2_with fail
  refine wp_region_plan (.det 0 (.det 1 (.det 2 (.det 4 (.det 5 (.det 6 (.det 7 (.det 9 (.two 3 (.one 8 (.one 10 (.det 11 (.done)))) 8 (.one 3 (.one 10 (.det 11 (.done))))))))))))) (fun w' => Below (W).heap.size (W) w') (fun a a' w' => ∃ x0 x1 x2 x3 x4 x5 x6 x7 x8 x9 x10 x11, a' = ((((((((((((a.put (some 20) x0).put (some 21) x1).put (some 22) x2).put (some 23) x3).put (some 24) x4).put (some 25) x5).put (some 26) x6).put (some 27) x7).put (some 28) x8).put (some 29) x9).put (some 30) x10).put (some 10) x11) ∧ x11 = x10 ∧ OwnII w' W.heap.size x10 ((trWords S cols c n).take most)) (by kernel_rfl) (by kernel_rfl) (fun _ _ d _ _ h => by cases d <;> exact h) ((Below.refl _ _).drew) ?_ ?_
  rotate_left
  · rintro a' wa hba ⟨x0, x1, x2, x3, x4, x5, x6, x7, x8, x9, x10, x11, rfl, hP⟩
    obtain ⟨rfl, hO⟩ := hP
    have HF := Lib.hid (And.intro hO hba)
    clear hO hba
    go_simp
    go_wp2
    go_ret
    exact ⟨_, rfl, HF.out.1.weaken HW.out.size, HW.out.trans (HF.out.2.mono HW.out.size)⟩
  repeat (first
    | (refine plan_skip rfl rfl (fun K' hK' => ?_); go_simp; refine hK' _ ?_; clear hK' K')
    | (refine plan_do (v := ?_) rfl rfl (fun w1 hb => ?_) (fun K' hK' => ?_); rotate_left
       · go_simp
         rfl
       go_simp; refine hK' _ ?_; clear hK' K'))
  refine plan_two ?_ ?_
  · refine step_op rfl rfl (fun K' hK' => ?_)
    go_simp
    refine hK' _ _ (below_al (Below.refl _ W).drew) ?_; clear hK' K'
    refine plan_one (step_op rfl rfl (fun K' hK' => ?_))
    go_simp
    refine hK' _ _ (below_al (below_al (Below.refl _ W).drew)) ?_; clear hK' K'
    refine plan_one (step_op rfl rfl (fun K' hK' => ?_))
    go_simp
    refine (HCall.out _ _ _ (below_al (below_al (Below.refl _ W).drew)) (OwnII.empty (w := W.drew.alloc (.cells #[] 2)) (by simp) (le_al (Nat.le_refl _)))).mono ?_
    rintro e w' ⟨v, rfl, h1, h2⟩
    have HF := Lib.hid (And.intro h1 h2)
    clear h1 h2
    refine hK' _ _ (HF.out.2) ?_; clear hK' K'
    repeat (first
      | (refine plan_skip rfl rfl (fun K' hK' => ?_); go_simp; refine hK' _ ?_; clear hK' K')
      | (refine plan_do (v := ?_) rfl rfl (fun w1 hb => ?_) (fun K' hK' => ?_); rotate_left
         · go_simp
           rfl
         go_simp; refine hK' _ ?_; clear hK' K'))
    refine plan_done ⟨?_, ?_, ?_, ?_, ?_, ?_, ?_, ?_, ?_, ?_, ?_, ?_, ?_, ?_⟩
    rotate_left 12
    · go_simp; (first | rfl | (and_intros <;> rfl))
    · exact ⟨rfl, HF.out.1⟩
  · refine step_op rfl rfl (fun K' hK' => ?_)
    go_simp
    refine hK' _ _ (below_al (Below.refl _ W).drew) ?_; clear hK' K'
    refine plan_one (step_op rfl rfl (fun K' hK' => ?_))
    go_simp
    refine hK' _ _ (below_al (below_al (Below.refl _ W).drew)) ?_; clear hK' K'
    refine plan_one (step_op rfl rfl (fun K' hK' => ?_))
    go_simp
    refine (HCall.out _ _ _ (below_al (below_al (Below.refl _ W).drew)) ((OwnII.empty (w := W.drew) (by simp) (Nat.le_refl _)).below (below_al (Below.refl _ _)))).mono ?_
    rintro e w' ⟨v, rfl, h1, h2⟩
    have HF := Lib.hid (And.intro h1 h2)
    clear h1 h2
    refine hK' _ _ (HF.out.2) ?_; clear hK' K'
    repeat (first
      | (refine plan_skip rfl rfl (fun K' hK' => ?_); go_simp; refine hK' _ ?_; clear hK' K')
      | (refine plan_do (v := ?_) rfl rfl (fun w1 hb => ?_) (fun K' hK' => ?_); rotate_left
         · go_simp
           rfl
         go_simp; refine hK' _ ?_; clear hK' K'))
    refine plan_done ⟨?_, ?_, ?_, ?_, ?_, ?_, ?_, ?_, ?_, ?_, ?_, ?_, ?_, ?_⟩
    rotate_left 12
    · go_simp; (first | rfl | (and_intros <;> rfl))
    · exact ⟨rfl, HF.out.1⟩

end Go.Proofs.Ytfkmophmiiehlaa
