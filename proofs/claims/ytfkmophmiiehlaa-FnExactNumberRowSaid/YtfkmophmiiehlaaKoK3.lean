/- Contracts and lemmas for the statements of this seat, written for this claim; each theorem states its own conditions. -/
import Derived.Test.YtfkmophmiiehlaaKoK2
import Derived.Test.YtfkmophmiiehlaaKoJ6
import Derived.Test.YtfkmophmiiehlaaKoLi
import Derived.Test.YtfkmophmiiehlaaKoMk
set_option linter.unusedVariables false
set_option linter.unusedSimpArgs false
namespace Go.Proofs.Ytfkmophmiiehlaa
open Go.RowKit
theorem OwnI.tup {w : World} {B : Nat} {v : Value} {xs : List Int} (h : OwnI w B v xs) : ∃ A cx, v = .slice A xs.length cx ∧ Cells w A (ints xs) := by
  obtain ⟨A, cx, e, hc, _⟩ := h.shape
  exact ⟨A, cx, e, hc⟩
theorem nrSet_len (p q a b s n : Int) : (nrSet p q a b s n).length ≤ 16 := by
  unfold nrSet
  split
  · exact mSet_len _ _ _ _ _ _
  · simp
theorem nrRow_len (p q a b s n : Int) : (nrRow p q a b s n).length ≤ 20 := by
  unfold nrRow
  split
  · rename_i h
    have := (placesB_iff.1 h.1.2.2.1).2
    unfold nR
    rw [nRow_len]
    omega
  · simp
set_option maxRecDepth 100000 in
set_option maxHeartbeats 1000000 in
theorem law_NumberRow (p q a b s n : Int) (w : World) :
    Calls Try.prog 7 #[.int .i64 p, .int .i64 q, .int .i64 a, .int .i64 b, .int .i64 s, .int .i64 n] w fun e w' => e = .returned (.bool true) ∧ Below w.heap.size w w' := by
  have HS := Lib.hid (fun w => specNumberRow_c p q a b s n w)
  have HI := Lib.hid (fun w => implNumberRow_c p q a b s n w)
  have HL := Lib.hid (nrSet_len p q a b s n)
  have HR := Lib.hid (nrRow_len p q a b s n)
  generalize nrCol p q a b s n = c at *
  generalize nrSet p q a b s n = ts at *
  generalize nrRow p q a b s n = rr at *
  generalize nrCode p q a b s n = kk at *
  have HE : Hid (eqS c ts c ts = true) := by show _ = _; simp [eqS, eqTs]
  have HE2 : Hid (eqI rr rr = true) := eqI_refl rr
  go_enter Try.func7, Try.ntmps7
  go_wp2_with fail
  refine (HS.out _).mono ?_
  rintro e w1 ⟨A0, c0, u0, rfl, hO0, hR0, hap0, hb1⟩
  obtain ⟨AR0, cR0, rfl, hC0⟩ := hR0.tup
  have HO0 := Lib.hid hO0
  have HR0 := Lib.hid hR0
  have HB1 := Lib.hid hb1
  have q0 := Lib.hid (Blk.newA w1 #[.int .i64 c, .slice A0 ts.length c0] 31)
  clear hO0 hb1 hR0 hC0 hap0
  go_wp2_with fail
  refine (HI.out _).mono ?_
  rintro e w2 ⟨A1, c1, u1, rfl, hO1, hR1, hap1, hb2⟩
  obtain ⟨AR1, cR1, rfl, hC1⟩ := hR1.tup
  have HAP := Lib.hid hap1
  have HO1 := Lib.hid hO1
  have HR1 := Lib.hid hR1
  have HB2 := Lib.hid hb2
  have q1 := Lib.hid ((q0.out.under hb2).alloc (.cells #[.int .i64 c, .slice A1 ts.length c1] 31))
  have q2 := Lib.hid (Blk.newA w2 #[.int .i64 c, .slice A1 ts.length c1] 31)
  have HO1' := Lib.hid (hO1.alloc (.cells #[.int .i64 c, .slice A1 ts.length c1] 31))
  have HR1' := Lib.hid (hR1.alloc (.cells #[.int .i64 c, .slice A1 ts.length c1] 31))
  have HO0' := Lib.hid (((HO0.out.alloc (.cells #[.int .i64 c, .slice A0 ts.length c0] 31)).below hb2).alloc (.cells #[.int .i64 c, .slice A1 ts.length c1] 31))
  have HR0' := Lib.hid (((HR0.out.alloc (.cells #[.int .i64 c, .slice A0 ts.length c0] 31)).below hb2).alloc (.cells #[.int .i64 c, .slice A1 ts.length c1] 31))
  have HB3 : Hid (Below w.heap.size w (w2.alloc (.cells #[.int .i64 c, .slice A1 ts.length c1] 31))) := by
    show Below _ _ _
    have hb1 := HB1.out
    (repeat (first | (with_reducible exact Below.refl _ _) | (with_reducible assumption) | (with_reducible refine below_al ?_) | (with_reducible refine below_dr ?_) | (with_reducible refine below_drN ?_) | (with_reducible refine below_set ?_ (by first | exact Nat.le_refl _ | (dsimp only; omega) | omega)) | (with_reducible refine below_tr (by with_reducible assumption) ?_)))
  have hs12 : w1.heap.size < w2.heap.size := by have := hb2.size; simp at this; omega
  have HS12 := Lib.hid hs12
  clear hO1 hb2 hs12 hR1 hC1 hap1
  have y0 := q1.out.cell 0 (by simp)
  have y1 := q1.out.cell 1 (by simp)
  have z0 := q2.out.cell 0 (by simp)
  have z1 := q2.out.cell 1 (by simp)
  simp only [List.getElem_cons_zero, List.getElem_cons_succ] at y0 y1 z0 z1
  have hn1 : (kk != kk) = false := by simp
  go_wp2_with fail
  refine (eqSet_c c c ts ts A1 A0 c1 c0 _ HO1'.out.tilesAt HO0'.out.tilesAt (by have := HL.out; omega) (by have := HL.out; omega)).mono ?_
  rintro e w3 ⟨rfl, hb3⟩
  rw [HE.out]
  clear y0 y1 z0 z1
  have q1b := Lib.hid (q1.out.under hb3)
  have q2b := Lib.hid (q2.out.under hb3)
  have HO1b := Lib.hid (HO1'.out.below hb3)
  have HO0b := Lib.hid (HO0'.out.below hb3)
  have HR1b := Lib.hid (HR1'.out.below hb3)
  have HR0b := Lib.hid (HR0'.out.below hb3)
  have HB3b := Lib.hid (HB3.out.trans (hb3.mono HB3.out.size))
  have hs13 := Lib.hid (show w2.heap.size < w3.heap.size by have := hb3.size; simp at this; omega)
  clear hb3
  go_wp2_with fail
  refine (eqInt64S_c rr rr AR1 AR0 cR1 cR0 w3 HR1b.out.cells HR0b.out.cells (by have := HR.out; omega) (by have := HR.out; omega)).mono ?_
  rintro e w3b ⟨rfl, hb3⟩
  rw [HE2.out]
  have q1bb := Lib.hid (q1b.out.under hb3)
  have q2bb := Lib.hid (q2b.out.under hb3)
  have HO1bb := Lib.hid (HO1b.out.below hb3)
  have HO0bb := Lib.hid (HO0b.out.below hb3)
  have HR1bb := Lib.hid (HR1b.out.below hb3)
  have HR0bb := Lib.hid (HR0b.out.below hb3)
  have HB3bb := Lib.hid (HB3b.out.trans (hb3.mono HB3b.out.size))
  clear hb3
  have z0 := q2bb.out.cell 0 (by simp)
  have z1 := q2bb.out.cell 1 (by simp)
  simp only [List.getElem_cons_zero, List.getElem_cons_succ] at z0 z1
  go_wp2_with fail
  refine (markS_c c ts.length (tcells ts) _ 1 _ w3b HO1bb.out.toC (by have := HL.out; omega) (by omega)).mono ?_
  rintro e w4 ⟨rfl, hm, hg⟩
  clear z0 z1
  have HM4 := Lib.hid hm
  have hbl1 : ∀ k, Value.ownBlock (.slice A1 ts.length c1) = some k → w1.heap.size < k ∧ k < w2.heap.size := fun k hk => ⟨by have := (HO1bb.out.blt k hk).1; simp at this; omega, (HO1.out.blt k hk).2⟩
  have hblr : ∀ k, Value.ownBlock (.slice AR1 rr.length cR1) = some k → w1.heap.size < k ∧ k < w2.heap.size := fun k hk => ⟨by have := (World.ownsRow.lt HR1bb.out k hk).1; simp at this; omega, (World.ownsRow.lt HR1.out k hk).2⟩
  have hbl0 : ∀ k, Value.ownBlock (.slice A0 ts.length c0) = some k → k < w1.heap.size := fun k hk => (HO0.out.blt k hk).2
  have hblr0 : ∀ k, Value.ownBlock (.slice AR0 rr.length cR0) = some k → k < w1.heap.size := fun k hk => (World.ownsRow.lt HR0.out k hk).2
  have HBL1 := Lib.hid hbl1
  have HBLR := Lib.hid hblr
  have HBL0 := Lib.hid hbl0
  have HBLR0 := Lib.hid hblr0
  have far : ∀ (v u : Value), (∀ k, v.ownBlock = some k → k < w1.heap.size) → (∀ k, u.ownBlock = some k → w1.heap.size < k ∧ k < w2.heap.size) → (v.ownBlock = none ∨ v.ownBlock ≠ u.ownBlock) := by
    intro v u h1 h2
    cases h0 : v.ownBlock with
    | none => exact .inl rfl
    | some k => exact .inr (fun h => by have a := h1 k h0; have b := h2 k h.symm; omega)
  have FAR := Lib.hid far
  have q1c := Lib.hid (q1bb.out.grownB hg (fun h => by have := hbl1 _ h; omega))
  have q2c := Lib.hid (q2bb.out.grownB hg (fun h => by have := hbl1 _ h; omega))
  have HO0c := Lib.hid (HO0bb.out.grown hg (far _ _ hbl0 hbl1))
  have HR0c := Lib.hid (HR0bb.out.grown hg (far _ _ hblr0 hbl1))
  have HR1c := Lib.hid (HR1bb.out.grown hg HAP.out)
  have HB4 := Lib.hid (HB3bb.out.grown hg HB3bb.out.size (fun k hk => by have a := hbl1 k hk; have b := HB1.out.size; omega))
  clear hg hm hbl1 hbl0 hblr hblr0 far
  go_wp2_with fail
  refine (markInt64S_c _ rr (1 + ts.length * 4) _ w4 HR1c.out (by have := HR.out; omega) (by have := HL.out; omega)).mono ?_
  rintro e w4b ⟨rfl, hm, hg⟩
  have q1cc := Lib.hid (q1c.out.grownB hg (fun h => by have := HBLR.out _ h; omega))
  have q2cc := Lib.hid (q2c.out.grownB hg (fun h => by have := HBLR.out _ h; omega))
  have HO0cc := Lib.hid (HO0c.out.grown hg (FAR.out _ _ HBL0.out HBLR.out))
  have HR0cc := Lib.hid (HR0c.out.grown hg (FAR.out _ _ HBLR0.out HBLR.out))
  have HM4c := Lib.hid (HM4.out.grown hg HAP.out.symm)
  have HMR := Lib.hid hm
  have HB4b := Lib.hid (HB4.out.grown hg HB4.out.size (fun k hk => by have a := HBLR.out k hk; have b := HB1.out.size; omega))
  clear hg hm
  have z0 := q2cc.out.cell 0 (by simp)
  have z1 := q2cc.out.cell 1 (by simp)
  simp only [List.getElem_cons_zero, List.getElem_cons_succ] at z0 z1
  go_wp2_with fail
  refine (heldS_c c ts.length _ 1 _ w4b HM4c.out (by have := HL.out; omega) (by omega)).mono ?_
  rintro e w5 ⟨rfl, hb5⟩
  have q1d := Lib.hid (q1cc.out.under hb5)
  have q2d := Lib.hid (q2cc.out.under hb5)
  have HO0d := Lib.hid (HO0cc.out.below hb5)
  have HR0d := Lib.hid (HR0cc.out.below hb5)
  have HM5 := Lib.hid (HM4c.out.below hb5)
  have HMR5 := Lib.hid (HMR.out.below hb5)
  have HB5 := Lib.hid (HB4b.out.trans (hb5.mono HB4b.out.size))
  clear hb5 z0 z1
  have hmc := HMR5.out.cells
  go_wp2_with fail
  refine (heldInt64S_c AR1 (1 + ts.length * 4) rr.length cR1 w5 hmc (by have := HR.out; omega) (by have := HL.out; omega)).mono ?_
  rintro e w5b ⟨rfl, rfl⟩
  have hn2 : (((1 + ts.length * 4 + rr.length : Nat) : Int) != ((1 + ts.length * 4 + rr.length : Nat) : Int)) = false := by simp
  clear hmc
  go_wp2_with fail
  refine (HI.out _).mono ?_
  rintro e w6 ⟨A2, c2, u2, rfl, hO2, hR2, hap2, hb6⟩
  obtain ⟨AR2, cR2, rfl, hC2⟩ := hR2.tup
  have q1e := (q1d.out.under hb6).alloc (.cells #[.int .i64 c, .slice A2 ts.length c2] 31)
  have q2e := (q2d.out.under hb6).alloc (.cells #[.int .i64 c, .slice A2 ts.length c2] 31)
  have q3e := Blk.newA w6 #[.int .i64 c, .slice A2 ts.length c2] 31
  have Q2e := Lib.hid q2e
  have HO2e := Lib.hid (hO2.alloc (.cells #[.int .i64 c, .slice A2 ts.length c2] 31))
  have HR2e := Lib.hid (hR2.alloc (.cells #[.int .i64 c, .slice A2 ts.length c2] 31))
  have HO0e := Lib.hid ((HO0d.out.below hb6).alloc (.cells #[.int .i64 c, .slice A2 ts.length c2] 31))
  have HR0e := Lib.hid ((HR0d.out.below hb6).alloc (.cells #[.int .i64 c, .slice A2 ts.length c2] 31))
  have HM6 := Lib.hid ((HM5.out.below hb6).below ((Below.refl _ _).alloc (Nat.le_refl _) (.cells #[.int .i64 c, .slice A2 ts.length c2] 31)))
  have HMR6 := Lib.hid ((HMR5.out.below hb6).alloc (.cells #[.int .i64 c, .slice A2 ts.length c2] 31))
  have HB6 := Lib.hid ((HB5.out.trans (hb6.mono HB5.out.size)).alloc (by have := HB5.out.size; have := hb6.size; omega) (.cells #[.int .i64 c, .slice A2 ts.length c2] 31))
  have y0 := q1e.cell 0 (by simp)
  have y1 := q1e.cell 1 (by simp)
  have z0 := q3e.cell 0 (by simp)
  have z1 := q3e.cell 1 (by simp)
  simp only [List.getElem_cons_zero, List.getElem_cons_succ] at y0 y1 z0 z1
  clear q1e q2e q3e hO2 hb6 hn2 hR2 hap2 hC2
  go_wp2_with fail
  refine (eqSet_c c c ts ts A2 A0 c2 c0 _ HO2e.out.tilesAt HO0e.out.tilesAt (by have := HL.out; omega) (by have := HL.out; omega)).mono ?_
  rintro e w7 ⟨rfl, hb7⟩
  rw [HE.out]
  have q2f := Lib.hid (Q2e.out.under hb7)
  have HM7 := Lib.hid (HM6.out.below hb7)
  have HMR7 := Lib.hid (HMR6.out.below hb7)
  have HR2f := Lib.hid (HR2e.out.below hb7)
  have HR0f := Lib.hid (HR0e.out.below hb7)
  have HB7 := Lib.hid (HB6.out.trans (hb7.mono HB6.out.size))
  clear y0 y1 z0 z1 hb7
  go_wp2_with fail
  refine (eqInt64S_c rr rr AR2 AR0 cR2 cR0 w7 HR2f.out.cells HR0f.out.cells (by have := HR.out; omega) (by have := HR.out; omega)).mono ?_
  rintro e w7b ⟨rfl, hb7⟩
  rw [HE2.out]
  have q2g := Lib.hid (q2f.out.under hb7)
  have HM7b := Lib.hid (HM7.out.below hb7)
  have HMR7b := Lib.hid (HMR7.out.below hb7)
  have HB7b := Lib.hid (HB7.out.trans (hb7.mono HB7.out.size))
  clear hb7
  have z0 := q2g.out.cell 0 (by simp)
  have z1 := q2g.out.cell 1 (by simp)
  simp only [List.getElem_cons_zero, List.getElem_cons_succ] at z0 z1
  go_wp2_with fail
  refine (heldS_c c ts.length _ 1 _ w7b HM7b.out (by have := HL.out; omega) (by omega)).mono ?_
  rintro e w8 ⟨rfl, hb8⟩
  have HMR8 := Lib.hid (HMR7b.out.below hb8)
  have HB8 := Lib.hid (HB7b.out.trans (hb8.mono HB7b.out.size))
  clear z0 z1 hb8
  have hmc := HMR8.out.cells
  go_wp2_with fail
  refine (heldInt64S_c AR1 (1 + ts.length * 4) rr.length cR1 w8 hmc (by have := HR.out; omega) (by have := HL.out; omega)).mono ?_
  rintro e w8b ⟨rfl, rfl⟩
  have hn2 : (((1 + ts.length * 4 + rr.length : Nat) : Int) != ((1 + ts.length * 4 + rr.length : Nat) : Int)) = false := by simp
  clear hmc
  go_wp2
  go_ret
  exact ⟨rfl, HB8.out⟩

end Go.Proofs.Ytfkmophmiiehlaa
