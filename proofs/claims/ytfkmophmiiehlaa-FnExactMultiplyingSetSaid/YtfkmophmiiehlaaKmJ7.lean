/- Contracts and lemmas for the statements of this seat, written for this claim; each theorem states its own conditions. -/
import Derived.Test.YtfkmophmiiehlaaKmJ6
set_option linter.unusedVariables false
set_option linter.unusedSimpArgs false
namespace Go.Proofs.Ytfkmophmiiehlaa
open Go.RowKit
theorem Blk.grownB {w w' : World} {b : Nat} {cs : List Value} {T : TypeId} {row : Option Nat} (h : Blk w b cs T) (hg : w.grownBy w' row) (hne : row ≠ some b) : Blk w' b cs T := (hg.block b h.lt (fun e => hne e.symm)).trans h
theorem OwnT.grown {w w1 : World} {B : Nat} {v : Value} {ts : List T4} {row : Option Nat} (h : OwnT w B v ts) (hg : w.grownBy w1 row) (hne : v.ownBlock = none ∨ v.ownBlock ≠ row) : OwnT w1 B v ts := World.ownsRow.kept h hg hne
theorem OwnT.blt {w : World} {B : Nat} {v : Value} {ts : List T4} (h : OwnT w B v ts) : ∀ k, v.ownBlock = some k → B ≤ k ∧ k < w.heap.size := fun k hk => World.ownsRow.lt h k hk
theorem OwnT.tilesAt {w : World} {B n cx : Nat} {A : Option Addr} {ts : List T4} (h : OwnT w B (.slice A n cx) ts) : TileCells w A ts := by
  obtain ⟨A', cx', e, hT⟩ := h.tiles
  injection e with a1 a2 a3
  subst a1
  exact hT
set_option maxRecDepth 100000 in
set_option maxHeartbeats 1000000 in
theorem law_MultiplyingSet (p q m n u v : Int) (w : World) :
    Calls Try.prog 6 #[.int .i64 p, .int .i64 q, .int .i64 m, .int .i64 n, .int .i64 u, .int .i64 v] w fun e w' => e = .returned (.bool true) ∧ Below w.heap.size w w' := by
  have HS := Lib.hid (fun w => specMultiplyingSet_c p q m n u v w)
  have HI := Lib.hid (fun w => implMultiplyingSet_c p q m n u v w)
  have hl : (msSet p q m n u v).length ≤ 1000 := by
    unfold msSet mSet
    split
    · split
      · have := setT_take_len (mTiles p q m n u v); omega
      · simp
    · simp
  have HL := Lib.hid hl
  clear hl
  generalize msCol p q m n u v = c at *
  generalize msSet p q m n u v = ts at *
  generalize msCode p q m n u v = kk at *
  have HE : Hid (eqS c ts c ts = true) := by show _ = _; simp [eqS, eqTs]
  go_enter Try.func6, Try.ntmps6
  go_wp2_with fail
  refine (HS.out _).mono ?_
  rintro e w1 ⟨A0, c0, rfl, hO0, hb1⟩
  have HO0 := Lib.hid hO0
  have HB1 := Lib.hid hb1
  have HT0 := Lib.hid hO0.tilesAt
  have q0 := Lib.hid (Blk.newA w1 #[.int .i64 c, .slice A0 ts.length c0] 31)
  clear hO0 hb1
  go_wp2_with fail
  refine (HI.out _).mono ?_
  rintro e w2 ⟨A1, c1, rfl, hO1, hb2⟩
  have HO1 := Lib.hid hO1
  have HB2 := Lib.hid hb2
  have q1 := Lib.hid ((q0.out.under hb2).alloc (.cells #[.int .i64 c, .slice A1 ts.length c1] 31))
  have q2 := Lib.hid (Blk.newA w2 #[.int .i64 c, .slice A1 ts.length c1] 31)
  have HO1' := Lib.hid (hO1.alloc (.cells #[.int .i64 c, .slice A1 ts.length c1] 31))
  have HO0' := Lib.hid (((HO0.out.alloc (.cells #[.int .i64 c, .slice A0 ts.length c0] 31)).below hb2).alloc (.cells #[.int .i64 c, .slice A1 ts.length c1] 31))
  have HB3 : Hid (Below w.heap.size w (w2.alloc (.cells #[.int .i64 c, .slice A1 ts.length c1] 31))) := by
    show Below _ _ _
    have hb1 := HB1.out
    (repeat (first | (with_reducible exact Below.refl _ _) | (with_reducible assumption) | (with_reducible refine below_al ?_) | (with_reducible refine below_dr ?_) | (with_reducible refine below_drN ?_) | (with_reducible refine below_set ?_ (by first | exact Nat.le_refl _ | (dsimp only; omega) | omega)) | (with_reducible refine below_tr (by with_reducible assumption) ?_)))
  have hs12 : w1.heap.size < w2.heap.size := by have := hb2.size; simp at this; omega
  have HS12 := Lib.hid hs12
  clear hO1 hb2 hs12
  have y0 := q1.out.cell 0 (by simp)
  have y1 := q1.out.cell 1 (by simp)
  have z0 := q2.out.cell 0 (by simp)
  have z1 := q2.out.cell 1 (by simp)
  simp only [List.getElem_cons_zero, List.getElem_cons_succ] at y0 y1 z0 z1
  have hn1 : (kk != kk) = false := by simp
  go_wp2_with fail
  refine (eqSet_c c c ts ts A1 A0 c1 c0 _ HO1'.out.tilesAt HO0'.out.tilesAt (by have := HL.out; omega) (by have := HL.out; omega)).mono ?_
  rintro e w3 ⟨rfl, hb3⟩
  rw [HE.out]
  clear y0 y1 z0 z1
  have q1b := Lib.hid (q1.out.under hb3)
  have q2b := Lib.hid (q2.out.under hb3)
  have HO1b := Lib.hid (HO1'.out.below hb3)
  have HO0b := Lib.hid (HO0'.out.below hb3)
  have HB3b := Lib.hid (HB3.out.trans (hb3.mono HB3.out.size))
  have hs13 := Lib.hid (show w2.heap.size < w3.heap.size by have := hb3.size; simp at this; omega)
  clear hb3
  have z0 := q2b.out.cell 0 (by simp)
  have z1 := q2b.out.cell 1 (by simp)
  simp only [List.getElem_cons_zero, List.getElem_cons_succ] at z0 z1
  go_wp2_with fail
  refine (markS_c c ts.length (tcells ts) _ 1 _ w3 HO1b.out.toC (by have := HL.out; omega) (by omega)).mono ?_
  rintro e w4 ⟨rfl, hm, hg⟩
  clear z0 z1
  have hv := HO1b.out.blt
  have hv0 := HO0b.out.blt
  have HM4 := Lib.hid hm
  have hbl1 : ∀ k, Value.ownBlock (.slice A1 ts.length c1) = some k → w1.heap.size < k ∧ k < w2.heap.size := fun k hk => ⟨by have := (hv k hk).1; simp at this; omega, (HO1.out.blt k hk).2⟩
  have hbl0 : ∀ k, Value.ownBlock (.slice A0 ts.length c0) = some k → k < w1.heap.size := fun k hk => (HO0.out.blt k hk).2
  have q1c := Lib.hid (q1b.out.grownB hg (fun h => by have := hbl1 _ h; omega))
  have q2c := Lib.hid (q2b.out.grownB hg (fun h => by have := hbl1 _ h; omega))
  have HO0c := Lib.hid (HO0b.out.grown hg (by
    cases h0 : Value.ownBlock (.slice A0 ts.length c0) with
    | none => exact .inl rfl
    | some k => exact .inr (fun h => by have a := hbl0 k h0; have b := hbl1 k h.symm; omega)))
  have HB4 := Lib.hid (HB3b.out.grown hg HB3b.out.size (fun k hk => by have a := hbl1 k hk; have b := HB1.out.size; omega))
  have HBL := Lib.hid hbl1
  clear hg hm hv hv0 hbl1 hbl0
  have z0 := q2c.out.cell 0 (by simp)
  have z1 := q2c.out.cell 1 (by simp)
  simp only [List.getElem_cons_zero, List.getElem_cons_succ] at z0 z1
  go_wp2_with fail
  refine (heldS_c c ts.length _ 1 _ w4 HM4.out (by have := HL.out; omega) (by omega)).mono ?_
  rintro e w5 ⟨rfl, hb5⟩
  have q1d := Lib.hid (q1c.out.under hb5)
  have q2d := Lib.hid (q2c.out.under hb5)
  have HO0d := Lib.hid (HO0c.out.below hb5)
  have HM5 := Lib.hid (HM4.out.below hb5)
  have HB5 := Lib.hid (HB4.out.trans (hb5.mono HB4.out.size))
  clear hb5 z0 z1
  have hn2 : (((1 + ts.length * 4 : Nat) : Int) != ((1 + ts.length * 4 : Nat) : Int)) = false := by simp
  go_wp2_with fail
  refine (HI.out _).mono ?_
  rintro e w6 ⟨A2, c2, rfl, hO2, hb6⟩
  have q1e := (q1d.out.under hb6).alloc (.cells #[.int .i64 c, .slice A2 ts.length c2] 31)
  have q2e := (q2d.out.under hb6).alloc (.cells #[.int .i64 c, .slice A2 ts.length c2] 31)
  have q3e := Blk.newA w6 #[.int .i64 c, .slice A2 ts.length c2] 31
  have Q2e := Lib.hid q2e
  have HO2e := Lib.hid (hO2.alloc (.cells #[.int .i64 c, .slice A2 ts.length c2] 31))
  have HO0e := Lib.hid ((HO0d.out.below hb6).alloc (.cells #[.int .i64 c, .slice A2 ts.length c2] 31))
  have HM6 := Lib.hid ((HM5.out.below hb6).below ((Below.refl _ _).alloc (Nat.le_refl _) (.cells #[.int .i64 c, .slice A2 ts.length c2] 31)))
  have HB6 := Lib.hid ((HB5.out.trans (hb6.mono HB5.out.size)).alloc (by have := HB5.out.size; have := hb6.size; omega) (.cells #[.int .i64 c, .slice A2 ts.length c2] 31))
  have y0 := q1e.cell 0 (by simp)
  have y1 := q1e.cell 1 (by simp)
  have z0 := q3e.cell 0 (by simp)
  have z1 := q3e.cell 1 (by simp)
  simp only [List.getElem_cons_zero, List.getElem_cons_succ] at y0 y1 z0 z1
  clear q1e q2e q3e hO2 hb6 hn2
  go_wp2_with fail
  refine (eqSet_c c c ts ts A2 A0 c2 c0 _ HO2e.out.tilesAt HO0e.out.tilesAt (by have := HL.out; omega) (by have := HL.out; omega)).mono ?_
  rintro e w7 ⟨rfl, hb7⟩
  rw [HE.out]
  have q2f := Q2e.out.under hb7
  have HM7 := Lib.hid (HM6.out.below hb7)
  have HB7 := Lib.hid (HB6.out.trans (hb7.mono HB6.out.size))
  clear y0 y1 z0 z1 hb7
  have z0 := q2f.cell 0 (by simp)
  have z1 := q2f.cell 1 (by simp)
  simp only [List.getElem_cons_zero, List.getElem_cons_succ] at z0 z1
  clear q2f
  go_wp2_with fail
  refine (heldS_c c ts.length _ 1 _ w7 HM7.out (by have := HL.out; omega) (by omega)).mono ?_
  rintro e w8 ⟨rfl, hb8⟩
  have hn2 : (((1 + ts.length * 4 : Nat) : Int) != ((1 + ts.length * 4 : Nat) : Int)) = false := by simp
  clear z0 z1
  go_wp2
  go_ret
  exact ⟨rfl, HB7.out.trans (hb8.mono HB7.out.size)⟩

end Go.Proofs.Ytfkmophmiiehlaa
