/- Contracts and lemmas for the statements of this seat, written for this claim; each theorem states its own conditions. -/
import Derived.Test.YtkoocppchclalaaIv2IvS
set_option linter.unusedVariables false
set_option linter.unusedSimpArgs false
namespace Go.Proofs.Ytkoocppchclalaa
open Go.RowKit
theorem own_apart {w1 w2 : World} {B : Nat} {v u : Value} {xs ys : List Int} (hv : OwnI w1 B v xs) (hu : OwnI w2 w1.heap.size u ys) : (v.ownBlock = none ∨ v.ownBlock ≠ u.ownBlock) ∧ (u.ownBlock = none ∨ u.ownBlock ≠ v.ownBlock) := by
  cases e1 : v.ownBlock with
  | none => exact ⟨.inl rfl, by cases e2 : u.ownBlock with | none => exact .inl rfl | some k => exact .inr (by simp)⟩
  | some j =>
    cases e2 : u.ownBlock with
    | none => exact ⟨.inr (by simp), .inl rfl⟩
    | some k =>
      have h1 := (World.ownsRow.lt hv j e1).2
      have h2 := (World.ownsRow.lt hu k e2).1
      exact ⟨.inr (by simp; omega), .inr (by simp; omega)⟩
theorem apart_symm {v u : Value} (h : v.ownBlock = none ∨ v.ownBlock ≠ u.ownBlock) : u.ownBlock = none ∨ u.ownBlock ≠ v.ownBlock := by
  cases e2 : u.ownBlock with
  | none => exact .inl rfl
  | some k => rcases h with h | h
              · exact .inr (by rw [h]; simp)
              · exact .inr (by rw [e2] at h; exact fun e => h e.symm)
theorem Cells.of {w : World} {B n cx : Nat} {A : Option Addr} {xs : List Int} (h : OwnI w B (.slice A n cx) xs) : Cells w A (ints xs) := h.cells
set_option maxRecDepth 100000 in
set_option maxHeartbeats 1000000 in
theorem law_IntervalOf (xs : List Int) (A : Option Addr) (cx : Nat) (w : World) (hX : Cells w A (ints xs)) (hl : xs.length ≤ 9223372036854775807) :
    Calls Try.prog 5 #[.slice A xs.length cx] w fun e w' => e = .returned (.bool true) ∧ Below w.heap.size w w' := by
  have HX := Lib.hid hX
  clear hX
  by_cases hbig : (1048576 : Int) < xs.length
  · go_enter Try.func5, Try.ntmps5
    go_wp2
    go_ret
    exact ⟨rfl, Below.refl _ _⟩
  have hl' : xs.length ≤ 1048576 := by omega
  have HT := Lib.hid (fun w h => toInt64S_c xs A cx w h hl')
  have HS := Lib.hid (fun A cx w h => specIntervalOf_c xs A cx w h hl')
  have HI := Lib.hid (fun A cx w h => implIntervalOf_c xs A cx w h hl')
  have L1 := ivLo_len xs
  have L2 := ivHi_len xs
  generalize ivLo xs = lo at *
  generalize ivHi xs = hi at *
  generalize ivCode xs = c at *
  have hcc : (c != c) = false := by simp
  have hmm : (((1 + lo.length + hi.length : Nat) : Int) != ((1 + lo.length + hi.length : Nat) : Int)) = false := by simp
  go_enter Try.func5, Try.ntmps5
  go_wp2_with fail
  refine (HT.out _ HX.out).mono ?_
  rintro e w1 ⟨c1, rfl, O1, hb1⟩
  obtain ⟨A1, k1, rfl, C1, _⟩ := O1.shape
  go_wp2_with fail
  refine (HS.out _ _ _ C1).mono ?_
  rintro e w2 ⟨v, u, rfl, Ov, Ou, _, hb2⟩
  obtain ⟨Av, kv, rfl, Cv, _⟩ := Ov.shape
  obtain ⟨Au, ku, rfl, Cu, _⟩ := Ou.shape
  have hw2 : Below w.heap.size w w2 := by (repeat (first | (with_reducible exact Below.refl _ _) | (with_reducible assumption) | (with_reducible refine below_al ?_) | (with_reducible refine below_dr ?_) | (with_reducible refine below_drN ?_) | (with_reducible refine below_set ?_ (by first | exact Nat.le_refl _ | (dsimp only; omega) | omega)) | (with_reducible refine below_tr (by with_reducible assumption) ?_)))
  go_wp2_with fail
  refine (HT.out _ (HX.out.below hw2)).mono ?_
  rintro e w3 ⟨c2, rfl, O2, hb3⟩
  obtain ⟨A2, k2, rfl, C2, _⟩ := O2.shape
  go_wp2_with fail
  refine (HI.out _ _ _ C2).mono ?_
  rintro e w4 ⟨g, h, rfl, Og, Oh, hgh, hb4⟩
  have ag := own_apart O2 Og
  have ah := own_apart O2 Oh
  have av := own_apart Ov O2
  have au := own_apart Ou O2
  have hg0 := own_apart Ov (B := w1.heap.size) (Og.weaken hb3.size)
  have hg1 := own_apart Ou (B := w1.heap.size) (Og.weaken hb3.size)
  have hh0 := own_apart Ov (B := w1.heap.size) (Oh.weaken hb3.size)
  have hh1 := own_apart Ou (B := w1.heap.size) (Oh.weaken hb3.size)
  obtain ⟨Ag, kg, rfl, Cg, _⟩ := Og.shape
  obtain ⟨Ah, kh, rfl, Ch, _⟩ := Oh.shape
  have hw4 : Below w2.heap.size w2 w4 := by (repeat (first | (with_reducible exact Below.refl _ _) | (with_reducible assumption) | (with_reducible refine below_al ?_) | (with_reducible refine below_dr ?_) | (with_reducible refine below_drN ?_) | (with_reducible refine below_set ?_ (by first | exact Nat.le_refl _ | (dsimp only; omega) | omega)) | (with_reducible refine below_tr (by with_reducible assumption) ?_)))
  replace Ov := Ov.below hw4
  replace Ou := Ou.below hw4
  replace O2 := O2.below hb4
  have hw4' : Below w.heap.size w w4 := by (repeat (first | (with_reducible exact Below.refl _ _) | (with_reducible assumption) | (with_reducible refine below_al ?_) | (with_reducible refine below_dr ?_) | (with_reducible refine below_drN ?_) | (with_reducible refine below_set ?_ (by first | exact Nat.le_refl _ | (dsimp only; omega) | omega)) | (with_reducible refine below_tr (by with_reducible assumption) ?_)))
  have s1 : w.heap.size ≤ w1.heap.size := hb1.size
  have s2 : w1.heap.size ≤ w2.heap.size := hb2.size
  have s3 : w2.heap.size ≤ w3.heap.size := hb3.size
  clear hb1 hb2 hb3 hb4 hw2 hw4 O1 C1 Cv Cu C2 Cg Ch
  go_wp2_with fail
  refine (eqInt64S_c lo lo Ag Av kg kv w4 Og.cells Ov.cells (by omega) (by omega)).mono ?_
  rintro e w5 ⟨rfl, hb5⟩
  rw [eqI_refl]
  go_wp2_with fail
  refine (eqInt64S_c hi hi Ah Au kh ku w5 (Oh.below hb5).cells (Ou.below hb5).cells (by omega) (by omega)).mono ?_
  rintro e w6 ⟨rfl, hb6⟩
  rw [eqI_refl]
  have hw6 : Below w.heap.size w w6 := by (repeat (first | (with_reducible exact Below.refl _ _) | (with_reducible assumption) | (with_reducible refine below_al ?_) | (with_reducible refine below_dr ?_) | (with_reducible refine below_drN ?_) | (with_reducible refine below_set ?_ (by first | exact Nat.le_refl _ | (dsimp only; omega) | omega)) | (with_reducible refine below_tr (by with_reducible assumption) ?_)))
  go_wp2_with fail
  refine (HT.out _ (HX.out.below hw6)).mono ?_
  rintro e w7 ⟨c3, rfl, O3, hb7⟩
  obtain ⟨A3, k3, rfl, C3, _⟩ := O3.shape
  go_wp2_with fail
  refine (eqInt64S_c xs xs A2 A3 k2 k3 w7 (((O2.below hb5).below hb6).below hb7).cells O3.cells (by omega) (by omega)).mono ?_
  rintro e w8 ⟨rfl, hb8⟩
  rw [eqI_refl]
  clear hw6
  have hw8 : Below w4.heap.size w4 w8 := by (repeat (first | (with_reducible exact Below.refl _ _) | (with_reducible assumption) | (with_reducible refine below_al ?_) | (with_reducible refine below_dr ?_) | (with_reducible refine below_drN ?_) | (with_reducible refine below_set ?_ (by first | exact Nat.le_refl _ | (dsimp only; omega) | omega)) | (with_reducible refine below_tr (by with_reducible assumption) ?_)))
  replace Ov := Ov.below hw8
  replace Ou := Ou.below hw8
  replace Og := Og.below hw8
  replace Oh := Oh.below hw8
  replace O2 := O2.below hw8
  have hw8' : Below w.heap.size w w8 := hw4'.trans (hw8.mono hw4'.size)
  clear hb5 hb6 hb7 hb8 O3 C3 hw8 hw4'
  go_wp2_with fail
  refine (markInt64S_c _ xs 1 w2.heap.size w8 O2 (by omega) (by omega)).mono ?_
  rintro e w9 ⟨rfl, -, hg9⟩
  have hw9 : Below w.heap.size w w9 := below_grown hw8' hg9 O2 (by omega)
  replace Ov := Ov.grown hg9 av.1
  replace Ou := Ou.grown hg9 au.1
  replace Og := Og.grown hg9 ag.2
  replace Oh := Oh.grown hg9 ah.2
  clear O2 hw8' hg9 av au ag ah
  go_wp2_with fail
  refine (eqInt64S_c lo lo Ag Av kg kv w9 Og.cells Ov.cells (by omega) (by omega)).mono ?_
  rintro e w10 ⟨rfl, hb10⟩
  rw [eqI_refl]
  go_wp2_with fail
  refine (eqInt64S_c hi hi Ah Au kh ku w10 (Oh.below hb10).cells (Ou.below hb10).cells (by omega) (by omega)).mono ?_
  rintro e w11 ⟨rfl, hb11⟩
  rw [eqI_refl]
  have hx11 : Below w9.heap.size w9 w11 := by (repeat (first | (with_reducible exact Below.refl _ _) | (with_reducible assumption) | (with_reducible refine below_al ?_) | (with_reducible refine below_dr ?_) | (with_reducible refine below_drN ?_) | (with_reducible refine below_set ?_ (by first | exact Nat.le_refl _ | (dsimp only; omega) | omega)) | (with_reducible refine below_tr (by with_reducible assumption) ?_)))
  replace Ov := Ov.below hx11
  replace Ou := Ou.below hx11
  replace Og := Og.below hx11
  replace Oh := Oh.below hx11
  have hw11 : Below w.heap.size w w11 := hw9.trans (hx11.mono hw9.size)
  clear hb10 hb11 hx11 hw9
  go_wp2_with fail
  refine (markInt64S_c _ lo 1 w3.heap.size w11 Og (by omega) (by omega)).mono ?_
  rintro e w12 ⟨rfl, Mg, hg12⟩
  have hw12 : Below w.heap.size w w12 := below_grown hw11 hg12 Og (by omega)
  replace Ov := Ov.grown hg12 hg0.1
  replace Ou := Ou.grown hg12 hg1.1
  replace Oh := Oh.grown hg12 (apart_symm hgh)
  clear Og hg12 hw11
  go_wp2_with fail
  refine (markInt64S_c _ hi (1 + lo.length) w3.heap.size w12 Oh (by omega) (by omega)).mono ?_
  rintro e w13 ⟨rfl, Mh, hg13⟩
  have hw13 : Below w.heap.size w w13 := below_grown hw12 hg13 Oh (by omega)
  replace Ov := Ov.grown hg13 hh0.1
  replace Ou := Ou.grown hg13 hh1.1
  replace Mg := Mg.grown hg13 hgh
  clear Oh hg13 hw12
  go_wp2_with fail
  refine (heldInt64S_c Ag 1 lo.length kg w13 Mg.cells (by omega) (by omega)).mono ?_
  rintro e wx ⟨rfl, rfl⟩
  go_wp2_with fail
  refine (heldInt64S_c Ah (1 + lo.length) hi.length kh w13 Mh.cells (by omega) (by omega)).mono ?_
  rintro e wx ⟨rfl, rfl⟩
  go_wp2_with fail
  refine (HT.out _ (HX.out.below hw13)).mono ?_
  rintro e w14 ⟨c3, rfl, O3, hb14⟩
  obtain ⟨A3, k3, rfl, C3, _⟩ := O3.shape
  go_wp2_with fail
  refine (HI.out _ _ _ C3).mono ?_
  rintro e w15 ⟨g', h', rfl, Og', Oh', _, hb15⟩
  obtain ⟨Ag', kg', rfl, Cg', _⟩ := Og'.shape
  obtain ⟨Ah', kh', rfl, Ch', _⟩ := Oh'.shape
  have hx15 : Below w13.heap.size w13 w15 := by (repeat (first | (with_reducible exact Below.refl _ _) | (with_reducible assumption) | (with_reducible refine below_al ?_) | (with_reducible refine below_dr ?_) | (with_reducible refine below_drN ?_) | (with_reducible refine below_set ?_ (by first | exact Nat.le_refl _ | (dsimp only; omega) | omega)) | (with_reducible refine below_tr (by with_reducible assumption) ?_)))
  replace Ov := Ov.below hx15
  replace Ou := Ou.below hx15
  replace Mg := Mg.below hx15
  replace Mh := Mh.below hx15
  have hw15 : Below w.heap.size w w15 := hw13.trans (hx15.mono hw13.size)
  clear hb14 hb15 hx15 hw13 O3 C3 Cg' Ch'
  go_wp2_with fail
  refine (eqInt64S_c lo lo Ag' Av kg' kv w15 Og'.cells Ov.cells (by omega) (by omega)).mono ?_
  rintro e w16 ⟨rfl, hb16⟩
  rw [eqI_refl]
  go_wp2_with fail
  refine (eqInt64S_c hi hi Ah' Au kh' ku w16 (Oh'.below hb16).cells (Ou.below hb16).cells (by omega) (by omega)).mono ?_
  rintro e w17 ⟨rfl, hb17⟩
  rw [eqI_refl]
  go_wp2_with fail
  refine (heldInt64S_c Ag 1 lo.length kg w17 ((Mg.below hb16).below hb17).cells (by omega) (by omega)).mono ?_
  rintro e wx ⟨rfl, rfl⟩
  go_wp2_with fail
  refine (heldInt64S_c Ah (1 + lo.length) hi.length kh w17 ((Mh.below hb16).below hb17).cells (by omega) (by omega)).mono ?_
  rintro e wx ⟨rfl, rfl⟩
  go_wp2
  go_ret
  exact ⟨rfl, by (repeat (first | (with_reducible exact Below.refl _ _) | (with_reducible assumption) | (with_reducible refine below_al ?_) | (with_reducible refine below_dr ?_) | (with_reducible refine below_drN ?_) | (with_reducible refine below_set ?_ (by first | exact Nat.le_refl _ | (dsimp only; omega) | omega)) | (with_reducible refine below_tr (by with_reducible assumption) ?_)))⟩

end Go.Proofs.Ytkoocppchclalaa
