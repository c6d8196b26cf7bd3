/- Contracts and lemmas for the statements of this seat, written for this claim; each theorem states its own conditions. -/
import Derived.BigQuiet
import Derived.Test.YtfkmophmiiehlaaKbN2
set_option linter.unusedVariables false
set_option linter.unusedSimpArgs false
namespace Go.Proofs.Ytfkmophmiiehlaa
open Go.RowKit
theorem RowsP.at_ {w : World} {R : Option Addr} {L : List (List P2)} (h : RowsP w R L) (y : Nat) (hy : y < L.length) : ∃ b off A cx, R = some ⟨b, off, none⟩ ∧ b < w.heap.size ∧ w.cell? ⟨b, off + y, none⟩ = some (.slice A (L.getD y []).length cx) ∧ PCells w A (L.getD y []) := by
  have e : L.getD y [] = L[y] := by simp [hy]
  rw [e]
  exact h y hy
theorem PCells.at_ {w : World} {A : Option Addr} {L : List (List P2)} {y x : Nat} (h : PCells w A (L.getD y [])) (hx : x < (L.getD y []).length) : ∃ b off, A = some ⟨b, off, none⟩ ∧ b < w.heap.size ∧ w.cell? ⟨b, off + x * 2, none⟩ = some (.int .i64 (cellP L y x).t) ∧ w.cell? ⟨b, off + x * 2 + 1, none⟩ = some (.int .i64 (cellP L y x).n) := by
  obtain ⟨b, off, e, hl, h0, h1⟩ := h x hx
  unfold cellP
  rw [getDP hx]
  exact ⟨b, off, e, hl, h0, h1⟩
theorem okA_parts {ts : List T4} {L : List (List P2)} {y x : Nat} (h : okA ts L y x = true) : ∃ t n : Nat, (cellP L y x).t = (t : Int) ∧ (cellP L y x).n = (n : Int) ∧ t < ts.length ∧ n ≤ 3 ∧ ((bef L y x).any fun q => q.t == (cellP L y x).t) = false ∧ tileAt ts (cellP L y x) = turnN (ts.getD t default) n := by
  unfold okA at h
  simp only [Bool.and_eq_true, inR_iff, Bool.not_eq_true'] at h
  obtain ⟨⟨h1, h2⟩, ⟨h3, h4⟩, h5⟩ := h
  refine ⟨(cellP L y x).t.toNat, (cellP L y x).n.toNat, by omega, by omega, by omega, by omega, h5, rfl⟩
theorem OwnTT.frb {w w' : World} {B g B' : Nat} {v : Value} {L : List (List T4)} (h : OwnTT w B v L) (f : FrB B' g w w') (hg : g < B) (hB : w.heap.size ≤ B') : OwnTT w' B v L := by
  obtain ⟨vs, h1, h2, h3, h4⟩ := h
  have hl : vs.length = L.length := by have := h1.1; omega
  refine ⟨vs, ownsRow_same h1 fun k hk => f.block k ?_ ?_, fun i hi hi' => ownsRow_same (h2 i hi hi') fun k hk => f.block k ?_ ?_, h3, h4⟩
  · have := (World.ownsRow.lt h1 k hk).2; omega
  · have := (World.ownsRow.lt h1 k hk).1; omega
  · have := (World.ownsRow.lt (h2 i hi hi') k hk).2; omega
  · have := (World.ownsRow.lt (h2 i hi hi') k hk).1; omega
theorem madeB (n : Nat) : (madeCells #[Value.bool false] n).toList = bcells (List.replicate n false) := by
  rw [toList_madeCells_one]; simp [bcells]
theorem grid_row {w : World} {AT : Option Addr} {ts : List T4} {L : List (List P2)} {y wd : Nat} {G : List (List T4)} (hTT : RowsT w AT G) (hy : y < G.length) (hG : G[y] = rowG ts L y wd) (hr : (L.getD y []).length = wd) :
    ∃ b off A cx, AT = some ⟨b, off, none⟩ ∧ b < w.heap.size ∧ w.cell? ⟨b, off + y, none⟩ = some (.slice A wd cx) ∧ ∀ x, x < wd → ∃ b' o', A = some ⟨b', o', none⟩ ∧ b' < w.heap.size ∧
      w.cell? ⟨b', o' + x * 4, none⟩ = some (.int .i64 (tileAt ts (cellP L y x)).a) ∧ w.cell? ⟨b', o' + x * 4 + 1, none⟩ = some (.int .i64 (tileAt ts (cellP L y x)).b) ∧ w.cell? ⟨b', o' + x * 4 + 2, none⟩ = some (.int .i64 (tileAt ts (cellP L y x)).c) ∧ w.cell? ⟨b', o' + x * 4 + 3, none⟩ = some (.int .i64 (tileAt ts (cellP L y x)).d) := by
  obtain ⟨b, off, A, cx, e, hlt, hc, hT⟩ := hTT y hy
  rw [hG] at hc hT
  have hl : (rowG ts L y wd).length = wd := rowG_len (by rw [hr]; exact Nat.le_refl _)
  rw [hl] at hc
  refine ⟨b, off, A, cx, e, hlt, hc, fun x hx => ?_⟩
  obtain ⟨b', o', e', hlt', c0, c1, c2, c3⟩ := hT x (by rw [hl]; exact hx)
  rw [rowG_get] at c0 c1 c2 c3
  exact ⟨b', o', e', hlt', c0, c1, c2, c3⟩
set_option maxRecDepth 100000 in
set_option maxHeartbeats 1000000 in
theorem l07Is_c (ts : List T4) (A : Option Addr) (cx : Nat) (b : Int) (L : List (List P2)) (R : Option Addr) (cR : Nat) (w : World) (hT : TileCells w A ts) (hl : ts.length ≤ 6) (hR : RowsP w R L) (hL : L.length ≤ 1048576) (hS : shapeP L = true) (hW : wid L ≤ 1048576) :
    Calls Try.prog 62 #[.slice A ts.length cx, .int .i64 b, .slice R L.length cR] w fun e w' => e = .returned (.bool (boardB ts b L)) ∧ Below w.heap.size w w' := by
  obtain ⟨h0, h1, hall⟩ := shape_row hS
  have HA := Lib.hid hall
  have HR := Lib.hid hR
  have HT := Lib.hid hT
  obtain ⟨bR, oR, A1, c1, rfl, hlt, hc, hr⟩ := hR.at_ 0 h0
  rw [hall 0 h0] at hc
  simp only [Nat.add_zero] at hc
  clear hr hR hall hS
  obtain ⟨M, hM⟩ : ∃ M : Nat, M = L.length * wid L := ⟨_, rfl⟩
  have hM2 : M ≤ 1048576 * 1048576 := by rw [hM]; exact Nat.mul_le_mul hL hW
  have em : IntKind.i64.wrap ((L.length : Int) * (wid L : Int)) = (M : Int) := by
    rw [show ((L.length : Int) * (wid L : Int)) = (M : Int) by rw [hM]; simp]
    exact IntWalk.i64_in _ (by omega)
  have HM := Lib.hid hM
  have HBd : Hid (boardB ts b L = decide (L.length * wid L = ts.length ∧ ∀ y, y < L.length → ∀ x, x < wid L → okA ts L y x = true ∧ okF ts b L y x = true)) := rfl
  have HBad := Lib.hid (fun y x (hy : y < L.length) (hx : x < wid L) h => boardB_bad (ts := ts) (b := b) hy hx h)
  have hmk := make_b ts.length (by omega)
  clear hM hT
  generalize hh : L.length = h at *
  generalize hwd : wid L = wd at *
  have Hh := Lib.hid hh
  have Hwd := Lib.hid hwd
  clear hh hwd
  by_cases hMt : M = ts.length
  · have hne : ((M : Int) != (ts.length : Int)) = false := by simp [hMt]
    have HMt := Lib.hid hMt
    clear hMt
    go_enter Try.func62, Try.ntmps62
    go_wp2_with fail
    go_quiet (fail)
    go_wp2_with fail
    have hba : Below w.heap.size w (w.drewN nq) := below_drN (Below.refl _ _)
    obtain ⟨wA, hwA⟩ : ∃ wA, (w.drewN nq).alloc (.cells (madeCells #[Value.bool false] ts.length) 4) = wA := ⟨_, rfl⟩
    have hA1 : wA.heap.size = w.heap.size + 1 := by rw [← hwA]; simp
    have hA2 : Below w.heap.size w wA := by rw [← hwA]; exact below_al hba
    have hA3 : Blk wA w.heap.size (bcells (metL ts L 0 0)) 4 := by
      rw [← hwA, metL_zero, ← madeB]
      exact Blk.newA (w.drewN nq) _ _
    rw [hwA]
    clear hwA hba
    have HA1 := Lib.hid hA1
    have HA2 := Lib.hid hA2
    have HA3 := Lib.hid hA3
    clear hA1 hA2 hA3
    go_loopw [10, 11] (fun v yv wr => ∃ y : Nat, y ≤ h ∧ yv = .int .i64 y ∧ Hid (OwnTT wr (w.heap.size + 1) v (gridG ts L y)) ∧ Hid (Blk wr w.heap.size (bcells (metL ts L y 0)) 4) ∧ Hid (∀ y', y' < y → ∀ x, x < wd → okA ts L y' x = true) ∧ Hid (Below w.heap.size w wr)) (fun _ yv _ => h - (intOf yv).toNat)
    case atStart =>
      refine ⟨0, by omega, rfl, ?_, HA3.out.alloc _, fun y' hy => by omega, by show Below _ _ _; exact below_al HA2.out⟩
      show OwnTT _ _ _ _
      exact OwnTT.empty HA1.out (by rw [HA1.out]; exact Nat.le_refl _)
    case round =>
      obtain ⟨y, hy, rfl, HO, HB, HN, HW⟩ := hrel
      by_cases hyh : y < h
      · have hyL : y < L.length := by rw [Hh.out]; exact hyh
        have hrl := HA.out y hyh
        have HRL := Lib.hid hrl
        clear hrl
        obtain ⟨w0, rfl⟩ : ∃ w0, w0 = wr := ⟨wr, rfl⟩
        have hgw : w.heap.size < w0.heap.size := HB.out.lt
        have HGW := Lib.hid hgw
        clear hgw
        go_wp2_with fail
        go_loopw [12, 13] (fun v xv wi => ∃ x : Nat, x ≤ wd ∧ xv = .int .i64 x ∧ Hid (OwnT wi w0.heap.size v (rowG ts L y x)) ∧ Hid (Blk wi w.heap.size (bcells (metL ts L y x)) 4) ∧ Hid (∀ x', x' < x → okA ts L y x' = true) ∧ Hid (FrB w0.heap.size w.heap.size w0 wi) ∧ Hid (Below w.heap.size w wi)) (fun _ xv _ => wd - (intOf xv).toNat)
        case atStart =>
          refine ⟨0, by omega, rfl, ?_, HB.out.alloc _, fun x' hx => by omega, ?_, ?_⟩
          · show OwnT _ _ _ _
            exact OwnT.empty w0 _ (Nat.le_refl _)
          · exact (FrB.refl _ _ _).alloc (Nat.le_refl _) _
          · show Below _ _ _
            exact below_al HW.out
        case round =>
          obtain ⟨x, hx, rfl, HOr, HBr, HNr, HF, HWr⟩ := hrel
          by_cases hxw : x < wd
          · obtain ⟨bR', oR', A2, c2, eR, hltR, hcR, hpR⟩ := (HR.out.below HWr.out).at_ y hyL
            injection eR with eR
            injection eR with eR1 eR2
            subst eR1 eR2
            rw [HRL.out] at hcR
            obtain ⟨bP, oP, rfl, hltP, p0, p1⟩ := hpR.at_ (by rw [HRL.out]; exact hxw)
            clear hpR
            have HI1 := Lib.hid (fun w => l01In_c (cellP L y x).t 0 ((ts.length : Int) - 1) w)
            have HI2 := Lib.hid (fun w => l01In_c (cellP L y x).n 0 3 w)
            have HOK : Hid (okA ts L y x = (inR 0 ((ts.length : Int) - 1) (cellP L y x).t && (inR 0 3 (cellP L y x).n && !((bef L y x).any fun q => q.t == (cellP L y x).t)))) := rfl
            have HPar := Lib.hid (okA_parts (ts := ts) (L := L) (y := y) (x := x))
            have HFalse := Lib.hid (fun e : okA ts L y x = false => HBad.out y x hyh hxw (.inl e))
            cases ha1 : inR 0 ((ts.length : Int) - 1) (cellP L y x).t
            · rw [ha1] at HI1
              have HX := Lib.hid (HFalse.out (by rw [HOK.out, ha1]; rfl))
              clear ha1
              generalize cellP L y x = pp at *
              go_wp2_with fail
              refine (HI1.out _).mono ?_
              rintro e w1 ⟨rfl, rfl⟩
              go_wp2
              go_ret
              exact ⟨ret_bool HX.out.symm, below_al HWr.out⟩
            · rw [ha1] at HI1
              have Ha1 := Lib.hid (inR_iff.1 ha1)
              cases ha2 : inR 0 3 (cellP L y x).n
              · rw [ha2] at HI2
                have HX := Lib.hid (HFalse.out (by rw [HOK.out, ha1, ha2]; rfl))
                clear ha1 ha2
                generalize cellP L y x = pp at *
                go_wp2_with fail
                refine (HI1.out _).mono ?_
                rintro e w1 ⟨rfl, rfl⟩
                go_wp2_with fail
                refine (HI2.out _).mono ?_
                rintro e w1 ⟨rfl, rfl⟩
                go_wp2
                go_ret
                exact ⟨ret_bool HX.out.symm, below_al HWr.out⟩
              · rw [ha2] at HI2
                have Ha2 := Lib.hid (inR_iff.1 ha2)
                rw [ha1, ha2] at HOK
                clear ha1 ha2
                obtain ⟨t, ht⟩ : ∃ t : Nat, (cellP L y x).t = (t : Int) := ⟨(cellP L y x).t.toNat, by have := Ha1.out; omega⟩
                obtain ⟨n, hn⟩ : ∃ n : Nat, (cellP L y x).n = (n : Int) := ⟨(cellP L y x).n.toNat, by have := Ha2.out; omega⟩
                have htl : t < ts.length := by have := Ha1.out; omega
                have hn3 : n ≤ 3 := by have := Ha2.out; omega
                rw [ht] at p0 HI1 HOK
                rw [hn] at p1 HI2
                have HTile : Hid (tileAt ts (cellP L y x) = turnN (ts[t]'htl) n) := by
                  show _ = _
                  unfold tileAt
                  rw [ht, hn]
                  simp [htl]
                have HStep := Lib.hid (metL_step (ts := ts) (L := L) (y := y) (x := x) (by rw [HRL.out]; exact hxw) htl ht)
                have HRow := Lib.hid (rowG_succ (ts := ts) (L := L) (y := y) (x := x) (by rw [HRL.out]; exact hxw))
                have HRowL := Lib.hid (rowG_len (ts := ts) (L := L) (y := y) (x := x) (by rw [HRL.out]; exact hx))
                have m0 := HBr.out.cell t (by rw [bcells_length, metL_len]; exact htl)
                have m1 := HBr.out.frozen t
                have em0 : (bcells (metL ts L y x))[t]'(by rw [bcells_length, metL_len]; exact htl) = .bool ((bef L y x).any fun q => q.t == (t : Int)) := by
                  simp only [bcells, List.getElem_map]
                  rw [metL_get]
                rw [em0] at m0
                have hmlt := HBr.out.lt
                clear em0 ht hn
                cases hu : ((bef L y x).any fun q => q.t == (t : Int))
                · rw [hu] at m0 HOK
                  have HOKT := Lib.hid (show okA ts L y x = true from HOK.out)
                  clear hu
                  go_wp2_with fail
                  refine (HI1.out _).mono ?_
                  rintro e w1 ⟨rfl, rfl⟩
                  go_wp2_with fail
                  refine (HI2.out _).mono ?_
                  rintro e w1 ⟨rfl, rfl⟩
                  go_wp2_with fail
                  obtain ⟨wq, hwq⟩ : ∃ wq, (wr.setCell ⟨w.heap.size, t, none⟩ (.bool true)).alloc (.cells #[.int .i64 (t : Int), .int .i64 (n : Int)] 90) = wq := ⟨_, rfl⟩
                  have kB : Blk wq w.heap.size (bcells (metL ts L y (x + 1))) 4 := by
                    rw [← hwq, ← HStep.out, ← bcells_set]
                    exact (HBr.out.set t _).alloc _
                  have kF : FrB w0.heap.size w.heap.size w0 wq := by rw [← hwq]; exact (HF.out.set _ _).alloc (Nat.le_refl _) _
                  have kW : Below w.heap.size w wq := by rw [← hwq]; exact below_al (HWr.out.setCell (Nat.le_refl _) _)
                  have kP : Blk wq wr.heap.size [.int .i64 (t : Int), .int .i64 (n : Int)] 90 := by rw [← hwq]; have h := Blk.newA (wr.setCell ⟨w.heap.size, t, none⟩ (.bool true)) #[.int .i64 (t : Int), .int .i64 (n : Int)] 90; rw [show (wr.setCell ⟨w.heap.size, t, none⟩ (.bool true)).heap.size = wr.heap.size by simp] at h; exact h
                  have kO : OwnT wq w0.heap.size u12 (rowG ts L y x) := by rw [← hwq]; exact (HOr.out.other _ _ HGW.out _).alloc _
                  have ks : wr.heap.size + 1 = wq.heap.size := by rw [← hwq]; simp
                  have KB := Lib.hid kB
                  have KF := Lib.hid kF
                  have KW := Lib.hid kW
                  have KO := Lib.hid kO
                  rw [hwq]
                  obtain ⟨bT, oT, rfl, hltT, t0, t1, t2, t3⟩ := HT.out t htl
                  have KP := Lib.hid kP
                  have y0 := kP.cell 0 (by simp)
                  have y1 := kP.cell 1 (by simp)
                  simp only [List.getElem_cons_zero, List.getElem_cons_succ] at y0 y1
                  have e0 : ∀ w1, (Below w0.heap.size wq w1 ∧ Blk w1 wr.heap.size [.int .i64 (t : Int), .int .i64 (n : Int)] 90) → w1.cell? ⟨wr.heap.size, 0, none⟩ = some (.int .i64 (t : Int)) := fun w1 h => h.2.cell 0 (by simp)
                  have e1 : ∀ w1, (Below w0.heap.size wq w1 ∧ Blk w1 wr.heap.size [.int .i64 (t : Int), .int .i64 (n : Int)] 90) → w1.cell? ⟨wr.heap.size, 1, none⟩ = some (.int .i64 (n : Int)) := fun w1 h => h.2.cell 1 (by simp)
                  have tc : ∀ (o : Nat) (v : Value), w.cell? ⟨bT, o, none⟩ = some v → ∀ w1, (Below w0.heap.size wq w1 ∧ Blk w1 wr.heap.size [.int .i64 (t : Int), .int .i64 (n : Int)] 90) → w1.cell? ⟨bT, o, none⟩ = some v := fun o v hv w1 h => (h.1.cell (p := ⟨bT, o, none⟩) (by have := HGW.out; dsimp only; omega)).trans ((KW.out.cell (p := ⟨bT, o, none⟩) hltT).trans hv)
                  have e2 := tc _ _ t0
                  have e3 := tc _ _ t1
                  have e4 := tc _ _ t2
                  have e5 := tc _ _ t3
                  clear tc
                  have HTu := Lib.hid (fun w => l07Turn_c (ts[t]'htl) n (by omega) w)
                  generalize ts[t]'htl = tt at *
                  clear hwq kB kF kW kP kO y0 y1 t0 t1 t2 t3 m0 m1 p0 p1 hcR hmlt
                  refine wp_region_mix [(0, true), (1, true), (2, true), (3, true), (4, true), (5, true), (6, true), (7, true), (8, false), (9, false), (10, false), (11, false)] (fun w' => Below w0.heap.size wq w' ∧ Blk w' wr.heap.size [.int .i64 (t : Int), .int .i64 (n : Int)] 90) (by kernel_rfl) (by kernel_rfl) (fun _ _ d _ _ h => by cases d <;> exact h) (⟨(Below.refl _ _).drew, KP.out.drew⟩) ?_
                  repeat (first
                    | (refine mix_skip rfl rfl (fun K' hK' => ?_); go_simp; refine hK' _ ?_; clear hK' K')
                    | (refine mix_do (v := ?_) rfl rfl (fun w1 hb => ?_) (fun K' hK' => ?_); rotate_left
                       · go_simp
                         rfl
                       go_simp; refine hK' _ ?_; clear hK' K'))
                  refine mix_call rfl rfl (fun K' hK' => ?_)
                  go_simp
                  refine (HTu.out _).mono ?_
                  rintro e w6 ⟨rfl, hb6⟩
                  generalize turnN tt n = uu at *
                  have hb6' : Below wq.heap.size wq w6 := ((Below.refl _ _).drew).trans hb6
                  have KO6 := Lib.hid (KO.out.below hb6')
                  have KP6 := Lib.hid (KP.out.under hb6')
                  have hw0q : w0.heap.size ≤ wq.heap.size := KF.out.size
                  refine hK' _ _ (⟨hb6'.mono hw0q, KP6.out⟩) ?_; clear hK' K'
                  refine mix_call rfl rfl (fun K' hK' => ?_)
                  go_simp
                  refine hK' _ _ (⟨(hb6'.alloc hb6'.size _).mono hw0q, KP6.out.alloc _⟩) ?_; clear hK' K'
                  refine mix_call rfl rfl (fun K' hK' => ?_)
                  refine app_tiles (.tmp 75) (.tmp 84) rfl w0.heap.size _ (rowG ts L y x) [uu] rfl (KO6.out.alloc _) ⟨w6.heap.size, 0, none⟩ 1 rfl (fun j u hj => new_cells w6 [.int .i64 uu.a, .int .i64 uu.b, .int .i64 uu.c, .int .i64 uu.d] _ j u hj) (by rw [HRowL.out]; show x + 1 ≤ _; omega) (by have h1 := hb6'.size; have h2 := KF.out.size; simp; omega) (fun v' w' b1 b2 b3 => ?_)
                  have hrow : ∀ k, Value.ownBlock u12 = some k → w0.heap.size ≤ k ∧ k < wr.heap.size := fun k hk => HOr.out.blt k hk
                  have hB : Below w0.heap.size wq w' := ((hb6'.alloc hb6'.size _).mono hw0q).grown b2 (by have h1 := hb6'.size; simp; omega) (fun k hk => (hrow k hk).1)
                  have hP : Blk w' wr.heap.size [.int .i64 (t : Int), .int .i64 (n : Int)] 90 := (KP6.out.alloc _).grownB b2 (fun e => by have := (hrow _ e).2; omega)
                  refine hK' _ _ ⟨hB, hP⟩ ?_
                  clear hK' K'
                  refine mix_call rfl rfl (fun K' hK' => ?_)
                  go_simp
                  refine hK' _ _ (⟨hB, hP⟩) ?_; clear hK' K'
                  refine mix_nil ?_
                  have HB1 := Lib.hid b1
                  have HB2 := Lib.hid (KB.out.below hB HGW.out)
                  have HB3 := Lib.hid (KF.out.trans ⟨hB.os, hB.tape, hB.output, hB.size, fun k h1 h2 => hB.block k h1⟩)
                  have HB4 := Lib.hid (KW.out.trans (hB.mono (by have := HGW.out; omega)))
                  clear b1 b2 b3 hB hP e0 e1 e2 e3 e4 e5 hrow hw0q hb6 hb6'
                  go_wp2_with fail
                  go_roundw
                  case rel => exact ⟨x + 1, by omega, by go_num, by show OwnT _ _ _ _; rw [HRow.out, HTile.out]; exact HB1.out, HB2.out, fun x' hx' => by
                    by_cases e : x' = x
                    · subst e; exact HOKT.out
                    · exact HNr.out x' (by omega), HB3.out, HB4.out⟩
                  case measure => simp [intOf]; omega
                · rw [hu] at m0 HOK
                  have HX := Lib.hid (HFalse.out HOK.out)
                  clear hu
                  generalize cellP L y x = pp at *
                  go_wp2_with fail
                  refine (HI1.out _).mono ?_
                  rintro e w1 ⟨rfl, rfl⟩
                  go_wp2_with fail
                  refine (HI2.out _).mono ?_
                  rintro e w1 ⟨rfl, rfl⟩
                  go_wp2
                  go_ret
                  exact ⟨ret_bool HX.out.symm, below_al HWr.out⟩
          · have hxe : x = wd := by omega
            have HMR : Hid (Blk wr w.heap.size (bcells (metL ts L (y + 1) 0)) 4) := by show Blk _ _ _ _; rw [metL_row hyL, HRL.out, ← hxe]; exact HBr.out
            have HGR : Hid (gridG ts L (y + 1) = gridG ts L y ++ [rowG ts L y x]) := by show _ = _; rw [gridG_succ hyL, HRL.out, hxe]
            have HNN : Hid (∀ y', y' < y + 1 → ∀ x, x < wd → okA ts L y' x = true) := fun y' hy' x' hx' => by
              by_cases e : y' = y
              · subst e; exact HNr.out x' (by omega)
              · exact HN.out y' (by omega) x' hx'
            have HGL := Lib.hid (gridG_len (ts := ts) (L := L) (y := y) (by rw [Hh.out]; omega))
            clear hxe
            obtain ⟨W0, hW0⟩ : ∃ W0, w0.setRow w.heap.size (bcells (metL ts L y x)).toArray = W0 := ⟨_, rfl⟩
            have k0 : W0.heap[w.heap.size]? = some (.cells (bcells (metL ts L y x)).toArray 4 (0, 0)) := by rw [← hW0]; exact setRow_heap w0 w.heap.size _ _ _ _ HB.out
            have k1 : FrB w0.heap.size w.heap.size w0 W0 := by rw [← hW0]; exact ⟨rfl, rfl, rfl, by simp, fun k _ hk => setRow_other _ _ _ _ hk⟩
            have k2 : W0.heap.size = w0.heap.size := by rw [← hW0]; simp
            have k3 : Below W0.heap.size W0 wr := by
              rw [k2]
              refine ⟨HF.out.os.trans k1.os.symm, HF.out.tape.trans k1.tape.symm, HF.out.output.trans k1.output.symm, by rw [k2]; exact HF.out.size, fun k hk => ?_⟩
              by_cases e : k = w.heap.size
              · subst e; rw [k0]; exact HBr.out
              · rw [HF.out.block k hk e, k1.block k hk e]
            have k4 : OwnTT W0 (w.heap.size + 1) u10 (gridG ts L y) := HO.out.frb k1 (by omega) (Nat.le_refl _)
            have K2 := Lib.hid k2
            have K3 := Lib.hid k3
            have K4 := Lib.hid k4
            clear hW0 k0 k1 k2 k3 k4
            obtain ⟨Ar, cr, e12, _⟩ := HOr.out.tiles
            rw [rowG_len (by rw [HRL.out]; exact hx)] at e12
            subst e12
            go_wp2_with (at_builtin; refine Hold.of ?_)
            refine Hold.to ?_
            refine wpl_app_trow (W0 := W0) rfl (.tmp 86) (.tmp 88) rfl (w.heap.size + 1) u10 (gridG ts L y) (.slice Ar x cr) (rowG ts L y x) rfl K4.out (K3.out.alloc K3.out.size _) (by rw [K2.out]; exact HOr.out.alloc _) wr.heap.size 0 rfl (cell_alloc_at wr #[.slice Ar x cr] _ 0 (.slice Ar x cr) rfl) (by rw [HGL.out]; omega) (by rw [K2.out]; have := HGW.out; omega) (fun v' w' b1 b2 b3 => ?_)
            have c1 : Blk w' w.heap.size (bcells (metL ts L (y + 1) 0)) 4 := (HMR.out.alloc _).grownB b2 (fun e => by have := b3 _ e; omega)
            have c2 : Below w.heap.size w w' := (below_al HWr.out).grown b2 (by have := HMR.out.lt; simp; omega) (fun k hk => by have := b3 k hk; omega)
            have C1 := Lib.hid c1
            have C2 := Lib.hid c2
            have B1 := Lib.hid b1
            clear b1 b2 b3 c1 c2
            go_wp2_with fail
            go_roundw
            case rel => exact ⟨y + 1, by omega, by go_num, by show OwnTT _ _ _ _; rw [HGR.out]; exact B1.out, C1.out, HNN.out, C2.out⟩
            case measure => simp [intOf]; omega
      · have hyh' : y = h := by omega
        obtain ⟨AT, cT, e, hTT⟩ := HO.out.rows
        have hgl : (gridG ts L y).length = h := by rw [gridG_len (by rw [Hh.out]; omega)]; exact hyh'
        rw [hgl] at e
        subst e
        have HTT := Lib.hid hTT
        have HGG : Hid (∀ j, j < h → ∃ hj : j < (gridG ts L y).length, (gridG ts L y)[j] = rowG ts L j wd) := fun j hj => ⟨by rw [hgl]; exact hj, by rw [gridG_get]; rw [HA.out j hj]⟩
        rw [hyh'] at HN
        clear hTT hgl hyh'
        obtain ⟨w0, rfl⟩ : ∃ w0, w0 = wr := ⟨wr, rfl⟩
        go_wp2_with fail
        go_loopw [15] (fun yv wr => ∃ y : Nat, y ≤ h ∧ yv = .int .i64 y ∧ Hid (∀ y', y' < y → ∀ x, x < wd → okF ts b L y' x = true) ∧ Hid (Below w0.heap.size w0 wr)) (fun yv _ => h - (intOf yv).toNat)
        case atStart => exact ⟨0, by omega, rfl, fun y' hy => by omega, Below.refl _ _⟩
        case round =>
          obtain ⟨y, hy, rfl, HNF, HB2⟩ := hrel
          by_cases hyh : y < h
          · have hyL : y < L.length := by rw [Hh.out]; exact hyh
            go_wp2_with fail
            go_loopw [16] (fun xv wr => ∃ x : Nat, x ≤ wd ∧ xv = .int .i64 x ∧ Hid (∀ x', x' < x → okF ts b L y x' = true) ∧ Hid (Below w0.heap.size w0 wr)) (fun xv _ => wd - (intOf xv).toNat)
            case atStart => exact ⟨0, by omega, rfl, fun x' hx => by omega, HB2.out⟩
            case round =>
              obtain ⟨x, hx, rfl, HNX, HB3⟩ := hrel
              by_cases hxw : x < wd
              · obtain ⟨hj, hg⟩ := HGG.out y hyh
                have HTW := HTT.out.below HB3.out
                obtain ⟨bG, oG, A3, c3, rfl, hltG, hcG, hcell⟩ := grid_row HTW hj hg (HA.out y hyh)
                obtain ⟨bH, oH, rfl, hltH, t0, t1, t2, t3⟩ := hcell x hxw
                have HFA : Hid (FtA wr (.slice (some ⟨bG, oG, none⟩) h cT) y x (upC ts L y x)) := by
                  show FtA _ _ _ _ _
                  unfold upC
                  by_cases e : y = 0
                  · rw [if_pos e]; exact e
                  · rw [if_neg e]
                    obtain ⟨hj', hg'⟩ := HGG.out (y - 1) (by omega)
                    obtain ⟨b1, o1, A4, c4, e1, _, hc1, hcell1⟩ := grid_row HTW hj' hg' (HA.out (y - 1) (by omega))
                    injection e1 with e1
                    injection e1 with e1 e2
                    subst e1 e2
                    obtain ⟨b4, o4, rfl, _, s0, s1, s2, s3⟩ := hcell1 x hxw
                    exact ⟨by omega, bG, oG, h, cT, b4, o4, wd, c4, rfl, by omega, hc1, hxw, s3⟩
                have HFL : Hid (FtL wr (.slice (some ⟨bG, oG, none⟩) h cT) y x (lfC ts L y x)) := by
                  show FtL _ _ _ _ _
                  unfold lfC
                  by_cases e : x = 0
                  · rw [if_pos e]; exact e
                  · rw [if_neg e]
                    obtain ⟨b4, o4, e4, _, s0, s1, s2, s3⟩ := hcell (x - 1) (by omega)
                    injection e4 with e4
                    injection e4 with e4 e5
                    subst e4 e5
                    exact ⟨by omega, bG, oG, h, cT, bH, oH, wd, c3, rfl, hyh, hcG, by omega, s2⟩
                have HFit := Lib.hid (l07Fits_c (tileAt ts (cellP L y x)) b y x h wd (.slice (some ⟨bG, oG, none⟩) h cT) (upC ts L y x) (lfC ts L y x) wr hyh hxw (by omega) (by omega) HFA.out HFL.out)
                have HOF : Hid (okF ts b L y x = fitB (tileAt ts (cellP L y x)) b y x h wd (upC ts L y x) (lfC ts L y x)) := by show _ = _; unfold okF; rw [Hh.out, Hwd.out]
                have HFalse := Lib.hid (fun e : okF ts b L y x = false => HBad.out y x hyh hxw (.inr e))
                rw [← HOF.out] at HFit
                clear hcell HTW HOF HFA HFL hj hg
                generalize tileAt ts (cellP L y x) = tt at *
                cases hok : okF ts b L y x
                · rw [hok] at HFit
                  have HX := Lib.hid (HFalse.out hok)
                  clear hok
                  go_wp2_with fail
                  refine HFit.out.mono ?_
                  rintro e w6 ⟨rfl, hb6⟩
                  go_wp2
                  go_ret
                  exact ⟨ret_bool HX.out.symm, HW.out.trans ((HB3.out.trans (hb6.mono HB3.out.size)).mono HW.out.size)⟩
                · rw [hok] at HFit
                  have HX := Lib.hid hok
                  clear hok
                  go_wp2_with fail
                  refine HFit.out.mono ?_
                  rintro e w6 ⟨rfl, hb6⟩
                  have Hb6 := Lib.hid hb6
                  clear hb6
                  go_wp2_with fail
                  go_roundw
                  case rel => exact ⟨x + 1, by omega, by go_num, fun x' hx' => by
                    by_cases e : x' = x
                    · subst e; exact HX.out
                    · exact HNX.out x' (by omega), HB3.out.trans (Hb6.out.mono HB3.out.size)⟩
                  case measure => simp [intOf]; omega
              · have hxe : x = wd := by omega
                have HNY : Hid (∀ y', y' < y + 1 → ∀ x, x < wd → okF ts b L y' x = true) := fun y' hy' x' hx' => by
                  by_cases e : y' = y
                  · subst e; exact HNX.out x' (by omega)
                  · exact HNF.out y' (by omega) x' hx'
                clear hxe
                go_wp2_with fail
                go_roundw
                case rel => exact ⟨y + 1, by omega, by go_num, HNY.out, HB3.out⟩
                case measure => simp [intOf]; omega
          · have HX := Lib.hid (show boardB ts b L = true by
              rw [HBd.out, decide_eq_true_eq]
              exact ⟨by rw [← HM.out]; exact HMt.out, fun y' hy' x hx => ⟨HN.out y' hy' x hx, HNF.out y' (by omega) x hx⟩⟩)
            go_wp2
            go_ret
            exact ⟨ret_bool HX.out.symm, HW.out.trans (HB2.out.mono HW.out.size)⟩
  · have hne : ((M : Int) != (ts.length : Int)) = true := by simp; omega
    have HF := Lib.hid (show boardB ts b L = false by rw [HBd.out, decide_eq_false_iff_not]; rintro ⟨h, _⟩; exact hMt (by rw [HM.out]; exact h))
    clear hMt
    go_enter Try.func62, Try.ntmps62
    go_wp2_with fail
    go_quiet (fail)
    go_wp2
    go_ret
    exact ⟨ret_bool HF.out.symm, below_drN (Below.refl _ _)⟩

end Go.Proofs.Ytfkmophmiiehlaa
