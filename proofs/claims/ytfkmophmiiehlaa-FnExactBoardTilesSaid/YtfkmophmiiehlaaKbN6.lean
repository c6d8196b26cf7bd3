/- Contracts and lemmas for the statements of this seat, written for this claim; each theorem states its own conditions. -/
import Derived.Test.YtfkmophmiiehlaaKbN5
set_option linter.unusedVariables false
set_option linter.unusedSimpArgs false
namespace Go.Proofs.Ytfkmophmiiehlaa
open Go.RowKit
set_option maxRecDepth 100000 in
set_option maxHeartbeats 1000000 in
theorem implBoardTiles_c (ts : List T4) (A : Option Addr) (cx : Nat) (b : Int) (L : List (List P2)) (R : Option Addr) (cR : Nat) (w : World) (hT : TileCells w A ts) (hl : ts.length ≤ 1000000000) (hR : RowsP w R L) (hL : L.length ≤ 1048576) (hS : ShortP 1048576 L) :
    Calls Try.prog 23 #[.slice A ts.length cx, .int .i64 b, .slice R L.length cR] w (RetTT w (btV ts b L) (btC ts b L)) := by
  have HV : Hid (btV ts b L = if (btOk ts b L && boardB ts b L) = true then gridG ts L L.length else []) := rfl
  have HC : Hid (btC ts b L = if btOk ts b L = true then (if boardB ts b L = true then 0 else 4) else 2) := rfl
  have HO : Hid (btOk ts b L = (shapeP L && boardOf ts b)) := rfl
  have HB := Lib.hid (isBoardOf_c ts A cx b w hT hl)
  have HT := Lib.hid hT
  have HR := Lib.hid hR
  have HA := Lib.hid (fun (w : World) (hR : RowsP w R L) => areRows_c L R cR w hR (by omega))
  have HPl := Lib.hid (fun (e : btOk ts b L = true) (w : World) (hT : TileCells w A ts) (hR : RowsP w R L) => placed_c ts A cx b L R cR w hT (btOk_len e).2 hR hL (btOk_len e).1 (by rw [wid_get (shape_row (btOk_len e).1).1]; exact hS 0 _))
  clear hT hR hS
  cases hb : boardOf ts b
  · rw [hb] at HB HO
    have HN : Hid (btOk ts b L = false) := by show _ = _; rw [HO.out]; simp
    rw [HN.out] at HV HC
    clear hb
    go_enter Try.func23, Try.ntmps23
    go_wp2_with fail
    refine HB.out.mono ?_
    rintro e w1 ⟨rfl, hb1⟩
    go_wp2
    go_ret2
    exact ⟨_, by rw [HC.out]; rfl, by rw [HV.out]; exact OwnTT.nil _ _, hb1⟩
  · rw [hb] at HB HO
    clear hb
    cases hs : shapeP L
    · rw [hs] at HA HO
      have HN : Hid (btOk ts b L = false) := by show _ = _; rw [HO.out]; simp
      rw [HN.out] at HV HC
      clear hs
      go_enter Try.func23, Try.ntmps23
      go_wp2_with fail
      refine HB.out.mono ?_
      rintro e w1 ⟨rfl, hb1⟩
      have Hb1 := Lib.hid hb1
      clear hb1
      go_wp2_with fail
      refine (HA.out _ (HR.out.below Hb1.out)).mono ?_
      rintro e w2 ⟨rfl, hb2⟩
      go_wp2
      go_ret2
      exact ⟨_, by rw [HC.out]; rfl, by rw [HV.out]; exact OwnTT.nil _ _, Hb1.out.trans (hb2.mono Hb1.out.size)⟩
    · rw [hs] at HA HO
      have HN : Hid (btOk ts b L = true) := by show _ = _; rw [HO.out]; simp
      have HPlc := Lib.hid (HPl.out HN.out)
      rw [HN.out] at HV HC
      clear hs HPl
      go_enter Try.func23, Try.ntmps23
      go_wp2_with fail
      refine HB.out.mono ?_
      rintro e w1 ⟨rfl, hb1⟩
      have Hb1 := Lib.hid hb1
      clear hb1
      go_wp2_with fail
      refine (HA.out _ (HR.out.below Hb1.out)).mono ?_
      rintro e w2 ⟨rfl, hb2⟩
      have Hb2 := Lib.hid (Hb1.out.trans (hb2.mono Hb1.out.size))
      clear hb2
      go_wp2_with fail
      refine (HPlc.out _ (HT.out.below Hb2.out) (HR.out.below Hb2.out)).mono ?_
      rintro e w3 ⟨hb3, ⟨hbd, v, rfl, hOv⟩ | ⟨hbd, rfl⟩⟩
      · rw [hbd] at HV HC
        have Hb3 := Lib.hid (Hb2.out.trans (hb3.mono Hb2.out.size))
        have HOv := Lib.hid hOv
        have hs2 := Hb2.out.size
        clear hb3 hOv hbd
        go_wp2
        go_ret2
        exact ⟨_, by rw [HC.out]; rfl, by rw [HV.out]; exact HOv.out.weaken hs2, Hb3.out⟩
      · rw [hbd] at HV HC
        have Hb3 := Lib.hid (Hb2.out.trans (hb3.mono Hb2.out.size))
        clear hb3 hbd
        go_wp2
        go_ret2
        exact ⟨_, by rw [HC.out]; rfl, by rw [HV.out]; exact OwnTT.nil _ _, Hb3.out⟩
theorem totT_map (f : P2 → T4) : ∀ L : List (List P2), totT (L.map fun r => r.map f) = sumP L * 4
  | [] => by simp [totT, sumP]
  | r :: L => by have := totT_map f L; simp [totT, sumP] at *; omega
theorem btV_len (ts : List T4) (b : Int) (L : List (List P2)) (hL : L.length ≤ 1048576) (hS : ShortP 1048576 L) (hs : sumP L ≤ 1048576) : (btV ts b L).length ≤ 1048576 ∧ ShortT 1000000000 (btV ts b L) ∧ totT (btV ts b L) ≤ 4194304 := by
  unfold btV
  split
  · unfold gridG
    rw [List.take_length]
    refine ⟨by simpa using hL, fun k hk => ?_, by rw [totT_map]; omega⟩
    simp only [List.getElem_map, List.length_map]
    have := hS k (by simpa using hk)
    omega
  · exact ⟨by simp, fun k hk => by simp at hk, by simp [totT]⟩

end Go.Proofs.Ytfkmophmiiehlaa
namespace Go.Proofs.Ytfkmophmiiehlaa
open Go.RowKit
set_option maxRecDepth 100000 in
set_option maxHeartbeats 1000000 in
theorem law_BoardTiles (ts : List T4) (A : Option Addr) (cx : Nat) (b : Int) (L : List (List P2)) (B : Option Addr) (cr : Nat) (w : World) (hX : TileCells w A ts) (lx : ts.length ≤ 9223372036854775807) (hR : RowsP w B L) (lr : L.length ≤ 9223372036854775807) (sr : ShortP 9223372036854775807 L) :
    Calls Try.prog 4 #[.slice A ts.length cx, .int .i64 b, .slice B L.length cr] w fun e w' => e = .returned (.bool true) ∧ Below w.heap.size w w' := by
  have X := Lib.hid hX
  have Y := Lib.hid hR
  clear hX hR
  have HZ := Lib.hid (fun w => szTileS_c A ts.length cx 1048576 w (by omega) (by omega) lx)
  have hz : szV ts.length 1048576 = -1 ∨ (0 ≤ szV ts.length 1048576 ∧ szV ts.length 1048576 ≤ 1048576 ∧ ts.length ≤ 1048576) := by unfold szV; split <;> omega
  rcases hz with h | ⟨h, hu, lx'⟩
  · rw [h] at HZ
    clear h
    go_enter Try.func4, Try.ntmps4
    go_wp2_with (go_at_call 18; refine (HZ.out _).mono ?_; rintro e w1 ⟨rfl, rfl⟩)
    go_ret
    exact ⟨rfl, Below.refl _ _⟩
  · generalize szV ts.length 1048576 = z at *
    have HZ2 := Lib.hid (fun w h => szPlacedSS_c L B cr z w h (by omega) (by omega) lr sr)
    have HD := Lib.hid (fun w h => toTileS_c ts A cx w h lx')
    go_enter Try.func4, Try.ntmps4
    go_wp2_with fail
    refine (HZ.out _).mono ?_
    rintro e w1 ⟨rfl, rfl⟩
    go_wp2_with fail
    refine (HZ2.out _ Y.out).mono ?_
    rintro e wz ⟨y, rfl, hy, rfl⟩
    rcases hy with rfl | ⟨y0, y1, lr', sr', tt'⟩
    · go_wp2
      go_ret
      exact ⟨rfl, Below.refl _ _⟩
    have HDI := Lib.hid (fun w h => toPlacedSS_c L B cr w h lr' sr')
    have sr2 : ShortP 1000000000 L := fun k h => by have := sr' k h; omega
    have HS := Lib.hid (fun A cx B cr w h h' => specBoardTiles_c ts A cx b L B cr w h (by omega) h' lr' sr')
    have HI := Lib.hid (fun A cx B cr w h h' => implBoardTiles_c ts A cx b L B cr w h (by omega) h' lr' sr')
    have HE := Lib.hid (fun A B cx cy w h h' => eqTileS_c ts ts A B cx cy w h h' (by omega) (by omega))
    have heq : eqTs ts ts = true := by simp [eqTs]
    rw [heq] at HE
    have HEI := Lib.hid (fun A B cx cy w h h' => eqPlacedSS_c L L A B cx cy w h h' (by omega) (by omega) sr2 sr2)
    rw [eqPPs_refl] at HEI
    have hRl := btV_len ts b L lr' sr' (by omega)
    generalize hRR : btV ts b L = R at *
    generalize hCC : btC ts b L = d at *
    clear hRR hCC
    have HER := Lib.hid (fun A B cx cy w h h' => eqTileSS_c R R A B cx cy w h h' (by omega) (by omega) hRl.2.1 hRl.2.1)
    rw [eqTTs_refl] at HER
    have hdd : (d != d) = false := by simp
    have HMS := Lib.hid (fun b T w h => markTileS_c b ts.length (tcells ts) T 1 w h (tcells_length ts) (by omega) (by omega))
    have hts := totP_sum L
    have HMB := Lib.hid (fun v B N w h h' => markPlacedSS_c L v (1 + ts.length * 4) B N w h h' (by omega) sr2 (by omega))
    have HMR := Lib.hid (fun v B N w h h' => markTileSS_c R v 1 B N w h h' (by omega) hRl.2.1 (by omega))
    have HHR := Lib.hid (fun A cx w h => heldTileSS_c R A 1 cx w h (by omega) hRl.2.1 (by omega))
    have HRl := Lib.hid hRl
    clear heq HZ hRl sr sr' sr2 HZ2 tt' hts
    go_wp2_with fail
    refine (HD.out _ X.out).mono ?_
    rintro e w2 ⟨b1, rfl, p1, B1, hb2⟩
    have HB1 := Lib.hid B1.tiles
    have Hb2 := Lib.hid hb2
    clear hb2 B1 p1
    go_wp2_with fail
    refine (HDI.out _ (Y.out.below Hb2.out)).mono ?_
    rintro e w2' ⟨v1, rfl, O1, hb2'⟩
    obtain ⟨C1, k1, rfl, N1⟩ := O1.rows
    have HB1' := Lib.hid (HB1.out.below hb2')
    have HN1 := Lib.hid N1
    have Hb2' := Lib.hid (Hb2.out.trans (hb2'.mono Hb2.out.size))
    clear O1 N1 hb2'
    go_wp2_with fail
    refine (HS.out _ _ _ _ _ HB1'.out HN1.out).mono ?_
    rintro e w3 ⟨v0, rfl, OW, hb3⟩
    obtain ⟨CW, kW, rfl, NW⟩ := OW.rows
    have HW0 := Lib.hid NW
    have H3 := Lib.hid (Hb2'.out.trans (hb3.mono Hb2'.out.size))
    clear OW NW hb3
    go_wp2_with fail
    refine (HD.out _ (X.out.below H3.out)).mono ?_
    rintro e w4 ⟨b1, rfl, p1, B1, hb4⟩
    have HB1 := Lib.hid B1
    have Hp1 := Lib.hid p1
    have Hw4 := Lib.hid hb4
    clear p1 B1 hb4
    go_wp2_with fail
    refine (HDI.out _ (Y.out.below (H3.out.trans (Hw4.out.mono H3.out.size)))).mono ?_
    rintro e w4' ⟨v1, rfl, O1, hb4'⟩
    have HO1 := Lib.hid O1
    obtain ⟨C1, k1, rfl, N1⟩ := O1.rows
    have HN1' := Lib.hid N1
    have Hw4' := Lib.hid (Hw4.out.trans (hb4'.mono Hw4.out.size))
    have HBk4 := Lib.hid (HB1.out.under hb4')
    have hs44 := Lib.hid hb4'.size
    clear hb4' O1 N1
    go_wp2_with fail
    refine (HI.out _ _ _ _ _ HBk4.out.tiles HN1'.out).mono ?_
    rintro e w5 ⟨g0, rfl, OG, hb5⟩
    have Hb5 := Lib.hid hb5
    have HBk5 := Lib.hid (HBk4.out.under hb5)
    have HN5 : Hid (RowsP w5 C1 L) := HN1'.out.below hb5
    have HO5 : Hid (OwnPN w5 w4.heap.size w4'.heap.size (.slice C1 L.length k1) L) := (HO1.out.toN).same (fun k _ hk => hb5.block k hk)
    have Hw5 : Hid (Below w3.heap.size w3 w5) := Hw4'.out.trans (hb5.mono Hw4'.out.size)
    obtain ⟨CG, kG, rfl, NG⟩ := OG.rows
    have HG5 := Lib.hid OG.toN
    have HNG := Lib.hid NG
    clear hb5 OG NG
    go_wp2_with fail
    refine (HER.out _ _ _ _ _ HNG.out (HW0.out.below Hw5.out)).mono ?_
    rintro e w6 ⟨rfl, hb6⟩
    have H6 := Lib.hid hb6
    have H36 := Lib.hid (Hw5.out.trans (hb6.mono Hw5.out.size))
    clear hb6
    go_wp2_with fail
    refine (HD.out _ (X.out.below (H3.out.trans (H36.out.mono H3.out.size)))).mono ?_
    rintro e w7 ⟨b2, rfl, p2, B2, hb7⟩
    have H57 := Lib.hid (H6.out.trans (hb7.mono H6.out.size))
    have HB2 := Lib.hid B2.tiles
    clear p2 B2 hb7
    go_wp2_with fail
    refine (HE.out _ _ _ _ _ ((HBk5.out.under H57.out).tiles) HB2.out).mono ?_
    rintro e w8 ⟨rfl, hb8⟩
    have H58 := Lib.hid (H57.out.trans (hb8.mono H57.out.size))
    have H38 := Lib.hid (Hw5.out.trans (H58.out.mono Hw5.out.size))
    clear hb8
    go_wp2_with fail
    refine (HDI.out _ (Y.out.below (H3.out.trans (H38.out.mono H3.out.size)))).mono ?_
    rintro e w9 ⟨v2, rfl, O2, hb9⟩
    obtain ⟨C2, k2, rfl, N2⟩ := O2.rows
    have HN2 := Lib.hid N2
    have H59 := Lib.hid (H58.out.trans (hb9.mono H58.out.size))
    clear O2 N2 hb9
    go_wp2_with fail
    refine (HEI.out _ _ _ _ _ (HN5.out.below H59.out) HN2.out).mono ?_
    rintro e wa ⟨rfl, hb9⟩
    have H5a := Lib.hid (H59.out.trans (hb9.mono H59.out.size))
    clear hb9
    go_wp2_with fail
    refine (HMS.out _ _ _ (HBk5.out.under H5a.out)).mono ?_
    rintro e w10 ⟨rfl, hg⟩
    have hb1lt : b1 < w4.heap.size := HB1.out.lt
    have HBL := Lib.hid hb1lt
    have HT10 : Hid (Touch b1 (b1 + 1) wa w10) := Touch.one hg
    have HB10 : Hid (Below w3.heap.size w3 w10) := (Hw5.out.trans (H5a.out.mono Hw5.out.size)).trans ((HT10.out.below (by have h1 := HBk5.out.lt; have h2 := H5a.out.size; omega)).mono Hp1.out)
    have HO10 := Lib.hid ((HO5.out.same (fun k _ hk => H5a.out.block k hk)).same (fun k hk1 hk => HT10.out.block k hk (.inr (by omega))))
    have HG10 := Lib.hid ((HG5.out.same (fun k _ hk => H5a.out.block k hk)).same (fun k hk1 hk => HT10.out.block k hk (.inr (by have := hs44.out; omega))))
    clear hg hb1lt
    go_wp2_with fail
    refine (HMB.out _ _ _ _ HO10.out (by have h1 := hs44.out; have h2 := Hb5.out.size; have h3 := H5a.out.size; have h4 := HT10.out.size; omega)).mono ?_
    rintro e w11 ⟨rfl, hO11, hT11⟩
    have HT11 := Lib.hid hT11
    have HB11 : Hid (Below w3.heap.size w3 w11) := HB10.out.trans ((HT11.out.below (by have h1 := hs44.out; have h2 := Hb5.out.size; have h3 := H5a.out.size; have h4 := HT10.out.size; omega)).mono (by have := Hw4.out.size; omega))
    have HG11 := Lib.hid (HG10.out.same (fun k hk1 hk => HT11.out.block k hk (.inr hk1)))
    clear hO11 hT11 HO10 HG10 HO1 HO5
    go_wp2_with fail
    refine (HER.out _ _ _ _ _ (by obtain ⟨_, _, e, hr⟩ := OwnTT.rows HG11.out.toII; injection e with e1 e2 e3; rw [e1]; exact hr) (HW0.out.below HB11.out)).mono ?_
    rintro e w12 ⟨rfl, hb12⟩
    have H12 : Hid (Below w3.heap.size w3 w12) := HB11.out.trans (hb12.mono HB11.out.size)
    have HG12 := Lib.hid (HG11.out.same (fun k _ hk => hb12.block k hk))
    have hs12 := Lib.hid hb12.size
    clear hb12
    go_wp2_with fail
    refine (HMR.out _ _ _ _ HG12.out (by have h1 := Hb5.out.size; have h3 := H5a.out.size; have h4 := HT10.out.size; have h5 := HT11.out.size; have h6 := hs12.out; omega)).mono ?_
    rintro e w13 ⟨rfl, hO13, hT13⟩
    have HG13 := Lib.hid hO13
    have H13 : Hid (Below w3.heap.size w3 w13) := H12.out.trans ((hT13.below (by have h1 := Hb5.out.size; have h3 := H5a.out.size; have h4 := HT10.out.size; have h5 := HT11.out.size; have h6 := hs12.out; omega)).mono (by have h2 := Hw4'.out.size; omega))
    clear hO13 hT13
    have HC13 : Hid (RowsT w13 CG (marksTT 1 R)) := by obtain ⟨_, _, e, hr⟩ := OwnTT.rows HG13.out.toII; injection e with e1 e2 e3; show RowsT _ _ _; rw [e1]; exact hr
    go_wp2_with fail
    refine (HHR.out _ _ _ HC13.out).mono ?_
    rintro e w14 ⟨rfl, rfl⟩
    have HXX : Hid (Below w.heap.size w w13) := H3.out.trans (H13.out.mono H3.out.size)
    have hn9 : (((1 + totT R : Nat) : Int) != ((1 + totT R : Nat) : Int)) = false := by simp
    go_wp2_with fail
    refine (HD.out _ (X.out.below HXX.out)).mono ?_
    rintro e w15 ⟨b5, rfl, p5, B5, hb15⟩
    have HB5 := Lib.hid B5.tiles
    have Hw15 := Lib.hid hb15
    clear p5 B5 hb15
    go_wp2_with fail
    refine (HDI.out _ (Y.out.below (HXX.out.trans (Hw15.out.mono HXX.out.size)))).mono ?_
    rintro e w16 ⟨v5, rfl, O5, hb16⟩
    obtain ⟨C5, k5, rfl, N5⟩ := O5.rows
    have HN5b := Lib.hid N5
    have HB5' := Lib.hid (HB5.out.below hb16)
    have Hw16 := Lib.hid (Hw15.out.trans (hb16.mono Hw15.out.size))
    clear O5 N5 hb16
    go_wp2_with fail
    refine (HI.out _ _ _ _ _ HB5'.out HN5b.out).mono ?_
    rintro e w17 ⟨h0, rfl, OH, hb17⟩
    have Hw17 := Lib.hid (Hw16.out.trans (hb17.mono Hw16.out.size))
    obtain ⟨CH, kH, rfl, NH⟩ := OH.rows
    have HNH := Lib.hid NH
    clear OH NH hb17
    go_wp2_with fail
    refine (HER.out _ _ _ _ _ HNH.out (HW0.out.below (H13.out.trans (Hw17.out.mono H13.out.size)))).mono ?_
    rintro e w18 ⟨rfl, hb18⟩
    have H18 := Lib.hid (Hw17.out.trans (hb18.mono Hw17.out.size))
    clear hb18
    go_wp2_with fail
    refine (HHR.out _ _ _ (HC13.out.below H18.out)).mono ?_
    rintro e w19 ⟨rfl, rfl⟩
    go_wp2
    go_ret
    exact ⟨rfl, HXX.out.trans (H18.out.mono HXX.out.size)⟩

end Go.Proofs.Ytfkmophmiiehlaa
