/- Contracts and lemmas for the statements of this seat, written for this claim; each theorem states its own conditions. -/
import Derived.Test.YtfkmophmiiehlaaKbM6
import Derived.Test.YtfkmophmiiehlaaKbM8
set_option linter.unusedVariables false
set_option linter.unusedSimpArgs false
namespace Go.Proofs.Ytfkmophmiiehlaa
open Go.RowKit
set_option maxRecDepth 100000 in
set_option maxHeartbeats 1000000 in
theorem isBoardOf_c (ts : List T4) (A : Option Addr) (cx : Nat) (b : Int) (w : World) (hT : TileCells w A ts) (hl : ts.length ≤ 1000000000) :
    Calls Try.prog 65 #[.slice A ts.length cx, .int .i64 b] w fun e w' => e = .returned (.bool (boardOf ts b)) ∧ Below w.heap.size w w' := by
  have H1 := Lib.hid (fun w => within_c ts.length 1 6 w)
  have H2 := Lib.hid (areTiles_c ts A cx w hT hl)
  have H3 := Lib.hid (fun w => within_c b (-1) 5 w)
  have HR : Hid (boardOf ts b = (inR 1 6 ts.length && ((ts.all fun t => isTileB t 6) && inR (-1) 5 b))) := rfl
  clear hT
  generalize inR 1 6 (ts.length : Int) = p at *
  generalize (ts.all fun t => isTileB t 6) = q at *
  generalize inR (-1) 5 b = r at *
  cases p
  · go_enter Try.func65, Try.ntmps65
    go_wp2_with fail
    refine (H1.out _).mono ?_
    rintro e w1 ⟨rfl, rfl⟩
    go_wp2
    go_ret
    exact ⟨ret_bool HR.out.symm, Below.refl _ _⟩
  · cases q
    · go_enter Try.func65, Try.ntmps65
      go_wp2_with fail
      refine (H1.out _).mono ?_
      rintro e w1 ⟨rfl, rfl⟩
      go_wp2_with fail
      refine H2.out.mono ?_
      rintro e w1 ⟨rfl, hb⟩
      go_wp2
      go_ret
      exact ⟨ret_bool HR.out.symm, hb⟩
    · go_enter Try.func65, Try.ntmps65
      go_wp2_with fail
      refine (H1.out _).mono ?_
      rintro e w1 ⟨rfl, rfl⟩
      go_wp2_with fail
      refine H2.out.mono ?_
      rintro e w1 ⟨rfl, hb⟩
      go_wp2_with fail
      refine (H3.out _).mono ?_
      rintro e w2 ⟨rfl, rfl⟩
      go_wp2
      go_ret
      exact ⟨ret_bool HR.out.symm, hb⟩
def sizesCode (ts : List T4) (b : Int) (L : List (List P2)) : Int := if shapeP L = true ∧ boardOf ts b = true then 0 else 2
set_option maxRecDepth 100000 in
set_option maxHeartbeats 1000000 in
theorem l07Sizes_c (ts : List T4) (A : Option Addr) (cx : Nat) (b : Int) (L : List (List P2)) (R : Option Addr) (cR : Nat) (w : World) (hT : TileCells w A ts) (hl : ts.length ≤ 1000000000) (hR : RowsP w R L) (hL : L.length ≤ 1000000000) (hS : ShortP 1000000000 L) :
    Calls Try.prog 61 #[.slice A ts.length cx, .int .i64 b, .slice R L.length cR] w fun e w' => e = .returned (.int .i64 (sizesCode ts b L)) ∧ Below w.heap.size w w' := by
  have HR := Lib.hid hR
  have HT := Lib.hid hT
  have HS := Lib.hid hS
  clear hT hS
  by_cases h0 : 0 < L.length
  · obtain ⟨bR, oR, A1, c1, rfl, hlt, hc, hr⟩ := hR 0 h0
    simp only [Nat.add_zero] at hc
    rw [← wid_get h0] at hc
    have hwl : wid L ≤ 1000000000 := by rw [wid_get h0]; exact HS.out 0 h0
    have HC := Lib.hid hc
    clear hr hR hc
    by_cases h1 : 0 < wid L
    · have hc := HC.out
      have HWL := Lib.hid hwl
      have HI := Lib.hid (fun w => l01In_c b (-1) 5 w)
      have HTI := Lib.hid (fun (w : World) (h : TileCells w A ts) => l07Tiles_c ts A cx w h hl)
      have HWD : Hid (∀ j (h : j < L.length), L[j].length ≠ wid L → shapeP L = false) := fun j h hne => by
        have : (L.any fun r => r.length != wid L) = true := List.any_eq_true.2 ⟨L[j], List.getElem_mem h, by simpa using hne⟩
        simp [shapeP, this]
      have HWE : Hid ((∀ j (h : j < L.length), L[j].length = wid L) → shapeP L = true) := fun hall => by
        have : (L.any fun r => r.length != wid L) = false := by
          rw [List.any_eq_false]
          intro r hr
          obtain ⟨j, hj, rfl⟩ := List.getElem_of_mem hr
          simp [hall j hj]
        simp [shapeP, this, h0, h1]
      have HCode : Hid (sizesCode ts b L = if shapeP L = true ∧ boardOf ts b = true then 0 else 2) := rfl
      have HBo : Hid (boardOf ts b = (inR 1 6 ts.length && ((ts.all fun t => isTileB t 6) && inR (-1) 5 b))) := rfl
      have HTC : Hid (tilesCode ts = if (ts.all fun t => isTileB t 6) = true then 0 else 2) := rfl
      generalize wid L = wd at *
      go_enter Try.func61, Try.ntmps61
      go_wp2_with fail
      go_loopw [7] (fun i wr => ∃ k : Nat, k ≤ L.length ∧ i = .int .i64 k ∧ Hid (∀ j (h : j < L.length), j < k → L[j].length = wd) ∧ Hid (Below w.heap.size w wr)) (fun i _ => L.length - (intOf i).toNat)
      case atStart => exact ⟨0, by omega, rfl, fun j _ h => by omega, Below.refl _ _⟩
      case round =>
        obtain ⟨k, hk, rfl, HN, HB⟩ := hrel
        by_cases hkl : k < L.length
        · obtain ⟨A2, c2, hc2, _⟩ := (HR.out.below HB.out).pair k hkl
          have hc3 := (HB.out.cell (p := ⟨bR, oR, none⟩) hlt).trans HC.out
          have HWK := Lib.hid (HWD.out k hkl)
          have HNK : Hid (L[k].length = wd → ∀ j (h : j < L.length), j < k + 1 → L[j].length = wd) := fun he j h hj => by
            by_cases e : j = k
            · subst e; exact he
            · exact HN.out j h (by omega)
          have hLk : L[k].length ≤ 1000000000 := HS.out k hkl
          clear hc
          generalize L[k].length = n at *
          by_cases hn : n = wd
          · have hn' : ((n : Int) != (wd : Int)) = false := by simp [hn]
            have HNN := Lib.hid (HNK.out hn)
            clear hn
            go_wp2_with fail
            go_quiet (fail)
            go_wp2_with fail
            go_roundw
            case rel => exact ⟨k + 1, by omega, by go_num, HNN.out, by have h := HB.out; exact ⟨h.os, h.tape, h.output, h.size, h.block⟩⟩
            case measure => simp [intOf]; omega
          · have hn' : ((n : Int) != (wd : Int)) = true := by simp; omega
            have HF := Lib.hid (show sizesCode ts b L = 2 by rw [HCode.out, if_neg]; rintro ⟨h, _⟩; rw [HWK.out hn] at h; cases h)
            clear hn
            go_wp2_with fail
            go_quiet (fail)
            go_wp2
            go_ret
            exact ⟨ret_int HF.out.symm, by have h := HB.out; exact ⟨h.os, h.tape, h.output, h.size, h.block⟩⟩
        · have HSh := Lib.hid (HWE.out (fun j h => HN.out j h (by omega)))
          have HT2 := Lib.hid (HT.out.below HB.out)
          clear hc
          by_cases l1 : ts.length < 1
          · have HF := Lib.hid (show sizesCode ts b L = 2 by
              rw [HCode.out, if_neg]
              rintro ⟨_, h⟩
              rw [HBo.out, Bool.and_eq_true, inR_iff] at h
              omega)
            go_wp2
            go_ret
            exact ⟨ret_int HF.out.symm, HB.out⟩
          · by_cases l2 : 6 < ts.length
            · have HF := Lib.hid (show sizesCode ts b L = 2 by
                rw [HCode.out, if_neg]
                rintro ⟨_, h⟩
                rw [HBo.out, Bool.and_eq_true, inR_iff] at h
                omega)
              go_wp2
              go_ret
              exact ⟨ret_int HF.out.symm, HB.out⟩
            · have HI1 : Hid (inR 1 6 (ts.length : Int) = true) := inR_iff.2 (by omega)
              have H2 := Lib.hid (HTI.out wr HT2.out)
              rw [HTC.out] at H2
              rw [HI1.out, Bool.true_and] at HBo
              generalize (ts.all fun t => isTileB t 6) = q at *
              generalize inR (-1) 5 b = r at *
              cases q
              · have HF := Lib.hid (show sizesCode ts b L = 2 by
                  rw [HCode.out, if_neg]
                  rintro ⟨_, h⟩
                  rw [HBo.out] at h
                  simp at h)
                simp only [Bool.false_eq_true, if_false] at H2
                go_wp2_with fail
                refine H2.out.mono ?_
                rintro e w1 ⟨rfl, hb⟩
                go_wp2
                go_ret
                exact ⟨ret_int HF.out.symm, HB.out.trans (hb.mono HB.out.size)⟩
              · simp only [if_true] at H2
                cases r
                · have HF := Lib.hid (show sizesCode ts b L = 2 by
                    rw [HCode.out, if_neg]
                    rintro ⟨_, h⟩
                    rw [HBo.out] at h
                    simp at h)
                  go_wp2_with fail
                  refine H2.out.mono ?_
                  rintro e w1 ⟨rfl, hb⟩
                  go_wp2_with fail
                  refine (HI.out _).mono ?_
                  rintro e w2 ⟨rfl, rfl⟩
                  go_wp2
                  go_ret
                  exact ⟨ret_int HF.out.symm, HB.out.trans (hb.mono HB.out.size)⟩
                · have HF := Lib.hid (show sizesCode ts b L = 0 by
                    rw [HCode.out, if_pos]
                    exact ⟨HSh.out, by rw [HBo.out]; rfl⟩)
                  go_wp2_with fail
                  refine H2.out.mono ?_
                  rintro e w1 ⟨rfl, hb⟩
                  go_wp2_with fail
                  refine (HI.out _).mono ?_
                  rintro e w2 ⟨rfl, rfl⟩
                  go_wp2
                  go_ret
                  exact ⟨ret_int HF.out.symm, HB.out.trans (hb.mono HB.out.size)⟩
    · have h2 : wid L = 0 := by omega
      have HF := Lib.hid (show sizesCode ts b L = 2 by unfold sizesCode; rw [if_neg]; simp [shapeP, h2])
      have hc := HC.out
      rw [h2] at hc
      clear h1 h2 hwl
      go_enter Try.func61, Try.ntmps61
      go_wp2
      go_ret
      exact ⟨ret_int HF.out.symm, Below.refl _ _⟩
  · have h2 : L.length = 0 := by omega
    have HF := Lib.hid (show sizesCode ts b L = 2 by unfold sizesCode; rw [if_neg]; simp [shapeP, h2])
    rw [h2]
    clear h2 hR
    go_enter Try.func61, Try.ntmps61
    go_wp2
    go_ret
    exact ⟨ret_int HF.out.symm, Below.refl _ _⟩

end Go.Proofs.Ytfkmophmiiehlaa
namespace Go.Proofs.Ytfkmophmiiehlaa
open Go.RowKit
def cellP (L : List (List P2)) (y x : Nat) : P2 := (L.getD y []).getD x default
theorem getDP {r : List P2} {x : Nat} (h : x < r.length) : r.getD x default = r[x] := by simp [h]
def bef (L : List (List P2)) (y x : Nat) : List P2 := (L.take y).flatten ++ (L.getD y []).take x
theorem bef_succ {L : List (List P2)} {y x : Nat} (h : x < (L.getD y []).length) : bef L y (x + 1) = bef L y x ++ [cellP L y x] := by
  unfold bef cellP
  rw [List.take_succ_eq_append_getElem h, List.append_assoc]
  rw [getDP h]
theorem bef_row {L : List (List P2)} {y : Nat} (h : y < L.length) : bef L (y + 1) 0 = bef L y (L.getD y []).length := by
  unfold bef
  have e : L.getD y [] = L[y] := by simp [h]
  rw [e, List.take_length, List.take_zero, List.append_nil, List.take_succ_eq_append_getElem h, List.flatten_append]
  simp
def metL (ts : List T4) (L : List (List P2)) (y x : Nat) : List Bool := (List.range ts.length).map fun i : Nat => (bef L y x).any fun q => q.t == (i : Int)
theorem metL_len (ts : List T4) (L : List (List P2)) (y x : Nat) : (metL ts L y x).length = ts.length := by simp [metL]
theorem metL_get (ts : List T4) (L : List (List P2)) (y x i : Nat) (h : i < (metL ts L y x).length) : (metL ts L y x)[i] = (bef L y x).any fun q => q.t == (i : Int) := by simp [metL]
theorem metL_zero (ts : List T4) (L : List (List P2)) : metL ts L 0 0 = List.replicate ts.length false := by
  apply List.ext_getElem
  · simp [metL]
  · intro i h1 h2; simp [metL, bef]
theorem metL_step {ts : List T4} {L : List (List P2)} {y x t : Nat} (h : x < (L.getD y []).length) (ht : t < ts.length) (he : (cellP L y x).t = (t : Int)) : (metL ts L y x).set t true = metL ts L y (x + 1) := by
  apply List.ext_getElem
  · simp [metL]
  · intro i h1 h2
    rw [List.getElem_set, metL_get, metL_get, bef_succ h, List.any_append]
    by_cases e : t = i
    · subst e; simp [he]
    · rw [if_neg e]
      simp [he]
      intro h; omega
theorem metL_row {ts : List T4} {L : List (List P2)} {y : Nat} (h : y < L.length) : metL ts L (y + 1) 0 = metL ts L y (L.getD y []).length := by
  unfold metL; rw [bef_row h]
def tileAt (ts : List T4) (p : P2) : T4 := turnN (ts.getD p.t.toNat default) p.n.toNat
def rowG (ts : List T4) (L : List (List P2)) (y x : Nat) : List T4 := ((L.getD y []).take x).map (tileAt ts)
theorem rowG_succ {ts : List T4} {L : List (List P2)} {y x : Nat} (h : x < (L.getD y []).length) : rowG ts L y (x + 1) = rowG ts L y x ++ [tileAt ts (cellP L y x)] := by
  unfold rowG cellP
  rw [List.take_succ_eq_append_getElem h, List.map_append]
  rw [getDP h]
  rfl
theorem rowG_len {ts : List T4} {L : List (List P2)} {y x : Nat} (h : x ≤ (L.getD y []).length) : (rowG ts L y x).length = x := by unfold rowG; rw [List.length_map, List.length_take]; omega
theorem rowG_get {ts : List T4} {L : List (List P2)} {y x j : Nat} (h : j < (rowG ts L y x).length) : (rowG ts L y x)[j] = tileAt ts (cellP L y j) := by
  unfold rowG at h ⊢
  rw [List.length_map, List.length_take] at h
  simp only [List.getElem_map, List.getElem_take]
  unfold cellP
  congr 1
  simp only [List.getD_eq_getElem?_getD] at *
  rw [List.getElem?_eq_getElem (show j < (L[y]?.getD []).length by omega)]
  rfl
def gridG (ts : List T4) (L : List (List P2)) (y : Nat) : List (List T4) := (L.take y).map fun r => r.map (tileAt ts)
theorem gridG_succ {ts : List T4} {L : List (List P2)} {y : Nat} (h : y < L.length) : gridG ts L (y + 1) = gridG ts L y ++ [rowG ts L y (L.getD y []).length] := by
  unfold gridG rowG
  have e : L.getD y [] = L[y] := by simp [h]
  rw [List.take_succ_eq_append_getElem h, List.map_append, e, List.take_length]
  rfl
theorem gridG_len {ts : List T4} {L : List (List P2)} {y : Nat} (h : y ≤ L.length) : (gridG ts L y).length = y := by unfold gridG; rw [List.length_map, List.length_take]; omega
theorem gridG_get {ts : List T4} {L : List (List P2)} {y j : Nat} (h : j < (gridG ts L y).length) : (gridG ts L y)[j] = rowG ts L j (L.getD j []).length := by
  unfold gridG at h ⊢
  rw [List.length_map, List.length_take] at h
  have e : L.getD j [] = L[j] := by simp [show j < L.length by omega]
  unfold rowG
  simp only [List.getElem_map, List.getElem_take]
  rw [e, List.take_length]
def upC (ts : List T4) (L : List (List P2)) (y x : Nat) : Option Int := if y = 0 then none else some (tileAt ts (cellP L (y - 1) x)).d
def lfC (ts : List T4) (L : List (List P2)) (y x : Nat) : Option Int := if x = 0 then none else some (tileAt ts (cellP L y (x - 1))).c
def okA (ts : List T4) (L : List (List P2)) (y x : Nat) : Bool := inR 0 ((ts.length : Int) - 1) (cellP L y x).t && (inR 0 3 (cellP L y x).n && !((bef L y x).any fun q => q.t == (cellP L y x).t))
def okF (ts : List T4) (b : Int) (L : List (List P2)) (y x : Nat) : Bool := fitB (tileAt ts (cellP L y x)) b y x L.length (wid L) (upC ts L y x) (lfC ts L y x)
/-- rows of placed tiles are a board -/
def boardB (ts : List T4) (b : Int) (L : List (List P2)) : Bool := decide (L.length * wid L = ts.length ∧ ∀ y, y < L.length → ∀ x, x < wid L → okA ts L y x = true ∧ okF ts b L y x = true)
theorem boardB_bad {ts : List T4} {b : Int} {L : List (List P2)} {y x : Nat} (hy : y < L.length) (hx : x < wid L) (h : okA ts L y x = false ∨ okF ts b L y x = false) : boardB ts b L = false := by
  unfold boardB
  rw [decide_eq_false_iff_not]
  rintro ⟨_, h2⟩
  have := h2 y hy x hx
  rcases h with h | h
  · rw [h] at this; cases this.1
  · rw [h] at this; cases this.2
theorem shape_row {L : List (List P2)} (h : shapeP L = true) : 0 < L.length ∧ 0 < wid L ∧ ∀ y, y < L.length → (L.getD y []).length = wid L := by
  unfold shapeP at h
  simp only [Bool.and_eq_true, decide_eq_true_eq, Bool.not_eq_true'] at h
  obtain ⟨h0, h1, h2⟩ := h
  refine ⟨h0, h1, fun y hy => ?_⟩
  have e : L.getD y [] = L[y] := by simp [hy]
  rw [e]
  have := List.any_eq_false.1 h2 L[y] (List.getElem_mem hy)
  simpa using this

end Go.Proofs.Ytfkmophmiiehlaa
