/- Contracts and lemmas for the statements of this seat, written for this claim; each theorem states its own conditions. -/
import Derived.Test.YtpcooplalncdcaaWfW4
import Derived.Test.YtpcooplalncdcaaWfTf1
set_option linter.unusedVariables false
set_option linter.unusedSimpArgs false
namespace Go.Proofs.Ytpcooplalncdcaa
open Go.RowKit
/-- the first number of columns behind which no way of one column more is there -/
def wfN (S : Nat) (cols : List Col) : Option Nat := (List.range (cols.length + 1)).find? fun w => !(endL S cols true false (w + 1)).contains true
theorem wfN_some {S : Nat} {cols : List Col} {q : Nat} (hq : q ≤ cols.length) (h1 : ∀ i, i < q → (endL S cols true false (i + 1)).contains true = true) (h2 : (endL S cols true false (q + 1)).contains true = false) : wfN S cols = some q := by
  unfold wfN
  rw [List.find?_range_eq_some]
  exact ⟨by rw [h2]; rfl, List.mem_range.2 (by omega), fun j hj => by rw [h1 j hj]; rfl⟩
theorem wfN_none {S : Nat} {cols : List Col} (h : ∀ i, i ≤ cols.length → (endL S cols true false (i + 1)).contains true = true) : wfN S cols = none := by
  unfold wfN
  rw [List.find?_eq_none]
  intro x hx
  rw [h x (by have := List.mem_range.1 hx; omega)]
  decide
def wfCode (c : Int) (ts : List T4) (h : Int) : Int := if tsCode c ts h true = 0 then (if (wfN (powC c h.toNat).toNat (lev c ts h.toNat)).isSome = true then 0 else 4) else tsCode c ts h true
def wfVal (c : Int) (ts : List T4) (h : Int) : Int := if tsCode c ts h true = 0 then ((wfN (powC c h.toNat).toNat (lev c ts h.toNat)).getD 0 : Nat) else 0
theorem setOr_some {nx : List Bool} {e : Nat} (b : Bool) (h : e < nx.length) : (nx.set e (nx[e] || b)).contains true = (nx.contains true || b) := by
  cases b
  · simp
  · have : (nx.set e (nx[e] || true)).contains true = true := by
      rw [List.contains_iff_mem]
      exact List.mem_iff_getElem.2 ⟨e, by rw [List.length_set]; exact h, by simp⟩
    rw [this]; simp
set_option maxRecDepth 100000 in
set_option maxHeartbeats 1000000 in
theorem specWidest_c (c : Int) (ts : List T4) (A : Option Addr) (cx : Nat) (h : Int) (w : World) (hT : TileCells w A ts) (hl : ts.length ≤ 1000000000) :
    Calls Try.prog 16 #[.agg #[.int .i64 c, .slice A ts.length cx], .int .i64 h] w fun e w' => e = .returned (.tuple #[.int .i64 (wfVal c ts h), .int .i64 (wfCode c ts h)]) ∧ Below w.heap.size w w' := by
  have H2 := Lib.hid (fun (wq : World) (hwq : Below w.heap.size w wq) => l10Code_c c ts A cx h true wq (hT.below hwq) hl)
  have HSz := Lib.hid (fun (hs : isSetB c ts = true) (n : Nat) (h3 : n ≤ 4) w => l06Size_c c ts.length cx n A w (isSetB_parts hs).2.1.1 (isSetB_parts hs).2.1.2 h3)
  have hv : wfVal c ts h = if tsCode c ts h true = 0 then (((wfN (powC c h.toNat).toNat (lev c ts h.toNat)).getD 0 : Nat) : Int) else 0 := rfl
  have hv2 : wfCode c ts h = if tsCode c ts h true = 0 then (if (wfN (powC c h.toNat).toNat (lev c ts h.toNat)).isSome = true then 0 else 4) else tsCode c ts h true := rfl
  have hcol : tsCols c ts h true = if tsCode c ts h true = 0 then lev c ts h.toNat else [] := rfl
  have hz := Lib.hid (tsCode_zero (c := c) (ts := ts) (h := h) (fine := true))
  rw [hcol] at H2
  clear hT hcol
  generalize tsCode c ts h true = code at *
  go_enter Try.func16, Try.ntmps16
  go_wp2_with fail
  refine (H2.out _ (by (repeat (first | (with_reducible exact Below.refl _ _) | (with_reducible assumption) | (with_reducible refine below_al ?_) | (with_reducible refine below_dr ?_) | (with_reducible refine below_drN ?_) | (with_reducible refine below_set ?_ (by first | exact Nat.le_refl _ | (dsimp only; omega) | omega)) | (with_reducible refine below_tr (by with_reducible assumption) ?_))))).mono ?_
  rintro e w2 ⟨v, rfl, hO, hb2⟩
  have HW : Hid (Below w.heap.size w w2) := by (show Below _ _ _); (repeat (first | (with_reducible exact Below.refl _ _) | (with_reducible assumption) | (with_reducible refine below_al ?_) | (with_reducible refine below_dr ?_) | (with_reducible refine below_drN ?_) | (with_reducible refine below_set ?_ (by first | exact Nat.le_refl _ | (dsimp only; omega) | omega)) | (with_reducible refine below_tr (by with_reducible assumption) ?_)))
  have d0 : w2.cell? ⟨w.heap.size, 0, none⟩ = some (.int .i64 c) := by rw [(bcell hb2).1 _ _ (by simp)]; exact cell_alloc_at _ _ _ _ _ rfl
  have d1 : w2.cell? ⟨w.heap.size, 1, none⟩ = some (.slice A ts.length cx) := by rw [(bcell hb2).1 _ _ (by simp)]; exact cell_alloc_at _ _ _ _ _ rfl
  have hN2 : w.heap.size < w2.heap.size := by have := hb2.size; simp at this; omega
  have HO := Lib.hid hO
  clear hb2 hO
  by_cases hc0 : code = 0
  · subst hc0
    obtain ⟨hs, _, n1, n3, hp⟩ := hz.out rfl
    obtain ⟨n, rfl⟩ := Int.eq_ofNat_of_zero_le (by omega : 0 ≤ h)
    rw [Int.toNat_natCast] at hp
    rw [if_pos rfl, Int.toNat_natCast] at hv hv2 HO
    obtain ⟨_, ⟨c1, c6⟩, h16⟩ := isSetB_parts hs
    have p1 := powC_4 c1 c6 (h := n) (by omega)
    have hll := Nat.le_trans (lev_len c ts n) (pow16 h16 (by omega : n ≤ 3))
    have HCs := Lib.hid (lev_Codes hs n)
    replace HSz := Lib.hid (fun w => HSz.out hs n (by omega) w)
    obtain ⟨S, hS'⟩ := Int.eq_ofNat_of_zero_le (by omega : 0 ≤ powC c n)
    rw [hS'] at HSz HCs p1 hp hv hv2
    rw [Int.toNat_natCast] at HCs hv hv2
    have HV := Lib.hid hv
    have HV2 := Lib.hid hv2
    clear hv hv2 hS' hz h16 n1 n3 hs
    generalize lev c ts n = cols at *
    obtain ⟨Ac, kc, rfl, hRc⟩ := HO.out.rows
    have HRc := Lib.hid hRc
    rw [crows_len]
    clear hRc
    have hm := fun w => make_b S (by omega) w
    go_wp2_with fail
    refine (HSz.out _).mono ?_
    rintro e w3 ⟨rfl, hb3⟩
    have HB3 := Lib.hid hb3
    clear hb3 d0 d1
    go_wp2_with fail
    clear hm
    have HBS := Lib.hid (HW.out.trans (HB3.out.mono HW.out.size))
    have HR3 := Lib.hid (HRc.out.below HB3.out)
    go_loopw [10] (fun iv wr => ∃ q : Nat, q ≤ S ∧ iv = .int .i64 q ∧ Hid (OwnB wr w3.heap.size (.slice (some ⟨w3.heap.size, 0, none⟩) S S) (repB S q)) ∧ Hid (Below w3.heap.size w3 wr)) (fun i _ => S - (intOf i).toNat)
    case atStart => exact ⟨0, by omega, rfl, Lib.hid (by simpa [repB] using OwnB.made w3 w3.heap.size S (Nat.le_refl _) (by omega)), Lib.hid (by (repeat (first | (with_reducible exact Below.refl _ _) | (with_reducible assumption) | (with_reducible refine below_al ?_) | (with_reducible refine below_dr ?_) | (with_reducible refine below_drN ?_) | (with_reducible refine below_set ?_ (by first | exact Nat.le_refl _ | (dsimp only; omega) | omega)) | (with_reducible refine below_tr (by with_reducible assumption) ?_))))⟩
    case round =>
      obtain ⟨q, hq, rfl, HOq, HBq⟩ := hrel
      by_cases hqS : q < S
      · obtain ⟨g4, hg4, _, gl, n1, n2⟩ := HOq.out.at_ q (by rw [repB_len hq]; exact hqS)
        injection hg4 with hg4; injection hg4 with hg4 _; subst hg4
        have HF := Lib.hid ((HOq.out.set q true).1)
        rw [repB_set hqS] at HF
        generalize (repB S q)[q]'_ = z at n1
        go_wp2
        go_roundw
        case rel => exact ⟨q + 1, by omega, by go_num, HF, Lib.hid (HBq.out.setCell (Nat.le_refl _) _)⟩
        case measure => simp [intOf]; omega
      · obtain rfl : q = S := by omega
        rw [repB_all] at HOq
        go_wp2_with fail
        go_loopw [9, 11] (fun v iv wr => ∃ j : Nat, j ≤ cols.length + 1 ∧ iv = .int .i64 j ∧ Hid (OwnB wr w3.heap.size v (endL q cols true false j)) ∧ Hid (Below w3.heap.size w3 wr) ∧ Hid (∀ i, i < j → (endL q cols true false (i + 1)).contains true = true)) (fun _ i _ => cols.length + 1 - (intOf i).toNat)
        case atStart => exact ⟨0, by omega, rfl, Lib.hid HOq.out, HBq, Lib.hid (fun i hi => by omega)⟩
        case round =>
          obtain ⟨j, hj, rfl, HOj, HBj, HDj⟩ := hrel
          obtain ⟨wj, rfl⟩ : ∃ wj, wj = wr := ⟨wr, rfl⟩
          have hlen := endL_len q cols true false j
          obtain ⟨An, kn, rfl⟩ := HOj.out.shape
          by_cases hjl : j ≤ cols.length
          · have hjl' : (j : Int) ≤ (cols.length : Int) := by omega
            have HSu : Hid (endL q cols true false (j + 1) = ago q cols true false (endL q cols true false j)) := rfl
            generalize endL q cols true false j = now at *
            have hm := fun w => make_b q (by omega) w
            have HRd := Lib.hid HOj.out.read
            have HLn := Lib.hid hlen
            rw [hlen] at HOj
            rw [hlen]
            clear hlen
            go_wp2_with fail
            clear hm
            go_loopw [13, 14] (fun sv iv wr => ∃ k : Nat, k ≤ cols.length ∧ iv = .int .i64 k ∧ sv = .bool ((ago q (cols.take k) true false now).contains true) ∧ Hid (OwnB wr wj.heap.size (.slice (some ⟨wj.heap.size, 0, none⟩) q q) (ago q (cols.take k) true false now)) ∧ Hid (Below wj.heap.size wj wr)) (fun _ i _ => cols.length - (intOf i).toNat)
            case atStart => exact ⟨0, by omega, rfl, by simp [ago, List.contains_iff_mem], Lib.hid (OwnB.made wj _ q (Nat.le_refl _) (by omega)), Lib.hid (by (repeat (first | (with_reducible exact Below.refl _ _) | (with_reducible assumption) | (with_reducible refine below_al ?_) | (with_reducible refine below_dr ?_) | (with_reducible refine below_drN ?_) | (with_reducible refine below_set ?_ (by first | exact Nat.le_refl _ | (dsimp only; omega) | omega)) | (with_reducible refine below_tr (by with_reducible assumption) ?_))))⟩
            case round =>
              obtain ⟨k, hk, rfl, rfl, HOk, HBk⟩ := hrel
              by_cases hkl : k < cols.length
              · obtain ⟨b2, off2, r, o, cx2, rfl, hb2, y0, hr, y1, y2, y3, y4⟩ := crows_at (HR3.out.below (HBj.out.trans (HBk.out.mono HBj.out.size))) k hkl
                obtain ⟨⟨w0, w1'⟩, e0, e1⟩ := HCs.out _ (List.getElem_mem hkl)
                have HTg := Lib.hid (ago_take q cols true false now k hkl)
                have hnl := ago_len q (cols.take k) true false now
                generalize ago q (cols.take k) true false now = nx at *
                generalize cols[k] = col at *
                have hz1 : col.w.toNat < now.length := by have := HLn.out; omega
                have hz2 : col.e.toNat < nx.length := by omega
                have HTG := Lib.hid (HTg.out.trans (astep_put true false now nx col hz2 hz1).symm)
                have HTs := Lib.hid (setOr_some (nx := nx) (now[col.w.toNat]) hz2)
                obtain ⟨wi, hwi⟩ := Int.eq_ofNat_of_zero_le w0
                obtain ⟨ei, hei⟩ := Int.eq_ofNat_of_zero_le e0
                obtain ⟨b3, off3, rfl, hlt3, n0⟩ := HRd.out _ hz1
                obtain ⟨g4, hg4, _, gl, n1, n2⟩ := HOk.out.at_ _ hz2
                injection hg4 with hg4; injection hg4 with hg4 _; subst hg4
                simp only [sel, Bool.false_eq_true, if_true, if_false, hwi, hei, Int.toNat_natCast] at n0 n1 n2 hz1 hz2 HTs HTG
                rw [hwi] at y2
                rw [hei] at y3
                have hlw : wi < q := by omega
                have hle : ei < q := by omega
                replace n0 := (HBk.out.cell (p := ⟨b3, off3 + wi, none⟩) hlt3).trans n0
                have HSet := Lib.hid (fun u => (HOk.out.set ei u).1)
                obtain ⟨bn, hbn⟩ : ∃ bn, nx[ei] = bn := ⟨_, rfl⟩
                obtain ⟨bw, hbw⟩ : ∃ bw, now[wi] = bw := ⟨_, rfl⟩
                have HId : Hid (nx.set ei bn = nx) := by show nx.set ei bn = nx; rw [← hbn]; exact List.set_getElem_self _
                rw [hbn] at n1 HTs HTG
                rw [hbw] at n0 HTs HTG
                generalize nx.contains true = sm at *
                clear y1 y4 HTg
                clear hbn hbw hwi hei hz1 hz2 hnl
                cases bw
                · simp only [Bool.or_false] at HTs HTG
                  rw [HId.out] at HTs HTG
                  go_wp2_with fail
                  go_roundw
                  case rel => exact ⟨k + 1, by omega, by go_num, by rw [HTG.out, HTs.out], Lib.hid (by rw [HTG.out]; exact HOk.out), HBk⟩
                  case measure => simp [intOf]; omega
                · simp only [Bool.or_true] at HTs HTG
                  go_wp2_with fail
                  go_roundw
                  case rel => exact ⟨k + 1, by omega, by go_num, by rw [HTG.out, HTs.out], Lib.hid (by rw [HTG.out]; exact HSet.out true), Lib.hid (HBk.out.setCell (Nat.le_refl _) _)⟩
                  case measure => simp [intOf]; omega
              · obtain rfl : k = cols.length := by omega
                rw [List.take_length] at HOk ⊢
                have HBjk := Lib.hid (HBj.out.trans (HBk.out.mono HBj.out.size))
                rw [← HSu.out] at HOk ⊢
                cases hsm : (endL q cols true false (j + 1)).contains true
                · have HE := Lib.hid (wfN_some (q := j) hjl HDj.out hsm)
                  clear hsm
                  go_wp2_with fail
                  go_ret2
                  exact ⟨by rw [HV.out, HV2.out, HE.out]; rfl, HBS.out.trans (HBjk.out.mono HBS.out.size)⟩
                · have HE := Lib.hid (HOk.out.weaken HBj.out.size)
                  have HD2 := Lib.hid (show ∀ i, i < j + 1 → (endL q cols true false (i + 1)).contains true = true from fun i hi => by
                    by_cases e : i = j
                    · subst e; exact hsm
                    · exact HDj.out i (by omega))
                  clear hsm
                  go_wp2_with fail
                  go_roundw
                  case rel => exact ⟨j + 1, by omega, by go_num, HE, HBjk, HD2⟩
                  case measure => simp [intOf]; omega
          · obtain rfl : j = cols.length + 1 := by omega
            have HE := Lib.hid (wfN_none (S := q) (cols := cols) fun i hi => HDj.out i (by omega))
            go_wp2_with fail
            go_ret2
            exact ⟨by rw [HV.out, HV2.out, HE.out]; rfl, HBS.out.trans (HBj.out.mono HBS.out.size)⟩
  · have hcz : (code != 0) = true := by simp [hc0]
    rw [if_neg hc0] at hv hv2
    have HV := Lib.hid hv
    have HV2 := Lib.hid hv2
    clear hc0 hv hv2
    go_wp2
    go_ret2
    exact ⟨by rw [HV.out, HV2.out]; rfl, HW.out⟩

end Go.Proofs.Ytpcooplalncdcaa
