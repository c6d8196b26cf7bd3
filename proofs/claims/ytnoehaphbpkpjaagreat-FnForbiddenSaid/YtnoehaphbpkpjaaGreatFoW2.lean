/- Contracts and lemmas for the statements of this seat, written for this claim; each theorem states its own conditions. -/
import Derived.Deep.LoopGhost
import Derived.Test.YtnoehaphbpkpjaaGreatFoPr
import Derived.Test.YtnoehaphbpkpjaaGreatFoSz
set_option linter.unusedVariables false
set_option linter.unusedSimpArgs false
namespace Go.Proofs.YtnoehaphbpkpjaaGreat
open Go.RowKit
attribute [local go_sem] addUpon_value addUpon_skip addUpon_enter
set_option maxRecDepth 100000 in
set_option maxHeartbeats 1000000 in
theorem equalB_c (xs ys : List Bool) (A B : Option Addr) (cx cy : Nat) (w : World) (hx : BoolC w A xs) (hy : BoolC w B ys) (lx : xs.length ≤ 1000000000) (ly : ys.length ≤ 1000000000) :
    Calls Tryz.prog 131 #[.slice A xs.length cx, .slice B ys.length cy] w fun e w' => e = .returned (.bool (decide (xs = ys))) ∧ Below w.heap.size w w' := by
  by_cases hl : xs.length = ys.length
  · have HL := Lib.hid hl
    have hl' : ((xs.length : Int) != (ys.length : Int)) = false := by simp; omega
    have hl2 : ys.length ≤ xs.length := by omega
    have hl3 : xs.length ≤ ys.length := by omega
    clear hl
    go_enter Tryz.func131, Tryz.ntmps131
    go_wp2
    go_loopw [13] (fun i wr => ∃ k : Nat, k ≤ xs.length ∧ i = .int .i64 k ∧ Hid (∀ j (h1 : j < xs.length) (h2 : j < ys.length), j < k → xs[j] = ys[j]) ∧ Below w.heap.size w wr) (fun i _ => xs.length - (intOf i).toNat)
    case atStart => exact ⟨0, by omega, rfl, fun j _ _ h => by omega, Below.refl _ _⟩
    case round =>
      obtain ⟨k, hk, rfl, Hn, hb⟩ := hrel
      have Hb := Lib.hid hb
      by_cases h1 : k < xs.length
      · have h2 : k < ys.length := by omega
        obtain ⟨b, off, rfl, hlt, c0⟩ := (hx.below hb) k h1
        obtain ⟨b', off', rfl, hlt', d0⟩ := (hy.below hb) k h2
        have e0 := keepC c0
        have f0 := keepC d0
        clear c0 d0 hx hy hb
        have HN : Hid (xs[k] = ys[k] → ∀ j (h1 : j < xs.length) (h2 : j < ys.length), j < k + 1 → xs[j] = ys[j]) := fun hE j h1 h2 hj => by
          by_cases e : j = k
          · subst e; exact hE
          · exact Hn.out j h1 h2 (by omega)
        have HF : Hid (xs[k] ≠ ys[k] → decide (xs = ys) = false) := fun hE => by
          simp only [decide_eq_false_iff_not]; intro e; apply hE; simp only [e]
        generalize xs[k] = s at *
        generalize ys[k] = t at *
        cases s <;> cases t
        · have HE := Lib.hid (HN.out rfl)
          go_wp2_with fail
          refine wp_region_add (fun w' => Below (wr).heap.size (wr) w') (by kernel_rfl) (by kernel_rfl) ((Below.refl _ _).drew) ?_
          repeat (first
            | (refine add_skip rfl (fun K' hK' => ?_); go_simp; refine hK' _ ?_; clear hK' K')
            | (refine add_do (v := ?_) rfl (fun w1 hb => ?_) (fun K' hK' => ?_); rotate_left
               · go_simp
                 first
                 | (with_reducible exact rfl)
                 | (with_reducible exact ⟨rfl, hb⟩)
                 | exact rfl
                 | exact ⟨rfl, hb⟩
               go_simp; refine hK' _ ?_; clear hK' K'))
          refine add_nil ?_
          intro wa hba
          go_wp2
          go_roundw
          case rel => exact ⟨k + 1, by omega, by go_num, HE, by have h3 := Hb.out; (repeat (first | (with_reducible exact Below.refl _ _) | (with_reducible assumption) | (with_reducible refine below_al ?_) | (with_reducible refine below_dr ?_) | (with_reducible refine below_drN ?_) | (with_reducible refine below_set ?_ (by first | exact Nat.le_refl _ | (dsimp only; omega) | omega)) | (with_reducible refine below_tr (by with_reducible assumption) ?_)))⟩
          case measure => simp [intOf]; omega
        · have HE := Lib.hid (HF.out (by decide))
          go_wp2_with fail
          refine wp_region_add (fun w' => Below (wr).heap.size (wr) w') (by kernel_rfl) (by kernel_rfl) ((Below.refl _ _).drew) ?_
          repeat (first
            | (refine add_skip rfl (fun K' hK' => ?_); go_simp; refine hK' _ ?_; clear hK' K')
            | (refine add_do (v := ?_) rfl (fun w1 hb => ?_) (fun K' hK' => ?_); rotate_left
               · go_simp
                 first
                 | (with_reducible exact rfl)
                 | (with_reducible exact ⟨rfl, hb⟩)
                 | exact rfl
                 | exact ⟨rfl, hb⟩
               go_simp; refine hK' _ ?_; clear hK' K'))
          refine add_nil ?_
          intro wa hba
          go_wp2
          go_ret
          exact ⟨ret_bool HE.out.symm, by have h3 := Hb.out; (repeat (first | (with_reducible exact Below.refl _ _) | (with_reducible assumption) | (with_reducible refine below_al ?_) | (with_reducible refine below_dr ?_) | (with_reducible refine below_drN ?_) | (with_reducible refine below_set ?_ (by first | exact Nat.le_refl _ | (dsimp only; omega) | omega)) | (with_reducible refine below_tr (by with_reducible assumption) ?_)))⟩
        · have HE := Lib.hid (HF.out (by decide))
          go_wp2_with fail
          refine wp_region_add (fun w' => Below (wr).heap.size (wr) w') (by kernel_rfl) (by kernel_rfl) ((Below.refl _ _).drew) ?_
          repeat (first
            | (refine add_skip rfl (fun K' hK' => ?_); go_simp; refine hK' _ ?_; clear hK' K')
            | (refine add_do (v := ?_) rfl (fun w1 hb => ?_) (fun K' hK' => ?_); rotate_left
               · go_simp
                 first
                 | (with_reducible exact rfl)
                 | (with_reducible exact ⟨rfl, hb⟩)
                 | exact rfl
                 | exact ⟨rfl, hb⟩
               go_simp; refine hK' _ ?_; clear hK' K'))
          refine add_nil ?_
          intro wa hba
          go_wp2
          go_ret
          exact ⟨ret_bool HE.out.symm, by have h3 := Hb.out; (repeat (first | (with_reducible exact Below.refl _ _) | (with_reducible assumption) | (with_reducible refine below_al ?_) | (with_reducible refine below_dr ?_) | (with_reducible refine below_drN ?_) | (with_reducible refine below_set ?_ (by first | exact Nat.le_refl _ | (dsimp only; omega) | omega)) | (with_reducible refine below_tr (by with_reducible assumption) ?_)))⟩
        · have HE := Lib.hid (HN.out rfl)
          go_wp2_with fail
          refine wp_region_add (fun w' => Below (wr).heap.size (wr) w') (by kernel_rfl) (by kernel_rfl) ((Below.refl _ _).drew) ?_
          repeat (first
            | (refine add_skip rfl (fun K' hK' => ?_); go_simp; refine hK' _ ?_; clear hK' K')
            | (refine add_do (v := ?_) rfl (fun w1 hb => ?_) (fun K' hK' => ?_); rotate_left
               · go_simp
                 first
                 | (with_reducible exact rfl)
                 | (with_reducible exact ⟨rfl, hb⟩)
                 | exact rfl
                 | exact ⟨rfl, hb⟩
               go_simp; refine hK' _ ?_; clear hK' K'))
          refine add_nil ?_
          intro wa hba
          go_wp2
          go_roundw
          case rel => exact ⟨k + 1, by omega, by go_num, HE, by have h3 := Hb.out; (repeat (first | (with_reducible exact Below.refl _ _) | (with_reducible assumption) | (with_reducible refine below_al ?_) | (with_reducible refine below_dr ?_) | (with_reducible refine below_drN ?_) | (with_reducible refine below_set ?_ (by first | exact Nat.le_refl _ | (dsimp only; omega) | omega)) | (with_reducible refine below_tr (by with_reducible assumption) ?_)))⟩
          case measure => simp [intOf]; omega
      · have HE : Hid (decide (xs = ys) = true) := by
          unfold Hid; rw [decide_eq_true_eq]
          exact List.ext_getElem HL.out fun j h1 h2 => Hn.out j h1 h2 (by omega)
        clear hx hy
        go_wp2
        go_ret
        exact ⟨ret_bool HE.out.symm, hb⟩
  · have hR : Hid (decide (xs = ys) = false) := by unfold Hid; simp only [decide_eq_false_iff_not]; intro e; exact hl (by rw [e])
    have hl' : ((xs.length : Int) != (ys.length : Int)) = true := by simp; omega
    clear hl
    go_enter Tryz.func131, Tryz.ntmps131
    go_wp2
    go_ret
    exact ⟨ret_bool hR.out.symm, Below.refl _ _⟩
theorem astep_put (f t : Bool) (out nx : List Bool) (k : Col) (h1 : (sel f k).toNat < nx.length) (h2 : (sel t k).toNat < out.length) : nx.set (sel f k).toNat (nx[(sel f k).toNat] || out[(sel t k).toNat]) = astep f t out nx k := by
  unfold astep; simp [h1, h2]
set_option maxRecDepth 100000 in
set_option maxHeartbeats 1000000 in
theorem endlessF_c (g : Nat) (c : Int) (A : Option Addr) (n cx : Nat) (h : Int) (S : Nat) (cols : List Col) (w : World) (hS1 : 1 ≤ S) (hS2 : S ≤ 100000) (hC : Codes S cols) (hcl : cols.length ≤ 1000000)
    (hR : StripR w g c A n cx h S cols) :
    Calls Tryz.prog 111 #[.pointer (some ⟨g, 0, none⟩), .int .i64 1, .int .i64 0] w fun e w' => ∃ v X, e = .returned v ∧ OwnB w' w.heap.size v X ∧ EndS S cols true false X ∧ Below w.heap.size w w' := by
  obtain ⟨C, cc, hB, hCo⟩ := hR
  have HB := Lib.hid hB
  have HCo := Lib.hid hCo
  have HC := Lib.hid hC
  have HRep := Lib.hid (fun (g0 : Nat) (wq : World) hc => repeatB_c S g0 wq hS1 (by omega) hc)
  have c2 := hB.cell 3 (by simp)
  have c3 := hB.cell 4 (by simp)
  simp only [List.getElem_cons_zero, List.getElem_cons_succ] at c2 c3
  have C2 := Lib.hid (keepC c2)
  have C3 := Lib.hid (keepC c3)
  have hg := hB.lt
  clear hB hCo hC c3
  go_enter Tryz.func111, Tryz.ntmps111
  go_wp2_with fail
  refine (HRep.out _ _ ?_).mono ?_
  · (repeat (first | (exact cell_al _ _ _ _ _ _ (by simp) rfl) | (refine cell_alloc_old _ _ _ _ _ ?_)))
  rintro e w1 ⟨v, rfl, hO, hb1⟩
  have Hw1 : Hid (Below w.heap.size w w1) := by (show Below _ _ _); (repeat (first | (with_reducible exact Below.refl _ _) | (with_reducible assumption) | (with_reducible refine below_al ?_) | (with_reducible refine below_dr ?_) | (with_reducible refine below_drN ?_) | (with_reducible refine below_set ?_ (by first | exact Nat.le_refl _ | (dsimp only; omega) | omega)) | (with_reducible refine below_tr (by with_reducible assumption) ?_)))
  have HO := Lib.hid (hO.weaken (B' := w.heap.size) (le_al (Nat.le_refl _)))
  clear hO hb1 c2
  go_wp2_with fail
  go_loopg [7] (S) (fun q v wr => ∃ m, Hid (q = (endL S cols true false m).count true) ∧ Hid (OwnB wr w.heap.size v (endL S cols true false m)) ∧ Hid (Below w.heap.size w wr))
  case atStart => exact ⟨0, Lib.hid (by simp [endL]), HO, Hw1⟩
  case round =>
    obtain ⟨m, HQ, HOj, HBj⟩ := hrel
    obtain ⟨wj, rfl⟩ : ∃ wj, wj = wr := ⟨wr, rfl⟩
    have hlen := endL_len S cols true false m
    obtain ⟨An, kn, rfl⟩ := HOj.out.shape
    have HCt := Lib.hid (endL_count HC.out true false m)
    have HFx := Lib.hid (endL_fix HC.out true false m)
    have HSu : Hid (endL S cols true false (m + 1) = ago S cols true false (endL S cols true false m)) := rfl
    generalize endL S cols true false m = now at *
    have c2 := C2.out _ HBj.out
    have c3 := C3.out _ HBj.out
    have hgj : g < wj.heap.size := Nat.lt_of_lt_of_le hg HBj.out.size
    have hm := fun w => make_b S (by omega) w
    have HRd := Lib.hid HOj.out.read
    have HLn := Lib.hid hlen
    rw [hlen] at HOj
    rw [hlen]
    clear hlen
    go_wp2_with fail
    clear hm c2 c3
    go_loopw [27] (fun iv wr => ∃ k : Nat, k ≤ cols.length ∧ iv = .int .i64 k ∧ Hid (OwnB wr wj.heap.size (.slice (some ⟨wj.heap.size, 0, none⟩) S S) (ago S (cols.take k) true false now)) ∧ Hid (Below wj.heap.size wj wr)) (fun i _ => cols.length - (intOf i).toNat)
    case atStart => exact ⟨0, by omega, rfl, Lib.hid (OwnB.made wj _ S (Nat.le_refl _) (by omega)), Lib.hid (by (repeat (first | (with_reducible exact Below.refl _ _) | (with_reducible assumption) | (with_reducible refine below_al ?_) | (with_reducible refine below_dr ?_) | (with_reducible refine below_drN ?_) | (with_reducible refine below_set ?_ (by first | exact Nat.le_refl _ | (dsimp only; omega) | omega)) | (with_reducible refine below_tr (by with_reducible assumption) ?_))))⟩
    case round =>
      obtain ⟨k, hk, rfl, HOk, HBk⟩ := hrel
      obtain ⟨wk, rfl⟩ : ∃ wk, wk = wr := ⟨wr, rfl⟩
      by_cases hkl : k < cols.length
      · obtain ⟨b2, off2, rfl, hlt2, y0, y1, y2⟩ := (HCo.out.below (HBj.out.trans (HBk.out.mono HBj.out.size))) k hkl
        obtain ⟨⟨w0, w1'⟩, e0, e1⟩ := HC.out _ (List.getElem_mem hkl)
        have HTg := Lib.hid (ago_take S cols true false now k hkl)
        have hnl := ago_len S (cols.take k) true false now
        generalize ago S (cols.take k) true false now = nx at *
        generalize cols[k] = col at *
        have hz1 : col.w.toNat < now.length := by have := HLn.out; omega
        have hz2 : col.e.toNat < nx.length := by omega
        have HE := Lib.hid (HTg.out.trans (astep_put true false now nx col hz2 hz1).symm)
        obtain ⟨wi, hwi⟩ := Int.eq_ofNat_of_zero_le w0
        obtain ⟨ei, hei⟩ := Int.eq_ofNat_of_zero_le e0
        obtain ⟨b3, off3, rfl, hlt3, n0⟩ := HRd.out _ hz1
        obtain ⟨g4, hg4, _, gl, n1, n2⟩ := HOk.out.at_ _ hz2
        injection hg4 with hg4; injection hg4 with hg4 _; subst hg4
        simp only [sel, Bool.false_eq_true, if_true, if_false, hwi, hei, Int.toNat_natCast] at n0 n1 n2 hz1 hz2 HE
        rw [hwi] at y0
        rw [hei] at y1
        have hlw : wi < S := by omega
        have hle : ei < S := by omega
        obtain ⟨wt, hwt⟩ : ∃ wt, wt = wk.alloc (.cells #[.int .i64 wi, .int .i64 ei, .int .i64 col.n] 104) := ⟨_, rfl⟩
        have HBt := Lib.hid (show Below wk.heap.size wk wt by rw [hwt]; (repeat (first | (with_reducible exact Below.refl _ _) | (with_reducible assumption) | (with_reducible refine below_al ?_) | (with_reducible refine below_dr ?_) | (with_reducible refine below_drN ?_) | (with_reducible refine below_set ?_ (by first | exact Nat.le_refl _ | (dsimp only; omega) | omega)) | (with_reducible refine below_tr (by with_reducible assumption) ?_))))
        have HOt := Lib.hid (HOk.out.below HBt.out)
        have N0 := keepC (keepC ((HBk.out.cell (p := ⟨b3, off3 + wi, none⟩) hlt3).trans n0) _ HBt.out)
        have N1 := keepC (keepC n1 _ HBt.out)
        have F1 := fun wz (hz : Below wt.heap.size wt wz) => (hz.frozen (p := ⟨wj.heap.size, ei, none⟩) (Nat.lt_of_lt_of_le gl HBt.out.size)).trans ((HBt.out.frozen (p := ⟨wj.heap.size, ei, none⟩) gl).trans n2)
        have U0 := keepC (show wt.cell? ⟨wk.heap.size, 0, none⟩ = some (.int .i64 wi) by rw [hwt]; exact cell_alloc_at _ _ _ _ _ rfl)
        have U1 := keepC (show wt.cell? ⟨wk.heap.size, 1, none⟩ = some (.int .i64 ei) by rw [hwt]; exact cell_alloc_at _ _ _ _ _ rfl)
        replace hwt := Lib.hid hwt
        clear n0 n1 n2 hnl
        obtain ⟨bn, hbn⟩ : ∃ bn, nx[ei] = bn := ⟨_, rfl⟩
        obtain ⟨bw, hbw⟩ : ∃ bw, now[wi] = bw := ⟨_, rfl⟩
        rw [hbn] at N1 HE
        rw [hbw] at N0 HE
        clear hbn hbw hwi hei hz1 hz2
        cases bn <;> cases bw
        all_goals
          go_wp2_with fail
          rw [← hwt.out]
          refine wp_region_add_tail 19 (fun w' => Below (wt).heap.size (wt) w') (by kernel_rfl) (by kernel_rfl) ((Below.refl _ _).drew) ?_
          simp only [List.take_succ_cons, List.take_zero, List.drop_succ_cons, List.drop_zero]
          repeat (first
            | (refine add_skip rfl (fun K' hK' => ?_); go_simp; refine hK' _ ?_; clear hK' K')
            | (refine add_do (v := ?_) rfl (fun w1 hb => ?_) (fun K' hK' => ?_); rotate_left
               · go_simp
                 first
                 | (with_reducible exact rfl)
                 | (with_reducible exact ⟨rfl, hb⟩)
                 | exact rfl
                 | exact ⟨rfl, hb⟩
               go_simp; refine hK' _ ?_; clear hK' K'))
          refine add_nil ?_
          intro wa hba
          have f1 := F1 _ hba
          have HOa := Lib.hid ((HOt.out.below hba).set ei)
          have n1a := N1 _ hba
          have HBa := Lib.hid (HBk.out.trans ((HBt.out.trans (hba.mono HBt.out.size)).mono HBk.out.size))
          clear hba N0 N1 F1 U0 U1
          go_wp2_with fail
          go_roundw
          case rel => exact ⟨k + 1, by omega, by go_num, Lib.hid (by rw [HE.out]; exact (HOa.out _).1), Lib.hid (HBa.out.setCell (Nat.le_refl _) _)⟩
          case measure => simp [intOf]; omega
      · obtain rfl : k = cols.length := by omega
        rw [List.take_length] at HOk
        have HQe := Lib.hid (equalB_c (ago S cols true false now) now _ An S kn wk HOk.out.read (HRd.out.below HBk.out) (by rw [ago_len]; omega) (by have := HLn.out; omega))
        rw [ago_len, HLn.out] at HQe
        have HBw := Lib.hid (HBj.out.trans (HBk.out.mono HBj.out.size))
        have HO1 := Lib.hid (HOk.out.weaken HBj.out.size)
        have HO2 := Lib.hid (HOj.out.below HBk.out)
        by_cases he : ago S cols true false now = now
        · have HEnd := Lib.hid (HFx.out (by rw [HSu.out]; exact he))
          rw [decide_eq_true he] at HQe
          replace he := Lib.hid he
          go_wp2_with fail
          refine HQe.out.mono ?_
          rintro e w4 ⟨rfl, hb4⟩
          have HO4 := Lib.hid (HO2.out.below hb4)
          have HB4 := Lib.hid (HBw.out.trans (hb4.mono HBw.out.size))
          clear hb4
          go_wp2_with fail
          go_ret
          refine ⟨_, now, rfl, ?_, HEnd.out, HB4.out⟩
          have h9 := HO4.out
          exact h9
        · have HLt := Lib.hid (HCt.out (by rw [HSu.out]; exact he))
          rw [decide_eq_false he] at HQe
          replace he := Lib.hid he
          go_wp2_with fail
          refine HQe.out.mono ?_
          rintro e w4 ⟨rfl, hb4⟩
          have HO4 := Lib.hid (HO1.out.below hb4)
          have HB4 := Lib.hid (HBw.out.trans (hb4.mono HBw.out.size))
          clear hb4
          go_wp2_with fail
          go_roundg ((endL S cols true false (m + 1)).count true)
          case rel => exact ⟨m + 1, Lib.hid rfl, by rw [HSu.out]; exact HO4, HB4⟩
          case measure => rw [HQ.out]; exact HLt.out
set_option maxRecDepth 100000 in
set_option maxHeartbeats 1000000 in
theorem endlessB_c (g : Nat) (c : Int) (A : Option Addr) (n cx : Nat) (h : Int) (S : Nat) (cols : List Col) (w : World) (hS1 : 1 ≤ S) (hS2 : S ≤ 100000) (hC : Codes S cols) (hcl : cols.length ≤ 1000000)
    (hR : StripR w g c A n cx h S cols) :
    Calls Tryz.prog 111 #[.pointer (some ⟨g, 0, none⟩), .int .i64 0, .int .i64 1] w fun e w' => ∃ v X, e = .returned v ∧ OwnB w' w.heap.size v X ∧ EndS S cols false true X ∧ Below w.heap.size w w' := by
  obtain ⟨C, cc, hB, hCo⟩ := hR
  have HB := Lib.hid hB
  have HCo := Lib.hid hCo
  have HC := Lib.hid hC
  have HRep := Lib.hid (fun (g0 : Nat) (wq : World) hc => repeatB_c S g0 wq hS1 (by omega) hc)
  have c2 := hB.cell 3 (by simp)
  have c3 := hB.cell 4 (by simp)
  simp only [List.getElem_cons_zero, List.getElem_cons_succ] at c2 c3
  have C2 := Lib.hid (keepC c2)
  have C3 := Lib.hid (keepC c3)
  have hg := hB.lt
  clear hB hCo hC c3
  go_enter Tryz.func111, Tryz.ntmps111
  go_wp2_with fail
  refine (HRep.out _ _ ?_).mono ?_
  · (repeat (first | (exact cell_al _ _ _ _ _ _ (by simp) rfl) | (refine cell_alloc_old _ _ _ _ _ ?_)))
  rintro e w1 ⟨v, rfl, hO, hb1⟩
  have Hw1 : Hid (Below w.heap.size w w1) := by (show Below _ _ _); (repeat (first | (with_reducible exact Below.refl _ _) | (with_reducible assumption) | (with_reducible refine below_al ?_) | (with_reducible refine below_dr ?_) | (with_reducible refine below_drN ?_) | (with_reducible refine below_set ?_ (by first | exact Nat.le_refl _ | (dsimp only; omega) | omega)) | (with_reducible refine below_tr (by with_reducible assumption) ?_)))
  have HO := Lib.hid (hO.weaken (B' := w.heap.size) (le_al (Nat.le_refl _)))
  clear hO hb1 c2
  go_wp2_with fail
  go_loopg [7] (S) (fun q v wr => ∃ m, Hid (q = (endL S cols false true m).count true) ∧ Hid (OwnB wr w.heap.size v (endL S cols false true m)) ∧ Hid (Below w.heap.size w wr))
  case atStart => exact ⟨0, Lib.hid (by simp [endL]), HO, Hw1⟩
  case round =>
    obtain ⟨m, HQ, HOj, HBj⟩ := hrel
    obtain ⟨wj, rfl⟩ : ∃ wj, wj = wr := ⟨wr, rfl⟩
    have hlen := endL_len S cols false true m
    obtain ⟨An, kn, rfl⟩ := HOj.out.shape
    have HCt := Lib.hid (endL_count HC.out false true m)
    have HFx := Lib.hid (endL_fix HC.out false true m)
    have HSu : Hid (endL S cols false true (m + 1) = ago S cols false true (endL S cols false true m)) := rfl
    generalize endL S cols false true m = now at *
    have c2 := C2.out _ HBj.out
    have c3 := C3.out _ HBj.out
    have hgj : g < wj.heap.size := Nat.lt_of_lt_of_le hg HBj.out.size
    have hm := fun w => make_b S (by omega) w
    have HRd := Lib.hid HOj.out.read
    have HLn := Lib.hid hlen
    rw [hlen] at HOj
    rw [hlen]
    clear hlen
    go_wp2_with fail
    clear hm c2 c3
    go_loopw [27] (fun iv wr => ∃ k : Nat, k ≤ cols.length ∧ iv = .int .i64 k ∧ Hid (OwnB wr wj.heap.size (.slice (some ⟨wj.heap.size, 0, none⟩) S S) (ago S (cols.take k) false true now)) ∧ Hid (Below wj.heap.size wj wr)) (fun i _ => cols.length - (intOf i).toNat)
    case atStart => exact ⟨0, by omega, rfl, Lib.hid (OwnB.made wj _ S (Nat.le_refl _) (by omega)), Lib.hid (by (repeat (first | (with_reducible exact Below.refl _ _) | (with_reducible assumption) | (with_reducible refine below_al ?_) | (with_reducible refine below_dr ?_) | (with_reducible refine below_drN ?_) | (with_reducible refine below_set ?_ (by first | exact Nat.le_refl _ | (dsimp only; omega) | omega)) | (with_reducible refine below_tr (by with_reducible assumption) ?_))))⟩
    case round =>
      obtain ⟨k, hk, rfl, HOk, HBk⟩ := hrel
      obtain ⟨wk, rfl⟩ : ∃ wk, wk = wr := ⟨wr, rfl⟩
      by_cases hkl : k < cols.length
      · obtain ⟨b2, off2, rfl, hlt2, y0, y1, y2⟩ := (HCo.out.below (HBj.out.trans (HBk.out.mono HBj.out.size))) k hkl
        obtain ⟨⟨w0, w1'⟩, e0, e1⟩ := HC.out _ (List.getElem_mem hkl)
        have HTg := Lib.hid (ago_take S cols false true now k hkl)
        have hnl := ago_len S (cols.take k) false true now
        generalize ago S (cols.take k) false true now = nx at *
        generalize cols[k] = col at *
        have hz1 : col.e.toNat < now.length := by have := HLn.out; omega
        have hz2 : col.w.toNat < nx.length := by omega
        have HE := Lib.hid (HTg.out.trans (astep_put false true now nx col hz2 hz1).symm)
        obtain ⟨wi, hwi⟩ := Int.eq_ofNat_of_zero_le w0
        obtain ⟨ei, hei⟩ := Int.eq_ofNat_of_zero_le e0
        obtain ⟨b3, off3, rfl, hlt3, n0⟩ := HRd.out _ hz1
        obtain ⟨g4, hg4, _, gl, n1, n2⟩ := HOk.out.at_ _ hz2
        injection hg4 with hg4; injection hg4 with hg4 _; subst hg4
        simp only [sel, Bool.false_eq_true, if_true, if_false, hwi, hei, Int.toNat_natCast] at n0 n1 n2 hz1 hz2 HE
        rw [hwi] at y0
        rw [hei] at y1
        have hlw : wi < S := by omega
        have hle : ei < S := by omega
        obtain ⟨wt, hwt⟩ : ∃ wt, wt = wk.alloc (.cells #[.int .i64 wi, .int .i64 ei, .int .i64 col.n] 104) := ⟨_, rfl⟩
        have HBt := Lib.hid (show Below wk.heap.size wk wt by rw [hwt]; (repeat (first | (with_reducible exact Below.refl _ _) | (with_reducible assumption) | (with_reducible refine below_al ?_) | (with_reducible refine below_dr ?_) | (with_reducible refine below_drN ?_) | (with_reducible refine below_set ?_ (by first | exact Nat.le_refl _ | (dsimp only; omega) | omega)) | (with_reducible refine below_tr (by with_reducible assumption) ?_))))
        have HOt := Lib.hid (HOk.out.below HBt.out)
        have N0 := keepC (keepC ((HBk.out.cell (p := ⟨b3, off3 + ei, none⟩) hlt3).trans n0) _ HBt.out)
        have N1 := keepC (keepC n1 _ HBt.out)
        have F1 := fun wz (hz : Below wt.heap.size wt wz) => (hz.frozen (p := ⟨wj.heap.size, wi, none⟩) (Nat.lt_of_lt_of_le gl HBt.out.size)).trans ((HBt.out.frozen (p := ⟨wj.heap.size, wi, none⟩) gl).trans n2)
        have U0 := keepC (show wt.cell? ⟨wk.heap.size, 0, none⟩ = some (.int .i64 wi) by rw [hwt]; exact cell_alloc_at _ _ _ _ _ rfl)
        have U1 := keepC (show wt.cell? ⟨wk.heap.size, 1, none⟩ = some (.int .i64 ei) by rw [hwt]; exact cell_alloc_at _ _ _ _ _ rfl)
        replace hwt := Lib.hid hwt
        clear n0 n1 n2 hnl
        obtain ⟨bn, hbn⟩ : ∃ bn, nx[wi] = bn := ⟨_, rfl⟩
        obtain ⟨bw, hbw⟩ : ∃ bw, now[ei] = bw := ⟨_, rfl⟩
        rw [hbn] at N1 HE
        rw [hbw] at N0 HE
        clear hbn hbw hwi hei hz1 hz2
        cases bn <;> cases bw
        all_goals
          go_wp2_with fail
          rw [← hwt.out]
          refine wp_region_add_tail 19 (fun w' => Below (wt).heap.size (wt) w') (by kernel_rfl) (by kernel_rfl) ((Below.refl _ _).drew) ?_
          simp only [List.take_succ_cons, List.take_zero, List.drop_succ_cons, List.drop_zero]
          repeat (first
            | (refine add_skip rfl (fun K' hK' => ?_); go_simp; refine hK' _ ?_; clear hK' K')
            | (refine add_do (v := ?_) rfl (fun w1 hb => ?_) (fun K' hK' => ?_); rotate_left
               · go_simp
                 first
                 | (with_reducible exact rfl)
                 | (with_reducible exact ⟨rfl, hb⟩)
                 | exact rfl
                 | exact ⟨rfl, hb⟩
               go_simp; refine hK' _ ?_; clear hK' K'))
          refine add_nil ?_
          intro wa hba
          have f1 := F1 _ hba
          have HOa := Lib.hid ((HOt.out.below hba).set wi)
          have n1a := N1 _ hba
          have HBa := Lib.hid (HBk.out.trans ((HBt.out.trans (hba.mono HBt.out.size)).mono HBk.out.size))
          clear hba N0 N1 F1 U0 U1
          go_wp2_with fail
          go_roundw
          case rel => exact ⟨k + 1, by omega, by go_num, Lib.hid (by rw [HE.out]; exact (HOa.out _).1), Lib.hid (HBa.out.setCell (Nat.le_refl _) _)⟩
          case measure => simp [intOf]; omega
      · obtain rfl : k = cols.length := by omega
        rw [List.take_length] at HOk
        have HQe := Lib.hid (equalB_c (ago S cols false true now) now _ An S kn wk HOk.out.read (HRd.out.below HBk.out) (by rw [ago_len]; omega) (by have := HLn.out; omega))
        rw [ago_len, HLn.out] at HQe
        have HBw := Lib.hid (HBj.out.trans (HBk.out.mono HBj.out.size))
        have HO1 := Lib.hid (HOk.out.weaken HBj.out.size)
        have HO2 := Lib.hid (HOj.out.below HBk.out)
        by_cases he : ago S cols false true now = now
        · have HEnd := Lib.hid (HFx.out (by rw [HSu.out]; exact he))
          rw [decide_eq_true he] at HQe
          replace he := Lib.hid he
          go_wp2_with fail
          refine HQe.out.mono ?_
          rintro e w4 ⟨rfl, hb4⟩
          have HO4 := Lib.hid (HO2.out.below hb4)
          have HB4 := Lib.hid (HBw.out.trans (hb4.mono HBw.out.size))
          clear hb4
          go_wp2_with fail
          go_ret
          refine ⟨_, now, rfl, ?_, HEnd.out, HB4.out⟩
          have h9 := HO4.out
          exact h9
        · have HLt := Lib.hid (HCt.out (by rw [HSu.out]; exact he))
          rw [decide_eq_false he] at HQe
          replace he := Lib.hid he
          go_wp2_with fail
          refine HQe.out.mono ?_
          rintro e w4 ⟨rfl, hb4⟩
          have HO4 := Lib.hid (HO1.out.below hb4)
          have HB4 := Lib.hid (HBw.out.trans (hb4.mono HBw.out.size))
          clear hb4
          go_wp2_with fail
          go_roundg ((endL S cols false true (m + 1)).count true)
          case rel => exact ⟨m + 1, Lib.hid rfl, by rw [HSu.out]; exact HO4, HB4⟩
          case measure => rw [HQ.out]; exact HLt.out

end Go.Proofs.YtnoehaphbpkpjaaGreat
namespace Go.Proofs.YtnoehaphbpkpjaaGreat
open Go.RowKit
theorem make_i64 (n : Nat) (h : n ≤ 1000000000) (w : World) : (Instr.makeSlice 39 (.int .i64 (n : Int)) (.int .i64 (n : Int))).run Tryz.prog w = .ok (.slice (some ⟨w.heap.size, 0, none⟩) n n) (w.alloc (.cells (madeCells #[.int .i64 0] n) 2)) := by
  have := make_k (P := Tryz.prog) 39 2 _ 1 8 Tryz.underlying39 infoInt n (by omega) (by omega) w
  rw [Nat.mul_one] at this
  exact this
def repI (n k : Nat) : List Int := List.replicate k 1 ++ List.replicate (n - k) 0
theorem repI_len {n k : Nat} (h : k ≤ n) : (repI n k).length = n := by simp [repI]; omega
theorem repI_put {n k m : Nat} (h : k + m ≤ n) : (ints (repI n k)).take k ++ ints (List.replicate m 1) ++ (ints (repI n k)).drop (k + m) = ints (repI n (k + m)) := by
  unfold ints repI
  rw [List.map_append, List.take_append_of_le_length (by simp), List.take_of_length_le (by simp), List.drop_append, List.drop_of_length_le (by simp)]
  simp only [List.length_map, List.length_replicate, List.nil_append, List.map_replicate, List.drop_replicate]
  rw [← List.replicate_append_replicate, show n - k - (k + m - k) = n - (k + m) by omega]
  simp only [List.map_append, List.map_replicate]
set_option maxRecDepth 100000 in
set_option maxHeartbeats 1000000 in
theorem copyI (w : World) (ty : TypeId) (b n k m cap : Nat) (a : Addr) (sLen sCap : Nat) (T : TypeId) (hB : Blk w b (ints (repI n k)) T) (hm : m = min sLen (n - k)) (hk : k ≤ n)
    (hsrc : ∀ j, j < m → w.cell? (a.add j) = some (.int .i64 1)) :
    (Builtin.copy_ #[39, 39] ty #[.slice (some ⟨b, k, none⟩) (n - k) cap, .slice (some a) sLen sCap]).run Tryz.prog w = .ok (goInt m) (w.setCells b k (ints (List.replicate m 1))) := by
  have h := run_copy_cells (P := Tryz.prog) w 39 39 ty 2 b k (n - k) cap a sLen sCap (ints (List.replicate m 1)) Tryz.underlying39 (by rw [show (fun i : TypeInfo => i.size) = (fun i => i.size) from rfl]; kernel_rfl) (by simp [ints]; exact hm)
    (fun j v hj => by
      by_cases hjm : j < m
      · simp [ints, hjm] at hj; rw [← hj]; exact hsrc j hjm
      · simp [ints, hjm] at hj)
    (fun j hj => by
      have hl : (ints (repI n k)).length = n := by rw [ints_length, repI_len hk]
      rw [hB.cell (k + j) (by rw [hl]; simp [ints] at hj; omega)]; rfl)
    (fun j _ => hB.frozen _) (fun v hv => by simp [ints] at hv; rw [hv.2]; rfl)
  simpa [ints] using h
theorem copyI_blk {w : World} {b n k m : Nat} {T : TypeId} (hB : Blk w b (ints (repI n k)) T) (h : k + m ≤ n) : Blk (w.setCells b k (ints (List.replicate m 1))) b (ints (repI n (k + m))) T := by
  have := setCells_blk (ints (List.replicate m 1)) k _ w hB (by simp [ints, repI]; omega)
  rw [show (ints (List.replicate m 1)).length = m by simp [ints], repI_put h] at this
  exact this
theorem repI_all (n : Nat) : repI n n = List.replicate n 1 := by simp [repI]
theorem Blk.ownI_ {w : World} {b B : Nat} {xs : List Int} (h : Blk w b (ints xs) 2) (hB : B ≤ b) (hl : xs.length ≤ 1000000000) : OwnI w B (.slice (some ⟨b, 0, none⟩) xs.length xs.length) xs := by
  refine ⟨by rw [ints_length, Nat.mul_one], .inr ⟨b, xs.length, (ints xs).toArray, rfl, hB, h, Nat.le_refl _, by simp [maxLen]; omega, by simp [ints_length], ?_⟩⟩
  rw [Nat.mul_one]
  exact List.take_of_length_le (by rw [ints_length]; exact Nat.le_refl _)
set_option maxRecDepth 100000 in
set_option maxHeartbeats 1000000 in
theorem repeatI_c (n : Nat) (g0 : Nat) (w : World) (h1 : 1 ≤ n) (h2 : n ≤ 1000000) (hc : w.cell? ⟨g0, 0, none⟩ = some (.int .i64 1)) :
    Calls Tryz.prog 92 #[.slice (some ⟨g0, 0, none⟩) 1 1, .int .i64 n] w fun e w' => ∃ v, e = .returned v ∧ OwnI w' w.heap.size v (List.replicate n 1) ∧ Below w.heap.size w w' := by
  have hm := fun w => make_i64 n (by omega) w
  have HMul := Lib.hid (fun w => bitsMul_c n w (by omega) (by omega))
  have hB0 : Blk (w.alloc (.cells (madeCells #[.int .i64 0] n) 2)) w.heap.size (ints (repI n 0)) 2 := by
    have h := Blk.newA w (madeCells #[.int .i64 0] n) 2
    rw [toList_madeCells_one] at h
    simpa [ints, repI] using h
  have hcp := copyI (w.alloc (.cells (madeCells #[.int .i64 0] n) 2)) 3 w.heap.size n 0 1 n ⟨g0, 0, none⟩ 1 1 2 hB0 (by omega) (by omega) (fun j hj => by
    obtain rfl : j = 0 := by omega
    simpa [Addr.add] using cell_alloc_old _ _ _ _ _ hc)
  rw [Nat.sub_zero] at hcp
  have HB1 := Lib.hid (copyI_blk (m := 1) hB0 (by omega))
  have HBel := Lib.hid (setCells_below (b := w.heap.size) (ints (List.replicate 1 1)) 0 w (w.alloc (.cells (madeCells #[.int .i64 0] n) 2)) (below_al (Below.refl _ _)) (Nat.le_refl _))
  clear hB0 hc
  go_enter Tryz.func92, Tryz.ntmps92
  go_wp2_with fail
  refine (HMul.out _).mono ?_
  rintro e w1 ⟨rfl, rfl⟩
  go_wp2_with fail
  go_loopw [8] (fun i wr => ∃ k : Nat, 1 ≤ k ∧ k ≤ n ∧ i = .int .i64 k ∧ Hid (Blk wr w.heap.size (ints (repI n k)) 2) ∧ Hid (Below w.heap.size w wr)) (fun i _ => n - (intOf i).toNat)
  case atStart => exact ⟨1, by omega, by omega, rfl, HB1, HBel⟩
  case round =>
    obtain ⟨k, hk1, hk, rfl, HB, Hb⟩ := hrel
    by_cases hkn : k < n
    · go_wp2_with fail
      have hcp2 := copyI wr.drew 3 w.heap.size n k (min k (n - k)) (n - k) ⟨w.heap.size, 0, none⟩ k n 2 HB.out.drew (by omega) (by omega) (fun j hj => by
        have hj2 : j < (ints (repI n k)).length := by rw [ints_length, repI_len hk]; omega
        have h9 := HB.out.drew.cell j hj2
        rw [add_off, Nat.zero_add, h9]
        have : j < k := by omega
        simp [ints, repI, List.getElem_append, this])
      obtain ⟨m, hm⟩ : ∃ m, min k (n - k) = m := ⟨_, rfl⟩
      rw [hm] at hcp2
      have hm1 : 1 ≤ m := by omega
      have hm2 : k + m ≤ n := by omega
      have HB2 := Lib.hid (copyI_blk (m := m) HB.out.drew hm2)
      have HBl := Lib.hid (setCells_below (b := w.heap.size) (ints (List.replicate m 1)) k w wr.drew Hb.out.drew (Nat.le_refl _))
      have hnk : ¬ n = k := by omega
      have hwk : IntKind.i64.wrap ((k : Int) + (m : Int)) = ((k + m : Nat) : Int) := by rw [IntWalk.i64_in _ (by omega)]; omega
      clear hm
      refine wp_region_mix [(0, true), (1, true), (2, true), (3, true), (4, true), (5, true), (6, true), (7, false), (8, true), (9, true)] (fun w' => True) (by kernel_rfl) (by kernel_rfl) (fun _ _ d _ _ h => by cases d <;> exact h) (trivial) ?_
      repeat (first
        | (refine mix_skip rfl rfl (fun K' hK' => ?_); go_simp; refine hK' _ ?_; clear hK' K')
        | (refine mix_do (v := ?_) rfl rfl (fun w1 hb => ?_) (fun K' hK' => ?_); rotate_left
           · go_simp
             rfl
           go_simp; refine hK' _ ?_; clear hK' K'))
      refine mix_call rfl rfl (fun K' hK' => ?_)
      go_simp
      refine hK' _ _ (trivial) ?_; clear hK' K'
      repeat (first
        | (refine mix_skip rfl rfl (fun K' hK' => ?_); go_simp; refine hK' _ ?_; clear hK' K')
        | (refine mix_do (v := ?_) rfl rfl (fun w1 hb => ?_) (fun K' hK' => ?_); rotate_left
           · go_simp
             rfl
           go_simp; refine hK' _ ?_; clear hK' K'))
      refine mix_nil ?_
      go_wp2
      go_roundw
      case rel => exact ⟨k + m, by omega, by omega, by go_num, HB2, HBl⟩
      case measure => simp [intOf]; omega
    · obtain rfl : k = n := by omega
      have HO := Lib.hid (Blk.ownI_ (B := w.heap.size) (xs := repI k k) HB.out (Nat.le_refl _) (by simp [repI]; omega))
      rw [repI_all, List.length_replicate] at HO
      go_wp2
      go_ret
      exact ⟨_, rfl, HO.out, Hb.out⟩

end Go.Proofs.YtnoehaphbpkpjaaGreat
