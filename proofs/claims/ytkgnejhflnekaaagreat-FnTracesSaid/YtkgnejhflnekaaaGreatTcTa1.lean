/- Contracts and lemmas for the statements of this seat, written for this claim; each theorem states its own conditions. -/
import Derived.Test.YtkgnejhflnekaaaGreatTcSz
import Derived.Test.YtkgnejhflnekaaaGreatTcSx
import Derived.Test.YtkgnejhflnekaaaGreatTcMk
import Derived.Test.YtkgnejhflnekaaaGreatTcRw
set_option linter.unusedVariables false
set_option linter.unusedSimpArgs false
namespace Go.Proofs.YtkgnejhflnekaaaGreat
open Go.RowKit
attribute [local go_sem] addUpon_value addUpon_skip addUpon_enter
theorem good_code (c : Int) (ts : List T4) (h : Int) (b : Bool) : tsCode c ts h (codeB (isSetB c ts) b == 0) = tsCode c ts h b := by
  unfold tsCode
  by_cases h1 : isSetB c ts = true
  · rw [h1]; cases b <;> rfl
  · rw [if_neg h1, if_neg h1]
theorem repB_set {n q : Nat} (h : q < n) : (repB n q).set q true = repB n (q + 1) := by
  unfold repB
  rw [List.set_append_right _ _ (by simp), List.length_replicate, Nat.sub_self, show n - q = (n - (q + 1)) + 1 by omega, List.replicate_succ, List.set_cons_zero, List.replicate_succ']
  simp
theorem tsome_take (cols : List Col) (x : Int) (now : List Bool) (k : Nat) (hk : k < cols.length) : tsome (cols.take (k + 1)) (some x) now = (tsome (cols.take k) (some x) now || ((x == cols[k].n) && now.getD cols[k].w.toNat false)) := by
  unfold tsome; rw [List.take_succ_eq_append_getElem hk, List.any_append]; simp
theorem tstep_eq (x : Int) (now nx : List Bool) (k : Col) (h : k.w.toNat < now.length) : tstep (some x) now nx k = if ((x == k.n) && now[k.w.toNat]) = true then nx.set k.e.toNat true else nx := by
  unfold tstep; simp [h]
set_option maxRecDepth 100000 in
set_option maxHeartbeats 1000000 in
theorem specIsTrace_c (c : Int) (ts : List T4) (A : Option Addr) (cx : Nat) (h : Int) (word : List Int) (X : Option Addr) (kx : Nat) (w : World) (hT : TileCells w A ts) (hl : ts.length ≤ 1000000000) (hX : Cells w X (ints word)) (hw : word.length ≤ 1048576) :
    Calls Tryz.prog 15 #[.agg #[.int .i64 c, .slice A ts.length cx], .int .i64 h, .slice X word.length kx] w fun e w' => e = .returned (.tuple #[.bool (trV c ts h word), .int .i64 (tsCode c ts h (wordOk c word))]) ∧ Below w.heap.size w w' := by
  have H1 := Lib.hid (fun (wq : World) (hwq : Below w.heap.size w wq) => l02Code_c c ts A cx word X kx wq (hT.below hwq) hl (hX.below hwq) (by omega))
  have H2 := Lib.hid (fun (wq : World) (hwq : Below w.heap.size w wq) => l10Code_c c ts A cx h (codeB (isSetB c ts) (wordOk c word) == 0) wq (hT.below hwq) hl)
  have HSz := Lib.hid (fun (hs : isSetB c ts = true) (n : Nat) (h3 : n ≤ 4) w => l06Size_c c ts.length cx n A w (isSetB_parts hs).2.1.1 (isSetB_parts hs).2.1.2 h3)
  have HX := Lib.hid hX
  have hv : trV c ts h word = if tsCode c ts h (wordOk c word) = 0 then traceB (powC c h.toNat).toNat (lev c ts h.toNat) word else false := rfl
  have hcol : tsCols c ts h (codeB (isSetB c ts) (wordOk c word) == 0) = if tsCode c ts h (wordOk c word) = 0 then lev c ts h.toNat else [] := by unfold tsCols; rw [good_code]
  have hz := Lib.hid (tsCode_zero (c := c) (ts := ts) (h := h) (fine := wordOk c word))
  rw [good_code, hcol] at H2
  clear hT hX hcol
  generalize tsCode c ts h (wordOk c word) = code at *
  generalize trV c ts h word = tv at *
  generalize codeB (isSetB c ts) (wordOk c word) = lc at *
  have hS : Below w.heap.size w (w.alloc (.cells #[.int .i64 c, .slice A ts.length cx] 26)) := below_al (Below.refl _ _)
  go_enter Tryz.func15, Tryz.ntmps15
  go_wp2_with fail
  obtain ⟨wt, hwt⟩ : ∃ wt, wt = w.alloc (.cells #[.int .i64 c, .slice A ts.length cx] 26) := ⟨_, rfl⟩
  rw [← hwt]
  rw [← hwt] at hS
  have U0 := keepC (show wt.cell? ⟨w.heap.size, 0, none⟩ = some (.int .i64 c) by rw [hwt]; exact cell_alloc_at _ _ _ _ _ rfl)
  have U1 := keepC (show wt.cell? ⟨w.heap.size, 1, none⟩ = some (.slice A ts.length cx) by rw [hwt]; exact cell_alloc_at _ _ _ _ _ rfl)
  have hN : w.heap.size < wt.heap.size := by rw [hwt]; simp
  replace hwt := Lib.hid hwt
  have HS := Lib.hid hS
  clear hS
  refine wp_region_mix [(0, true), (1, true), (2, true), (3, true), (4, false), (5, true), (6, false), (7, true), (8, true), (9, true), (10, true), (11, true)] (fun w' => Below (wt).heap.size (wt) w') (by kernel_rfl) (by kernel_rfl) (fun _ _ d _ _ h => by cases d <;> exact h) ((Below.refl _ _).drew) ?_
  repeat (first
    | (refine mix_skip rfl rfl (fun K' hK' => ?_); go_simp; refine hK' _ ?_; clear hK' K')
    | (refine mix_do (v := ?_) rfl rfl (fun w1 hb => ?_) (fun K' hK' => ?_); rotate_left
       · go_simp
         rfl
       go_simp; refine hK' _ ?_; clear hK' K'))
  refine mix_call rfl rfl (fun K' hK' => ?_)
  go_simp
  refine (H1.out _ HS.out.drew).mono ?_
  rintro e w1 ⟨rfl, hb1⟩
  have HB1 := Lib.hid (show Below wt.heap.size wt w1 from (Below.refl _ wt).drew.trans hb1)
  clear hb1
  refine hK' _ _ (HB1.out) ?_; clear hK' K'
  repeat (first
    | (refine mix_skip rfl rfl (fun K' hK' => ?_); go_simp; refine hK' _ ?_; clear hK' K')
    | (refine mix_do (v := ?_) rfl rfl (fun w1 hb => ?_) (fun K' hK' => ?_); rotate_left
       · go_simp
         rfl
       go_simp; refine hK' _ ?_; clear hK' K'))
  refine mix_call rfl rfl (fun K' hK' => ?_)
  go_simp
  refine (H2.out _ (HS.out.trans (HB1.out.mono HS.out.size))).mono ?_
  rintro e w2 ⟨v, rfl, hO, hb2⟩
  have HB2 := Lib.hid (show Below wt.heap.size wt w2 from HB1.out.trans (hb2.mono HB1.out.size))
  have HO := Lib.hid hO
  clear hb2 hO
  refine hK' _ _ (HB2.out) ?_; clear hK' K'
  repeat (first
    | (refine mix_skip rfl rfl (fun K' hK' => ?_); go_simp; refine hK' _ ?_; clear hK' K')
    | (refine mix_do (v := ?_) rfl rfl (fun w1 hb => ?_) (fun K' hK' => ?_); rotate_left
       · go_simp
         rfl
       go_simp; refine hK' _ ?_; clear hK' K'))
  refine mix_nil ?_
  have HW := Lib.hid (HS.out.trans (HB2.out.mono HS.out.size))
  by_cases hc0 : code = 0
  · subst hc0
    obtain ⟨hs, hf, n1, n3, hp⟩ := hz.out rfl
    obtain ⟨n, rfl⟩ := Int.eq_ofNat_of_zero_le (by omega : 0 ≤ h)
    rw [Int.toNat_natCast] at hp
    rw [if_pos rfl, Int.toNat_natCast] at hv HO
    obtain ⟨_, ⟨c1, c6⟩, h16⟩ := isSetB_parts hs
    have p1 := powC_4 c1 c6 (h := n) (by omega)
    have hll := Nat.le_trans (lev_len c ts n) (pow16 h16 (by omega : n ≤ 3))
    have HCs := Lib.hid (lev_Codes hs n)
    replace HSz := Lib.hid (fun w => HSz.out hs n (by omega) w)
    obtain ⟨S, hS'⟩ := Int.eq_ofNat_of_zero_le (by omega : 0 ≤ powC c n)
    rw [hS'] at HSz HCs p1 hp hv
    rw [Int.toNat_natCast] at HCs hv
    have HV := Lib.hid hv
    have hwl : 1 ≤ word.length := by unfold wordOk at hf; simp at hf; omega
    clear hv hS' hz hf h16 n1 n3 hs
    generalize lev c ts n = cols at *
    obtain ⟨Ac, kc, rfl, hRc⟩ := HO.out.rows
    have HRc := Lib.hid hRc
    rw [crows_len]
    clear hRc
    have d0 := U0 _ HB2.out
    have d1 := U1 _ HB2.out
    have hN2 : w.heap.size < w2.heap.size := Nat.lt_of_lt_of_le hN HB2.out.size
    clear U0 U1
    have hm := fun w => make_b S (by omega) w
    go_wp2_with fail
    refine (HSz.out _).mono ?_
    rintro e w3 ⟨rfl, hb3⟩
    have HB3 := Lib.hid hb3
    clear hb3 d0 d1
    go_wp2_with fail
    clear hm
    have HBS := Lib.hid (HW.out.trans (HB3.out.mono HW.out.size))
    have HX3 := Lib.hid (HX.out.below HBS.out)
    have HR3 := Lib.hid (HRc.out.below HB3.out)
    go_loopw [12] (fun iv wr => ∃ q : Nat, q ≤ S ∧ iv = .int .i64 q ∧ Hid (OwnB wr w3.heap.size (.slice (some ⟨w3.heap.size, 0, none⟩) S S) (repB S q)) ∧ Hid (Below w3.heap.size w3 wr)) (fun i _ => S - (intOf i).toNat)
    case atStart => exact ⟨0, by omega, rfl, Lib.hid (by simpa [repB] using OwnB.made w3 w3.heap.size S (Nat.le_refl _) (by omega)), Lib.hid (by (repeat (first | (with_reducible exact Below.refl _ _) | (with_reducible assumption) | (with_reducible refine below_al ?_) | (with_reducible refine below_dr ?_) | (with_reducible refine below_drN ?_) | (with_reducible refine below_set ?_ (by first | exact Nat.le_refl _ | (dsimp only; omega) | omega)) | (with_reducible refine below_tr (by with_reducible assumption) ?_))))⟩
    case round =>
      obtain ⟨q, hq, rfl, HOq, HBq⟩ := hrel
      by_cases hqS : q < S
      · obtain ⟨g4, hg4, _, gl, n1, n2⟩ := HOq.out.at_ q (by rw [repB_len hq]; exact hqS)
        injection hg4 with hg4; injection hg4 with hg4 _; subst hg4
        have HF := Lib.hid ((HOq.out.set q true).1)
        rw [repB_set hqS] at HF
        generalize (repB S q)[q]'_ = z at n1
        go_wp2
        go_roundw
        case rel => exact ⟨q + 1, by omega, by go_num, HF, Lib.hid (HBq.out.setCell (Nat.le_refl _) _)⟩
        case measure => simp [intOf]; omega
      · obtain rfl : q = S := by omega
        rw [repB_all] at HOq
        go_wp2_with fail
        go_loopw [11, 13] (fun v iv wr => ∃ j : Nat, j ≤ word.length ∧ iv = .int .i64 j ∧ Hid (OwnB wr w3.heap.size v (trun q cols (List.replicate q true) (word.take j))) ∧ Hid (Below w3.heap.size w3 wr) ∧ Hid (j = 0 ∨ (trun q cols (List.replicate q true) (word.take j)).contains true = true)) (fun _ i _ => word.length - (intOf i).toNat)
        case atStart => exact ⟨0, by omega, rfl, Lib.hid (by simpa [trun] using HOq.out), HBq, Lib.hid (.inl rfl)⟩
        case round =>
          obtain ⟨j, hj, rfl, HOj, HBj, HDj⟩ := hrel
          obtain ⟨wj, rfl⟩ : ∃ wj, wj = wr := ⟨wr, rfl⟩
          have hlen := trun_len q cols (List.replicate q true) (word.take j) (by simp)
          obtain ⟨An, kn, rfl⟩ := HOj.out.shape
          by_cases hjl : j < word.length
          · obtain ⟨b, off, rfl, hlt, x0⟩ := (HX3.out.below HBj.out).int j hjl
            have HTk := Lib.hid (trun_take q cols (List.replicate q true) word j hjl)
            have HStop := Lib.hid (traceB_stop HCs.out j hjl)
            generalize trun q cols (List.replicate q true) (word.take j) = now at *
            generalize word[j] = x at *
            have hm := fun w => make_b q (by omega) w
            have HRd := Lib.hid HOj.out.read
            have HLn := Lib.hid hlen
            rw [hlen] at HOj
            rw [hlen]
            clear hlen
            go_wp2_with fail
            clear hm
            go_loopw [15, 16] (fun sv iv wr => ∃ k : Nat, k ≤ cols.length ∧ iv = .int .i64 k ∧ sv = .bool (tsome (cols.take k) (some x) now) ∧ Hid (OwnB wr wj.heap.size (.slice (some ⟨wj.heap.size, 0, none⟩) q q) (tgo q (cols.take k) (some x) now)) ∧ Hid (Below wj.heap.size wj wr)) (fun _ i _ => cols.length - (intOf i).toNat)
            case atStart => exact ⟨0, by omega, rfl, by simp [tsome], Lib.hid (OwnB.made wj _ q (Nat.le_refl _) (by omega)), Lib.hid (by (repeat (first | (with_reducible exact Below.refl _ _) | (with_reducible assumption) | (with_reducible refine below_al ?_) | (with_reducible refine below_dr ?_) | (with_reducible refine below_drN ?_) | (with_reducible refine below_set ?_ (by first | exact Nat.le_refl _ | (dsimp only; omega) | omega)) | (with_reducible refine below_tr (by with_reducible assumption) ?_))))⟩
            case round =>
              obtain ⟨k, hk, rfl, rfl, HOk, HBk⟩ := hrel
              by_cases hkl : k < cols.length
              · obtain ⟨b2, off2, r, o, cx2, rfl, hb2, y0, hr, y1, y2, y3, y4⟩ := crows_at (HR3.out.below (HBj.out.trans (HBk.out.mono HBj.out.size))) k hkl
                obtain ⟨⟨w0, w1'⟩, e0, e1⟩ := HCs.out _ (List.getElem_mem hkl)
                have HTg := Lib.hid (tgo_take q cols (some x) now k hkl)
                have HTs := Lib.hid (tsome_take cols x now k hkl)
                have hnl := tgo_len q (cols.take k) (some x) now
                generalize tgo q (cols.take k) (some x) now = nx at *
                generalize tsome (cols.take k) (some x) now = sm at *
                generalize cols[k] = col at *
                have hz1 : col.w.toNat < now.length := by have := HLn.out; omega
                have hz2 : col.e.toNat < nx.length := by omega
                rw [show now.getD col.w.toNat false = now[col.w.toNat] by simp [hz1]] at HTs
                have HTg2 := Lib.hid (tstep_eq x now nx col hz1)
                obtain ⟨wi, hwi⟩ := Int.eq_ofNat_of_zero_le w0
                obtain ⟨ei, hei⟩ := Int.eq_ofNat_of_zero_le e0
                obtain ⟨b3, off3, rfl, hlt3, n0⟩ := HRd.out _ hz1
                obtain ⟨g4, hg4, _, gl, n1, n2⟩ := HOk.out.at_ _ hz2
                injection hg4 with hg4; injection hg4 with hg4 _; subst hg4
                simp only [hwi, hei, Int.toNat_natCast] at n0 n1 n2 hz1 hz2 HTs HTg2
                rw [hwi] at y2
                rw [hei] at y3
                have hlw : wi < q := by omega
                have hle : ei < q := by omega
                replace n0 := (HBk.out.cell (p := ⟨b3, off3 + wi, none⟩) hlt3).trans n0
                have HTG := Lib.hid (HTg.out.trans HTg2.out)
                have HSet := Lib.hid (fun u => (HOk.out.set ei u).1)
                generalize nx[ei]'_ = bn at n1
                generalize now[wi]'_ = bw at *
                have xr := (HBk.out.cell (p := ⟨b, off + j, none⟩) hlt).trans x0
                have X0 := keepC xr
                have Y0 := keepC y0
                have Y1 := keepC y1
                have Y2 := keepC y2
                have Y3 := keepC y3
                have N0 := keepC n0
                have N1 := keepC n1
                have N2 := fun wz (hz : Below wr.heap.size wr wz) => (hz.frozen (p := ⟨wj.heap.size, ei, none⟩) gl).trans n2
                clear x0 xr y0 y1 y2 y3 y4 n0 n1 n2
                clear hwi hei hz1 hz2 HTg HTg2
                by_cases hx : x = col.n
                · have q1 : (col.n == x) = true := by simp [hx]
                  have q2 : (x == col.n) = true := by simp [hx]
                  replace hx := Lib.hid hx
                  rw [q2] at HTs HTG
                  clear q2
                  cases bw
                  · simp only [Bool.true_and, Bool.or_false, Bool.false_eq_true, if_false] at HTs HTG
                    go_wp2_with fail
                    refine wp_region_add (fun w' => Below (wr).heap.size (wr) w') (by kernel_rfl) (by kernel_rfl) ((Below.refl _ _).drew) ?_
                    repeat (first
                      | (refine add_skip rfl (fun K' hK' => ?_); go_simp; refine hK' _ ?_; clear hK' K')
                      | (refine add_do (v := ?_) rfl (fun w1 hb => ?_) (fun K' hK' => ?_); rotate_left
                         · go_simp
                           first
                           | (with_reducible exact rfl)
                           | (with_reducible exact ⟨rfl, hb⟩)
                           | exact rfl
                           | exact ⟨rfl, hb⟩
                         go_simp; refine hK' _ ?_; clear hK' K'))
                    refine add_nil ?_
                    intro wa hba
                    have xa := X0 _ hba
                    have ya0 := Y0 _ hba
                    have ya1 := Y1 _ hba
                    have ya3 := Y3 _ hba
                    have na1 := N1 _ hba
                    have na2 := N2 _ hba
                    have HOa := Lib.hid (HOk.out.below hba)
                    have HBa := Lib.hid (HBk.out.trans (hba.mono HBk.out.size))
                    clear hba X0 Y0 Y1 Y2 Y3 N0 N1 N2
                    go_wp2_with fail
                    go_roundw
                    case rel => exact ⟨k + 1, by omega, by go_num, by rw [HTs.out], Lib.hid (by rw [HTG.out]; exact HOa.out), HBa⟩
                    case measure => simp [intOf]; omega
                  · simp only [Bool.true_and, Bool.or_true, if_true] at HTs HTG
                    go_wp2_with fail
                    refine wp_region_add (fun w' => Below (wr).heap.size (wr) w') (by kernel_rfl) (by kernel_rfl) ((Below.refl _ _).drew) ?_
                    repeat (first
                      | (refine add_skip rfl (fun K' hK' => ?_); go_simp; refine hK' _ ?_; clear hK' K')
                      | (refine add_do (v := ?_) rfl (fun w1 hb => ?_) (fun K' hK' => ?_); rotate_left
                         · go_simp
                           first
                           | (with_reducible exact rfl)
                           | (with_reducible exact ⟨rfl, hb⟩)
                           | exact rfl
                           | exact ⟨rfl, hb⟩
                         go_simp; refine hK' _ ?_; clear hK' K'))
                    refine add_nil ?_
                    intro wa hba
                    have xa := X0 _ hba
                    have ya0 := Y0 _ hba
                    have ya1 := Y1 _ hba
                    have ya3 := Y3 _ hba
                    have na1 := N1 _ hba
                    have na2 := N2 _ hba
                    have HOa := Lib.hid (HOk.out.below hba)
                    have HBa := Lib.hid (HBk.out.trans (hba.mono HBk.out.size))
                    clear hba X0 Y0 Y1 Y2 Y3 N0 N1 N2
                    go_wp2_with fail
                    go_roundw
                    case rel => exact ⟨k + 1, by omega, by go_num, by rw [HTs.out], Lib.hid (by rw [HTG.out]; exact (HOa.out.set ei true).1), Lib.hid (HBa.out.setCell (Nat.le_refl _) _)⟩
                    case measure => simp [intOf]; omega
                · have q1 : (col.n == x) = false := by simp [Ne.symm hx]
                  have q2 : (x == col.n) = false := by simp [hx]
                  replace hx := Lib.hid hx
                  rw [q2] at HTs HTG
                  simp only [Bool.false_and, Bool.or_false, Bool.false_eq_true, if_false] at HTs HTG
                  clear q2
                  go_wp2_with fail
                  refine wp_region_add (fun w' => Below (wr).heap.size (wr) w') (by kernel_rfl) (by kernel_rfl) ((Below.refl _ _).drew) ?_
                  repeat (first
                    | (refine add_skip rfl (fun K' hK' => ?_); go_simp; refine hK' _ ?_; clear hK' K')
                    | (refine add_do (v := ?_) rfl (fun w1 hb => ?_) (fun K' hK' => ?_); rotate_left
                       · go_simp
                         first
                         | (with_reducible exact rfl)
                         | (with_reducible exact ⟨rfl, hb⟩)
                         | exact rfl
                         | exact ⟨rfl, hb⟩
                       go_simp; refine hK' _ ?_; clear hK' K'))
                  refine add_nil ?_
                  intro wa hba
                  have xa := X0 _ hba
                  have ya0 := Y0 _ hba
                  have ya1 := Y1 _ hba
                  have ya3 := Y3 _ hba
                  have na1 := N1 _ hba
                  have na2 := N2 _ hba
                  have HOa := Lib.hid (HOk.out.below hba)
                  have HBa := Lib.hid (HBk.out.trans (hba.mono HBk.out.size))
                  clear hba X0 Y0 Y1 Y2 Y3 N0 N1 N2
                  go_wp2_with fail
                  go_roundw
                  case rel => exact ⟨k + 1, by omega, by go_num, by rw [HTs.out], Lib.hid (by rw [HTG.out]; exact HOa.out), HBa⟩
                  case measure => simp [intOf]; omega
              · obtain rfl : k = cols.length := by omega
                rw [List.take_length] at HOk ⊢
                have HSm := Lib.hid (tgo_some HCs.out (some x) now)
                have HBjk := Lib.hid (HBj.out.trans (HBk.out.mono HBj.out.size))
                cases hsm : tsome cols (some x) now
                · have HE := Lib.hid (HStop.out hsm)
                  have htv := HV.out.trans HE.out
                  subst htv
                  clear hsm
                  go_wp2_with fail
                  go_ret2
                  exact ⟨rfl, HBS.out.trans (HBjk.out.mono HBS.out.size)⟩
                · have HE := Lib.hid (show OwnB wr w3.heap.size (.slice (some ⟨wj.heap.size, 0, none⟩) q q) (trun q cols (List.replicate q true) (word.take (j + 1))) from by
                    rw [HTk.out]; exact HOk.out.weaken HBj.out.size)
                  have HC1 := Lib.hid (show (trun q cols (List.replicate q true) (word.take (j + 1))).contains true = true by rw [HTk.out, HSm.out, hsm])
                  clear hsm
                  go_wp2_with fail
                  go_roundw
                  case rel => exact ⟨j + 1, by omega, by go_num, HE, HBjk, Lib.hid (.inr HC1.out)⟩
                  case measure => simp [intOf]; omega
          · obtain rfl : j = word.length := by omega
            have htv : tv = true := by
              rcases HDj.out with h0 | h0
              · omega
              · rw [List.take_length] at h0; exact HV.out.trans h0
            subst htv
            go_wp2_with fail
            go_ret2
            exact ⟨rfl, HBS.out.trans (HBj.out.mono HBS.out.size)⟩
  · have hcz : (code != 0) = true := by simp [hc0]
    rw [if_neg hc0] at hv
    subst hv
    clear hc0 U0 U1
    go_wp2
    go_ret2
    exact ⟨rfl, HW.out⟩

end Go.Proofs.YtkgnejhflnekaaaGreat
namespace Go.Proofs.YtkgnejhflnekaaaGreat
open Go.RowKit
theorem infoSlB : (Tryz.prog.info? 96).map (fun i => (i.zero, i.size, i.bytes)) = some (some (.slice none 0 0), 1, 24) := by kernel_rfl
theorem ownB_apart {w1 w2 : World} {B : Nat} {v u : Value} {xs ys : List Bool} (hv : OwnB w1 B v xs) (hu : OwnB w2 w1.heap.size u ys) : (v.ownBlock = none ∨ v.ownBlock ≠ u.ownBlock) ∧ (u.ownBlock = none ∨ u.ownBlock ≠ v.ownBlock) := by
  cases e1 : v.ownBlock with
  | none => exact ⟨.inl rfl, by cases e2 : u.ownBlock with | none => exact .inl rfl | some k => exact .inr (by simp)⟩
  | some j =>
    cases e2 : u.ownBlock with
    | none => exact ⟨.inr (by simp), .inl rfl⟩
    | some k =>
      have h1 := (World.ownsRow.lt hv j e1).2
      have h2 := (World.ownsRow.lt hu k e2).1
      exact ⟨.inr (by simp; omega), .inr (by simp; omega)⟩
def RowsB (w : World) (B : Option Addr) (L : List (List Bool)) : Prop :=
  ∀ k (h : k < L.length), ∃ b off A cx, B = some ⟨b, off, none⟩ ∧ b < w.heap.size ∧ w.cell? ⟨b, off + k, none⟩ = some (.slice A L[k].length cx) ∧ BoolC w A L[k]
theorem RowsB.below {w w1 : World} {B : Option Addr} {L : List (List Bool)} (h : RowsB w B L) (hb : Below w.heap.size w w1) : RowsB w1 B L := by
  intro k hk
  obtain ⟨b, off, A, cx, e, hlt, hc, hr⟩ := h k hk
  exact ⟨b, off, A, cx, e, Nat.lt_of_lt_of_le hlt hb.size, (hb.cell (p := ⟨b, _, none⟩) hlt).trans hc, hr.below hb⟩
def OwnBB (w : World) (B : Nat) (v : Value) (L : List (List Bool)) : Prop :=
  ∃ vs : List Value, w.ownsRow B 96 1 v L.length vs ∧ (∀ i (h : i < vs.length) (h' : i < L.length), OwnB w B vs[i] L[i]) ∧
    (∀ i j (h : i < vs.length) (h' : j < vs.length), i ≠ j → Apart vs[i] vs[j]) ∧ ∀ i (h : i < vs.length), Apart vs[i] v
theorem OwnBB.rows {w : World} {B : Nat} {v : Value} {L : List (List Bool)} (h : OwnBB w B v L) : ∃ A cx, v = .slice A L.length cx ∧ RowsB w A L := by
  obtain ⟨vs, h1, h2, _⟩ := h
  have hl : vs.length = L.length := by have := h1.1; omega
  obtain ⟨_, h3⟩ := h1
  rcases h3 with ⟨rfl, h3⟩ | ⟨g, cap, cur, rfl, e2, e3, e4, e5, e6, e7⟩
  · exact ⟨none, 0, by rw [h3], fun k hk => by omega⟩
  · refine ⟨some ⟨g, 0, none⟩, cap, rfl, fun k hk => ?_⟩
    obtain ⟨A, cx, e⟩ := (h2 k (by omega) hk).shape
    have hc : BoolC w A L[k] := by have h8 := h2 k (by omega) hk; rw [e] at h8; exact h8.read
    refine ⟨g, 0, A, cx, rfl, (Array.getElem?_eq_some_iff.1 e3).1, ?_, hc⟩
    rw [Nat.zero_add]
    unfold World.cell?
    simp only [e3]
    have hk2 : k < vs.length := by omega
    have h9 : (cur.toList.take (L.length * 1))[k]? = some (vs[k]'hk2) := by rw [e7]; exact List.getElem?_eq_getElem hk2
    rw [List.getElem?_take] at h9
    simp [hk] at h9
    simp [h9, e]
theorem OwnBB.kept {w w' : World} {B : Nat} {v : Value} {L : List (List Bool)} {row : Option Nat} (h : OwnBB w B v L) (hg : w.grownBy w' row) (hr : ∀ k, row = some k → k < B) : OwnBB w' B v L := by
  obtain ⟨vs, h1, h2, h3, h4⟩ := h
  have ne : ∀ (u : Value) (n : Nat) (xs : List Value) (e : TypeId) (s : Nat), w.ownsRow B e s u n xs → u.ownBlock = none ∨ u.ownBlock ≠ row := fun u n xs e s ho => by
    cases eu : u.ownBlock with
    | none => exact .inl rfl
    | some k =>
      right
      have := (World.ownsRow.lt ho k eu).1
      intro e2
      have := hr k e2.symm
      omega
  exact ⟨vs, World.ownsRow.kept h1 hg (ne _ _ _ _ _ h1), fun i hi hi' => World.ownsRow.kept (h2 i hi hi') hg (ne _ _ _ _ _ (h2 i hi hi')), h3, h4⟩
theorem OwnBB.below {w w1 : World} {B : Nat} {v : Value} {L : List (List Bool)} (h : OwnBB w B v L) (hb : Below w.heap.size w w1) : OwnBB w1 B v L := by
  obtain ⟨vs, h1, h2, h3, h4⟩ := h
  refine ⟨vs, ?_, fun i hi hi' => (h2 i hi hi').below hb, h3, h4⟩
  exact World.ownsRow.kept (row := none) h1 ⟨hb.os, hb.tape, hb.output, hb.size, fun k hk _ => hb.block k hk⟩ (by cases h : v.ownBlock with | none => exact .inl rfl | some k => exact .inr (by simp))
theorem OwnBB.weaken {w : World} {B B' : Nat} {v : Value} {L : List (List Bool)} (h : OwnBB w B v L) (hB : B' ≤ B) : OwnBB w B' v L := by
  obtain ⟨vs, ⟨a1, a2⟩, h2, h3, h4⟩ := h
  refine ⟨vs, ⟨a1, ?_⟩, fun i hi hi' => (h2 i hi hi').weaken hB, h3, h4⟩
  rcases a2 with a2 | ⟨g, cap, cur, e1, e2, e3⟩
  · exact .inl a2
  · exact .inr ⟨g, cap, cur, e1, Nat.le_trans hB e2, e3⟩
theorem OwnBB.empty {w : World} {B g : Nat} (hg : w.heap.size = g) (hB : B ≤ w.heap.size) : OwnBB (w.alloc (.cells #[] 96)) B (.slice (some ⟨g, 0, none⟩) 0 0) [] := by
  subst hg
  exact ⟨[], World.ownsRow_lit (base := B) (e := 96) (size := 1) w #[] 0 hB (by simp [maxLen]) (by simp), fun i h => by simp at h, fun i j h => by simp at h, fun i h => by simp at h⟩
theorem OwnBB.lt {w : World} {B : Nat} {v : Value} {L : List (List Bool)} (h : OwnBB w B v L) : ∀ k, v.ownBlock = some k → B ≤ k ∧ k < w.heap.size := by
  obtain ⟨vs, h1, _⟩ := h
  exact fun k hk => World.ownsRow.lt h1 k hk
theorem app_rowB {o : Oper} {a : Act} {W0 W : World} {K : Act → World → Prop} {Q : Exit → Act → World → Prop} (s x : Operand)
    (ho : o.op = .call { callee := .builtin .append, args := #[s, x], argTypes := #[145, 145] }) (B : Nat) (v : Value) (L : List (List Bool)) (u : Value) (xs : List Bool) (hs : a.eval s = v) (hown : OwnBB W0 B v L)
    (hW : Below W0.heap.size W0 W) (hu : OwnB W W0.heap.size u xs)
    (b off : Nat) (hx : a.eval x = .slice (some ⟨b, off, none⟩) 1 1) (hc : W.cell? ⟨b, off, none⟩ = some u) (hl : L.length ≤ 1000000000000) (hB : B ≤ W0.heap.size)
    (h : ∀ v' w', OwnBB w' B v' (L ++ [xs]) → W.grownBy w' v.ownBlock → (∀ k, v.ownBlock = some k → B ≤ k) → K (a.put o.dst v') w') : o.wp Tryz.prog a W K Q := by
  obtain ⟨vs, g1, g2, h3, h4⟩ := hown
  have h1 : W.ownsRow B 96 1 v L.length vs := World.ownsRow.kept (row := none) g1 ⟨hW.os, hW.tape, hW.output, hW.size, fun k hk _ => hW.block k hk⟩ (by cases h : v.ownBlock with | none => exact .inl rfl | some k => exact .inr (by simp))
  have h2 : ∀ i (h : i < vs.length) (h' : i < L.length), OwnB W B vs[i] L[i] := fun i h h' => (g2 i h h').below hW
  have hvl : vs.length = L.length := by have := h1.1; omega
  refine app_gen s x 145 96 (.slice none 0 0) 1 24 ho Tryz.underlying145 infoSlB rfl (by decide) B v L.length vs hs h1 ⟨b, off, none⟩ 1 1 [u] hx rfl ?_ ?_ ?_ ?_ (Nat.le_trans hB hW.size) ?_
  · intro j z hj
    cases j with
    | zero => simp at hj; subst hj; simpa [Addr.add] using hc
    | succ j => simp at hj
  · intro z hz
    simp at hz; subst hz
    obtain ⟨A, cx, rfl⟩ := hu.shape
    rfl
  · simp [maxLen]; omega
  · omega
  · intro v' w' k1 k2 k3
    have hvb := World.ownsRow.lt h1
    have hub := World.ownsRow.lt hu
    have hvb0 : ∀ k, v.ownBlock = some k → k < W0.heap.size := fun k hk => (World.ownsRow.lt g1 k hk).2
    have huv : Apart u v := by
      cases eu : u.ownBlock with
      | none => exact .inl eu
      | some k =>
        right; rw [eu]; intro e
        have := (hub k eu).1
        have := hvb0 k e.symm
        omega
    refine h v' w' ⟨vs ++ [u], by rw [List.length_append]; exact k1, fun i hi hi' => ?_, fun i j hi hj hij => ?_, fun i hi => ?_⟩ k2 (fun k hk => (hvb k hk).1)
    · by_cases e : i < vs.length
      · have e' : i < L.length := by omega
        rw [List.getElem_append_left e, List.getElem_append_left e']
        exact (h2 i e e').grown k2 (h4 i e)
      · have ei : i = vs.length := by simp at hi; omega
        subst ei
        rw [List.getElem_append_right (Nat.le_refl _), List.getElem_append_right (by omega)]
        simp only [Nat.sub_self, List.getElem_cons_zero, hvl]
        exact (hu.weaken hB).grown k2 huv
    · have far : ∀ q (hq : q < vs.length), Apart vs[q] u := fun q hq => (ownB_apart (g2 q hq (by omega)) hu).1
      by_cases e : i < vs.length
      · by_cases e2 : j < vs.length
        · rw [List.getElem_append_left e, List.getElem_append_left e2]; exact h3 i j e e2 hij
        · rw [List.getElem_append_left e, List.getElem_append_right (by omega)]
          simp only [show j - vs.length = 0 by simp at hj; omega, List.getElem_cons_zero]
          exact far i e
      · have e2 : j < vs.length := by simp at hi hj; omega
        rw [List.getElem_append_left e2, List.getElem_append_right (by omega)]
        simp only [show i - vs.length = 0 by simp at hi; omega, List.getElem_cons_zero]
        exact (far j e2).symm
    · by_cases e : i < vs.length
      · rw [List.getElem_append_left e]
        exact ((h4 i e).symm.app (fun k hk => ((h2 i e (by omega)).lt k hk).2) k3).symm
      · rw [List.getElem_append_right (by omega)]
        simp only [show i - vs.length = 0 by simp at hi; omega, List.getElem_cons_zero]
        exact (huv.symm.app (fun k hk => (hu.lt k hk).2) k3).symm
theorem wpl_app_rowB {ops : Array Oper} {rest : List Oper} {o : Oper} {a : Act} {W0 W : World} {Q : Exit → Act → World → Prop} (hgd : o.guard = none) (s x : Operand)
    (ho : o.op = .call { callee := .builtin .append, args := #[s, x], argTypes := #[145, 145] }) (B : Nat) (v : Value) (L : List (List Bool)) (u : Value) (xs : List Bool) (hs : a.eval s = v) (hown : OwnBB W0 B v L)
    (hW : Below W0.heap.size W0 W) (hu : OwnB W W0.heap.size u xs)
    (b off : Nat) (hx : a.eval x = .slice (some ⟨b, off, none⟩) 1 1) (hc : W.cell? ⟨b, off, none⟩ = some u) (hl : L.length ≤ 1000000000000) (hB : B ≤ W0.heap.size)
    (h : ∀ v' w', OwnBB w' B v' (L ++ [xs]) → W.grownBy w' v.ownBlock → (∀ k, v.ownBlock = some k → B ≤ k) → wpList Tryz.prog ops Q rest (a.put o.dst v') w') : wpList Tryz.prog ops Q (o :: rest) a W :=
  wpList_plain hgd fun _ hK => app_rowB s x ho B v L u xs hs hown hW hu b off hx hc hl hB fun v' w' h1 h2 h3 => hK _ _ (h v' w' h1 h2 h3)

end Go.Proofs.YtkgnejhflnekaaaGreat
