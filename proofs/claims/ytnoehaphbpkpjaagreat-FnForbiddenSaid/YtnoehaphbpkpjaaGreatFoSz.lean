/- Contracts and lemmas for the statements of this seat, written for this claim; each theorem states its own conditions. -/
import Derived.Test.YtnoehaphbpkpjaaGreatFoSx
import Derived.Test.YtnoehaphbpkpjaaGreatFoSe
set_option linter.unusedVariables false
set_option linter.unusedSimpArgs false
namespace Go.Proofs.YtnoehaphbpkpjaaGreat
open Go.RowKit
attribute [local go_sem] addUpon_value addUpon_skip addUpon_enter
set_option maxRecDepth 100000 in
set_option maxHeartbeats 1000000 in
theorem isWord1_c (x c : Int) (b1 : Nat) (w : World) (h1 : 1 ≤ c) (h6 : c ≤ 6) (f0 : w.cell? ⟨b1, 0, none⟩ = some (.int .i64 c)) :
    Calls Tryz.prog 96 #[.int .i64 x, .pointer (some ⟨b1, 0, none⟩)] w fun e w' => e = .returned (.bool (!inR 0 (c - 1) x)) ∧ Below w.heap.size w w' := by
  have HR := Lib.hid (fun w => within_c x 0 (c - 1) w)
  have qc : IntKind.i64.wrap (c - 1) = c - 1 := IntWalk.i64_in _ (by omega)
  go_enter Tryz.func96, Tryz.ntmps96
  go_wp2_with fail
  refine (HR.out _).mono ?_
  rintro e w1 ⟨rfl, rfl⟩
  go_wp2
  go_ret
  exact ⟨rfl, Below.refl _ _⟩
set_option maxRecDepth 100000 in
set_option maxHeartbeats 1000000 in
theorem isWord_c (c : Int) (n cx : Nat) (A : Option Addr) (word : List Int) (X : Option Addr) (kx : Nat) (w : World) (h1 : 1 ≤ c) (h6 : c ≤ 6) (hX : Cells w X (ints word)) (hl : word.length ≤ 1000000000) :
    Calls Tryz.prog 59 #[.agg #[.int .i64 c, .slice A n cx], .slice X word.length kx] w fun e w' => e = .returned (.bool (wordOk c word)) ∧ Below w.heap.size w w' := by
  have HR := Lib.hid (fun w => within_c word.length 1 20 w)
  have hin : inR 1 20 (word.length : Int) = decide (1 ≤ word.length ∧ word.length ≤ 20) := by unfold inR; congr 1; apply propext; constructor <;> intro h <;> omega
  have hwo : wordOk c word = (inR 1 20 (word.length : Int) && wordB c word) := by rw [hin]; rfl
  have hany : word.any (fun x => !inR 0 (c - 1) x) = !wordB c word := by unfold wordB; rw [List.not_all_eq_any_not]
  have HC := Lib.hid (fun (wq : World) (hwq : Below w.heap.size w wq) (b1 : Nat) h0 => containsFuncI_c word X kx 96 #[.pointer (some ⟨b1, 0, none⟩)] (fun x => !inR 0 (c - 1) x) wq (fun _ _ => rfl) (hX.below hwq) hl
    (fun x _ w1 hb => isWord1_c x c b1 w1 h1 h6 (keepC h0 _ hb)))
  rw [hwo]
  rw [hany] at HC
  clear hX hwo hin hany
  generalize inR 1 20 (word.length : Int) = r at *
  generalize wordB c word = s at *
  cases r
  · go_enter Tryz.func59, Tryz.ntmps59
    go_wp2_with fail
    refine (HR.out _).mono ?_
    rintro e w1 ⟨rfl, rfl⟩
    go_wp2
    go_ret
    exact ⟨rfl, by (repeat (first | (with_reducible exact Below.refl _ _) | (with_reducible assumption) | (with_reducible refine below_al ?_) | (with_reducible refine below_dr ?_) | (with_reducible refine below_drN ?_) | (with_reducible refine below_set ?_ (by first | exact Nat.le_refl _ | (dsimp only; omega) | omega)) | (with_reducible refine below_tr (by with_reducible assumption) ?_)))⟩
  · go_enter Tryz.func59, Tryz.ntmps59
    go_wp2_with fail
    refine (HR.out _).mono ?_
    rintro e w1 ⟨rfl, rfl⟩
    go_wp2_with fail
    refine (HC.out _ (by (repeat (first | (with_reducible exact Below.refl _ _) | (with_reducible assumption) | (with_reducible refine below_al ?_) | (with_reducible refine below_dr ?_) | (with_reducible refine below_drN ?_) | (with_reducible refine below_set ?_ (by first | exact Nat.le_refl _ | (dsimp only; omega) | omega)) | (with_reducible refine below_tr (by with_reducible assumption) ?_)))) _ ?_).mono ?_
    · (repeat (first | (exact cell_al _ _ _ _ _ _ (by simp) rfl) | (refine cell_alloc_old _ _ _ _ _ ?_)))
    rintro e w2 ⟨rfl, hb2⟩
    have Hw2 : Hid (Below w.heap.size w w2) := by (show Below _ _ _); (repeat (first | (with_reducible exact Below.refl _ _) | (with_reducible assumption) | (with_reducible refine below_al ?_) | (with_reducible refine below_dr ?_) | (with_reducible refine below_drN ?_) | (with_reducible refine below_set ?_ (by first | exact Nat.le_refl _ | (dsimp only; omega) | omega)) | (with_reducible refine below_tr (by with_reducible assumption) ?_)))
    clear hb2
    go_wp2
    go_ret
    exact ⟨by cases s <;> rfl, Hw2.out⟩
set_option maxRecDepth 100000 in
set_option maxHeartbeats 1000000 in
theorem isTraceF_c (c : Int) (n cx : Nat) (A : Option Addr) (word : List Int) (X : Option Addr) (kx b1 b2 : Nat) (w : World) (h1 : 1 ≤ c) (h6 : c ≤ 6) (hX : Cells w X (ints word)) (hl : word.length ≤ 1000000000)
    (f0 : w.cell? ⟨b1, 0, none⟩ = some (.int .i64 c)) (f1 : w.cell? ⟨b1, 1, none⟩ = some (.slice A n cx)) (f2 : w.cell? ⟨b2, 0, none⟩ = some (.slice X word.length kx)) :
    Calls Tryz.prog 81 #[.pointer (some ⟨b1, 0, none⟩), .pointer (some ⟨b2, 0, none⟩)] w fun e w' => e = .returned (.bool (wordOk c word)) ∧ Below w.heap.size w w' := by
  have HR := Lib.hid (isWord_c c n cx A word X kx w h1 h6 hX hl)
  clear hX
  go_enter Tryz.func81, Tryz.ntmps81
  go_wp2_with fail
  refine HR.out.mono ?_
  rintro e w1 ⟨rfl, hb⟩
  go_wp2
  go_ret
  exact ⟨rfl, hb⟩
theorem tstep_put (x : Int) (now nx : List Bool) (k : Col) (he : k.e.toNat < nx.length) (hx : x = k.n) : nx.set k.e.toNat (nx[k.e.toNat] || now.getD k.w.toNat false) = tstep (some x) now nx k := by
  unfold tstep
  simp only [Option.all_some, hx, beq_self_eq_true, Bool.true_and]
  cases now.getD k.w.toNat false
  · simp
  · simp
theorem tstep_skip (x : Int) (now nx : List Bool) (k : Col) (hx : ¬ x = k.n) : tstep (some x) now nx k = nx := by
  unfold tstep; simp [hx]
set_option maxRecDepth 100000 in
set_option maxHeartbeats 1000000 in
theorem stripTrace_c (g : Nat) (c : Int) (A : Option Addr) (n cx : Nat) (h : Int) (S : Nat) (cols : List Col) (word : List Int) (X : Option Addr) (kx : Nat) (w : World) (hS1 : 1 ≤ S) (hS2 : S ≤ 100000) (hC : Codes S cols) (hcl : cols.length ≤ 1000000) (hwl : word.length ≤ 10000000)
    (hR : StripR w g c A n cx h S cols) (hX : Cells w X (ints word)) :
    Calls Tryz.prog 82 #[.pointer (some ⟨g, 0, none⟩), .slice X word.length kx] w fun e w' => e = .returned (.bool (traceB S cols word)) ∧ Below w.heap.size w w' := by
  obtain ⟨C, cc, hB, hCo⟩ := hR
  have HB := Lib.hid hB
  have HCo := Lib.hid hCo
  have HX := Lib.hid hX
  have HC := Lib.hid hC
  have HRep := Lib.hid (fun (g0 : Nat) (wq : World) hc => repeatB_c S g0 wq hS1 (by omega) hc)
  have HT := Lib.hid (show traceB S cols word = (trun S cols (List.replicate S true) word).contains true from rfl)
  have c2 := hB.cell 3 (by simp)
  have c3 := hB.cell 4 (by simp)
  simp only [List.getElem_cons_zero, List.getElem_cons_succ] at c2 c3
  have C2 := Lib.hid (keepC c2)
  have C3 := Lib.hid (keepC c3)
  have hg := hB.lt
  clear hB hCo hX hC c3
  go_enter Tryz.func82, Tryz.ntmps82
  go_wp2_with fail
  refine (HRep.out _ _ ?_).mono ?_
  · (repeat (first | (exact cell_al _ _ _ _ _ _ (by simp) rfl) | (refine cell_alloc_old _ _ _ _ _ ?_)))
  rintro e w1 ⟨v, rfl, hO, hb1⟩
  have Hw1 : Hid (Below w.heap.size w w1) := by (show Below _ _ _); (repeat (first | (with_reducible exact Below.refl _ _) | (with_reducible assumption) | (with_reducible refine below_al ?_) | (with_reducible refine below_dr ?_) | (with_reducible refine below_drN ?_) | (with_reducible refine below_set ?_ (by first | exact Nat.le_refl _ | (dsimp only; omega) | omega)) | (with_reducible refine below_tr (by with_reducible assumption) ?_)))
  have HO := Lib.hid (hO.weaken (B' := w.heap.size) (le_al (Nat.le_refl _)))
  clear hO hb1 c2
  go_wp2_with fail
  go_loopw [5, 19] (fun v iv wr => ∃ j : Nat, j ≤ word.length ∧ iv = .int .i64 j ∧ Hid (OwnB wr w.heap.size v (trun S cols (List.replicate S true) (word.take j))) ∧ Hid (Below w.heap.size w wr)) (fun _ i _ => word.length - (intOf i).toNat)
  case atStart => exact ⟨0, by omega, rfl, Lib.hid (by simpa [trun] using HO.out), Hw1⟩
  case round =>
    obtain ⟨j, hj, rfl, HOj, HBj⟩ := hrel
    obtain ⟨wj, rfl⟩ : ∃ wj, wj = wr := ⟨wr, rfl⟩
    have hlen := trun_len S cols (List.replicate S true) (word.take j) (by simp)
    obtain ⟨An, kn, rfl⟩ := HOj.out.shape
    by_cases hjl : j < word.length
    · obtain ⟨b, off, rfl, hlt, x0⟩ := (HX.out.below HBj.out).int j hjl
      have HTk := Lib.hid (trun_take S cols (List.replicate S true) word j hjl)
      generalize trun S cols (List.replicate S true) (word.take j) = now at *
      generalize word[j] = x at *
      have c2 := C2.out _ HBj.out
      have c3 := C3.out _ HBj.out
      have hgj : g < wj.heap.size := Nat.lt_of_lt_of_le hg HBj.out.size
      have hm := fun w => make_b S (by omega) w
      have HRd := Lib.hid HOj.out.read
      have HLn := Lib.hid hlen
      rw [hlen] at HOj
      rw [hlen]
      clear hlen
      go_wp2_with fail
      clear hm c2 c3
      go_loopw [33] (fun iv wr => ∃ k : Nat, k ≤ cols.length ∧ iv = .int .i64 k ∧ Hid (OwnB wr wj.heap.size (.slice (some ⟨wj.heap.size, 0, none⟩) S S) (tgo S (cols.take k) (some x) now)) ∧ Hid (Below wj.heap.size wj wr)) (fun i _ => cols.length - (intOf i).toNat)
      case atStart => exact ⟨0, by omega, rfl, Lib.hid (OwnB.made wj _ S (Nat.le_refl _) (by omega)), Lib.hid (by (repeat (first | (with_reducible exact Below.refl _ _) | (with_reducible assumption) | (with_reducible refine below_al ?_) | (with_reducible refine below_dr ?_) | (with_reducible refine below_drN ?_) | (with_reducible refine below_set ?_ (by first | exact Nat.le_refl _ | (dsimp only; omega) | omega)) | (with_reducible refine below_tr (by with_reducible assumption) ?_))))⟩
      case round =>
        obtain ⟨k, hk, rfl, HOk, HBk⟩ := hrel
        obtain ⟨wk, rfl⟩ : ∃ wk, wk = wr := ⟨wr, rfl⟩
        by_cases hkl : k < cols.length
        · obtain ⟨b2, off2, rfl, hlt2, y0, y1, y2⟩ := (HCo.out.below (HBj.out.trans (HBk.out.mono HBj.out.size))) k hkl
          obtain ⟨⟨w0, w1'⟩, e0, e1⟩ := HC.out _ (List.getElem_mem hkl)
          have HTg := Lib.hid (tgo_take S cols (some x) now k hkl)
          have hnl := tgo_len S (cols.take k) (some x) now
          generalize tgo S (cols.take k) (some x) now = nx at *
          generalize cols[k] = col at *
          by_cases hx : x = col.n
          · have q1 : (col.n == x) = true := by simp [hx]
            have hz1 : col.w.toNat < now.length := by have := HLn.out; omega
            have hz2 : col.e.toNat < nx.length := by omega
            have HE := Lib.hid (HTg.out.trans (tstep_put x now nx col hz2 hx).symm)
            rw [show now.getD col.w.toNat false = now[col.w.toNat] by simp [hz1]] at HE
            replace hx := Lib.hid hx
            obtain ⟨wi, hwi⟩ := Int.eq_ofNat_of_zero_le w0
            obtain ⟨ei, hei⟩ := Int.eq_ofNat_of_zero_le e0
            obtain ⟨b3, off3, rfl, hlt3, n0⟩ := HRd.out _ hz1
            obtain ⟨g4, hg4, _, _, n1, n2⟩ := HOk.out.at_ _ hz2
            injection hg4 with hg4; injection hg4 with hg4 _; subst hg4
            simp only [hwi, hei, Int.toNat_natCast] at n0 n1 n2 hz1 hz2 HE
            rw [hwi] at y0
            rw [hei] at y1
            have hlw : wi < S := by omega
            have hle : ei < S := by omega
            obtain ⟨wt, hwt⟩ : ∃ wt, wt = wk.alloc (.cells #[.int .i64 wi, .int .i64 ei, .int .i64 col.n] 104) := ⟨_, rfl⟩
            have HBt := Lib.hid (show Below wk.heap.size wk wt by rw [hwt]; (repeat (first | (with_reducible exact Below.refl _ _) | (with_reducible assumption) | (with_reducible refine below_al ?_) | (with_reducible refine below_dr ?_) | (with_reducible refine below_drN ?_) | (with_reducible refine below_set ?_ (by first | exact Nat.le_refl _ | (dsimp only; omega) | omega)) | (with_reducible refine below_tr (by with_reducible assumption) ?_))))
            have HOt := Lib.hid (HOk.out.below HBt.out)
            have N0 := keepC (keepC ((HBk.out.cell (p := ⟨b3, off3 + wi, none⟩) hlt3).trans n0) _ HBt.out)
            have N1 := keepC (keepC n1 _ HBt.out)
            have F1 := fun wz (hz : Below wt.heap.size wt wz) => (hz.frozen (p := ⟨wj.heap.size, ei, none⟩) (Nat.lt_of_lt_of_le (HOk.out.lt _ rfl).2 HBt.out.size)).trans ((HBt.out.frozen (p := ⟨wj.heap.size, ei, none⟩) (HOk.out.lt _ rfl).2).trans n2)
            have U0 := keepC (show wt.cell? ⟨wk.heap.size, 0, none⟩ = some (.int .i64 wi) by rw [hwt]; exact cell_alloc_at _ _ _ _ _ rfl)
            have U1 := keepC (show wt.cell? ⟨wk.heap.size, 1, none⟩ = some (.int .i64 ei) by rw [hwt]; exact cell_alloc_at _ _ _ _ _ rfl)
            replace hwt := Lib.hid hwt
            clear n0 n1 n2
            obtain ⟨bn, hbn⟩ : ∃ bn, nx[ei] = bn := ⟨_, rfl⟩
            obtain ⟨bw, hbw⟩ : ∃ bw, now[wi] = bw := ⟨_, rfl⟩
            rw [hbn] at N1 HE
            rw [hbw] at N0 HE
            clear hbn hbw hwi hei hz1 hz2
            cases bn <;> cases bw
            all_goals
              go_wp2_with fail
              rw [← hwt.out]
              refine wp_region_add_tail 16 (fun w' => Below (wt).heap.size (wt) w') (by kernel_rfl) (by kernel_rfl) ((Below.refl _ _).drew) ?_
              simp only [List.take_succ_cons, List.take_zero, List.drop_succ_cons, List.drop_zero]
              repeat (first
                | (refine add_skip rfl (fun K' hK' => ?_); go_simp; refine hK' _ ?_; clear hK' K')
                | (refine add_do (v := ?_) rfl (fun w1 hb => ?_) (fun K' hK' => ?_); rotate_left
                   · go_simp
                     first
                     | (with_reducible exact rfl)
                     | (with_reducible exact ⟨rfl, hb⟩)
                     | exact rfl
                     | exact ⟨rfl, hb⟩
                   go_simp; refine hK' _ ?_; clear hK' K'))
              refine add_nil ?_
              intro wa hba
              have f1 := F1 _ hba
              have HOa := Lib.hid ((HOt.out.below hba).set ei)
              have n1a := N1 _ hba
              have HBa := Lib.hid (HBk.out.trans ((HBt.out.trans (hba.mono HBt.out.size)).mono HBk.out.size))
              clear hba N0 N1 F1 U0 U1
              go_wp2_with fail
              go_roundw
              case rel => exact ⟨k + 1, by omega, by go_num, Lib.hid (by rw [HE.out]; exact (HOa.out _).1), Lib.hid (HBa.out.setCell (Nat.le_refl _) _)⟩
              case measure => simp [intOf]; omega
          · have q1 : (col.n == x) = false := by simp [Ne.symm hx]
            have HE := Lib.hid (HTg.out.trans (tstep_skip x now nx col hx))
            replace hx := Lib.hid hx
            go_wp2_with fail
            go_roundw
            case rel => exact ⟨k + 1, by omega, by go_num, Lib.hid (by rw [HE.out]; exact HOk.out.below (below_al (Below.refl _ _))), Lib.hid (by have h3 := HBk.out; (repeat (first | (with_reducible exact Below.refl _ _) | (with_reducible assumption) | (with_reducible refine below_al ?_) | (with_reducible refine below_dr ?_) | (with_reducible refine below_drN ?_) | (with_reducible refine below_set ?_ (by first | exact Nat.le_refl _ | (dsimp only; omega) | omega)) | (with_reducible refine below_tr (by with_reducible assumption) ?_))))⟩
            case measure => simp [intOf]; omega
        · obtain rfl : k = cols.length := by omega
          have HE := Lib.hid (show OwnB wk w.heap.size (.slice (some ⟨wj.heap.size, 0, none⟩) S S) (trun S cols (List.replicate S true) (word.take (j + 1))) from by
            rw [HTk.out]
            have := HOk.out
            rw [List.take_length] at this
            exact this.weaken HBj.out.size)
          go_wp2_with fail
          go_roundw
          case rel => exact ⟨j + 1, by omega, by go_num, HE, Lib.hid (HBj.out.trans (HBk.out.mono HBj.out.size))⟩
          case measure => simp [intOf]; omega
    · obtain rfl : j = word.length := by omega
      rw [List.take_length] at HOj hlen
      generalize hnow : trun S cols (List.replicate S true) word = now at *
      have HRd := Lib.hid (containsB_c now An kn wj HOj.out.read (by omega))
      replace hlen := Lib.hid hlen
      go_wp2_with fail
      refine HRd.out.mono ?_
      rintro e w3 ⟨rfl, rfl⟩
      go_wp2
      go_ret
      exact ⟨ret_bool (by rw [HT.out]; simp), HBj.out⟩
def trV (c : Int) (ts : List T4) (h : Int) (word : List Int) : Bool := if tsCode c ts h (wordOk c word) = 0 then traceB (powC c h.toNat).toNat (lev c ts h.toNat) word else false
set_option maxRecDepth 100000 in
set_option maxHeartbeats 1000000 in
theorem implIsTrace_c (c : Int) (ts : List T4) (A : Option Addr) (cx : Nat) (h : Int) (word : List Int) (X : Option Addr) (kx : Nat) (w : World) (hT : TileCells w A ts) (hl : ts.length ≤ 1000000000) (hX : Cells w X (ints word)) (hw : word.length ≤ 1048576) :
    Calls Tryz.prog 28 #[.agg #[.int .i64 c, .slice A ts.length cx], .int .i64 h, .slice X word.length kx] w fun e w' => e = .returned (.tuple #[.bool (trV c ts h word), .int .i64 (tsCode c ts h (wordOk c word))]) ∧ Below w.heap.size w w' := by
  have HC := Lib.hid (fun (wq : World) (hwq : Below w.heap.size w wq) (b1 b2 : Nat) h0 h1 h2 => traceStrip_c c ts A cx h 81 #[.pointer (some ⟨b1, 0, none⟩), .pointer (some ⟨b2, 0, none⟩)] (wordOk c word) wq (fun _ _ => rfl) (hT.below hwq) hl
    (fun hs w1 hb => isTraceF_c c ts.length cx A word X kx b1 b2 w1 (isSetB_parts hs).2.1.1 (isSetB_parts hs).2.1.2 ((hX.below hwq).below hb) (by omega) (keepC h0 _ hb) (keepC h1 _ hb) (keepC h2 _ hb)))
  have HX := Lib.hid hX
  have hv : trV c ts h word = if tsCode c ts h (wordOk c word) = 0 then traceB (powC c h.toNat).toNat (lev c ts h.toNat) word else false := rfl
  have hz := Lib.hid (tsCode_zero (c := c) (ts := ts) (h := h) (fine := wordOk c word))
  clear hT hX
  generalize hcode : tsCode c ts h (wordOk c word) = code at *
  generalize trV c ts h word = tv at *
  go_enter Tryz.func28, Tryz.ntmps28
  go_wp2_with fail
  refine (HC.out _ (by (repeat (first | (with_reducible exact Below.refl _ _) | (with_reducible assumption) | (with_reducible refine below_al ?_) | (with_reducible refine below_dr ?_) | (with_reducible refine below_drN ?_) | (with_reducible refine below_set ?_ (by first | exact Nat.le_refl _ | (dsimp only; omega) | omega)) | (with_reducible refine below_tr (by with_reducible assumption) ?_)))) _ _ ?_ ?_ ?_).mono ?_
  · (repeat (first | (exact cell_al _ _ _ _ _ _ (by simp) rfl) | (refine cell_alloc_old _ _ _ _ _ ?_)))
  · (repeat (first | (exact cell_al _ _ _ _ _ _ (by simp) rfl) | (refine cell_alloc_old _ _ _ _ _ ?_)))
  · (repeat (first | (exact cell_al _ _ _ _ _ _ (by simp) rfl) | (refine cell_alloc_old _ _ _ _ _ ?_)))
  rintro e w1 ⟨hb1, ⟨hne, rfl⟩ | ⟨h0, g, n, rfl, rfl, hg, hS⟩⟩
  · rw [hcode] at hne ⊢
    rw [if_neg hne] at hv
    subst hv
    have Hw1 : Hid (Below w.heap.size w w1) := by (show Below _ _ _); (repeat (first | (with_reducible exact Below.refl _ _) | (with_reducible assumption) | (with_reducible refine below_al ?_) | (with_reducible refine below_dr ?_) | (with_reducible refine below_drN ?_) | (with_reducible refine below_set ?_ (by first | exact Nat.le_refl _ | (dsimp only; omega) | omega)) | (with_reducible refine below_tr (by with_reducible assumption) ?_)))
    have hcz : (code != 0) = true := by simp [hne]
    clear hb1 hne hcode
    unfold stripEnd
    go_wp2
    go_ret2
    exact ⟨rfl, Hw1.out⟩
  · obtain rfl : code = 0 := by rw [← hcode]; exact h0
    rw [if_pos rfl, Int.toNat_natCast] at hv
    obtain ⟨hs, hf, n1, n3, hp⟩ := hz.out rfl
    rw [Int.toNat_natCast] at hp
    have Hw1 : Hid (Below w.heap.size w w1) := by (show Below _ _ _); (repeat (first | (with_reducible exact Below.refl _ _) | (with_reducible assumption) | (with_reducible refine below_al ?_) | (with_reducible refine below_dr ?_) | (with_reducible refine below_drN ?_) | (with_reducible refine below_set ?_ (by first | exact Nat.le_refl _ | (dsimp only; omega) | omega)) | (with_reducible refine below_tr (by with_reducible assumption) ?_)))
    have d0 : w1.cell? ⟨w.heap.size + 1, 0, none⟩ = some (.slice X word.length kx) := by rw [(bcell hb1).1 _ _ (by simp)]; simp
    have hN : w.heap.size + 1 < w1.heap.size := by have := hb1.size; simp at this; omega
    obtain ⟨_, ⟨c1, c6⟩, h16⟩ := isSetB_parts hs
    have p1 := powC_4 c1 c6 (h := n) (by omega)
    have hll := Nat.le_trans (lev_len c ts n) (pow16 h16 (by omega : n ≤ 3))
    have hcs := lev_Codes hs n
    obtain ⟨S, hS'⟩ := Int.eq_ofNat_of_zero_le (by omega : 0 ≤ powC c n)
    rw [hS'] at hS hcs p1 hp hv
    rw [Int.toNat_natCast] at hcs hv
    have HGo := Lib.hid (stripTrace_c g c A ts.length cx n S (lev c ts n) word X kx w1 (by omega) (by omega) hcs (by omega) (by omega) hS (HX.out.below Hw1.out))
    rw [← hv] at HGo
    clear hb1 hv hcode hS hcs hS' hz h0
    unfold stripEnd
    go_wp2_with fail
    refine HGo.out.mono ?_
    rintro e w2 ⟨rfl, hb2⟩
    have Hw2 := Lib.hid (Hw1.out.trans (hb2.mono Hw1.out.size))
    clear hb2
    go_wp2
    go_ret2
    exact ⟨rfl, Hw2.out⟩

end Go.Proofs.YtnoehaphbpkpjaaGreat
namespace Go.Proofs.YtnoehaphbpkpjaaGreat
open Go.RowKit
theorem good_code (c : Int) (ts : List T4) (h : Int) (b : Bool) : tsCode c ts h (codeB (isSetB c ts) b == 0) = tsCode c ts h b := by
  unfold tsCode
  by_cases h1 : isSetB c ts = true
  · rw [h1]; cases b <;> rfl
  · rw [if_neg h1, if_neg h1]
theorem repB_set {n q : Nat} (h : q < n) : (repB n q).set q true = repB n (q + 1) := by
  unfold repB
  rw [List.set_append_right _ _ (by simp), List.length_replicate, Nat.sub_self, show n - q = (n - (q + 1)) + 1 by omega, List.replicate_succ, List.set_cons_zero, List.replicate_succ']
  simp
theorem tsome_take (cols : List Col) (x : Int) (now : List Bool) (k : Nat) (hk : k < cols.length) : tsome (cols.take (k + 1)) (some x) now = (tsome (cols.take k) (some x) now || ((x == cols[k].n) && now.getD cols[k].w.toNat false)) := by
  unfold tsome; rw [List.take_succ_eq_append_getElem hk, List.any_append]; simp
theorem tstep_eq (x : Int) (now nx : List Bool) (k : Col) (h : k.w.toNat < now.length) : tstep (some x) now nx k = if ((x == k.n) && now[k.w.toNat]) = true then nx.set k.e.toNat true else nx := by
  unfold tstep; simp [h]
end Go.Proofs.YtnoehaphbpkpjaaGreat
namespace Go.Proofs.YtnoehaphbpkpjaaGreat
open Go.RowKit
theorem infoSlB : (Tryz.prog.info? 91).map (fun i => (i.zero, i.size, i.bytes)) = some (some (.slice none 0 0), 1, 24) := by kernel_rfl
theorem ownB_apart {w1 w2 : World} {B : Nat} {v u : Value} {xs ys : List Bool} (hv : OwnB w1 B v xs) (hu : OwnB w2 w1.heap.size u ys) : (v.ownBlock = none ∨ v.ownBlock ≠ u.ownBlock) ∧ (u.ownBlock = none ∨ u.ownBlock ≠ v.ownBlock) := by
  cases e1 : v.ownBlock with
  | none => exact ⟨.inl rfl, by cases e2 : u.ownBlock with | none => exact .inl rfl | some k => exact .inr (by simp)⟩
  | some j =>
    cases e2 : u.ownBlock with
    | none => exact ⟨.inr (by simp), .inl rfl⟩
    | some k =>
      have h1 := (World.ownsRow.lt hv j e1).2
      have h2 := (World.ownsRow.lt hu k e2).1
      exact ⟨.inr (by simp; omega), .inr (by simp; omega)⟩
def RowsB (w : World) (B : Option Addr) (L : List (List Bool)) : Prop :=
  ∀ k (h : k < L.length), ∃ b off A cx, B = some ⟨b, off, none⟩ ∧ b < w.heap.size ∧ w.cell? ⟨b, off + k, none⟩ = some (.slice A L[k].length cx) ∧ BoolC w A L[k]
theorem RowsB.below {w w1 : World} {B : Option Addr} {L : List (List Bool)} (h : RowsB w B L) (hb : Below w.heap.size w w1) : RowsB w1 B L := by
  intro k hk
  obtain ⟨b, off, A, cx, e, hlt, hc, hr⟩ := h k hk
  exact ⟨b, off, A, cx, e, Nat.lt_of_lt_of_le hlt hb.size, (hb.cell (p := ⟨b, _, none⟩) hlt).trans hc, hr.below hb⟩
def OwnBB (w : World) (B : Nat) (v : Value) (L : List (List Bool)) : Prop :=
  ∃ vs : List Value, w.ownsRow B 91 1 v L.length vs ∧ (∀ i (h : i < vs.length) (h' : i < L.length), OwnB w B vs[i] L[i]) ∧
    (∀ i j (h : i < vs.length) (h' : j < vs.length), i ≠ j → Apart vs[i] vs[j]) ∧ ∀ i (h : i < vs.length), Apart vs[i] v
theorem OwnBB.rows {w : World} {B : Nat} {v : Value} {L : List (List Bool)} (h : OwnBB w B v L) : ∃ A cx, v = .slice A L.length cx ∧ RowsB w A L := by
  obtain ⟨vs, h1, h2, _⟩ := h
  have hl : vs.length = L.length := by have := h1.1; omega
  obtain ⟨_, h3⟩ := h1
  rcases h3 with ⟨rfl, h3⟩ | ⟨g, cap, cur, rfl, e2, e3, e4, e5, e6, e7⟩
  · exact ⟨none, 0, by rw [h3], fun k hk => by omega⟩
  · refine ⟨some ⟨g, 0, none⟩, cap, rfl, fun k hk => ?_⟩
    obtain ⟨A, cx, e⟩ := (h2 k (by omega) hk).shape
    have hc : BoolC w A L[k] := by have h8 := h2 k (by omega) hk; rw [e] at h8; exact h8.read
    refine ⟨g, 0, A, cx, rfl, (Array.getElem?_eq_some_iff.1 e3).1, ?_, hc⟩
    rw [Nat.zero_add]
    unfold World.cell?
    simp only [e3]
    have hk2 : k < vs.length := by omega
    have h9 : (cur.toList.take (L.length * 1))[k]? = some (vs[k]'hk2) := by rw [e7]; exact List.getElem?_eq_getElem hk2
    rw [List.getElem?_take] at h9
    simp [hk] at h9
    simp [h9, e]
theorem OwnBB.kept {w w' : World} {B : Nat} {v : Value} {L : List (List Bool)} {row : Option Nat} (h : OwnBB w B v L) (hg : w.grownBy w' row) (hr : ∀ k, row = some k → k < B) : OwnBB w' B v L := by
  obtain ⟨vs, h1, h2, h3, h4⟩ := h
  have ne : ∀ (u : Value) (n : Nat) (xs : List Value) (e : TypeId) (s : Nat), w.ownsRow B e s u n xs → u.ownBlock = none ∨ u.ownBlock ≠ row := fun u n xs e s ho => by
    cases eu : u.ownBlock with
    | none => exact .inl rfl
    | some k =>
      right
      have := (World.ownsRow.lt ho k eu).1
      intro e2
      have := hr k e2.symm
      omega
  exact ⟨vs, World.ownsRow.kept h1 hg (ne _ _ _ _ _ h1), fun i hi hi' => World.ownsRow.kept (h2 i hi hi') hg (ne _ _ _ _ _ (h2 i hi hi')), h3, h4⟩
theorem OwnBB.below {w w1 : World} {B : Nat} {v : Value} {L : List (List Bool)} (h : OwnBB w B v L) (hb : Below w.heap.size w w1) : OwnBB w1 B v L := by
  obtain ⟨vs, h1, h2, h3, h4⟩ := h
  refine ⟨vs, ?_, fun i hi hi' => (h2 i hi hi').below hb, h3, h4⟩
  exact World.ownsRow.kept (row := none) h1 ⟨hb.os, hb.tape, hb.output, hb.size, fun k hk _ => hb.block k hk⟩ (by cases h : v.ownBlock with | none => exact .inl rfl | some k => exact .inr (by simp))
theorem OwnBB.weaken {w : World} {B B' : Nat} {v : Value} {L : List (List Bool)} (h : OwnBB w B v L) (hB : B' ≤ B) : OwnBB w B' v L := by
  obtain ⟨vs, ⟨a1, a2⟩, h2, h3, h4⟩ := h
  refine ⟨vs, ⟨a1, ?_⟩, fun i hi hi' => (h2 i hi hi').weaken hB, h3, h4⟩
  rcases a2 with a2 | ⟨g, cap, cur, e1, e2, e3⟩
  · exact .inl a2
  · exact .inr ⟨g, cap, cur, e1, Nat.le_trans hB e2, e3⟩
theorem OwnBB.empty {w : World} {B g : Nat} (hg : w.heap.size = g) (hB : B ≤ w.heap.size) : OwnBB (w.alloc (.cells #[] 91)) B (.slice (some ⟨g, 0, none⟩) 0 0) [] := by
  subst hg
  exact ⟨[], World.ownsRow_lit (base := B) (e := 91) (size := 1) w #[] 0 hB (by simp [maxLen]) (by simp), fun i h => by simp at h, fun i j h => by simp at h, fun i h => by simp at h⟩
theorem OwnBB.lt {w : World} {B : Nat} {v : Value} {L : List (List Bool)} (h : OwnBB w B v L) : ∀ k, v.ownBlock = some k → B ≤ k ∧ k < w.heap.size := by
  obtain ⟨vs, h1, _⟩ := h
  exact fun k hk => World.ownsRow.lt h1 k hk
theorem app_rowB {o : Oper} {a : Act} {W0 W : World} {K : Act → World → Prop} {Q : Exit → Act → World → Prop} (s x : Operand)
    (ho : o.op = .call { callee := .builtin .append, args := #[s, x], argTypes := #[112, 112] }) (B : Nat) (v : Value) (L : List (List Bool)) (u : Value) (xs : List Bool) (hs : a.eval s = v) (hown : OwnBB W0 B v L)
    (hW : Below W0.heap.size W0 W) (hu : OwnB W W0.heap.size u xs)
    (b off : Nat) (hx : a.eval x = .slice (some ⟨b, off, none⟩) 1 1) (hc : W.cell? ⟨b, off, none⟩ = some u) (hl : L.length ≤ 1000000000000) (hB : B ≤ W0.heap.size)
    (h : ∀ v' w', OwnBB w' B v' (L ++ [xs]) → W.grownBy w' v.ownBlock → (∀ k, v.ownBlock = some k → B ≤ k) → K (a.put o.dst v') w') : o.wp Tryz.prog a W K Q := by
  obtain ⟨vs, g1, g2, h3, h4⟩ := hown
  have h1 : W.ownsRow B 91 1 v L.length vs := World.ownsRow.kept (row := none) g1 ⟨hW.os, hW.tape, hW.output, hW.size, fun k hk _ => hW.block k hk⟩ (by cases h : v.ownBlock with | none => exact .inl rfl | some k => exact .inr (by simp))
  have h2 : ∀ i (h : i < vs.length) (h' : i < L.length), OwnB W B vs[i] L[i] := fun i h h' => (g2 i h h').below hW
  have hvl : vs.length = L.length := by have := h1.1; omega
  refine app_gen s x 112 91 (.slice none 0 0) 1 24 ho Tryz.underlying112 infoSlB rfl (by decide) B v L.length vs hs h1 ⟨b, off, none⟩ 1 1 [u] hx rfl ?_ ?_ ?_ ?_ (Nat.le_trans hB hW.size) ?_
  · intro j z hj
    cases j with
    | zero => simp at hj; subst hj; simpa [Addr.add] using hc
    | succ j => simp at hj
  · intro z hz
    simp at hz; subst hz
    obtain ⟨A, cx, rfl⟩ := hu.shape
    rfl
  · simp [maxLen]; omega
  · omega
  · intro v' w' k1 k2 k3
    have hvb := World.ownsRow.lt h1
    have hub := World.ownsRow.lt hu
    have hvb0 : ∀ k, v.ownBlock = some k → k < W0.heap.size := fun k hk => (World.ownsRow.lt g1 k hk).2
    have huv : Apart u v := by
      cases eu : u.ownBlock with
      | none => exact .inl eu
      | some k =>
        right; rw [eu]; intro e
        have := (hub k eu).1
        have := hvb0 k e.symm
        omega
    refine h v' w' ⟨vs ++ [u], by rw [List.length_append]; exact k1, fun i hi hi' => ?_, fun i j hi hj hij => ?_, fun i hi => ?_⟩ k2 (fun k hk => (hvb k hk).1)
    · by_cases e : i < vs.length
      · have e' : i < L.length := by omega
        rw [List.getElem_append_left e, List.getElem_append_left e']
        exact (h2 i e e').grown k2 (h4 i e)
      · have ei : i = vs.length := by simp at hi; omega
        subst ei
        rw [List.getElem_append_right (Nat.le_refl _), List.getElem_append_right (by omega)]
        simp only [Nat.sub_self, List.getElem_cons_zero, hvl]
        exact (hu.weaken hB).grown k2 huv
    · have far : ∀ q (hq : q < vs.length), Apart vs[q] u := fun q hq => (ownB_apart (g2 q hq (by omega)) hu).1
      by_cases e : i < vs.length
      · by_cases e2 : j < vs.length
        · rw [List.getElem_append_left e, List.getElem_append_left e2]; exact h3 i j e e2 hij
        · rw [List.getElem_append_left e, List.getElem_append_right (by omega)]
          simp only [show j - vs.length = 0 by simp at hj; omega, List.getElem_cons_zero]
          exact far i e
      · have e2 : j < vs.length := by simp at hi hj; omega
        rw [List.getElem_append_left e2, List.getElem_append_right (by omega)]
        simp only [show i - vs.length = 0 by simp at hi; omega, List.getElem_cons_zero]
        exact (far j e2).symm
    · by_cases e : i < vs.length
      · rw [List.getElem_append_left e]
        exact ((h4 i e).symm.app (fun k hk => ((h2 i e (by omega)).lt k hk).2) k3).symm
      · rw [List.getElem_append_right (by omega)]
        simp only [show i - vs.length = 0 by simp at hi; omega, List.getElem_cons_zero]
        exact (huv.symm.app (fun k hk => (hu.lt k hk).2) k3).symm
theorem wpl_app_rowB {ops : Array Oper} {rest : List Oper} {o : Oper} {a : Act} {W0 W : World} {Q : Exit → Act → World → Prop} (hgd : o.guard = none) (s x : Operand)
    (ho : o.op = .call { callee := .builtin .append, args := #[s, x], argTypes := #[112, 112] }) (B : Nat) (v : Value) (L : List (List Bool)) (u : Value) (xs : List Bool) (hs : a.eval s = v) (hown : OwnBB W0 B v L)
    (hW : Below W0.heap.size W0 W) (hu : OwnB W W0.heap.size u xs)
    (b off : Nat) (hx : a.eval x = .slice (some ⟨b, off, none⟩) 1 1) (hc : W.cell? ⟨b, off, none⟩ = some u) (hl : L.length ≤ 1000000000000) (hB : B ≤ W0.heap.size)
    (h : ∀ v' w', OwnBB w' B v' (L ++ [xs]) → W.grownBy w' v.ownBlock → (∀ k, v.ownBlock = some k → B ≤ k) → wpList Tryz.prog ops Q rest (a.put o.dst v') w') : wpList Tryz.prog ops Q (o :: rest) a W :=
  wpList_plain hgd fun _ hK => app_rowB s x ho B v L u xs hs hown hW hu b off hx hc hl hB fun v' w' h1 h2 h3 => hK _ _ (h v' w' h1 h2 h3)

end Go.Proofs.YtnoehaphbpkpjaaGreat
