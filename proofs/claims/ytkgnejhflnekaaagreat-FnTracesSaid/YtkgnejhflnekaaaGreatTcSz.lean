/- Contracts and lemmas for the statements of this seat, written for this claim; each theorem states its own conditions. -/
import Derived.Test.YtkgnejhflnekaaaGreatTcSx
set_option linter.unusedVariables false
set_option linter.unusedSimpArgs false
namespace Go.Proofs.YtkgnejhflnekaaaGreat
open Go.RowKit
attribute [local go_sem] addUpon_value addUpon_skip addUpon_enter
set_option maxRecDepth 100000 in
set_option maxHeartbeats 1000000 in
theorem isWord1_c (x c : Int) (b1 : Nat) (w : World) (h1 : 1 ≤ c) (h6 : c ≤ 6) (f0 : w.cell? ⟨b1, 0, none⟩ = some (.int .i64 c)) :
    Calls Tryz.prog 159 #[.int .i64 x, .pointer (some ⟨b1, 0, none⟩)] w fun e w' => e = .returned (.bool (!inR 0 (c - 1) x)) ∧ Below w.heap.size w w' := by
  have HR := Lib.hid (fun w => within_c x 0 (c - 1) w)
  have qc : IntKind.i64.wrap (c - 1) = c - 1 := IntWalk.i64_in _ (by omega)
  go_enter Tryz.func159, Tryz.ntmps159
  go_wp2_with fail
  refine (HR.out _).mono ?_
  rintro e w1 ⟨rfl, rfl⟩
  go_wp2
  go_ret
  exact ⟨rfl, Below.refl _ _⟩
set_option maxRecDepth 100000 in
set_option maxHeartbeats 1000000 in
theorem isWord_c (c : Int) (n cx : Nat) (A : Option Addr) (word : List Int) (X : Option Addr) (kx : Nat) (w : World) (h1 : 1 ≤ c) (h6 : c ≤ 6) (hX : Cells w X (ints word)) (hl : word.length ≤ 1000000000) :
    Calls Tryz.prog 74 #[.agg #[.int .i64 c, .slice A n cx], .slice X word.length kx] w fun e w' => e = .returned (.bool (wordOk c word)) ∧ Below w.heap.size w w' := by
  have HR := Lib.hid (fun w => within_c word.length 1 20 w)
  have hin : inR 1 20 (word.length : Int) = decide (1 ≤ word.length ∧ word.length ≤ 20) := by unfold inR; congr 1; apply propext; constructor <;> intro h <;> omega
  have hwo : wordOk c word = (inR 1 20 (word.length : Int) && wordB c word) := by rw [hin]; rfl
  have hany : word.any (fun x => !inR 0 (c - 1) x) = !wordB c word := by unfold wordB; rw [List.not_all_eq_any_not]
  have HC := Lib.hid (fun (wq : World) (hwq : Below w.heap.size w wq) (b1 : Nat) h0 => containsFuncI_c word X kx 159 #[.pointer (some ⟨b1, 0, none⟩)] (fun x => !inR 0 (c - 1) x) wq (fun _ _ => rfl) (hX.below hwq) hl
    (fun x _ w1 hb => isWord1_c x c b1 w1 h1 h6 (keepC h0 _ hb)))
  rw [hwo]
  rw [hany] at HC
  clear hX hwo hin hany
  generalize inR 1 20 (word.length : Int) = r at *
  generalize wordB c word = s at *
  cases r
  · go_enter Tryz.func74, Tryz.ntmps74
    go_wp2_with fail
    refine (HR.out _).mono ?_
    rintro e w1 ⟨rfl, rfl⟩
    go_wp2
    go_ret
    exact ⟨rfl, by (repeat (first | (with_reducible exact Below.refl _ _) | (with_reducible assumption) | (with_reducible refine below_al ?_) | (with_reducible refine below_dr ?_) | (with_reducible refine below_drN ?_) | (with_reducible refine below_set ?_ (by first | exact Nat.le_refl _ | (dsimp only; omega) | omega)) | (with_reducible refine below_tr (by with_reducible assumption) ?_)))⟩
  · go_enter Tryz.func74, Tryz.ntmps74
    go_wp2_with fail
    refine (HR.out _).mono ?_
    rintro e w1 ⟨rfl, rfl⟩
    go_wp2_with fail
    refine (HC.out _ (by (repeat (first | (with_reducible exact Below.refl _ _) | (with_reducible assumption) | (with_reducible refine below_al ?_) | (with_reducible refine below_dr ?_) | (with_reducible refine below_drN ?_) | (with_reducible refine below_set ?_ (by first | exact Nat.le_refl _ | (dsimp only; omega) | omega)) | (with_reducible refine below_tr (by with_reducible assumption) ?_)))) _ ?_).mono ?_
    · (repeat (first | (exact cell_al _ _ _ _ _ _ (by simp) rfl) | (refine cell_alloc_old _ _ _ _ _ ?_)))
    rintro e w2 ⟨rfl, hb2⟩
    have Hw2 : Hid (Below w.heap.size w w2) := by (show Below _ _ _); (repeat (first | (with_reducible exact Below.refl _ _) | (with_reducible assumption) | (with_reducible refine below_al ?_) | (with_reducible refine below_dr ?_) | (with_reducible refine below_drN ?_) | (with_reducible refine below_set ?_ (by first | exact Nat.le_refl _ | (dsimp only; omega) | omega)) | (with_reducible refine below_tr (by with_reducible assumption) ?_)))
    clear hb2
    go_wp2
    go_ret
    exact ⟨by cases s <;> rfl, Hw2.out⟩
set_option maxRecDepth 100000 in
set_option maxHeartbeats 1000000 in
theorem isTraceF_c (c : Int) (n cx : Nat) (A : Option Addr) (word : List Int) (X : Option Addr) (kx b1 b2 : Nat) (w : World) (h1 : 1 ≤ c) (h6 : c ≤ 6) (hX : Cells w X (ints word)) (hl : word.length ≤ 1000000000)
    (f0 : w.cell? ⟨b1, 0, none⟩ = some (.int .i64 c)) (f1 : w.cell? ⟨b1, 1, none⟩ = some (.slice A n cx)) (f2 : w.cell? ⟨b2, 0, none⟩ = some (.slice X word.length kx)) :
    Calls Tryz.prog 73 #[.pointer (some ⟨b1, 0, none⟩), .pointer (some ⟨b2, 0, none⟩)] w fun e w' => e = .returned (.bool (wordOk c word)) ∧ Below w.heap.size w w' := by
  have HR := Lib.hid (isWord_c c n cx A word X kx w h1 h6 hX hl)
  clear hX
  go_enter Tryz.func73, Tryz.ntmps73
  go_wp2_with fail
  refine HR.out.mono ?_
  rintro e w1 ⟨rfl, hb⟩
  go_wp2
  go_ret
  exact ⟨rfl, hb⟩
theorem tstep_put (x : Int) (now nx : List Bool) (k : Col) (he : k.e.toNat < nx.length) (hx : x = k.n) : nx.set k.e.toNat (nx[k.e.toNat] || now.getD k.w.toNat false) = tstep (some x) now nx k := by
  unfold tstep
  simp only [Option.all_some, hx, beq_self_eq_true, Bool.true_and]
  cases now.getD k.w.toNat false
  · simp
  · simp
theorem tstep_skip (x : Int) (now nx : List Bool) (k : Col) (hx : ¬ x = k.n) : tstep (some x) now nx k = nx := by
  unfold tstep; simp [hx]
set_option maxRecDepth 100000 in
set_option maxHeartbeats 1000000 in
theorem stripTrace_c (g : Nat) (c : Int) (A : Option Addr) (n cx : Nat) (h : Int) (S : Nat) (cols : List Col) (word : List Int) (X : Option Addr) (kx : Nat) (w : World) (hS1 : 1 ≤ S) (hS2 : S ≤ 100000) (hC : Codes S cols) (hcl : cols.length ≤ 1000000) (hwl : word.length ≤ 10000000)
    (hR : StripR w g c A n cx h S cols) (hX : Cells w X (ints word)) :
    Calls Tryz.prog 75 #[.pointer (some ⟨g, 0, none⟩), .slice X word.length kx] w fun e w' => e = .returned (.bool (traceB S cols word)) ∧ Below w.heap.size w w' := by
  obtain ⟨C, cc, hB, hCo⟩ := hR
  have HB := Lib.hid hB
  have HCo := Lib.hid hCo
  have HX := Lib.hid hX
  have HC := Lib.hid hC
  have HRep := Lib.hid (fun (g0 : Nat) (wq : World) hc => repeatB_c S g0 wq hS1 (by omega) hc)
  have HT := Lib.hid (show traceB S cols word = (trun S cols (List.replicate S true) word).contains true from rfl)
  have c2 := hB.cell 3 (by simp)
  have c3 := hB.cell 4 (by simp)
  simp only [List.getElem_cons_zero, List.getElem_cons_succ] at c2 c3
  have C2 := Lib.hid (keepC c2)
  have C3 := Lib.hid (keepC c3)
  have hg := hB.lt
  clear hB hCo hX hC c3
  go_enter Tryz.func75, Tryz.ntmps75
  go_wp2_with fail
  refine (HRep.out _ _ ?_).mono ?_
  · (repeat (first | (exact cell_al _ _ _ _ _ _ (by simp) rfl) | (refine cell_alloc_old _ _ _ _ _ ?_)))
  rintro e w1 ⟨v, rfl, hO, hb1⟩
  have Hw1 : Hid (Below w.heap.size w w1) := by (show Below _ _ _); (repeat (first | (with_reducible exact Below.refl _ _) | (with_reducible assumption) | (with_reducible refine below_al ?_) | (with_reducible refine below_dr ?_) | (with_reducible refine below_drN ?_) | (with_reducible refine below_set ?_ (by first | exact Nat.le_refl _ | (dsimp only; omega) | omega)) | (with_reducible refine below_tr (by with_reducible assumption) ?_)))
  have HO := Lib.hid (hO.weaken (B' := w.heap.size) (le_al (Nat.le_refl _)))
  clear hO hb1 c2
  go_wp2_with fail
  go_loopw [5, 19] (fun v iv wr => ∃ j : Nat, j ≤ word.length ∧ iv = .int .i64 j ∧ Hid (OwnB wr w.heap.size v (trun S cols (List.replicate S true) (word.take j))) ∧ Hid (Below w.heap.size w wr)) (fun _ i _ => word.length - (intOf i).toNat)
  case atStart => exact ⟨0, by omega, rfl, Lib.hid (by simpa [trun] using HO.out), Hw1⟩
  case round =>
    obtain ⟨j, hj, rfl, HOj, HBj⟩ := hrel
    obtain ⟨wj, rfl⟩ : ∃ wj, wj = wr := ⟨wr, rfl⟩
    have hlen := trun_len S cols (List.replicate S true) (word.take j) (by simp)
    obtain ⟨An, kn, rfl⟩ := HOj.out.shape
    by_cases hjl : j < word.length
    · obtain ⟨b, off, rfl, hlt, x0⟩ := (HX.out.below HBj.out).int j hjl
      have HTk := Lib.hid (trun_take S cols (List.replicate S true) word j hjl)
      generalize trun S cols (List.replicate S true) (word.take j) = now at *
      generalize word[j] = x at *
      have c2 := C2.out _ HBj.out
      have c3 := C3.out _ HBj.out
      have hgj : g < wj.heap.size := Nat.lt_of_lt_of_le hg HBj.out.size
      have hm := fun w => make_b S (by omega) w
      have HRd := Lib.hid HOj.out.read
      have HLn := Lib.hid hlen
      rw [hlen] at HOj
      rw [hlen]
      clear hlen
      go_wp2_with fail
      clear hm c2 c3
      go_loopw [33] (fun iv wr => ∃ k : Nat, k ≤ cols.length ∧ iv = .int .i64 k ∧ Hid (OwnB wr wj.heap.size (.slice (some ⟨wj.heap.size, 0, none⟩) S S) (tgo S (cols.take k) (some x) now)) ∧ Hid (Below wj.heap.size wj wr)) (fun i _ => cols.length - (intOf i).toNat)
      case atStart => exact ⟨0, by omega, rfl, Lib.hid (OwnB.made wj _ S (Nat.le_refl _) (by omega)), Lib.hid (by (repeat (first | (with_reducible exact Below.refl _ _) | (with_reducible assumption) | (with_reducible refine below_al ?_) | (with_reducible refine below_dr ?_) | (with_reducible refine below_drN ?_) | (with_reducible refine below_set ?_ (by first | exact Nat.le_refl _ | (dsimp only; omega) | omega)) | (with_reducible refine below_tr (by with_reducible assumption) ?_))))⟩
      case round =>
        obtain ⟨k, hk, rfl, HOk, HBk⟩ := hrel
        obtain ⟨wk, rfl⟩ : ∃ wk, wk = wr := ⟨wr, rfl⟩
        by_cases hkl : k < cols.length
        · obtain ⟨b2, off2, rfl, hlt2, y0, y1, y2⟩ := (HCo.out.below (HBj.out.trans (HBk.out.mono HBj.out.size))) k hkl
          obtain ⟨⟨w0, w1'⟩, e0, e1⟩ := HC.out _ (List.getElem_mem hkl)
          have HTg := Lib.hid (tgo_take S cols (some x) now k hkl)
          have hnl := tgo_len S (cols.take k) (some x) now
          generalize tgo S (cols.take k) (some x) now = nx at *
          generalize cols[k] = col at *
          by_cases hx : x = col.n
          · have q1 : (col.n == x) = true := by simp [hx]
            have hz1 : col.w.toNat < now.length := by have := HLn.out; omega
            have hz2 : col.e.toNat < nx.length := by omega
            have HE := Lib.hid (HTg.out.trans (tstep_put x now nx col hz2 hx).symm)
            rw [show now.getD col.w.toNat false = now[col.w.toNat] by simp [hz1]] at HE
            replace hx := Lib.hid hx
            obtain ⟨wi, hwi⟩ := Int.eq_ofNat_of_zero_le w0
            obtain ⟨ei, hei⟩ := Int.eq_ofNat_of_zero_le e0
            obtain ⟨b3, off3, rfl, hlt3, n0⟩ := HRd.out _ hz1
            obtain ⟨g4, hg4, _, _, n1, n2⟩ := HOk.out.at_ _ hz2
            injection hg4 with hg4; injection hg4 with hg4 _; subst hg4
            simp only [hwi, hei, Int.toNat_natCast] at n0 n1 n2 hz1 hz2 HE
            rw [hwi] at y0
            rw [hei] at y1
            have hlw : wi < S := by omega
            have hle : ei < S := by omega
            obtain ⟨wt, hwt⟩ : ∃ wt, wt = wk.alloc (.cells #[.int .i64 wi, .int .i64 ei, .int .i64 col.n] 156) := ⟨_, rfl⟩
            have HBt := Lib.hid (show Below wk.heap.size wk wt by rw [hwt]; (repeat (first | (with_reducible exact Below.refl _ _) | (with_reducible assumption) | (with_reducible refine below_al ?_) | (with_reducible refine below_dr ?_) | (with_reducible refine below_drN ?_) | (with_reducible refine below_set ?_ (by first | exact Nat.le_refl _ | (dsimp only; omega) | omega)) | (with_reducible refine below_tr (by with_reducible assumption) ?_))))
            have HOt := Lib.hid (HOk.out.below HBt.out)
            have N0 := keepC (keepC ((HBk.out.cell (p := ⟨b3, off3 + wi, none⟩) hlt3).trans n0) _ HBt.out)
            have N1 := keepC (keepC n1 _ HBt.out)
            have F1 := fun wz (hz : Below wt.heap.size wt wz) => (hz.frozen (p := ⟨wj.heap.size, ei, none⟩) (Nat.lt_of_lt_of_le (HOk.out.lt _ rfl).2 HBt.out.size)).trans ((HBt.out.frozen (p := ⟨wj.heap.size, ei, none⟩) (HOk.out.lt _ rfl).2).trans n2)
            have U0 := keepC (show wt.cell? ⟨wk.heap.size, 0, none⟩ = some (.int .i64 wi) by rw [hwt]; exact cell_alloc_at _ _ _ _ _ rfl)
            have U1 := keepC (show wt.cell? ⟨wk.heap.size, 1, none⟩ = some (.int .i64 ei) by rw [hwt]; exact cell_alloc_at _ _ _ _ _ rfl)
            replace hwt := Lib.hid hwt
            clear n0 n1 n2
            obtain ⟨bn, hbn⟩ : ∃ bn, nx[ei] = bn := ⟨_, rfl⟩
            obtain ⟨bw, hbw⟩ : ∃ bw, now[wi] = bw := ⟨_, rfl⟩
            rw [hbn] at N1 HE
            rw [hbw] at N0 HE
            clear hbn hbw hwi hei hz1 hz2
            cases bn <;> cases bw
            all_goals
              go_wp2_with fail
              rw [← hwt.out]
              refine wp_region_add_tail 16 (fun w' => Below (wt).heap.size (wt) w') (by kernel_rfl) (by kernel_rfl) ((Below.refl _ _).drew) ?_
              simp only [List.take_succ_cons, List.take_zero, List.drop_succ_cons, List.drop_zero]
              repeat (first
                | (refine add_skip rfl (fun K' hK' => ?_); go_simp; refine hK' _ ?_; clear hK' K')
                | (refine add_do (v := ?_) rfl (fun w1 hb => ?_) (fun K' hK' => ?_); rotate_left
                   · go_simp
                     first
                     | (with_reducible exact rfl)
                     | (with_reducible exact ⟨rfl, hb⟩)
                     | exact rfl
                     | exact ⟨rfl, hb⟩
                   go_simp; refine hK' _ ?_; clear hK' K'))
              refine add_nil ?_
              intro wa hba
              have f1 := F1 _ hba
              have HOa := Lib.hid ((HOt.out.below hba).set ei)
              have n1a := N1 _ hba
              have HBa := Lib.hid (HBk.out.trans ((HBt.out.trans (hba.mono HBt.out.size)).mono HBk.out.size))
              clear hba N0 N1 F1 U0 U1
              go_wp2_with fail
              go_roundw
              case rel => exact ⟨k + 1, by omega, by go_num, Lib.hid (by rw [HE.out]; exact (HOa.out _).1), Lib.hid (HBa.out.setCell (Nat.le_refl _) _)⟩
              case measure => simp [intOf]; omega
          · have q1 : (col.n == x) = false := by simp [Ne.symm hx]
            have HE := Lib.hid (HTg.out.trans (tstep_skip x now nx col hx))
            replace hx := Lib.hid hx
            go_wp2_with fail
            go_roundw
            case rel => exact ⟨k + 1, by omega, by go_num, Lib.hid (by rw [HE.out]; exact HOk.out.below (below_al (Below.refl _ _))), Lib.hid (by have h3 := HBk.out; (repeat (first | (with_reducible exact Below.refl _ _) | (with_reducible assumption) | (with_reducible refine below_al ?_) | (with_reducible refine below_dr ?_) | (with_reducible refine below_drN ?_) | (with_reducible refine below_set ?_ (by first | exact Nat.le_refl _ | (dsimp only; omega) | omega)) | (with_reducible refine below_tr (by with_reducible assumption) ?_))))⟩
            case measure => simp [intOf]; omega
        · obtain rfl : k = cols.length := by omega
          have HE := Lib.hid (show OwnB wk w.heap.size (.slice (some ⟨wj.heap.size, 0, none⟩) S S) (trun S cols (List.replicate S true) (word.take (j + 1))) from by
            rw [HTk.out]
            have := HOk.out
            rw [List.take_length] at this
            exact this.weaken HBj.out.size)
          go_wp2_with fail
          go_roundw
          case rel => exact ⟨j + 1, by omega, by go_num, HE, Lib.hid (HBj.out.trans (HBk.out.mono HBj.out.size))⟩
          case measure => simp [intOf]; omega
    · obtain rfl : j = word.length := by omega
      rw [List.take_length] at HOj hlen
      generalize hnow : trun S cols (List.replicate S true) word = now at *
      have HRd := Lib.hid (containsB_c now An kn wj HOj.out.read (by omega))
      replace hlen := Lib.hid hlen
      go_wp2_with fail
      refine HRd.out.mono ?_
      rintro e w3 ⟨rfl, rfl⟩
      go_wp2
      go_ret
      exact ⟨ret_bool (by rw [HT.out]; simp), HBj.out⟩
def trV (c : Int) (ts : List T4) (h : Int) (word : List Int) : Bool := if tsCode c ts h (wordOk c word) = 0 then traceB (powC c h.toNat).toNat (lev c ts h.toNat) word else false
set_option maxRecDepth 100000 in
set_option maxHeartbeats 1000000 in
theorem implIsTrace_c (c : Int) (ts : List T4) (A : Option Addr) (cx : Nat) (h : Int) (word : List Int) (X : Option Addr) (kx : Nat) (w : World) (hT : TileCells w A ts) (hl : ts.length ≤ 1000000000) (hX : Cells w X (ints word)) (hw : word.length ≤ 1048576) :
    Calls Tryz.prog 14 #[.agg #[.int .i64 c, .slice A ts.length cx], .int .i64 h, .slice X word.length kx] w fun e w' => e = .returned (.tuple #[.bool (trV c ts h word), .int .i64 (tsCode c ts h (wordOk c word))]) ∧ Below w.heap.size w w' := by
  have HC := Lib.hid (fun (wq : World) (hwq : Below w.heap.size w wq) (b1 b2 : Nat) h0 h1 h2 => traceStrip_c c ts A cx h 73 #[.pointer (some ⟨b1, 0, none⟩), .pointer (some ⟨b2, 0, none⟩)] (wordOk c word) wq (fun _ _ => rfl) (hT.below hwq) hl
    (fun hs w1 hb => isTraceF_c c ts.length cx A word X kx b1 b2 w1 (isSetB_parts hs).2.1.1 (isSetB_parts hs).2.1.2 ((hX.below hwq).below hb) (by omega) (keepC h0 _ hb) (keepC h1 _ hb) (keepC h2 _ hb)))
  have HX := Lib.hid hX
  have hv : trV c ts h word = if tsCode c ts h (wordOk c word) = 0 then traceB (powC c h.toNat).toNat (lev c ts h.toNat) word else false := rfl
  have hz := Lib.hid (tsCode_zero (c := c) (ts := ts) (h := h) (fine := wordOk c word))
  clear hT hX
  generalize hcode : tsCode c ts h (wordOk c word) = code at *
  generalize trV c ts h word = tv at *
  go_enter Tryz.func14, Tryz.ntmps14
  go_wp2_with fail
  refine (HC.out _ (by (repeat (first | (with_reducible exact Below.refl _ _) | (with_reducible assumption) | (with_reducible refine below_al ?_) | (with_reducible refine below_dr ?_) | (with_reducible refine below_drN ?_) | (with_reducible refine below_set ?_ (by first | exact Nat.le_refl _ | (dsimp only; omega) | omega)) | (with_reducible refine below_tr (by with_reducible assumption) ?_)))) _ _ ?_ ?_ ?_).mono ?_
  · (repeat (first | (exact cell_al _ _ _ _ _ _ (by simp) rfl) | (refine cell_alloc_old _ _ _ _ _ ?_)))
  · (repeat (first | (exact cell_al _ _ _ _ _ _ (by simp) rfl) | (refine cell_alloc_old _ _ _ _ _ ?_)))
  · (repeat (first | (exact cell_al _ _ _ _ _ _ (by simp) rfl) | (refine cell_alloc_old _ _ _ _ _ ?_)))
  rintro e w1 ⟨hb1, ⟨hne, rfl⟩ | ⟨h0, g, n, rfl, rfl, hg, hS⟩⟩
  · rw [hcode] at hne ⊢
    rw [if_neg hne] at hv
    subst hv
    have Hw1 : Hid (Below w.heap.size w w1) := by (show Below _ _ _); (repeat (first | (with_reducible exact Below.refl _ _) | (with_reducible assumption) | (with_reducible refine below_al ?_) | (with_reducible refine below_dr ?_) | (with_reducible refine below_drN ?_) | (with_reducible refine below_set ?_ (by first | exact Nat.le_refl _ | (dsimp only; omega) | omega)) | (with_reducible refine below_tr (by with_reducible assumption) ?_)))
    have hcz : (code != 0) = true := by simp [hne]
    clear hb1 hne hcode
    unfold stripEnd
    go_wp2
    go_ret2
    exact ⟨rfl, Hw1.out⟩
  · obtain rfl : code = 0 := by rw [← hcode]; exact h0
    rw [if_pos rfl, Int.toNat_natCast] at hv
    obtain ⟨hs, hf, n1, n3, hp⟩ := hz.out rfl
    rw [Int.toNat_natCast] at hp
    have Hw1 : Hid (Below w.heap.size w w1) := by (show Below _ _ _); (repeat (first | (with_reducible exact Below.refl _ _) | (with_reducible assumption) | (with_reducible refine below_al ?_) | (with_reducible refine below_dr ?_) | (with_reducible refine below_drN ?_) | (with_reducible refine below_set ?_ (by first | exact Nat.le_refl _ | (dsimp only; omega) | omega)) | (with_reducible refine below_tr (by with_reducible assumption) ?_)))
    have d0 : w1.cell? ⟨w.heap.size + 1, 0, none⟩ = some (.slice X word.length kx) := by rw [(bcell hb1).1 _ _ (by simp)]; simp
    have hN : w.heap.size + 1 < w1.heap.size := by have := hb1.size; simp at this; omega
    obtain ⟨_, ⟨c1, c6⟩, h16⟩ := isSetB_parts hs
    have p1 := powC_4 c1 c6 (h := n) (by omega)
    have hll := Nat.le_trans (lev_len c ts n) (pow16 h16 (by omega : n ≤ 3))
    have hcs := lev_Codes hs n
    obtain ⟨S, hS'⟩ := Int.eq_ofNat_of_zero_le (by omega : 0 ≤ powC c n)
    rw [hS'] at hS hcs p1 hp hv
    rw [Int.toNat_natCast] at hcs hv
    have HGo := Lib.hid (stripTrace_c g c A ts.length cx n S (lev c ts n) word X kx w1 (by omega) (by omega) hcs (by omega) (by omega) hS (HX.out.below Hw1.out))
    rw [← hv] at HGo
    clear hb1 hv hcode hS hcs hS' hz h0
    unfold stripEnd
    go_wp2_with fail
    refine HGo.out.mono ?_
    rintro e w2 ⟨rfl, hb2⟩
    have Hw2 := Lib.hid (Hw1.out.trans (hb2.mono Hw1.out.size))
    clear hb2
    go_wp2
    go_ret2
    exact ⟨rfl, Hw2.out⟩

end Go.Proofs.YtkgnejhflnekaaaGreat
