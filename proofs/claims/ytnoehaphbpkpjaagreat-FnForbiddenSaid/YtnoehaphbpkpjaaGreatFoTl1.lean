/- Contracts and lemmas for the statements of this seat, written for this claim; each theorem states its own conditions. -/
import Derived.Test.YtnoehaphbpkpjaaGreatFoTk1
set_option linter.unusedVariables false
set_option linter.unusedSimpArgs false
namespace Go.Proofs.YtnoehaphbpkpjaaGreat
open Go.RowKit
attribute [local go_sem] addUpon_value addUpon_skip addUpon_enter
def ColN (c : Nat) (cols : List Col) : Prop := ∀ k ∈ cols, 0 ≤ k.n ∧ k.n < c
theorem cell_same {w w' : World} {p : Addr} (h : w'.heap[p.block]? = w.heap[p.block]?) : w'.cell? p = w.cell? p := by unfold World.cell?; rw [h]
theorem TrIn.below {w0 : World} {bo be : Nat} {FV vw v0 : Value} {word : List Int} {outs : List (List Int)} {T : Nat → Prop} {w w1 : World} (h : TrIn w0 bo be FV vw v0 word outs T w) (hb : Below w.heap.size w w1) : TrIn w0 bo be FV vw v0 word outs T w1 where
  base := h.base.trans (hb.mono h.base.size)
  bo0 := h.bo0
  bo1 := Nat.lt_of_lt_of_le h.bo1 hb.size
  be0 := h.be0
  be1 := Nat.lt_of_lt_of_le h.be1 hb.size
  ne := h.ne
  out := (hb.cell (p := ⟨bo, 0, none⟩) h.bo1).trans h.out
  outf := (hb.frozen (p := ⟨bo, 0, none⟩) h.bo1).trans h.outf
  ext := (hb.cell (p := ⟨be, 0, none⟩) h.be1).trans h.ext
  outs := h.outs.below hb
  t := fun k hk => ⟨(h.t k hk).1, Nat.lt_of_lt_of_le (h.t k hk).2.1 hb.size, (h.t k hk).2.2⟩
  word := h.word.below hb
  wordn := h.wordn
/-- the word behind which a number was put reads as before, also when the call behind wrote into its block -/
theorem own_back {w w' : World} {B : Nat} {v v' : Value} {xs : List Int} {y : Int} (h1 : OwnI w B v xs) (h2 : OwnI w B v' (xs ++ [y])) (h3 : OwnI w' B v' (xs ++ [y])) (hn : v'.ownBlock ≠ v.ownBlock → ∀ k, v.ownBlock = some k → w'.heap[k]? = w.heap[k]?) : OwnI w' B v xs := by
  by_cases e : v'.ownBlock = v.ownBlock
  · obtain ⟨hlen, hv⟩ := id h1
    rcases hv with hv | ⟨g, cap, cur, rfl, e2, e3, e4, e5, e6, e7⟩
    · exact ⟨hlen, .inl hv⟩
    · obtain ⟨_, q⟩ := h2
      rcases q with ⟨rfl, q⟩ | ⟨g2, cap2, cur2, rfl, q2, q3, q4, q5, q6, q7⟩
      · cases e
      · have eg : g2 = g := by have e : some g2 = some g := e; injection e
        subst eg
        rw [e3] at q3
        injection q3 with q3; injection q3 with q3 _
        subst q3
        have ec : cap2 = cap := by omega
        subst ec
        obtain ⟨_, r⟩ := h3
        rcases r with ⟨r, _⟩ | ⟨g3, cap3, cur3, r1, r2, r3, r4, r5, r6, r7⟩
        · cases r
        · injection r1 with a1 a2 a3
          injection a1 with a1; injection a1 with a1
          subst a1 a3
          refine ⟨hlen, .inr ⟨g2, cap2, cur3, rfl, e2, r3, e4, e5, r6, ?_⟩⟩
          have e1 : cur3.toList.take (xs.length * 1) = (cur3.toList.take ((xs ++ [y]).length * 1)).take xs.length := by rw [List.take_take, Nat.mul_one, Nat.mul_one, Nat.min_eq_left (by simp)]
          rw [e1, r7, show ints (xs ++ [y]) = ints xs ++ [.int .i64 y] by simp [ints], List.take_append_of_le_length (by simp [ints])]
          exact List.take_of_length_le (by simp [ints])
  · exact own_same h1 (hn e)
theorem extsTo_mono (S : Nat) (cols : List Col) (c l : Nat) (now : List Bool) (m : Nat) : ∀ d, (extsTo S cols c l now m).length ≤ (extsTo S cols c l now (m + d)).length
  | 0 => Nat.le_refl _
  | d + 1 => by
    have := extsTo_mono S cols c l now m d
    rw [show m + (d + 1) = (m + d) + 1 by omega, extsTo_succ, List.length_append]
    omega
theorem TrOut.below {w0 : World} {bo : Nat} {vw : Value} {word : List Int} {T : Nat → Prop} {w : World} {L : List (List Int)} {w' w2 : World} (h : TrOut w0 bo vw word T w L w') (hbo : bo < w'.heap.size) (hb : Below w'.heap.size w' w2) : TrOut w0 bo vw word T w L w2 := by
  obtain ⟨v, T', h1, h2, h3, h4, h5⟩ := h
  exact ⟨v, T', (hb.cell (p := ⟨bo, 0, none⟩) hbo).trans h1, (hb.frozen (p := ⟨bo, 0, none⟩) hbo).trans h2, h3.below hb, fun k hk => ⟨(h4 k hk).1, Nat.lt_of_lt_of_le (h4 k hk).2 hb.size⟩, h5.below hb⟩
theorem TrOut.sooner {w0 : World} {bo : Nat} {vw : Value} {word : List Int} {T : Nat → Prop} {w w1 : World} {L : List (List Int)} {w' : World} (h : TrOut w0 bo vw word T w1 L w') (hs : w.heap.size ≤ w1.heap.size) : TrOut w0 bo vw word T w L w' := by
  obtain ⟨v, T', h1, h2, h3, h4, h5⟩ := h
  exact ⟨v, T', h1, h2, h3, fun k hk => ⟨(h4 k hk).1.imp id (Nat.le_trans hs), (h4 k hk).2⟩, h5⟩
theorem nexF_none {S : Nat} {cols : List Col} {now far : List Bool} {x : Nat} (h : nexF S cols now far x = none) : xsome cols x now far = false := by
  unfold nexF at h
  cases e : xsome cols x now far
  · rfl
  · rw [e] at h; simp at h
theorem nexF_some {S : Nat} {cols : List Col} {now far xs : List Bool} {x : Nat} (h : nexF S cols now far x = some xs) : xsome cols x now far = true ∧ xs = xgo S cols x now far := by
  unfold nexF at h
  cases e : xsome cols x now far
  · rw [e] at h; simp at h
  · rw [e] at h; simp at h; exact ⟨rfl, h.symm⟩
set_option maxRecDepth 100000 in
set_option maxHeartbeats 1000000 in
theorem trStep (w0 : World) (g : Nat) (A : Option Addr) (tn cx : Nat) (h : Int) (AF : Option Addr) (kF : Nat) (cols : List Col) (S c n most bn bo bm bs bc be l : Nat) (hn1 : 1 ≤ n) (hn : n ≤ 100) (hm : most ≤ 1000000) (hS1 : 1 ≤ S) (hS2 : S ≤ 100000) (hc : c ≤ 6) (hC : Codes S cols) (hCn : ColN c cols) (hcl : cols.length ≤ 1000000)
    (hE : TrEnv w0 g c S n most A tn cx h cols AF kF bn bm bs bc) (hbn : bn < w0.heap.size) (hbm : bm < w0.heap.size) (hbs : bs < w0.heap.size) (hbc : bc < w0.heap.size)
    (ih : TrSpec w0 cols S c n most bn bo bm bs bc be (.func (.func 104) #[] #[.pointer (some ⟨bn, 0, none⟩), .pointer (some ⟨bo, 0, none⟩), .pointer (some ⟨bm, 0, none⟩), .pointer (some ⟨bs, 0, none⟩), .pointer (some ⟨bc, 0, none⟩), .pointer (some ⟨be, 0, none⟩)]) l) :
    TrSpec w0 cols S c n most bn bo bm bs bc be (.func (.func 104) #[] #[.pointer (some ⟨bn, 0, none⟩), .pointer (some ⟨bo, 0, none⟩), .pointer (some ⟨bm, 0, none⟩), .pointer (some ⟨bs, 0, none⟩), .pointer (some ⟨bc, 0, none⟩), .pointer (some ⟨be, 0, none⟩)]) (l + 1) := by
  intro word vw next An kn outs v0 T w hlen hnow hI hN hlt
  generalize hFV : Value.func (.func 104) #[] #[.pointer (some ⟨bn, 0, none⟩), .pointer (some ⟨bo, 0, none⟩), .pointer (some ⟨bm, 0, none⟩), .pointer (some ⟨bs, 0, none⟩), .pointer (some ⟨bc, 0, none⟩), .pointer (some ⟨be, 0, none⟩)] = FV at *
  have IH := Lib.hid ih
  have HFV := Lib.hid hFV
  clear ih hFV
  obtain ⟨Aw, kw, rfl, _⟩ := hI.word.shape
  obtain ⟨CA, cc, hB, hCo⟩ := hE.strip
  obtain ⟨bf, offf, Af, kf, rfl, hlf, cf, rf⟩ := hE.far l (by rw [farL_len]; omega)
  have cf : w0.cell? ⟨bf, offf + l, none⟩ = some (.slice Af S kf) := by rw [cf, farL_get, farAt_len]
  rw [farL_get] at rf
  have hfl := farAt_len S cols l
  have HX : Hid (exts S cols c (l + 1) next = extsTo S cols c l next c) := rfl
  have c0 := hB.cell 0 (by simp)
  have c3 := hB.cell 3 (by simp)
  have c4 := hB.cell 4 (by simp)
  simp only [List.getElem_cons_zero, List.getElem_cons_succ] at c0 c3 c4
  have hg := hB.lt
  have C0 := keepC (keepC c0 _ hI.base)
  have C3 := keepC (keepC c3 _ hI.base)
  have C4 := keepC (keepC c4 _ hI.base)
  have D0 := keepC (keepC hE.en _ hI.base)
  have D1 := keepC (keepC hE.est _ hI.base)
  have D2 := keepC (keepC hE.ecan _ hI.base)
  have CFl := keepC (keepC cf _ hI.base)
  have hlf' : bf < w.heap.size := Nat.lt_of_lt_of_le hlf hI.base.size
  have hg' : g < w.heap.size := Nat.lt_of_lt_of_le hg hI.base.size
  have hbn' : bn < w.heap.size := Nat.lt_of_lt_of_le hbn hI.base.size
  have hbs' : bs < w.heap.size := Nat.lt_of_lt_of_le hbs hI.base.size
  have hbc' : bc < w.heap.size := Nat.lt_of_lt_of_le hbc hI.base.size
  have HCo := Lib.hid (hCo.below hI.base)
  have HRf := Lib.hid (rf.below hI.base)
  have HFl := Lib.hid hfl
  have HI := Lib.hid hI
  have HN := Lib.hid hN
  have HCd := Lib.hid hC
  have HCn := Lib.hid hCn
  have HNw := Lib.hid hnow
  generalize hfar : farAt S cols l = far at *
  have hd : ((n : Int) - word.length) = ((l + 1 : Nat) : Int) := by omega
  have d0 := D0 w (Below.refl _ _)
  have d1 := D1 w (Below.refl _ _)
  have e0 := C0 w (Below.refl _ _)
  have e4 := C4 w (Below.refl _ _)
  have hmk := fun w => make_bb c (by omega) w
  clear hI hN hE hB hCo c0 c3 c4 cf rf hfl hC hCn hbn hbm hbs hbc hlf hg
  go_enter Tryz.func104, Tryz.ntmps104
  go_wp2_with fail
  rw [show ((l : Int) + 1 == 0) = false by simp; omega]
  clear hd hmk d0 d1 e0 e4
  have hd1 : IntKind.i64.wrap (l : Int) = l := IntWalk.i64_in _ (by omega)
  have hln : (l : Int) < (n : Int) + 1 := by omega
  go_loopw [43] (fun iv wr => ∃ k : Nat, k ≤ cols.length ∧ iv = .int .i64 k ∧ Hid (NexS wr w.heap.size w.heap.size S c (nexF S (cols.take k) next far)) ∧ Hid (Below w.heap.size w wr)) (fun i _ => cols.length - (intOf i).toNat)
  case atStart => exact ⟨0, by omega, rfl, Lib.hid (by rw [List.take_zero, nexF_nil]; exact NexS.made w S c (by omega)), Lib.hid (by (repeat (first | (with_reducible exact Below.refl _ _) | (with_reducible assumption) | (with_reducible refine below_al ?_) | (with_reducible refine below_dr ?_) | (with_reducible refine below_drN ?_) | (with_reducible refine below_set ?_ (by first | exact Nat.le_refl _ | (dsimp only; omega) | omega)) | (with_reducible refine below_tr (by with_reducible assumption) ?_))))⟩
  case round =>
    obtain ⟨k, hk, rfl, HOk, HBk⟩ := hrel
    obtain ⟨wk, rfl⟩ : ∃ wk, wk = wr := ⟨wr, rfl⟩
    by_cases hkl : k < cols.length
    · obtain ⟨b, off, rfl, hlt2, y0, y1, y2⟩ := (HCo.out.below HBk.out) k hkl
      obtain ⟨⟨w0', w1'⟩, e0, e1⟩ := HCd.out _ (List.getElem_mem hkl)
      obtain ⟨p0, p1⟩ := HCn.out _ (List.getElem_mem hkl)
      have HSk := Lib.hid (nexF_skip (S := S) (now := next) (far := far) hkl)
      have HUs := Lib.hid (fun nn hnn => nexF_use (S := S) (now := next) (far := far) hkl (n := nn) hnn)
      generalize hF : nexF S (cols.take k) next far = F at *
      generalize cols[k] = col at *
      have hz1 : col.w.toNat < next.length := by omega
      have hz3 : col.e.toNat < far.length := by have := HFl.out; omega
      rw [show next.getD col.w.toNat false = next[col.w.toNat] by simp [hz1], show far.getD col.e.toNat false = far[col.e.toNat] by simp [hz3]] at HSk HUs
      obtain ⟨wi, hwi⟩ := Int.eq_ofNat_of_zero_le w0'
      obtain ⟨ei, hei⟩ := Int.eq_ofNat_of_zero_le e0
      obtain ⟨xi, hxi⟩ := Int.eq_ofNat_of_zero_le p0
      obtain ⟨b3, off3, rfl, hlt3, hne3, m0⟩ := HN.out _ hz1
      obtain ⟨b4, off4, rfl, hlt4, f0⟩ := HRf.out _ hz3
      replace HUs := Lib.hid (HUs.out xi hxi)
      simp only [hwi, hei, Int.toNat_natCast] at m0 f0 hz1 hz3 HSk HUs
      rw [hwi] at y0
      rw [hei] at y1
      rw [hxi] at y2
      have hlw : wi < S := by omega
      have hle : ei < S := by omega
      have hlx : xi < c := by omega
      have hgk : w.heap.size < wk.heap.size := (HOk.out.at_ hlx).2.1
      obtain ⟨wt, hwt⟩ : ∃ wt, wt = wk.alloc (.cells #[.int .i64 wi, .int .i64 ei, .int .i64 xi] 104) := ⟨_, rfl⟩
      have HBt := Lib.hid (show Below wk.heap.size wk wt by rw [hwt]; (repeat (first | (with_reducible exact Below.refl _ _) | (with_reducible assumption) | (with_reducible refine below_al ?_) | (with_reducible refine below_dr ?_) | (with_reducible refine below_drN ?_) | (with_reducible refine below_set ?_ (by first | exact Nat.le_refl _ | (dsimp only; omega) | omega)) | (with_reducible refine below_tr (by with_reducible assumption) ?_))))
      have HBw := Lib.hid (HBk.out.trans (HBt.out.mono HBk.out.size))
      have HOt := Lib.hid (HOk.out.below HBt.out)
      have N0 := keepC (keepC m0 _ HBw.out)
      have F0 := keepC (keepC f0 _ HBw.out)
      have F1 := keepC (CFl _ HBw.out)
      have F2 := keepC (D2 _ HBw.out)
      have U0 := keepC (show wt.cell? ⟨wk.heap.size, 0, none⟩ = some (.int .i64 wi) by rw [hwt]; exact cell_alloc_at _ _ _ _ _ rfl)
      have U1 := keepC (show wt.cell? ⟨wk.heap.size, 1, none⟩ = some (.int .i64 ei) by rw [hwt]; exact cell_alloc_at _ _ _ _ _ rfl)
      have U2 := keepC (show wt.cell? ⟨wk.heap.size, 2, none⟩ = some (.int .i64 xi) by rw [hwt]; exact cell_alloc_at _ _ _ _ _ rfl)
      replace hwt := Lib.hid hwt
      generalize next[wi]'_ = bw at *
      generalize far[ei]'_ = bz at *
      clear m0 f0 hwi hei hxi hz1 hz3
      cases bw
      · go_wp2_with fail
        rw [← hwt.out]
        refine wp_region_add (fun w' => Below (wt).heap.size (wt) w') (by kernel_rfl) (by kernel_rfl) ((Below.refl _ _).drew) ?_
        repeat (first
          | (refine add_skip rfl (fun K' hK' => ?_); go_simp; refine hK' _ ?_; clear hK' K')
          | (refine add_do (v := ?_) rfl (fun w1 hb => ?_) (fun K' hK' => ?_); rotate_left
             · go_simp
               first
               | (with_reducible exact rfl)
               | (with_reducible exact ⟨rfl, hb⟩)
               | exact rfl
               | exact ⟨rfl, hb⟩
             go_simp; refine hK' _ ?_; clear hK' K'))
        refine add_nil ?_
        intro wa hba
        have HOa := Lib.hid (HOt.out.below hba)
        have HBa := Lib.hid (HBw.out.trans (hba.mono HBw.out.size))
        replace HSk := Lib.hid (HSk.out rfl)
        clear hba N0 F0 F1 F2 U0 U1 U2 HUs
        go_wp2_with fail
        go_roundw
        case rel => exact ⟨k + 1, by omega, by go_num, Lib.hid (by rw [HSk.out]; exact HOa.out), HBa⟩
        case measure => simp [intOf]; omega
      · cases bz
        · go_wp2_with fail
          rw [← hwt.out]
          refine wp_region_add (fun w' => Below (wt).heap.size (wt) w') (by kernel_rfl) (by kernel_rfl) ((Below.refl _ _).drew) ?_
          repeat (first
            | (refine add_skip rfl (fun K' hK' => ?_); go_simp; refine hK' _ ?_; clear hK' K')
            | (refine add_do (v := ?_) rfl (fun w1 hb => ?_) (fun K' hK' => ?_); rotate_left
               · go_simp
                 first
                 | (with_reducible exact rfl)
                 | (with_reducible exact ⟨rfl, hb⟩)
                 | exact rfl
                 | exact ⟨rfl, hb⟩
               go_simp; refine hK' _ ?_; clear hK' K'))
          refine add_nil ?_
          intro wa hba
          have HOa := Lib.hid (HOt.out.below hba)
          have HBa := Lib.hid (HBw.out.trans (hba.mono HBw.out.size))
          replace HSk := Lib.hid (HSk.out rfl)
          clear hba N0 F0 F1 F2 U0 U1 U2 HUs
          go_wp2_with fail
          go_roundw
          case rel => exact ⟨k + 1, by omega, by go_num, Lib.hid (by rw [HSk.out]; exact HOa.out), HBa⟩
          case measure => simp [intOf]; omega
        · go_wp2_with fail
          rw [← hwt.out]
          refine wp_region_add (fun w' => Below (wt).heap.size (wt) w') (by kernel_rfl) (by kernel_rfl) ((Below.refl _ _).drew) ?_
          repeat (first
            | (refine add_skip rfl (fun K' hK' => ?_); go_simp; refine hK' _ ?_; clear hK' K')
            | (refine add_do (v := ?_) rfl (fun w1 hb => ?_) (fun K' hK' => ?_); rotate_left
               · go_simp
                 first
                 | (with_reducible exact rfl)
                 | (with_reducible exact ⟨rfl, hb⟩)
                 | exact rfl
                 | exact ⟨rfl, hb⟩
               go_simp; refine hK' _ ?_; clear hK' K'))
          refine add_nil ?_
          intro wa hba
          have HOa := Lib.hid (HOt.out.below hba)
          have HBa := Lib.hid (HBw.out.trans (hba.mono HBw.out.size))
          replace HUs := Lib.hid (HUs.out rfl)
          have hwk : wk.heap.size < wa.heap.size := by have := hba.size; have := HBt.out.size; rw [hwt.out] at this; simp at this; rw [hwt.out] at *; simp at *; omega
          have u1 := U1 _ hba
          have u2 := U2 _ hba
          have D1a := D1 _ HBa.out
          have C3a := C3 _ HBa.out
          clear hba N0 F0 F1 F2 U0 U1 U2 HSk
          obtain ⟨wb, rfl⟩ : ∃ wb, wb = wa := ⟨wa, rfl⟩
          obtain ⟨ga, gb, gf, hat⟩ := HOa.out.at_ hlx
          rcases hat with ⟨hFn, hcell⟩ | ⟨b5, xs5, hFn, hcell, hO5⟩
          · have hq := fun w => run_eql_slice_nil (P := Tryz.prog) w 91 4 none 0 0 Tryz.underlying91
            simp only [Option.isNone_none] at hq
            have HRes := Lib.hid (show nexF S (cols.take (k + 1)) next far = fun y => if y = xi then some ((List.replicate S false).set ei true) else F y by rw [HUs.out, hFn]; rfl)
            go_wp2_with fail
            have hmk := fun w => make_b S (by omega) w
            have Fu2 := fun w' (hs : Fr (fun q => q = w.heap.size) wb w') => (hs.cell (p := ⟨wk.heap.size, 2, none⟩) hwk (by intro e; have e : wk.heap.size = w.heap.size := e; omega)).trans u2
            have FD1 := fun w' (hs : Fr (fun q => q = w.heap.size) wb w') => (hs.cell (p := ⟨bs, 0, none⟩) (Nat.lt_of_lt_of_le hbs' HBa.out.size) (by intro e; have e : bs = w.heap.size := e; omega)).trans D1a
            have FC3 := fun w' (hs : Fr (fun q => q = w.heap.size) wb w') => (hs.cell (p := ⟨g, 3, none⟩) (Nat.lt_of_lt_of_le hg' HBa.out.size) (by intro e; have e : g = w.heap.size := e; omega)).trans C3a
            refine wp_region_mix [(0, true), (1, true), (2, true), (3, true), (4, true), (5, true), (6, true), (7, false), (8, true), (9, false)] (fun w' => Fr (fun q => q = w.heap.size) wb w') (by kernel_rfl) (by kernel_rfl) (fun _ _ d _ _ h => by cases d <;> exact h) (Fr.below (Below.refl _ wb).drew) ?_
            repeat (first
              | (refine mix_skip rfl rfl (fun K' hK' => ?_); go_simp; refine hK' _ ?_; clear hK' K')
              | (refine mix_do (v := ?_) rfl rfl (fun w1 hb => ?_) (fun K' hK' => ?_); rotate_left
                 · go_simp
                   rfl
                 go_simp; refine hK' _ ?_; clear hK' K'))
            have hx1 : ((wb.drew).alloc (.cells (madeCells #[.bool false] S) 4)).cell? ⟨w.heap.size, xi, none⟩ = some (.slice none 0 0) := ((below_al (Below.refl _ wb).drew).cell (p := ⟨w.heap.size, xi, none⟩) gb).trans hcell
            have hx2 : ((wb.drew).alloc (.cells (madeCells #[.bool false] S) 4)).frozen? ⟨w.heap.size, xi, none⟩ = false := ((below_al (Below.refl _ wb).drew).frozen (p := ⟨w.heap.size, xi, none⟩) gb).trans gf
            refine mix_call rfl rfl (fun K' hK' => ?_)
            go_simp
            refine hK' _ _ (Fr.below (below_al (Below.refl _ wb).drew)) ?_; clear hK' K'
            repeat (first
              | (refine mix_skip rfl rfl (fun K' hK' => ?_); go_simp; refine hK' _ ?_; clear hK' K')
              | (refine mix_do (v := ?_) rfl rfl (fun w1 hb => ?_) (fun K' hK' => ?_); rotate_left
                 · go_simp
                   rfl
                 go_simp; refine hK' _ ?_; clear hK' K'))
            refine mix_call rfl rfl (fun K' hK' => ?_)
            go_simp
            have hFx : Fr (fun q => q = w.heap.size) wb ((wb.setCell ⟨w.heap.size, xi, none⟩ (.slice (some ⟨wb.heap.size, 0, none⟩) S S)).alloc (.cells (madeCells #[.bool false] S) 4)).drew :=
              (Fr.set (P := fun q => q = w.heap.size) (Fr.refl _ wb) rfl).trans (Fr.below (below_al (Below.refl _ _)).drew)
            have HNew := Lib.hid (show NexS ((wb.setCell ⟨w.heap.size, xi, none⟩ (.slice (some ⟨wb.heap.size, 0, none⟩) S S)).alloc (.cells (madeCells #[.bool false] S) 4)).drew w.heap.size w.heap.size S c (fun y => if y = xi then some (List.replicate S false) else F y) from by
              have h9 := HOa.out.new hlx hFn (S := S) (by omega) HBa.out.size
              rw [World.setCell_alloc_past _ _ _ _ gb] at h9
              exact h9.move fun _ _ _ => rfl)
            have HBn := Lib.hid (show Below w.heap.size w ((wb.setCell ⟨w.heap.size, xi, none⟩ (.slice (some ⟨wb.heap.size, 0, none⟩) S S)).alloc (.cells (madeCells #[.bool false] S) 4)).drew from (below_al (HBa.out.setCell (Nat.le_refl _) _)).drew)
            have v1 := (hFx.cell (p := ⟨wk.heap.size, 1, none⟩) hwk (by intro e; have e : wk.heap.size = w.heap.size := e; omega)).trans u1
            have v2 := (hFx.cell (p := ⟨wk.heap.size, 2, none⟩) hwk (by intro e; have e : wk.heap.size = w.heap.size := e; omega)).trans u2
            have vk := Nat.lt_of_lt_of_le hwk hFx.size
            refine hK' _ _ (hFx) ?_; clear hK' K'
            refine mix_nil ?_
            clear hx1 hx2 Fu2 FD1 FC3 hmk u1 u2 hwk hcell gb gf
            generalize ((wb.setCell ⟨w.heap.size, xi, none⟩ (.slice (some ⟨wb.heap.size, 0, none⟩) S S)).alloc (.cells (madeCells #[.bool false] S) 4)).drew = wx at *
            replace HRes := Lib.hid (show nexF S (cols.take (k + 1)) next far = fun y => if y = xi then some ((List.replicate S false).set ei true) else (fun y => if y = xi then some (List.replicate S false) else F y) y by
              rw [HRes.out]; funext y; by_cases e : y = xi <;> simp [e])
            obtain ⟨ga', gb, gf, hat⟩ := HNew.out.at_ hlx
            rcases hat with ⟨hFn', _⟩ | ⟨b5, xs5, hFn', hcell, hO5⟩
            · simp at hFn'
            · have e5 : List.replicate S false = xs5 := by simpa using hFn'
              rw [e5] at HRes HNew hFn'
              clear e5
              clear hFn HOa HBa D1a C3a hFx HUs hq
              have u1 := v1
              have u2 := v2
              have hwk := vk
              have hFn := hFn'
              have HOa := HNew
              have HBa := HBn
              clear v1 v2 vk hFn' HNew HBn
              obtain ⟨wb, rfl⟩ : ∃ wb, wb = wx := ⟨wx, rfl⟩
              go_wp2_with fail
              have hlen5 : S = xs5.length := by obtain ⟨_, _, e5⟩ := hO5.shape; injection e5
              obtain ⟨g6, hg6, lo6, gl6, m1, m2⟩ := hO5.at_ ei (by omega)
              injection hg6 with hg6; injection hg6 with hg6 _; subst hg6
              generalize xs5[ei]'_ = z5 at m1
              have V1 := keepC u1
              have V2 := keepC u2
              have V3 := keepC hcell
              have M1 := keepC m1
              have M2 := fun wz (hz : Below wb.heap.size wb wz) => (hz.frozen (p := ⟨b5, ei, none⟩) gl6).trans m2
              clear m1 m2 hlen5
              refine wp_region_add_tail 8 (fun w' => Below (wb).heap.size (wb) w') (by kernel_rfl) (by kernel_rfl) ((Below.refl _ _).drew) ?_
              simp only [List.take_succ_cons, List.take_zero, List.drop_succ_cons, List.drop_zero]
              repeat (first
                | (refine add_skip rfl (fun K' hK' => ?_); go_simp; refine hK' _ ?_; clear hK' K')
                | (refine add_do (v := ?_) rfl (fun w1 hb => ?_) (fun K' hK' => ?_); rotate_left
                   · go_simp
                     first
                     | (with_reducible exact rfl)
                     | (with_reducible exact ⟨rfl, hb⟩)
                     | exact rfl
                     | exact ⟨rfl, hb⟩
                   go_simp; refine hK' _ ?_; clear hK' K'))
              refine add_nil ?_
              intro wa hba
              have HSet := Lib.hid ((HOa.out.below hba).set hlx (xs := xs5) (by first | exact hFn | exact if_pos rfl) (V3 _ hba) ei)
              have HBf := Lib.hid (HBa.out.trans (hba.mono HBa.out.size))
              have m1 := M1 _ hba
              have m2 := M2 _ hba
              clear hba V1 V2 V3 M1 M2
              go_wp2_with fail
              go_roundw
              case rel => exact ⟨k + 1, by omega, by go_num, Lib.hid (by rw [HRes.out]; exact HSet.out), Lib.hid (HBf.out.setCell lo6 _)⟩
              case measure => simp [intOf]; omega
          · have hq := fun w => run_eql_slice_nil (P := Tryz.prog) w 91 4 (some ⟨b5, 0, none⟩) S S Tryz.underlying91
            simp only [Option.isNone_some] at hq
            have HRes := Lib.hid (show nexF S (cols.take (k + 1)) next far = fun y => if y = xi then some (xs5.set ei true) else F y by rw [HUs.out, hFn]; rfl)
            go_wp2_with fail
            have hlen5 : S = xs5.length := by obtain ⟨_, _, e5⟩ := hO5.shape; injection e5
            obtain ⟨g6, hg6, lo6, gl6, m1, m2⟩ := hO5.at_ ei (by omega)
            injection hg6 with hg6; injection hg6 with hg6 _; subst hg6
            generalize xs5[ei]'_ = z5 at m1
            have V1 := keepC u1
            have V2 := keepC u2
            have V3 := keepC hcell
            have M1 := keepC m1
            have M2 := fun wz (hz : Below wb.heap.size wb wz) => (hz.frozen (p := ⟨b5, ei, none⟩) gl6).trans m2
            clear m1 m2 hlen5
            refine wp_region_add_tail 8 (fun w' => Below (wb).heap.size (wb) w') (by kernel_rfl) (by kernel_rfl) ((Below.refl _ _).drew) ?_
            simp only [List.take_succ_cons, List.take_zero, List.drop_succ_cons, List.drop_zero]
            repeat (first
              | (refine add_skip rfl (fun K' hK' => ?_); go_simp; refine hK' _ ?_; clear hK' K')
              | (refine add_do (v := ?_) rfl (fun w1 hb => ?_) (fun K' hK' => ?_); rotate_left
                 · go_simp
                   first
                   | (with_reducible exact rfl)
                   | (with_reducible exact ⟨rfl, hb⟩)
                   | exact rfl
                   | exact ⟨rfl, hb⟩
                 go_simp; refine hK' _ ?_; clear hK' K'))
            refine add_nil ?_
            intro wa hba
            have HSet := Lib.hid ((HOa.out.below hba).set hlx (xs := xs5) (by first | exact hFn | exact if_pos rfl) (V3 _ hba) ei)
            have HBf := Lib.hid (HBa.out.trans (hba.mono HBa.out.size))
            have m1 := M1 _ hba
            have m2 := M2 _ hba
            clear hba V1 V2 V3 M1 M2
            go_wp2_with fail
            go_roundw
            case rel => exact ⟨k + 1, by omega, by go_num, Lib.hid (by rw [HRes.out]; exact HSet.out), Lib.hid (HBf.out.setCell lo6 _)⟩
            case measure => simp [intOf]; omega
    · obtain rfl : k = cols.length := by omega
      rw [List.take_length] at HOk
      have HI1 := Lib.hid (HI.out.below HBk.out)
      have HEx := Lib.hid (fun m => extsTo_succ S cols c l next m)
      have HMo := Lib.hid (fun m d => extsTo_mono S cols c l next m d)
      rw [hfar] at HEx
      have hz0 : extsTo S cols c l next 0 = [] := by simp [extsTo]
      go_wp2_with fail
      go_loopw [91] (fun iv wr => ∃ m : Nat, m ≤ c ∧ iv = .int .i64 m ∧ outs.length + (extsTo S cols c l next m).length ≤ most ∧ Hid (Fr (TrP bo T (.slice Aw word.length kw)) wk wr) ∧ Hid (TrOut w0 bo (.slice Aw word.length kw) word T wk (outs ++ (extsTo S cols c l next m).map (word ++ ·)) wr)) (fun i _ => c - (intOf i).toNat)
      case atStart =>
        refine ⟨0, by omega, rfl, by rw [hz0]; simpa using hlt, Lib.hid (Fr.refl _ _), Lib.hid ⟨v0, T, HI1.out.out, HI1.out.outf, by rw [hz0]; simpa using HI1.out.outs, fun k hk => ⟨.inl hk, (HI1.out.t k hk).2.1⟩, HI1.out.word⟩⟩
      case round =>
        obtain ⟨m, hm, rfl, hle, HFm, HTm⟩ := hrel
        obtain ⟨wj, rfl⟩ : ∃ wj, wj = wr := ⟨wr, rfl⟩
        have HnP := Lib.hid (show ∀ k, TrP bo T (.slice Aw word.length kw) k → k < w.heap.size from fun k hk => by
          rcases hk with hk | hk | hk
          · rw [hk]; exact HI.out.bo1
          · exact (HI.out.t k hk).2.1
          · exact HI.out.word.blt k hk)
        have hboj : bo < wj.heap.size := Nat.lt_of_lt_of_le HI1.out.bo1 HFm.out.size
        by_cases hmc : m < c
        · have HNx := Lib.hid (show NexS wj w.heap.size w.heap.size S c (nexF S cols next far) from HOk.out.move fun k hk1 hk2 => HFm.out.block k hk2 fun e => absurd (HnP.out k e) (Nat.not_lt.2 hk1))
          have HE := Lib.hid (HEx.out m)
          obtain ⟨_, gb, gf, hat⟩ := HNx.out.at_ hmc
          rcases hat with ⟨hFn, hcell⟩ | ⟨b5, xs5, hFn, hcell, hO5⟩
          · have HX0 := Lib.hid (nexF_none hFn)
            rw [HX0.out] at HE
            replace HE := Lib.hid (show extsTo S cols c l next (m + 1) = extsTo S cols c l next m by rw [HE.out]; simp)
            have hq := fun w => run_neq_slice_nil (P := Tryz.prog) w 91 4 none 0 0 Tryz.underlying91
            simp only [Option.isNone_none, Bool.not_true] at hq
            clear hFn
            go_wp2_with fail
            refine wp_region_add (fun w' => Below (wj).heap.size (wj) w') (by kernel_rfl) (by kernel_rfl) ((Below.refl _ _).drew) ?_
            repeat (first
              | (refine add_skip rfl (fun K' hK' => ?_); go_simp; refine hK' _ ?_; clear hK' K')
              | (refine add_do (v := ?_) rfl (fun w1 hb => ?_) (fun K' hK' => ?_); rotate_left
                 · go_simp
                   first
                   | (with_reducible exact rfl)
                   | (with_reducible exact ⟨rfl, hb⟩)
                   | exact rfl
                   | exact ⟨rfl, hb⟩
                 go_simp; refine hK' _ ?_; clear hK' K'))
            refine add_nil ?_
            intro wa hba
            have HTa := Lib.hid (HTm.out.below hboj hba)
            have HFa := Lib.hid (HFm.out.trans (Fr.below hba))
            clear hba
            go_wp2_with fail
            go_roundw
            case rel => exact ⟨m + 1, by omega, by go_num, by rw [HE.out]; exact hle, HFa, by rw [HE.out]; exact HTa⟩
            case measure => simp [intOf]; omega
          · obtain ⟨hx1, hx2⟩ := nexF_some hFn
            have HEs := Lib.hid (show extsTo S cols c l next (m + 1) = extsTo S cols c l next m ++ (exts S cols c l xs5).map ((m : Int) :: ·) by rw [HE.out, if_pos hx1, hx2])
            have hb5 : b5 < wk.heap.size := by
              obtain ⟨_, q2, _, hat2⟩ := HOk.out.at_ hmc
              rcases hat2 with ⟨e, _⟩ | ⟨b6, xs6, e, hc6, hO6⟩
              · rw [hFn] at e; cases e
              · have h9 := ((cell_same (p := ⟨w.heap.size, m, none⟩) (HFm.out.block _ q2 (fun e => absurd (HnP.out _ e) (Nat.lt_irrefl _)))).trans hc6).symm.trans hcell
                injection h9 with h9; injection h9 with h9; injection h9 with h9; injection h9 with h9
                rw [← h9]; exact (hO6.lt b6 rfl).2
            have hb5l : w.heap.size ≤ b5 := (hO5.lt b5 rfl).1
            obtain ⟨v1, T1, o1, o2, o3, o4, o5⟩ := HTm.out
            obtain ⟨Av1, kv1, rfl⟩ := o3.shape
            have hwk := HBk.out.size
            have hwj := HFm.out.size
            have hT1 : ∀ k, T1 k → w0.heap.size ≤ k ∧ k < wj.heap.size ∧ k ≠ bo ∧ k ≠ be ∧ (Value.slice Aw word.length kw).ownBlock ≠ some k ∧ k ≠ b5 := fun k hk => by
              obtain ⟨e, e2⟩ := o4 k hk
              rcases e with e | e
              · obtain ⟨t1, t2, t3, t4⟩ := HI.out.t k e
                exact ⟨t1, e2, t3, t4, fun e3 => (HI.out.wordn k e3).2.2 e, by omega⟩
              · have := HI.out.base.size
                have := HI.out.bo1
                have := HI.out.be1
                exact ⟨by omega, e2, by omega, by omega, fun e3 => by have := HI.out.word.blt k e3; omega, by omega⟩
            have hW : ∀ k, (Value.slice Aw word.length kw).ownBlock = some k → w0.heap.size ≤ k ∧ k < w.heap.size ∧ k ≠ bo ∧ k ≠ be := fun k hk => ⟨(World.ownsRow.lt HI.out.word k hk).1, (World.ownsRow.lt HI.out.word k hk).2, (HI.out.wordn k hk).1, (HI.out.wordn k hk).2.1⟩
            have hPb : ∀ k, TrP bo T1 (.slice Aw word.length kw) k → w0.heap.size ≤ k ∧ k ≠ be := fun k hk => by
              rcases hk with hk | hk | hk
              · rw [hk]; exact ⟨HI.out.bo0, HI.out.ne⟩
              · exact ⟨(hT1 k hk).1, (hT1 k hk).2.2.2.1⟩
              · exact ⟨(hW k hk).1, (hW k hk).2.2.2⟩
            have hbase : Below w0.heap.size w0 wj := HI1.out.base.trans (HFm.out.under HI1.out.base.size fun k hk => by
              rcases hk with hk | hk | hk
              · rw [hk]; exact HI.out.bo0
              · exact (HI.out.t k hk).1
              · exact (hW k hk).1)
            have hbej : be < wj.heap.size := by have := HI.out.be1; omega
            have hext : wj.cell? ⟨be, 0, none⟩ = some FV := (HFm.out.cell (p := ⟨be, 0, none⟩) HI1.out.be1 (fun e => by
              rcases e with e | e | e
              · exact HI.out.ne e.symm
              · exact (HI.out.t _ e).2.2.2 rfl
              · exact (hW _ e).2.2.2 rfl)).trans HI1.out.ext
            have HT1 := Lib.hid hT1
            have HW := Lib.hid hW
            have HPb := Lib.hid hPb
            have HBase := Lib.hid hbase
            have O1 := Lib.hid o1
            have O2 := Lib.hid o2
            have O3 := Lib.hid o3
            have O4 := Lib.hid o4
            have O5 := Lib.hid o5
            have HO5 := Lib.hid hO5
            have Hext := Lib.hid hext
            have hq := fun w => run_neq_slice_nil (P := Tryz.prog) w 91 4 (some ⟨b5, 0, none⟩) S S Tryz.underlying91
            simp only [Option.isNone_some, Bool.not_false] at hq
            clear hT1 hW hPb hbase o1 o2 o3 o4 o5 hO5 hext hFn hx1 hx2
            go_wp2_with fail
            have FBe := fun w' (hs : Fr (TrP bo T1 (.slice Aw word.length kw)) wj w') => (hs.cell (p := ⟨be, 0, none⟩) hbej (fun e => (HPb.out _ e).2 rfl)).trans Hext.out
            refine wp_region_mix [(0, true), (1, true), (2, true), (3, true), (4, true), (5, true), (8, true), (6, false), (7, false), (9, false), (10, true), (11, true)] (fun w' => Fr (TrP bo T1 (.slice Aw word.length kw)) wj w') (by kernel_rfl) (by kernel_rfl) (fun _ _ d _ _ h => by cases d <;> exact h) (Fr.below (Below.refl _ wj).drew) ?_
            repeat (first
              | (refine mix_skip rfl rfl (fun K' hK' => ?_); go_simp; refine hK' _ ?_; clear hK' K')
              | (refine mix_do (v := ?_) rfl rfl (fun w1 hb => ?_) (fun K' hK' => ?_); rotate_left
                 · go_simp
                   rfl
                 go_simp; refine hK' _ ?_; clear hK' K'))
            refine mix_call rfl rfl (fun K' hK' => ?_)
            go_simp
            refine hK' _ _ (Fr.below (below_al (Below.refl _ wj).drew)) ?_; clear hK' K'
            repeat (first
              | (refine mix_skip rfl rfl (fun K' hK' => ?_); go_simp; refine hK' _ ?_; clear hK' K')
              | (refine mix_do (v := ?_) rfl rfl (fun w1 hb => ?_) (fun K' hK' => ?_); rotate_left
                 · go_simp
                   rfl
                 go_simp; refine hK' _ ?_; clear hK' K'))
            refine mix_call rfl rfl (fun K' hK' => ?_)
            refine app_word (.tmp 100) (.tmp 102) rfl w0.heap.size (.slice Aw word.length kw) word (m : Int) rfl (O5.out.below (below_al (Below.refl _ wj).drew)) wj.heap.size 0 rfl (cell_alloc_at wj.drew _ _ _ _ rfl) (by omega) (by have := HBase.out.size; simp; omega) (fun v' wx h1 h2 h3 h4 => ?_)
            have hFW : Fr (fun k => (Value.slice Aw word.length kw).ownBlock = some k) wj wx := (Fr.below (below_al (Below.refl _ wj).drew)).trans (Fr.grown h3 fun k hk => hk)
            have hFX : Fr (TrP bo T1 (.slice Aw word.length kw)) wj wx := hFW.mono fun k _ hk => .inr (.inr hk)
            refine hK' _ _ hFX ?_
            clear hK' K'
            have hFl := HFV.out
            obtain ⟨A9, k9, rfl, _⟩ := h1.shape
            have hXs : wj.heap.size ≤ (wj.drew.alloc (.cells #[.int .i64 m] 2)).heap.size := by simp
            have hv9 : ∀ k, (Value.slice A9 (word ++ [(m : Int)]).length k9).ownBlock = some k → (Value.slice Aw word.length kw).ownBlock = some k ∨ wj.heap.size ≤ k := fun k hk => by
              rcases h4 with e | ⟨q, e, e2⟩
              · left; rw [← e]; exact hk
              · right; rw [e] at hk; injection hk with hk; have e3 := e2; simp at e3; omega
            have HIn := Lib.hid (show TrIn w0 bo be FV (.slice A9 (word ++ [(m : Int)]).length k9) (.slice Av1 _ kv1) (word ++ [(m : Int)]) (outs ++ (extsTo S cols c l next m).map (word ++ ·)) T1 wx from
              { base := HBase.out.trans (hFW.under HBase.out.size fun k hk => (HW.out k hk).1)
                bo0 := HI.out.bo0
                bo1 := Nat.lt_of_lt_of_le hboj hFW.size
                be0 := HI.out.be0
                be1 := Nat.lt_of_lt_of_le hbej hFW.size
                ne := HI.out.ne
                out := (hFW.cell (p := ⟨bo, 0, none⟩) hboj (fun e => (HW.out _ e).2.2.1 rfl)).trans O1.out
                outf := (hFW.frozen (p := ⟨bo, 0, none⟩) hboj (fun e => (HW.out _ e).2.2.1 rfl)).trans O2.out
                ext := (hFW.cell (p := ⟨be, 0, none⟩) hbej (fun e => (HW.out _ e).2.2.2 rfl)).trans Hext.out
                outs := O3.out.fr hFW fun k hk => (HT1.out k hk).2.2.2.2.1
                t := fun k hk => ⟨(HT1.out k hk).1, Nat.lt_of_lt_of_le (HT1.out k hk).2.1 hFW.size, (HT1.out k hk).2.2.1, (HT1.out k hk).2.2.2.1⟩
                word := h1
                wordn := fun k hk => by
                  rcases hv9 k hk with e | e
                  · exact ⟨(HW.out k e).2.2.1, (HW.out k e).2.2.2, fun e2 => (HT1.out k e2).2.2.2.2.1 e⟩
                  · exact ⟨by omega, by omega, fun e2 => by have := (HT1.out k e2).2.1; omega⟩ })
            have HNs := Lib.hid (show NowS wx (TrP bo T1 (.slice A9 (word ++ [(m : Int)]).length k9)) (some ⟨b5, 0, none⟩) xs5 from fun j hj => by
              obtain ⟨g7, e7, _, a2, a3, _⟩ := HO5.out.at_ j hj
              injection e7 with e7; injection e7 with e7; subst e7
              refine ⟨b5, 0, rfl, Nat.lt_of_lt_of_le a2 hFW.size, fun e => ?_, ?_⟩
              · rcases e with e | e | e
                · have := HI.out.bo1; omega
                · exact (HT1.out _ e).2.2.2.2.2 rfl
                · rcases hv9 _ e with e | e
                  · have := (HW.out _ e).2.1; omega
                  · omega
              · rw [Nat.zero_add]
                exact (hFW.cell (p := ⟨b5, j, none⟩) a2 (fun e => by have := (HW.out b5 e).2.1; omega)).trans a3)
            have hx5 : xs5.length = S := by obtain ⟨_, _, e5⟩ := HO5.out.shape; injection e5 with _ e5 _; exact e5.symm
            have HCall := Lib.hid (IH.out (word ++ [(m : Int)]) _ xs5 (some ⟨b5, 0, none⟩) S _ _ T1 wx (by simp; omega) hx5 HIn.out HNs.out (by simpa using hle))
            repeat (first
              | (refine mix_skip rfl rfl (fun K' hK' => ?_); go_simp; refine hK' _ ?_; clear hK' K')
              | (refine mix_do (v := ?_) rfl rfl (fun w1 hb => ?_) (fun K' hK' => ?_); rotate_left
                 · go_simp
                   rfl
                 go_simp; refine hK' _ ?_; clear hK' K'))
            rw [← hFl] at *
            refine mix_call rfl rfl (fun K' hK' => ?_)
            go_simp
            have hl9 : (word ++ [(m : Int)]).length = word.length + 1 := by simp
            rw [hl9] at HCall hv9 h1
            have hlo : (outs ++ (extsTo S cols c l next m).map (word ++ ·)).length + (exts S cols c l xs5).length = outs.length + (extsTo S cols c l next (m + 1)).length := by rw [HEs.out]; simp; omega
            rw [hlo] at HCall
            refine HCall.out.mono ?_
            rintro e w7 ⟨rfl, hF7, hc7, hT7⟩
            have HC7 := Lib.hid hc7
            have hF8 : Fr (TrP bo T1 (.slice Aw word.length kw)) wj w7 := hFX.hop hF7 fun k hk => by
              rcases hk with hk | hk | hk
              · exact .inl (.inl hk)
              · exact .inl (.inr (.inl hk))
              · rcases hv9 k hk with e | e
                · exact .inl (.inr (.inr e))
                · exact .inr e
            have HF7 := Lib.hid hF7
            have HF8 := Lib.hid hF8
            have HT7 := Lib.hid hT7
            clear hF7 hT7 hc7
            refine hK' _ _ (hF8) ?_; clear hK' K'
            repeat (first
              | (refine mix_skip rfl rfl (fun K' hK' => ?_); go_simp; refine hK' _ ?_; clear hK' K')
              | (refine mix_do (v := ?_) rfl rfl (fun w1 hb => ?_) (fun K' hK' => ?_); rotate_left
                 · go_simp
                   rfl
                 go_simp; refine hK' _ ?_; clear hK' K'))
            refine mix_nil ?_
            have HG := Lib.hid (show Fr (TrP bo T (.slice Aw word.length kw)) wk w7 from HFm.out.hop HF8.out fun k hk => by
              rcases hk with hk | hk | hk
              · exact .inl (.inl hk)
              · rcases (O4.out k hk).1 with e | e
                · exact .inl (.inr (.inl e))
                · exact .inr e
              · exact .inl (.inr (.inr hk)))
            by_cases hok : outs.length + (extsTo S cols c l next (m + 1)).length ≤ most
            · have hdec : decide (outs.length + (extsTo S cols c l next (m + 1)).length ≤ most) = true := decide_eq_true hok
              rw [hdec]
              have HR8 := Lib.hid (show TrOut w0 bo (.slice Aw word.length kw) word T wk (outs ++ (extsTo S cols c l next (m + 1)).map (word ++ ·)) w7 from by
                obtain ⟨v8, T8, q1, q2, q3, q4, q5⟩ := HT7.out hok
                refine ⟨v8, T8, q1, q2, ?_, fun k hk => ⟨?_, (q4 k hk).2⟩, own_back h2 h1 q5 fun hne k hk => HF7.out.block k (Nat.lt_of_lt_of_le (Nat.lt_of_lt_of_le (HW.out k hk).2.1 (Nat.le_trans hwk hwj)) hFX.size) fun e => ?_⟩
                · rw [show outs ++ (extsTo S cols c l next (m + 1)).map (word ++ ·) = (outs ++ (extsTo S cols c l next m).map (word ++ ·)) ++ (exts S cols c l xs5).map ((word ++ [(m : Int)]) ++ ·) by rw [HEs.out, List.map_append, List.append_assoc, List.map_map]; congr 2; apply List.map_congr_left; intro a _; simp]
                  exact q3
                · rcases (q4 k hk).1 with e | e
                  · exact (O4.out k e).1
                  · exact .inr (Nat.le_trans hwj (Nat.le_trans hFX.size e))
                · rcases e with e | e | e
                  · exact (HW.out k hk).2.2.1 e
                  · exact (HT1.out k e).2.2.2.2.1 hk
                  · exact hne (e.trans hk.symm))
              clear hdec
              go_wp2_with fail
              go_roundw
              case rel => exact ⟨m + 1, by omega, by go_num, hok, HG, HR8⟩
              case measure => simp [intOf]; omega
            · have hdec : decide (outs.length + (extsTo S cols c l next (m + 1)).length ≤ most) = false := decide_eq_false hok
              rw [hdec]
              have HAll := Lib.hid (show ¬ outs.length + (exts S cols c (l + 1) next).length ≤ most by
                have h9 := HMo.out (m + 1) (c - (m + 1))
                rw [show m + 1 + (c - (m + 1)) = c by omega, ← HX.out] at h9
                omega)
              clear hdec
              go_wp2_with fail
              go_ret
              refine ⟨?_, (Fr.below HBk.out).trans HG.out, HC7.out, fun e => absurd e HAll.out⟩
              show Ending.returned (.bool false) = _
              rw [decide_eq_false HAll.out]
        · obtain rfl : m = c := by omega
          go_wp2_with fail
          go_ret
          refine ⟨?_, (Fr.below HBk.out).trans HFm.out, HTm.out.cell_, fun _ => ?_⟩
          · show Ending.returned (.bool true) = _
            rw [HX.out, decide_eq_true hle]
          · rw [HX.out]; exact HTm.out.sooner HBk.out.size

end Go.Proofs.YtnoehaphbpkpjaaGreat
