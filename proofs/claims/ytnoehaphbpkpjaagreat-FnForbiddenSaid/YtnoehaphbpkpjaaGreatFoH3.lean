/- Contracts and lemmas for the statements of this seat, written for this claim; each theorem states its own conditions. -/
import Derived.Test.YtnoehaphbpkpjaaGreatFoH1
import Derived.Test.YtnoehaphbpkpjaaGreatFoW4
set_option linter.unusedVariables false
set_option linter.unusedSimpArgs false
namespace Go.Proofs.YtnoehaphbpkpjaaGreat
open Go.RowKit
attribute [local go_sem] addUpon_value addUpon_skip addUpon_enter
set_option maxRecDepth 100000 in
set_option maxHeartbeats 1000000 in
theorem fitT_c (z : Int) (w : World) : Calls Tryz.prog 53 #[.int .i64 z] w fun e w' => e = .returned (.int .i64 (capN z)) ∧ Below w.heap.size w w' := by
  go_enter Tryz.func53, Tryz.ntmps53
  go_wp2
  all_goals
    go_ret
    first
    | exact ⟨rfl, Below.refl _ _⟩
    | (have e : capN z = 1000000000000001 := by unfold capN; omega
       rw [e]; exact ⟨rfl, Below.refl _ _⟩)
    | (have e : capN z = z := by unfold capN; omega
       rw [e]; exact ⟨rfl, Below.refl _ _⟩)
/-- the boxes of the numbers found, of whether all are in range, and of how many are asked -/
structure SeqIn (w : World) (base bo bk bn : Nat) (xs : List Int) (q : Bool) (n : Int) (v : Value) : Prop where
  out : Blk w bo [v] 39
  ok : Blk w bk [.bool q] 4
  num : w.cell? ⟨bn, 0, none⟩ = some (.int .i64 n)
  own : OwnI w base v xs
  bo0 : base ≤ bo
  bk0 : base ≤ bk
  bn0 : bn < base
  ne : bo ≠ bk
theorem SeqIn.below {w w' : World} {base bo bk bn : Nat} {out : List Int} {ok : Bool} {n : Int} {v : Value} (h : SeqIn w base bo bk bn out ok n v) (hb : Below w.heap.size w w') : SeqIn w' base bo bk bn out ok n v :=
  ⟨h.out.under hb, h.ok.under hb, keepC h.num _ hb, h.own.below hb, h.bo0, h.bk0, h.bn0, h.ne⟩
def SeqP (bo bk : Nat) (v : Value) (k : Nat) : Prop := k = bo ∨ k = bk ∨ v.ownBlock = some k
def SeqRet (w : World) (base bo bk bn : Nat) (out : List Int) (ok : Bool) (n : Int) (v : Value) (r : Bool) (e : Ending) (w' : World) : Prop :=
  e = .returned (.bool r) ∧ Fr (SeqP bo bk v) w w' ∧ ∃ v', SeqIn w' base bo bk bn out ok n v'
set_option maxRecDepth 100000 in
set_option maxHeartbeats 8000000 in
theorem sequenceT_c (g : Nat) (c : Int) (A : Option Addr) (tn cx : Nat) (h : Int) (S : Nat) (cols : List Col) (base bo bk bn n : Nat) (v0 : Value) (w : World) (hS1 : 1 ≤ S) (hS2 : S ≤ 100000) (hC : Codes S cols) (hcl : cols.length ≤ 1000000)
    (hR : StripR w g c A tn cx h S cols) (hI : SeqIn w base bo bk bn [] true (n : Int) v0) (hn1 : 1 ≤ n) (hn : n ≤ 1000) (hbase : base ≤ w.heap.size) (hgb : g < base) (hsep : ∀ w', Below base w w' → StripR w' g c A tn cx h S cols)
    (hV : ∀ (out : List Int) (v : Value) (sum : Int) (wv : World), SeqIn wv base bo bk bn out true (n : Int) v → InCap sum → out.length < n → Calls Tryz.prog 54 #[.int .i64 sum, .pointer (some ⟨bo, 0, none⟩), .pointer (some ⟨bk, 0, none⟩), .pointer (some ⟨bn, 0, none⟩)] wv
      (SeqRet wv base bo bk bn (out ++ [sum]) (decide (sum ≤ 1000000000000000)) n v (decide (sum ≤ 1000000000000000) && decide (out.length + 1 < n)))) :
    Calls Tryz.prog 52 #[.pointer (some ⟨g, 0, none⟩), .func (.func 53) #[] #[], .func (.func 54) #[] #[.pointer (some ⟨bo, 0, none⟩), .pointer (some ⟨bk, 0, none⟩), .pointer (some ⟨bn, 0, none⟩)]] w fun e w' =>
      e = .returned (.tuple #[]) ∧ Below base w w' ∧ ∃ m v, 1 ≤ m ∧ m ≤ n ∧ seqOk S cols (m - 1) = true ∧ (m = n ∨ seqOk S cols m = false) ∧ SeqIn w' base bo bk bn (seqVals S cols m) (seqOk S cols m) n v := by
  have HV := Lib.hid hV
  have HSep := Lib.hid hsep
  have HC := Lib.hid hC
  have HRep := Lib.hid (fun (g0 : Nat) (wq : World) hc => repeatI_c S g0 wq hS1 (by omega) hc)
  have HI := Lib.hid hI
  obtain ⟨C0, cc0, hB0, _⟩ := id hR
  have c2 := hB0.cell 3 (by simp)
  simp only [List.getElem_cons_zero, List.getElem_cons_succ] at c2
  have C2 := Lib.hid (keepC c2)
  have hg := hB0.lt
  have hbol := hI.out.lt
  have hbkl := hI.ok.lt
  clear hV hsep hC hR hI hB0
  go_enter Tryz.func52, Tryz.ntmps52
  go_wp2_with fail
  refine (HRep.out _ _ ?_).mono ?_
  · (repeat (first | (exact cell_al _ _ _ _ _ _ (by simp) rfl) | (refine cell_alloc_old _ _ _ _ _ ?_)))
  rintro e w1 ⟨v, rfl, hO, hb1⟩
  have Hw1 : Hid (Below w.heap.size w w1) := by (show Below _ _ _); (repeat (first | (with_reducible exact Below.refl _ _) | (with_reducible assumption) | (with_reducible refine below_al ?_) | (with_reducible refine below_dr ?_) | (with_reducible refine below_drN ?_) | (with_reducible refine below_set ?_ (by first | exact Nat.le_refl _ | (dsimp only; omega) | omega)) | (with_reducible refine below_tr (by with_reducible assumption) ?_)))
  have HO := Lib.hid (hO.weaken (B' := w.heap.size) (le_al (Nat.le_refl _)))
  clear hO hb1 c2
  go_wp2_with fail
  go_loopg [6] (n) (fun k v wr => ∃ (m : Nat) (u : Value), Hid (k + m = n) ∧ Hid (m < n) ∧ Hid (seqOk S cols m = true) ∧ Hid (OwnI wr w.heap.size v (cntL S cols m)) ∧ Hid (SeqIn wr base bo bk bn (seqVals S cols m) true (n : Int) u) ∧ Hid (Below base w wr))
  case atStart => exact ⟨0, v0, Lib.hid (by omega), Lib.hid (by omega), Lib.hid rfl, Lib.hid HO.out, Lib.hid (HI.out.below Hw1.out), Lib.hid (Hw1.out.mono hbase)⟩
  case round =>
    obtain ⟨m, u, HQ, HM, HOkm, HOj, HIj, HFj⟩ := hrel
    obtain ⟨wj, rfl⟩ : ∃ wj, wj = wr := ⟨wr, rfl⟩
    obtain ⟨C, cc, hB, hCo⟩ := HSep.out wj HFj.out
    have HCo := Lib.hid hCo
    have hlen := cntL_len S cols m
    have hin := cntL_in S cols m
    have HIn := Lib.hid hin
    have HSu : Hid (cntL S cols (m + 1) = cgo S cols (cntL S cols m)) := rfl
    obtain ⟨An, kn, rfl, hrd, _⟩ := HOj.out.shape
    have HRd := Lib.hid hrd
    generalize cntL S cols m = now at *
    have c2 := hB.cell 3 (by simp)
    have c3 := hB.cell 4 (by simp)
    simp only [List.getElem_cons_zero, List.getElem_cons_succ] at c2 c3
    have hgj : g < wj.heap.size := hB.lt
    have hm := fun w => make_i64 S (by omega) w
    have HLn := Lib.hid hlen
    rw [hlen] at HOj
    rw [hlen]
    clear hlen hB hCo hrd hin
    go_wp2_with fail
    clear hm c2 c3
    go_loopw [29] (fun iv wr => ∃ k : Nat, k ≤ cols.length ∧ iv = .int .i64 k ∧ Hid (OwnI wr wj.heap.size (.slice (some ⟨wj.heap.size, 0, none⟩) S S) (cgo S (cols.take k) now)) ∧ Hid (Below wj.heap.size wj wr)) (fun i _ => cols.length - (intOf i).toNat)
    case atStart => exact ⟨0, by omega, rfl, Lib.hid (by have h9 := OwnI.made wj wj.heap.size (madeCells #[.int .i64 0] S) (List.replicate S 0) (by rw [toList_madeCells_one]; simp [ints]) (Nat.le_refl _) (by simp; omega); rw [List.length_replicate] at h9; rw [List.take_zero, show cgo S [] now = List.replicate S 0 from rfl]; exact h9), Lib.hid (by (repeat (first | (with_reducible exact Below.refl _ _) | (with_reducible assumption) | (with_reducible refine below_al ?_) | (with_reducible refine below_dr ?_) | (with_reducible refine below_drN ?_) | (with_reducible refine below_set ?_ (by first | exact Nat.le_refl _ | (dsimp only; omega) | omega)) | (with_reducible refine below_tr (by with_reducible assumption) ?_))))⟩
    case round =>
      obtain ⟨k, hk, rfl, HOk, HBk⟩ := hrel
      obtain ⟨wk, rfl⟩ : ∃ wk, wk = wr := ⟨wr, rfl⟩
      by_cases hkl : k < cols.length
      · obtain ⟨b2, off2, rfl, hlt2, y0, y1, y2⟩ := (HCo.out.below HBk.out) k hkl
        obtain ⟨⟨w0, w1'⟩, e0, e1⟩ := HC.out _ (List.getElem_mem hkl)
        have HTg := Lib.hid (cgo_take S cols now k hkl)
        have hnl := cgo_len S (cols.take k) now
        have hni := cgo_in (S := S) (cols := cols.take k) HIn.out
        generalize cgo S (cols.take k) now = nx at *
        generalize cols[k] = col at *
        have hz1 : col.w.toNat < now.length := by have := HLn.out; omega
        have hz2 : col.e.toNat < nx.length := by omega
        have HE : Hid (cgo S (cols.take (k + 1)) now = nx.set col.e.toNat (capN (nx[col.e.toNat] + now[col.w.toNat]))) := by
          rw [HTg.out]
          unfold cstep
          rw [List.getD_eq_getElem?_getD, List.getElem?_eq_getElem hz2, List.getD_eq_getElem?_getD, List.getElem?_eq_getElem hz1]
          rfl
        have bx := hni _ (List.getElem_mem hz2)
        have by' := HIn.out _ (List.getElem_mem hz1)
        obtain ⟨wi, hwi⟩ := Int.eq_ofNat_of_zero_le w0
        obtain ⟨ei, hei⟩ := Int.eq_ofNat_of_zero_le e0
        obtain ⟨b3, off3, rfl, hlt3, n0⟩ := HRd.out.int col.w.toNat hz1
        obtain ⟨g4, hg4, _, gl, n1, n2⟩ := HOk.out.at_ col.e.toNat hz2
        injection hg4 with hg4; injection hg4 with hg4 _; subst hg4
        simp only [hwi, hei, Int.toNat_natCast] at n0 n1 n2 hz1 hz2 HE bx by'
        rw [hwi] at y0
        rw [hei] at y1
        have hlw : wi < S := by omega
        have hle : ei < S := by omega
        obtain ⟨wt, hwt⟩ : ∃ wt, wt = wk.alloc (.cells #[.int .i64 wi, .int .i64 ei, .int .i64 col.n] 104) := ⟨_, rfl⟩
        have HBt := Lib.hid (show Below wk.heap.size wk wt by rw [hwt]; (repeat (first | (with_reducible exact Below.refl _ _) | (with_reducible assumption) | (with_reducible refine below_al ?_) | (with_reducible refine below_dr ?_) | (with_reducible refine below_drN ?_) | (with_reducible refine below_set ?_ (by first | exact Nat.le_refl _ | (dsimp only; omega) | omega)) | (with_reducible refine below_tr (by with_reducible assumption) ?_))))
        have HOt := Lib.hid (HOk.out.below HBt.out)
        have N0 := keepC (keepC ((HBk.out.cell (p := ⟨b3, off3 + wi, none⟩) hlt3).trans n0) _ HBt.out)
        have N1 := keepC (keepC n1 _ HBt.out)
        have F1 := fun wz (hz : Below wt.heap.size wt wz) => (hz.frozen (p := ⟨wj.heap.size, ei, none⟩) (Nat.lt_of_lt_of_le gl HBt.out.size)).trans ((HBt.out.frozen (p := ⟨wj.heap.size, ei, none⟩) gl).trans n2)
        have U0 := keepC (show wt.cell? ⟨wk.heap.size, 0, none⟩ = some (.int .i64 wi) by rw [hwt]; exact cell_alloc_at _ _ _ _ _ rfl)
        have U1 := keepC (show wt.cell? ⟨wk.heap.size, 1, none⟩ = some (.int .i64 ei) by rw [hwt]; exact cell_alloc_at _ _ _ _ _ rfl)
        replace hwt := Lib.hid hwt
        clear n0 n1 n2
        generalize nx[ei] = x at *
        generalize now[wi] = y at *
        have hxy : IntKind.i64.wrap (x + y) = x + y := IntWalk.i64_in _ (by have := bx.1; have := bx.2; have := by'.1; have := by'.2; omega)
        replace bx := Lib.hid bx
        replace by' := Lib.hid by'
        clear hwi hei hz1 hz2 hnl hni
        go_wp2_with fail
        rw [← hwt.out]
        refine wp_region_add_tail 17 (fun w' => Below (wt).heap.size (wt) w') (by kernel_rfl) (by kernel_rfl) ((Below.refl _ _).drew) ?_
        simp only [List.take_succ_cons, List.take_zero, List.drop_succ_cons, List.drop_zero]
        repeat (first
          | (refine add_skip rfl (fun K' hK' => ?_); go_simp; refine hK' _ ?_; clear hK' K')
          | (refine add_do (v := ?_) rfl (fun w1 hb => ?_) (fun K' hK' => ?_); rotate_left
             · go_simp
               first
               | (with_reducible exact rfl)
               | (with_reducible exact ⟨rfl, hb⟩)
               | (with_reducible exact (addCall (fitT_c (x + y) w1) hb).2)
               | exact (addCall (fitT_c (x + y) w1) hb).2
               | exact rfl
               | exact ⟨rfl, hb⟩
             go_simp; refine hK' _ ?_; clear hK' K'))
        refine add_nil ?_
        intro wa hba
        have f1 := F1 _ hba
        have HOa := Lib.hid ((HOt.out.below hba).set ei)
        have n1a := N1 _ hba
        have HBa := Lib.hid (HBk.out.trans ((HBt.out.trans (hba.mono HBt.out.size)).mono HBk.out.size))
        clear hba N0 N1 F1 U0 U1
        go_wp2_with fail
        go_roundw
        case rel => exact ⟨k + 1, by omega, by go_num, Lib.hid (by rw [HE.out]; exact (HOa.out _).1), Lib.hid (HBa.out.setCell (Nat.le_refl _) _)⟩
        case measure => simp [intOf]; omega
      · obtain rfl : k = cols.length := by omega
        rw [List.take_length] at HOk
        have hnl := cgo_len S cols now
        have hni := cgo_in (S := S) (cols := cols) HIn.out
        have HSu2 := Lib.hid HSu.out
        generalize hnx : cgo S cols now = nx at *
        have HNl := Lib.hid hnl
        have HNi := Lib.hid hni
        have HNx := Lib.hid hnx
        clear hnl hni hnx
        go_wp2_with fail
        go_loopw [8, 53] (fun sv iv wr => ∃ k : Nat, k ≤ S ∧ iv = .int .i64 k ∧ sv = .int .i64 (csum (nx.take k)) ∧ Hid (Below wk.heap.size wk wr)) (fun _ i _ => S - (intOf i).toNat)
        case atStart => exact ⟨0, by omega, rfl, rfl, Lib.hid (Below.refl _ _)⟩
        case round =>
          obtain ⟨k, hk, rfl, rfl, HBs⟩ := hrel
          obtain ⟨ws, rfl⟩ : ∃ ws, ws = wr := ⟨wr, rfl⟩
          by_cases hkS : k < S
          · have hkn : k < nx.length := by have := HNl.out; omega
            obtain ⟨g4, hg4, _, gl, n1, n2⟩ := (HOk.out.below HBs.out).at_ k hkn
            injection hg4 with hg4; injection hg4 with hg4 _; subst hg4
            have HAn := Lib.hid (csum_take nx k hkn)
            have b1 := HNi.out _ (List.getElem_mem hkn)
            have b2 := csum_in (xs := nx.take k) fun x hx => HNi.out x (List.mem_of_mem_take hx)
            generalize nx[k] = x at *
            generalize csum (nx.take k) = y at *
            have hxy : IntKind.i64.wrap (y + x) = y + x := IntWalk.i64_in _ (by have := b1.1; have := b1.2; have := b2.1; have := b2.2; omega)
            clear b1 b2
            go_wp2_with fail
            refine (fitT_c (y + x) _).mono ?_
            rintro e w5 ⟨rfl, hb5⟩
            have HB5 := Lib.hid (HBs.out.trans (hb5.mono HBs.out.size))
            clear hb5
            go_wp2_with fail
            go_roundw
            case rel => exact ⟨k + 1, by omega, by go_num, by rw [HAn.out], HB5⟩
            case measure => simp [intOf]; omega
          · obtain rfl : k = S := by omega
            have hsum : csum (nx.take k) = seqN k cols (m + 1) := by rw [List.take_of_length_le (by have := HNl.out; omega)]; unfold seqN; rw [HSu2.out]
            rw [hsum]
            have hIs := (HIj.out.below HBk.out).below HBs.out
            have HO5 := Lib.hid (HOk.out.below HBs.out)
            have HF5 := Lib.hid ((HFj.out.trans (HBk.out.mono (Nat.le_trans hbase HFj.out.size))).trans (HBs.out.mono (Nat.le_trans (Nat.le_trans hbase HFj.out.size) HBk.out.size)))
            have hcap := seqN_in k cols (m + 1)
            have HV1 := Lib.hid (HV.out _ _ (seqN k cols (m + 1)) ws hIs hcap (by rw [seqVals_len]; exact HM.out))
            rw [seqVals_len, ← seqVals_succ] at HV1
            have hok1 : seqOk k cols (m + 1) = decide (seqN k cols (m + 1) ≤ 1000000000000000) := by rw [seqOk_succ, HOkm.out, Bool.true_and]
            rw [← hok1] at HV1
            have HUb := Lib.hid (show ∀ q, u.ownBlock = some q → q < wj.heap.size from fun q hq => (World.ownsRow.lt HIj.out.own q hq).2)
            have HUo := Lib.hid (show bo < wj.heap.size ∧ bk < wj.heap.size from ⟨HIj.out.out.lt, HIj.out.ok.lt⟩)
            have HBo := Lib.hid (show base ≤ bo ∧ base ≤ bk from ⟨hIs.bo0, hIs.bk0⟩)
            have HBu := Lib.hid (show ∀ q, u.ownBlock = some q → base ≤ q from fun q hq => (World.ownsRow.lt HIj.out.own q hq).1)
            clear hsum hcap hok1 hIs
            generalize seqN k cols (m + 1) = sm at *
            cases hb : (seqOk k cols (m + 1) && decide (m + 1 < n))
            · rw [hb] at HV1
              have HD := Lib.hid hb
              clear hb
              go_wp2_with fail
              refine HV1.out.mono ?_
              rintro e w6 ⟨rfl, hF6, v6, hI6⟩
              have HF6 := Lib.hid (show Below base w w6 from HF5.out.trans (hF6.under (Nat.le_trans hbase HF5.out.size) fun q hq => by
                rcases hq with hq | hq | hq
                · rw [hq]; exact HBo.out.1
                · rw [hq]; exact HBo.out.2
                · exact HBu.out q hq))
              have HI6 := Lib.hid hI6
              clear hF6 hI6
              go_wp2
              refine bodyPost_ret (results_none rfl _ _ _) rfl ?_
              refine ⟨rfl, HF6.out, m + 1, v6, by omega, HM.out, by rw [Nat.add_sub_cancel]; exact HOkm.out, ?_, HI6.out⟩
              have h8 := HD.out
              rw [Bool.and_eq_false_iff] at h8
              rcases h8 with h8 | h8
              · exact .inr h8
              · rw [decide_eq_false_iff_not] at h8
                exact .inl (by have := HM.out; omega)
            · rw [hb] at HV1
              rw [Bool.and_eq_true, decide_eq_true_eq] at hb
              obtain ⟨hb1, hb2⟩ := hb
              rw [hb1] at HV1
              have HD := Lib.hid hb2
              have HD1 := Lib.hid hb1
              clear hb1 hb2
              go_wp2_with fail
              refine HV1.out.mono ?_
              rintro e w6 ⟨rfl, hF6, v6, hI6⟩
              have HF6 := Lib.hid (show Below base w w6 from HF5.out.trans (hF6.under (Nat.le_trans hbase HF5.out.size) fun q hq => by
                rcases hq with hq | hq | hq
                · rw [hq]; exact HBo.out.1
                · rw [hq]; exact HBo.out.2
                · exact HBu.out q hq))
              have HI6 := Lib.hid hI6
              have HO6 := Lib.hid (show OwnI w6 wj.heap.size (.slice (some ⟨wj.heap.size, 0, none⟩) k k) nx from own_same HO5.out fun q hq => hF6.block q (World.ownsRow.lt HO5.out q hq).2 (fun e => by
                have h7 := (World.ownsRow.lt HO5.out q hq).1
                have h8 := HUo.out
                rcases e with e | e | e
                · omega
                · omega
                · have := HUb.out q e; omega))
              clear hF6 hI6
              go_wp2_with fail
              go_roundg (n - (m + 1))
              case rel => exact ⟨m + 1, v6, Lib.hid (by have := HQ.out; have := HM.out; omega), HD, HD1, Lib.hid (by rw [HSu2.out]; exact OwnI.weaken HO6.out HFj.out.size), HI6, HF6⟩
              case measure => have := HQ.out; have := HM.out; omega

end Go.Proofs.YtnoehaphbpkpjaaGreat
