/- Contracts and lemmas for the statements of this seat, written for this claim; each theorem states its own conditions. -/
import Derived.Test.YtpcooplalncdcaaWfW3
import Derived.Test.YtpcooplalncdcaaWfTi1
set_option linter.unusedVariables false
set_option linter.unusedSimpArgs false
namespace Go.Proofs.Ytpcooplalncdcaa
open Go.RowKit
attribute [local go_sem] addUpon_value addUpon_skip addUpon_enter
def b2i (b : Bool) : Int := if b = true then 1 else 0
def bint (xs : List Bool) : List Int := xs.map b2i
theorem bint_len (xs : List Bool) : (bint xs).length = xs.length := by simp [bint]
theorem bint_set (xs : List Bool) (k : Nat) (b : Bool) : (bint xs).set k (b2i b) = bint (xs.set k b) := by simp [bint, List.map_set]
theorem bint_get (xs : List Bool) (k : Nat) (h : k < xs.length) (h' : k < (bint xs).length) : (bint xs)[k] = b2i xs[k] := by simp [bint]
theorem bint_false (n : Nat) : bint (List.replicate n false) = List.replicate n 0 := by simp [bint, b2i]
theorem bint_true (n : Nat) : bint (List.replicate n true) = List.replicate n 1 := by simp [bint, b2i]
/-- what is summed up of truth values, made fit -/
def anyTo (xs : List Bool) (k : Nat) : Bool := (xs.take k).contains true
theorem anyTo_succ (xs : List Bool) (k : Nat) (h : k < xs.length) : anyTo xs (k + 1) = (anyTo xs k || xs[k]) := by
  unfold anyTo
  rw [List.take_succ_eq_append_getElem h, Bool.eq_iff_iff]
  simp only [List.contains_iff_mem, List.mem_append, List.mem_singleton, Bool.or_eq_true]
  constructor
  · rintro (h | h)
    · exact .inl h
    · exact .inr h.symm
  · rintro (h | h)
    · exact .inl h
    · exact .inr h.symm
set_option maxRecDepth 100000 in
set_option maxHeartbeats 1000000 in
theorem fitW_c (z r : Int) (h : z = 0 ∧ r = 0 ∨ z = 1 ∧ r = 1 ∨ z = 2 ∧ r = 1) (w : World) : Calls Try.prog 43 #[.int .i64 z] w fun e w' => e = .returned (.int .i64 r) ∧ Below w.heap.size w w' := by
  rcases h with ⟨rfl, rfl⟩ | ⟨rfl, rfl⟩ | ⟨rfl, rfl⟩
  all_goals
    go_enter Try.func43, Try.ntmps43
    go_wp2
    go_ret
    exact ⟨rfl, Below.refl _ _⟩
set_option maxRecDepth 100000 in
set_option maxHeartbeats 1000000 in
theorem visitW_c (b : Bool) (bn m : Nat) (w : World) (hB : Blk w bn [.int .i64 m] 2) (hm : m ≤ 1000000) : Calls Try.prog 44 #[.int .i64 (b2i b), .pointer (some ⟨bn, 0, none⟩)] w fun e w' =>
    e = .returned (.bool b) ∧ Blk w' bn [.int .i64 (if b = true then (m + 1 : Nat) else m : Nat)] 2 ∧ Fr (· = bn) w w' := by
  have c0 := hB.cell 0 (by simp)
  have f0 := hB.frozen 0
  simp only [List.getElem_cons_zero] at c0
  have hw : IntKind.i64.wrap ((m : Int) + 1) = ((m + 1 : Nat) : Int) := by rw [IntWalk.i64_in _ (by omega)]; omega
  have HB := Lib.hid hB
  clear hB
  cases b
  · rw [show b2i false = 0 from rfl]
    go_enter Try.func44, Try.ntmps44
    go_wp2
    go_ret
    exact ⟨rfl, HB.out, Fr.refl _ _⟩
  · rw [show b2i true = 1 from rfl]
    go_enter Try.func44, Try.ntmps44
    go_wp2
    go_ret
    exact ⟨rfl, HB.out.set 0 _, (Fr.refl _ _).set rfl⟩
set_option maxRecDepth 100000 in
set_option maxHeartbeats 1000000 in
theorem sequenceW_c (g : Nat) (c : Int) (A : Option Addr) (n cx : Nat) (h : Int) (S : Nat) (cols : List Col) (bn q : Nat) (w : World) (hS1 : 1 ≤ S) (hS2 : S ≤ 100000) (hC : Codes S cols) (hcl : cols.length ≤ 1000000)
    (hR : StripR w g c A n cx h S cols) (hbn : Blk w bn [.int .i64 (0 : Nat)] 2) (hq : q ≤ 1000000) (hgo : ∀ i, i < q → (endL S cols true false (i + 1)).contains true = true) (hst : (endL S cols true false (q + 1)).contains true = false) (hsep : ∀ w', Fr (· = bn) w w' → StripR w' g c A n cx h S cols) :
    Calls Try.prog 42 #[.pointer (some ⟨g, 0, none⟩), .func (.func 43) #[] #[], .func (.func 44) #[] #[.pointer (some ⟨bn, 0, none⟩)]] w fun e w' => e = .returned (.tuple #[]) ∧ Blk w' bn [.int .i64 q] 2 ∧ Fr (· = bn) w w' := by
  have HSep := Lib.hid hsep
  have HC := Lib.hid hC
  have HGo := Lib.hid hgo
  have HStop := Lib.hid hst
  have HRep := Lib.hid (fun (g0 : Nat) (wq : World) hc => repeatI_c S g0 wq hS1 (by omega) hc)
  obtain ⟨C0, cc0, hB0, _⟩ := id hR
  have c2 := hB0.cell 3 (by simp)
  simp only [List.getElem_cons_zero, List.getElem_cons_succ] at c2
  have C2 := Lib.hid (keepC c2)
  have HBn := Lib.hid hbn
  have hbl := hbn.lt
  have hg := hB0.lt
  clear hsep hC hgo hst hR hB0 hbn
  go_enter Try.func42, Try.ntmps42
  go_wp2_with fail
  refine (HRep.out _ _ ?_).mono ?_
  · (repeat (first | (exact cell_al _ _ _ _ _ _ (by simp) rfl) | (refine cell_alloc_old _ _ _ _ _ ?_)))
  rintro e w1 ⟨v, rfl, hO, hb1⟩
  have Hw1 : Hid (Below w.heap.size w w1) := by (show Below _ _ _); (repeat (first | (with_reducible exact Below.refl _ _) | (with_reducible assumption) | (with_reducible refine below_al ?_) | (with_reducible refine below_dr ?_) | (with_reducible refine below_drN ?_) | (with_reducible refine below_set ?_ (by first | exact Nat.le_refl _ | (dsimp only; omega) | omega)) | (with_reducible refine below_tr (by with_reducible assumption) ?_)))
  have HO := Lib.hid (hO.weaken (B' := w.heap.size) (le_al (Nat.le_refl _)))
  clear hO hb1 c2
  go_wp2_with fail
  go_loopg [6] (q) (fun k v wr => ∃ m : Nat, Hid (k + m = q) ∧ Hid (OwnI wr w.heap.size v (bint (endL S cols true false m))) ∧ Hid (Blk wr bn [.int .i64 m] 2) ∧ Hid (Fr (· = bn) w wr))
  case atStart => exact ⟨0, Lib.hid (by omega), Lib.hid (by rw [show endL S cols true false 0 = List.replicate S true from rfl, bint_true]; exact HO.out), Lib.hid (HBn.out.under Hw1.out), Lib.hid (Fr.below Hw1.out)⟩
  case round =>
    obtain ⟨m, HQ, HOj, HBnj, HFj⟩ := hrel
    obtain ⟨wj, rfl⟩ : ∃ wj, wj = wr := ⟨wr, rfl⟩
    have hmq : m ≤ q := by have := HQ.out; omega
    obtain ⟨C, cc, hB, hCo⟩ := HSep.out wj HFj.out
    have HCo := Lib.hid hCo
    have hlen := endL_len S cols true false m
    have HSu : Hid (endL S cols true false (m + 1) = ago S cols true false (endL S cols true false m)) := rfl
    obtain ⟨An, kn, rfl, hrd, _⟩ := HOj.out.shape
    have HRd := Lib.hid hrd
    have hgoS := HGo.out m
    generalize endL S cols true false m = now at *
    have c2 := hB.cell 3 (by simp)
    have c3 := hB.cell 4 (by simp)
    simp only [List.getElem_cons_zero, List.getElem_cons_succ] at c2 c3
    have hgj : g < wj.heap.size := hB.lt
    have hm := fun w => make_i64 S (by omega) w
    have HLn := Lib.hid hlen
    have HGoS := Lib.hid hgoS
    rw [bint_len, hlen] at HOj
    rw [bint_len, hlen]
    clear hlen hB hCo hrd hgoS
    go_wp2_with fail
    clear hm c2 c3
    go_loopw [29] (fun iv wr => ∃ k : Nat, k ≤ cols.length ∧ iv = .int .i64 k ∧ Hid (OwnI wr wj.heap.size (.slice (some ⟨wj.heap.size, 0, none⟩) S S) (bint (ago S (cols.take k) true false now))) ∧ Hid (Below wj.heap.size wj wr)) (fun i _ => cols.length - (intOf i).toNat)
    case atStart => exact ⟨0, by omega, rfl, Lib.hid (by have h9 := OwnI.made wj wj.heap.size (madeCells #[.int .i64 0] S) (List.replicate S 0) (by rw [toList_madeCells_one]; simp [ints]) (Nat.le_refl _) (by simp; omega); rw [List.length_replicate] at h9; rw [List.take_zero, show ago S [] true false now = List.replicate S false from rfl, bint_false]; exact h9), Lib.hid (by (repeat (first | (with_reducible exact Below.refl _ _) | (with_reducible assumption) | (with_reducible refine below_al ?_) | (with_reducible refine below_dr ?_) | (with_reducible refine below_drN ?_) | (with_reducible refine below_set ?_ (by first | exact Nat.le_refl _ | (dsimp only; omega) | omega)) | (with_reducible refine below_tr (by with_reducible assumption) ?_))))⟩
    case round =>
      obtain ⟨k, hk, rfl, HOk, HBk⟩ := hrel
      obtain ⟨wk, rfl⟩ : ∃ wk, wk = wr := ⟨wr, rfl⟩
      by_cases hkl : k < cols.length
      · obtain ⟨b2, off2, rfl, hlt2, y0, y1, y2⟩ := (HCo.out.below HBk.out) k hkl
        obtain ⟨⟨w0, w1'⟩, e0, e1⟩ := HC.out _ (List.getElem_mem hkl)
        have HTg := Lib.hid (ago_take S cols true false now k hkl)
        have hnl := ago_len S (cols.take k) true false now
        generalize ago S (cols.take k) true false now = nx at *
        generalize cols[k] = col at *
        have hz1 : col.w.toNat < now.length := by have := HLn.out; omega
        have hz2 : col.e.toNat < nx.length := by omega
        have HE := Lib.hid (HTg.out.trans (astep_put true false now nx col hz2 hz1).symm)
        obtain ⟨wi, hwi⟩ := Int.eq_ofNat_of_zero_le w0
        obtain ⟨ei, hei⟩ := Int.eq_ofNat_of_zero_le e0
        obtain ⟨b3, off3, rfl, hlt3, n0⟩ := HRd.out.int col.w.toNat (by rw [bint_len]; exact hz1)
        obtain ⟨g4, hg4, _, gl, n1, n2⟩ := HOk.out.at_ col.e.toNat (by rw [bint_len]; exact hz2)
        injection hg4 with hg4; injection hg4 with hg4 _; subst hg4
        rw [bint_get _ _ hz1] at n0
        rw [bint_get _ _ hz2] at n1
        simp only [sel, Bool.false_eq_true, if_true, if_false, hwi, hei, Int.toNat_natCast] at n0 n1 n2 hz1 hz2 HE
        rw [hwi] at y0
        rw [hei] at y1
        have hlw : wi < S := by omega
        have hle : ei < S := by omega
        obtain ⟨wt, hwt⟩ : ∃ wt, wt = wk.alloc (.cells #[.int .i64 wi, .int .i64 ei, .int .i64 col.n] 88) := ⟨_, rfl⟩
        have HBt := Lib.hid (show Below wk.heap.size wk wt by rw [hwt]; (repeat (first | (with_reducible exact Below.refl _ _) | (with_reducible assumption) | (with_reducible refine below_al ?_) | (with_reducible refine below_dr ?_) | (with_reducible refine below_drN ?_) | (with_reducible refine below_set ?_ (by first | exact Nat.le_refl _ | (dsimp only; omega) | omega)) | (with_reducible refine below_tr (by with_reducible assumption) ?_))))
        have HOt := Lib.hid (HOk.out.below HBt.out)
        have N0 := keepC (keepC ((HBk.out.cell (p := ⟨b3, off3 + wi, none⟩) hlt3).trans n0) _ HBt.out)
        have N1 := keepC (keepC n1 _ HBt.out)
        have F1 := fun wz (hz : Below wt.heap.size wt wz) => (hz.frozen (p := ⟨wj.heap.size, ei, none⟩) (Nat.lt_of_lt_of_le gl HBt.out.size)).trans ((HBt.out.frozen (p := ⟨wj.heap.size, ei, none⟩) gl).trans n2)
        have U0 := keepC (show wt.cell? ⟨wk.heap.size, 0, none⟩ = some (.int .i64 wi) by rw [hwt]; exact cell_alloc_at _ _ _ _ _ rfl)
        have U1 := keepC (show wt.cell? ⟨wk.heap.size, 1, none⟩ = some (.int .i64 ei) by rw [hwt]; exact cell_alloc_at _ _ _ _ _ rfl)
        replace hwt := Lib.hid hwt
        clear n0 n1 n2
        obtain ⟨bn', hbn'⟩ : ∃ bn', nx[ei] = bn' := ⟨_, rfl⟩
        obtain ⟨bw, hbw⟩ : ∃ bw, now[wi] = bw := ⟨_, rfl⟩
        rw [hbn'] at N1 HE
        rw [hbw] at N0 HE
        clear hbn' hbw hwi hei hz1 hz2 hnl
        cases bn' <;> cases bw
        all_goals
          simp only [b2i, Bool.false_eq_true, if_true, if_false] at N0 N1
          go_wp2_with fail
          rw [← hwt.out]
          refine wp_region_add_tail 17 (fun w' => Below (wt).heap.size (wt) w') (by kernel_rfl) (by kernel_rfl) ((Below.refl _ _).drew) ?_
          simp only [List.take_succ_cons, List.take_zero, List.drop_succ_cons, List.drop_zero]
          repeat (first
            | (refine add_skip rfl (fun K' hK' => ?_); go_simp; refine hK' _ ?_; clear hK' K')
            | (refine add_do (v := ?_) rfl (fun w1 hb => ?_) (fun K' hK' => ?_); rotate_left
               · go_simp
                 first
                 | (with_reducible exact rfl)
                 | (with_reducible exact ⟨rfl, hb⟩)
                 | (with_reducible exact (addCall (fitW_c 0 0 (by decide) w1) hb).2)
                 | (with_reducible exact (addCall (fitW_c 1 1 (by decide) w1) hb).2)
                 | (with_reducible exact (addCall (fitW_c 2 1 (by decide) w1) hb).2)
                 | exact (addCall (fitW_c 0 0 (by decide) w1) hb).2
                 | exact (addCall (fitW_c 1 1 (by decide) w1) hb).2
                 | exact (addCall (fitW_c 2 1 (by decide) w1) hb).2
                 | exact rfl
                 | exact ⟨rfl, hb⟩
               go_simp; refine hK' _ ?_; clear hK' K'))
          refine add_nil ?_
          intro wa hba
          have f1 := F1 _ hba
          have HOa := Lib.hid ((HOt.out.below hba).set ei)
          have n1a := N1 _ hba
          have HBa := Lib.hid (HBk.out.trans ((HBt.out.trans (hba.mono HBt.out.size)).mono HBk.out.size))
          clear hba N0 N1 F1 U0 U1
          go_wp2_with fail
          go_roundw
          case rel => exact ⟨k + 1, by omega, by go_num, Lib.hid (by rw [HE.out, ← bint_set]; exact (HOa.out _).1), Lib.hid (HBa.out.setCell (Nat.le_refl _) _)⟩
          case measure => simp [intOf]; omega
      · obtain rfl : k = cols.length := by omega
        rw [List.take_length] at HOk
        have HGoS2 := Lib.hid (show m < q → (ago S cols true false now).contains true = true from fun hlt => by rw [← HSu.out]; exact HGoS.out hlt)
        have HSt2 := Lib.hid (show m = q → (ago S cols true false now).contains true = false from fun e => by rw [← HSu.out, e]; exact HStop.out)
        have hnl := ago_len S cols true false now
        have HSu2 := Lib.hid HSu.out
        generalize hnx : ago S cols true false now = nx at *
        have hz : (bint nx).length = S := by rw [bint_len]; exact hnl
        have HNl := Lib.hid hnl
        have HNx := Lib.hid hnx
        clear hz hnl hnx
        go_wp2_with fail
        go_loopw [8, 53] (fun sv iv wr => ∃ k : Nat, k ≤ S ∧ iv = .int .i64 k ∧ sv = .int .i64 (b2i (anyTo nx k)) ∧ Hid (Below wk.heap.size wk wr)) (fun _ i _ => S - (intOf i).toNat)
        case atStart => exact ⟨0, by omega, rfl, rfl, Lib.hid (Below.refl _ _)⟩
        case round =>
          obtain ⟨k, hk, rfl, rfl, HBs⟩ := hrel
          obtain ⟨ws, rfl⟩ : ∃ ws, ws = wr := ⟨wr, rfl⟩
          by_cases hkS : k < S
          · have hkn : k < nx.length := by have := HNl.out; omega
            obtain ⟨g4, hg4, _, gl, n1, n2⟩ := (HOk.out.below HBs.out).at_ k (by rw [bint_len]; exact hkn)
            injection hg4 with hg4; injection hg4 with hg4 _; subst hg4
            rw [bint_get _ _ hkn] at n1
            have HAn := Lib.hid (anyTo_succ nx k hkn)
            generalize nx[k] = x at *
            generalize anyTo nx k = y at *
            cases x <;> cases y
            all_goals
              simp only [b2i, Bool.false_eq_true, if_true, if_false] at n1
              simp only [b2i, Bool.false_eq_true, if_true, if_false]
              go_wp2_with (go_at_call 43; (first | refine (fitW_c 0 0 (by decide) _).mono ?_ | refine (fitW_c 1 1 (by decide) _).mono ?_ | refine (fitW_c 2 1 (by decide) _).mono ?_); rintro e w5 ⟨rfl, hb5⟩)
              go_roundw
              case rel => exact ⟨k + 1, by omega, by go_num, by rw [HAn.out]; rfl, Lib.hid (HBs.out.trans (hb5.mono HBs.out.size))⟩
              case measure => simp [intOf]; omega
          · obtain rfl : k = S := by omega
            have hany : anyTo nx k = nx.contains true := by unfold anyTo; rw [List.take_of_length_le (by have := HNl.out; omega)]
            rw [hany]
            have HBn5 := Lib.hid ((HBnj.out.under HBk.out).under HBs.out)
            have HO5 := Lib.hid (HOk.out.below HBs.out)
            have HF5 := Lib.hid (HFj.out.trans ((Fr.below HBk.out).hop (Fr.below HBs.out) (fun k hk => .inl hk)))
            clear hany
            have HV := Lib.hid (visitW_c (nx.contains true) bn m ws HBn5.out (by omega))
            cases hb : nx.contains true
            · rw [hb] at HV
              have hmq2 : m = q := by
                refine Classical.byContradiction fun hne => ?_
                have := HGoS2.out (by omega)
                rw [hb] at this; cases this
              subst hmq2
              replace hb := Lib.hid hb
              go_wp2_with fail
              refine HV.out.mono ?_
              rintro e w6 ⟨rfl, hB6, hF6⟩
              have HB6 := Lib.hid hB6
              have HF6 := Lib.hid (HF5.out.trans (hF6.hop (Fr.refl _ _) (fun k hk => .inl hk)))
              clear hB6 hF6
              go_wp2
              refine bodyPost_ret (results_none rfl _ _ _) rfl ?_
              exact ⟨rfl, HB6.out, HF6.out⟩
            · rw [hb] at HV
              have hmq2 : m < q := by
                refine Classical.byContradiction fun hne => ?_
                have := HSt2.out (by omega)
                rw [hb] at this; cases this
              replace hb := Lib.hid hb
              go_wp2_with fail
              refine HV.out.mono ?_
              rintro e w6 ⟨rfl, hB6, hF6⟩
              have HB6 := Lib.hid hB6
              have HO6 := Lib.hid (HO5.out)
              have HF6 := Lib.hid (HF5.out.trans (hF6.hop (Fr.refl _ _) (fun k hk => .inl hk)))
              have HF6' := Lib.hid hF6
              clear hB6 hF6
              go_wp2_with fail
              go_roundg (q - (m + 1))
              case rel => exact ⟨m + 1, Lib.hid (by omega), Lib.hid (by rw [HSu2.out]; exact OwnI.weaken (own_same HO6.out fun k hk => HF6'.out.block k (World.ownsRow.lt HO6.out k hk).2 (fun e => by have h7 := (World.ownsRow.lt HO6.out k hk).1; have h8 := HFj.out.size; have e : k = bn := e; omega)) HFj.out.size), Lib.hid HB6.out, HF6⟩
              case measure => have := HQ.out; omega

end Go.Proofs.Ytpcooplalncdcaa
