/- Contracts and lemmas for the statements of this seat, written for this claim; each theorem states its own conditions. -/
import Derived.Test.YtnoehaphbpkpjaaGreatFoW2
import Derived.Test.YtnoehaphbpkpjaaGreatFoTh1
set_option linter.unusedVariables false
set_option linter.unusedSimpArgs false
namespace Go.Proofs.YtnoehaphbpkpjaaGreat
open Go.RowKit
attribute [local go_sem] addUpon_value addUpon_skip addUpon_enter
def b2i (b : Bool) : Int := if b = true then 1 else 0
def bint (xs : List Bool) : List Int := xs.map b2i
theorem bint_len (xs : List Bool) : (bint xs).length = xs.length := by simp [bint]
theorem bint_set (xs : List Bool) (k : Nat) (b : Bool) : (bint xs).set k (b2i b) = bint (xs.set k b) := by simp [bint, List.map_set]
theorem bint_get (xs : List Bool) (k : Nat) (h : k < xs.length) (h' : k < (bint xs).length) : (bint xs)[k] = b2i xs[k] := by simp [bint]
theorem bint_false (n : Nat) : bint (List.replicate n false) = List.replicate n 0 := by simp [bint, b2i]
theorem bint_true (n : Nat) : bint (List.replicate n true) = List.replicate n 1 := by simp [bint, b2i]
/-- what is summed up of truth values, made fit -/
def anyTo (xs : List Bool) (k : Nat) : Bool := (xs.take k).contains true
theorem anyTo_succ (xs : List Bool) (k : Nat) (h : k < xs.length) : anyTo xs (k + 1) = (anyTo xs k || xs[k]) := by
  unfold anyTo
  rw [List.take_succ_eq_append_getElem h, Bool.eq_iff_iff]
  simp only [List.contains_iff_mem, List.mem_append, List.mem_singleton, Bool.or_eq_true]
  constructor
  · rintro (h | h)
    · exact .inl h
    · exact .inr h.symm
  · rintro (h | h)
    · exact .inl h
    · exact .inr h.symm
set_option maxRecDepth 100000 in
set_option maxHeartbeats 1000000 in
theorem fitW_c (z r : Int) (h : z = 0 ∧ r = 0 ∨ z = 1 ∧ r = 1 ∨ z = 2 ∧ r = 1) (w : World) : Calls Tryz.prog 78 #[.int .i64 z] w fun e w' => e = .returned (.int .i64 r) ∧ Below w.heap.size w w' := by
  rcases h with ⟨rfl, rfl⟩ | ⟨rfl, rfl⟩ | ⟨rfl, rfl⟩
  all_goals
    go_enter Tryz.func78, Tryz.ntmps78
    go_wp2
    go_ret
    exact ⟨rfl, Below.refl _ _⟩
set_option maxRecDepth 100000 in
set_option maxHeartbeats 1000000 in
theorem visitW_c (b : Bool) (bn m : Nat) (w : World) (hB : Blk w bn [.int .i64 m] 2) (hm : m ≤ 1000000) : Calls Tryz.prog 79 #[.int .i64 (b2i b), .pointer (some ⟨bn, 0, none⟩)] w fun e w' =>
    e = .returned (.bool b) ∧ Blk w' bn [.int .i64 (if b = true then (m + 1 : Nat) else m : Nat)] 2 ∧ Fr (· = bn) w w' := by
  have c0 := hB.cell 0 (by simp)
  have f0 := hB.frozen 0
  simp only [List.getElem_cons_zero] at c0
  have hw : IntKind.i64.wrap ((m : Int) + 1) = ((m + 1 : Nat) : Int) := by rw [IntWalk.i64_in _ (by omega)]; omega
  have HB := Lib.hid hB
  clear hB
  cases b
  · rw [show b2i false = 0 from rfl]
    go_enter Tryz.func79, Tryz.ntmps79
    go_wp2
    go_ret
    exact ⟨rfl, HB.out, Fr.refl _ _⟩
  · rw [show b2i true = 1 from rfl]
    go_enter Tryz.func79, Tryz.ntmps79
    go_wp2
    go_ret
    exact ⟨rfl, HB.out.set 0 _, (Fr.refl _ _).set rfl⟩
set_option maxRecDepth 100000 in
set_option maxHeartbeats 1000000 in
theorem sequenceW_c (g : Nat) (c : Int) (A : Option Addr) (n cx : Nat) (h : Int) (S : Nat) (cols : List Col) (bn q : Nat) (w : World) (hS1 : 1 ≤ S) (hS2 : S ≤ 100000) (hC : Codes S cols) (hcl : cols.length ≤ 1000000)
    (hR : StripR w g c A n cx h S cols) (hbn : Blk w bn [.int .i64 (0 : Nat)] 2) (hq : q ≤ 1000000) (hgo : ∀ i, i < q → (endL S cols true false (i + 1)).contains true = true) (hst : (endL S cols true false (q + 1)).contains true = false) (hsep : ∀ w', Fr (· = bn) w w' → StripR w' g c A n cx h S cols) :
    Calls Tryz.prog 52 #[.pointer (some ⟨g, 0, none⟩), .func (.func 78) #[] #[], .func (.func 79) #[] #[.pointer (some ⟨bn, 0, none⟩)]] w fun e w' => e = .returned (.tuple #[]) ∧ Blk w' bn [.int .i64 q] 2 ∧ Fr (· = bn) w w' := by
  have HSep := Lib.hid hsep
  have HC := Lib.hid hC
  have HGo := Lib.hid hgo
  have HStop := Lib.hid hst
  have HRep := Lib.hid (fun (g0 : Nat) (wq : World) hc => repeatI_c S g0 wq hS1 (by omega) hc)
  obtain ⟨C0, cc0, hB0, _⟩ := id hR
  have c2 := hB0.cell 3 (by simp)
  simp only [List.getElem_cons_zero, List.getElem_cons_succ] at c2
  have C2 := Lib.hid (keepC c2)
  have HBn := Lib.hid hbn
  have hbl := hbn.lt
  have hg := hB0.lt
  clear hsep hC hgo hst hR hB0 hbn
  go_enter Tryz.func52, Tryz.ntmps52
  go_wp2_with fail
  refine (HRep.out _ _ ?_).mono ?_
  · (repeat (first | (exact cell_al _ _ _ _ _ _ (by simp) rfl) | (refine cell_alloc_old _ _ _ _ _ ?_)))
  rintro e w1 ⟨v, rfl, hO, hb1⟩
  have Hw1 : Hid (Below w.heap.size w w1) := by (show Below _ _ _); (repeat (first | (with_reducible exact Below.refl _ _) | (with_reducible assumption) | (with_reducible refine below_al ?_) | (with_reducible refine below_dr ?_) | (with_reducible refine below_drN ?_) | (with_reducible refine below_set ?_ (by first | exact Nat.le_refl _ | (dsimp only; omega) | omega)) | (with_reducible refine below_tr (by with_reducible assumption) ?_)))
  have HO := Lib.hid (hO.weaken (B' := w.heap.size) (le_al (Nat.le_refl _)))
  clear hO hb1 c2
  go_wp2_with fail
  go_loopg [6] (q) (fun k v wr => ∃ m : Nat, Hid (k + m = q) ∧ Hid (OwnI wr w.heap.size v (bint (endL S cols true false m))) ∧ Hid (Blk wr bn [.int .i64 m] 2) ∧ Hid (Fr (· = bn) w wr))
  case atStart => exact ⟨0, Lib.hid (by omega), Lib.hid (by rw [show endL S cols true false 0 = List.replicate S true from rfl, bint_true]; exact HO.out), Lib.hid (HBn.out.under Hw1.out), Lib.hid (Fr.below Hw1.out)⟩
  case round =>
    obtain ⟨m, HQ, HOj, HBnj, HFj⟩ := hrel
    obtain ⟨wj, rfl⟩ : ∃ wj, wj = wr := ⟨wr, rfl⟩
    have hmq : m ≤ q := by have := HQ.out; omega
    obtain ⟨C, cc, hB, hCo⟩ := HSep.out wj HFj.out
    have HCo := Lib.hid hCo
    have hlen := endL_len S cols true false m
    have HSu : Hid (endL S cols true false (m + 1) = ago S cols true false (endL S cols true false m)) := rfl
    obtain ⟨An, kn, rfl, hrd, _⟩ := HOj.out.shape
    have HRd := Lib.hid hrd
    have hgoS := HGo.out m
    generalize endL S cols true false m = now at *
    have c2 := hB.cell 3 (by simp)
    have c3 := hB.cell 4 (by simp)
    simp only [List.getElem_cons_zero, List.getElem_cons_succ] at c2 c3
    have hgj : g < wj.heap.size := hB.lt
    have hm := fun w => make_i64 S (by omega) w
    have HLn := Lib.hid hlen
    have HGoS := Lib.hid hgoS
    rw [bint_len, hlen] at HOj
    rw [bint_len, hlen]
    clear hlen hB hCo hrd hgoS
    go_wp2_with fail
    clear hm c2 c3
    go_loopw [29] (fun iv wr => ∃ k : Nat, k ≤ cols.length ∧ iv = .int .i64 k ∧ Hid (OwnI wr wj.heap.size (.slice (some ⟨wj.heap.size, 0, none⟩) S S) (bint (ago S (cols.take k) true false now))) ∧ Hid (Below wj.heap.size wj wr)) (fun i _ => cols.length - (intOf i).toNat)
    case atStart => exact ⟨0, by omega, rfl, Lib.hid (by have h9 := OwnI.made wj wj.heap.size (madeCells #[.int .i64 0] S) (List.replicate S 0) (by rw [toList_madeCells_one]; simp [ints]) (Nat.le_refl _) (by simp; omega); rw [List.length_replicate] at h9; rw [List.take_zero, show ago S [] true false now = List.replicate S false from rfl, bint_false]; exact h9), Lib.hid (by (repeat (first | (with_reducible exact Below.refl _ _) | (with_reducible assumption) | (with_reducible refine below_al ?_) | (with_reducible refine below_dr ?_) | (with_reducible refine below_drN ?_) | (with_reducible refine below_set ?_ (by first | exact Nat.le_refl _ | (dsimp only; omega) | omega)) | (with_reducible refine below_tr (by with_reducible assumption) ?_))))⟩
    case round =>
      obtain ⟨k, hk, rfl, HOk, HBk⟩ := hrel
      obtain ⟨wk, rfl⟩ : ∃ wk, wk = wr := ⟨wr, rfl⟩
      by_cases hkl : k < cols.length
      · obtain ⟨b2, off2, rfl, hlt2, y0, y1, y2⟩ := (HCo.out.below HBk.out) k hkl
        obtain ⟨⟨w0, w1'⟩, e0, e1⟩ := HC.out _ (List.getElem_mem hkl)
        have HTg := Lib.hid (ago_take S cols true false now k hkl)
        have hnl := ago_len S (cols.take k) true false now
        generalize ago S (cols.take k) true false now = nx at *
        generalize cols[k] = col at *
        have hz1 : col.w.toNat < now.length := by have := HLn.out; omega
        have hz2 : col.e.toNat < nx.length := by omega
        have HE := Lib.hid (HTg.out.trans (astep_put true false now nx col hz2 hz1).symm)
        obtain ⟨wi, hwi⟩ := Int.eq_ofNat_of_zero_le w0
        obtain ⟨ei, hei⟩ := Int.eq_ofNat_of_zero_le e0
        obtain ⟨b3, off3, rfl, hlt3, n0⟩ := HRd.out.int col.w.toNat (by rw [bint_len]; exact hz1)
        obtain ⟨g4, hg4, _, gl, n1, n2⟩ := HOk.out.at_ col.e.toNat (by rw [bint_len]; exact hz2)
        injection hg4 with hg4; injection hg4 with hg4 _; subst hg4
        rw [bint_get _ _ hz1] at n0
        rw [bint_get _ _ hz2] at n1
        simp only [sel, Bool.false_eq_true, if_true, if_false, hwi, hei, Int.toNat_natCast] at n0 n1 n2 hz1 hz2 HE
        rw [hwi] at y0
        rw [hei] at y1
        have hlw : wi < S := by omega
        have hle : ei < S := by omega
        obtain ⟨wt, hwt⟩ : ∃ wt, wt = wk.alloc (.cells #[.int .i64 wi, .int .i64 ei, .int .i64 col.n] 104) := ⟨_, rfl⟩
        have HBt := Lib.hid (show Below wk.heap.size wk wt by rw [hwt]; (repeat (first | (with_reducible exact Below.refl _ _) | (with_reducible assumption) | (with_reducible refine below_al ?_) | (with_reducible refine below_dr ?_) | (with_reducible refine below_drN ?_) | (with_reducible refine below_set ?_ (by first | exact Nat.le_refl _ | (dsimp only; omega) | omega)) | (with_reducible refine below_tr (by with_reducible assumption) ?_))))
        have HOt := Lib.hid (HOk.out.below HBt.out)
        have N0 := keepC (keepC ((HBk.out.cell (p := ⟨b3, off3 + wi, none⟩) hlt3).trans n0) _ HBt.out)
        have N1 := keepC (keepC n1 _ HBt.out)
        have F1 := fun wz (hz : Below wt.heap.size wt wz) => (hz.frozen (p := ⟨wj.heap.size, ei, none⟩) (Nat.lt_of_lt_of_le gl HBt.out.size)).trans ((HBt.out.frozen (p := ⟨wj.heap.size, ei, none⟩) gl).trans n2)
        have U0 := keepC (show wt.cell? ⟨wk.heap.size, 0, none⟩ = some (.int .i64 wi) by rw [hwt]; exact cell_alloc_at _ _ _ _ _ rfl)
        have U1 := keepC (show wt.cell? ⟨wk.heap.size, 1, none⟩ = some (.int .i64 ei) by rw [hwt]; exact cell_alloc_at _ _ _ _ _ rfl)
        replace hwt := Lib.hid hwt
        clear n0 n1 n2
        obtain ⟨bn', hbn'⟩ : ∃ bn', nx[ei] = bn' := ⟨_, rfl⟩
        obtain ⟨bw, hbw⟩ : ∃ bw, now[wi] = bw := ⟨_, rfl⟩
        rw [hbn'] at N1 HE
        rw [hbw] at N0 HE
        clear hbn' hbw hwi hei hz1 hz2 hnl
        cases bn' <;> cases bw
        all_goals
          simp only [b2i, Bool.false_eq_true, if_true, if_false] at N0 N1
          go_wp2_with fail
          rw [← hwt.out]
          refine wp_region_add_tail 17 (fun w' => Below (wt).heap.size (wt) w') (by kernel_rfl) (by kernel_rfl) ((Below.refl _ _).drew) ?_
          simp only [List.take_succ_cons, List.take_zero, List.drop_succ_cons, List.drop_zero]
          repeat (first
            | (refine add_skip rfl (fun K' hK' => ?_); go_simp; refine hK' _ ?_; clear hK' K')
            | (refine add_do (v := ?_) rfl (fun w1 hb => ?_) (fun K' hK' => ?_); rotate_left
               · go_simp
                 first
                 | (with_reducible exact rfl)
                 | (with_reducible exact ⟨rfl, hb⟩)
                 | (with_reducible exact (addCall (fitW_c 0 0 (by decide) w1) hb).2)
                 | (with_reducible exact (addCall (fitW_c 1 1 (by decide) w1) hb).2)
                 | (with_reducible exact (addCall (fitW_c 2 1 (by decide) w1) hb).2)
                 | exact (addCall (fitW_c 0 0 (by decide) w1) hb).2
                 | exact (addCall (fitW_c 1 1 (by decide) w1) hb).2
                 | exact (addCall (fitW_c 2 1 (by decide) w1) hb).2
                 | exact rfl
                 | exact ⟨rfl, hb⟩
               go_simp; refine hK' _ ?_; clear hK' K'))
          refine add_nil ?_
          intro wa hba
          have f1 := F1 _ hba
          have HOa := Lib.hid ((HOt.out.below hba).set ei)
          have n1a := N1 _ hba
          have HBa := Lib.hid (HBk.out.trans ((HBt.out.trans (hba.mono HBt.out.size)).mono HBk.out.size))
          clear hba N0 N1 F1 U0 U1
          go_wp2_with fail
          go_roundw
          case rel => exact ⟨k + 1, by omega, by go_num, Lib.hid (by rw [HE.out, ← bint_set]; exact (HOa.out _).1), Lib.hid (HBa.out.setCell (Nat.le_refl _) _)⟩
          case measure => simp [intOf]; omega
      · obtain rfl : k = cols.length := by omega
        rw [List.take_length] at HOk
        have HGoS2 := Lib.hid (show m < q → (ago S cols true false now).contains true = true from fun hlt => by rw [← HSu.out]; exact HGoS.out hlt)
        have HSt2 := Lib.hid (show m = q → (ago S cols true false now).contains true = false from fun e => by rw [← HSu.out, e]; exact HStop.out)
        have hnl := ago_len S cols true false now
        have HSu2 := Lib.hid HSu.out
        generalize hnx : ago S cols true false now = nx at *
        have hz : (bint nx).length = S := by rw [bint_len]; exact hnl
        have HNl := Lib.hid hnl
        have HNx := Lib.hid hnx
        clear hz hnl hnx
        go_wp2_with fail
        go_loopw [8, 53] (fun sv iv wr => ∃ k : Nat, k ≤ S ∧ iv = .int .i64 k ∧ sv = .int .i64 (b2i (anyTo nx k)) ∧ Hid (Below wk.heap.size wk wr)) (fun _ i _ => S - (intOf i).toNat)
        case atStart => exact ⟨0, by omega, rfl, rfl, Lib.hid (Below.refl _ _)⟩
        case round =>
          obtain ⟨k, hk, rfl, rfl, HBs⟩ := hrel
          obtain ⟨ws, rfl⟩ : ∃ ws, ws = wr := ⟨wr, rfl⟩
          by_cases hkS : k < S
          · have hkn : k < nx.length := by have := HNl.out; omega
            obtain ⟨g4, hg4, _, gl, n1, n2⟩ := (HOk.out.below HBs.out).at_ k (by rw [bint_len]; exact hkn)
            injection hg4 with hg4; injection hg4 with hg4 _; subst hg4
            rw [bint_get _ _ hkn] at n1
            have HAn := Lib.hid (anyTo_succ nx k hkn)
            generalize nx[k] = x at *
            generalize anyTo nx k = y at *
            cases x <;> cases y
            all_goals
              simp only [b2i, Bool.false_eq_true, if_true, if_false] at n1
              simp only [b2i, Bool.false_eq_true, if_true, if_false]
              go_wp2_with (go_at_call 78; (first | refine (fitW_c 0 0 (by decide) _).mono ?_ | refine (fitW_c 1 1 (by decide) _).mono ?_ | refine (fitW_c 2 1 (by decide) _).mono ?_); rintro e w5 ⟨rfl, hb5⟩)
              go_roundw
              case rel => exact ⟨k + 1, by omega, by go_num, by rw [HAn.out]; rfl, Lib.hid (HBs.out.trans (hb5.mono HBs.out.size))⟩
              case measure => simp [intOf]; omega
          · obtain rfl : k = S := by omega
            have hany : anyTo nx k = nx.contains true := by unfold anyTo; rw [List.take_of_length_le (by have := HNl.out; omega)]
            rw [hany]
            have HBn5 := Lib.hid ((HBnj.out.under HBk.out).under HBs.out)
            have HO5 := Lib.hid (HOk.out.below HBs.out)
            have HF5 := Lib.hid (HFj.out.trans ((Fr.below HBk.out).hop (Fr.below HBs.out) (fun k hk => .inl hk)))
            clear hany
            have HV := Lib.hid (visitW_c (nx.contains true) bn m ws HBn5.out (by omega))
            cases hb : nx.contains true
            · rw [hb] at HV
              have hmq2 : m = q := by
                refine Classical.byContradiction fun hne => ?_
                have := HGoS2.out (by omega)
                rw [hb] at this; cases this
              subst hmq2
              replace hb := Lib.hid hb
              go_wp2_with fail
              refine HV.out.mono ?_
              rintro e w6 ⟨rfl, hB6, hF6⟩
              have HB6 := Lib.hid hB6
              have HF6 := Lib.hid (HF5.out.trans (hF6.hop (Fr.refl _ _) (fun k hk => .inl hk)))
              clear hB6 hF6
              go_wp2
              refine bodyPost_ret (results_none rfl _ _ _) rfl ?_
              exact ⟨rfl, HB6.out, HF6.out⟩
            · rw [hb] at HV
              have hmq2 : m < q := by
                refine Classical.byContradiction fun hne => ?_
                have := HSt2.out (by omega)
                rw [hb] at this; cases this
              replace hb := Lib.hid hb
              go_wp2_with fail
              refine HV.out.mono ?_
              rintro e w6 ⟨rfl, hB6, hF6⟩
              have HB6 := Lib.hid hB6
              have HO6 := Lib.hid (HO5.out)
              have HF6 := Lib.hid (HF5.out.trans (hF6.hop (Fr.refl _ _) (fun k hk => .inl hk)))
              have HF6' := Lib.hid hF6
              clear hB6 hF6
              go_wp2_with fail
              go_roundg (q - (m + 1))
              case rel => exact ⟨m + 1, Lib.hid (by omega), Lib.hid (by rw [HSu2.out]; exact OwnI.weaken (own_same HO6.out fun k hk => HF6'.out.block k (World.ownsRow.lt HO6.out k hk).2 (fun e => by have h7 := (World.ownsRow.lt HO6.out k hk).1; have h8 := HFj.out.size; have e : k = bn := e; omega)) HFj.out.size), Lib.hid HB6.out, HF6⟩
              case measure => have := HQ.out; omega

end Go.Proofs.YtnoehaphbpkpjaaGreat
namespace Go.Proofs.YtnoehaphbpkpjaaGreat
open Go.RowKit
/-- the first number of columns behind which no way of one column more is there -/
def wfN (S : Nat) (cols : List Col) : Option Nat := (List.range (cols.length + 1)).find? fun w => !(endL S cols true false (w + 1)).contains true
theorem wfN_some {S : Nat} {cols : List Col} {q : Nat} (hq : q ≤ cols.length) (h1 : ∀ i, i < q → (endL S cols true false (i + 1)).contains true = true) (h2 : (endL S cols true false (q + 1)).contains true = false) : wfN S cols = some q := by
  unfold wfN
  rw [List.find?_range_eq_some]
  exact ⟨by rw [h2]; rfl, List.mem_range.2 (by omega), fun j hj => by rw [h1 j hj]; rfl⟩
theorem wfN_none {S : Nat} {cols : List Col} (h : ∀ i, i ≤ cols.length → (endL S cols true false (i + 1)).contains true = true) : wfN S cols = none := by
  unfold wfN
  rw [List.find?_eq_none]
  intro x hx
  rw [h x (by have := List.mem_range.1 hx; omega)]
  decide
def wfCode (c : Int) (ts : List T4) (h : Int) : Int := if tsCode c ts h true = 0 then (if (wfN (powC c h.toNat).toNat (lev c ts h.toNat)).isSome = true then 0 else 4) else tsCode c ts h true
def wfVal (c : Int) (ts : List T4) (h : Int) : Int := if tsCode c ts h true = 0 then ((wfN (powC c h.toNat).toNat (lev c ts h.toNat)).getD 0 : Nat) else 0
theorem setOr_some {nx : List Bool} {e : Nat} (b : Bool) (h : e < nx.length) : (nx.set e (nx[e] || b)).contains true = (nx.contains true || b) := by
  cases b
  · simp
  · have : (nx.set e (nx[e] || true)).contains true = true := by
      rw [List.contains_iff_mem]
      exact List.mem_iff_getElem.2 ⟨e, by rw [List.length_set]; exact h, by simp⟩
    rw [this]; simp
set_option maxRecDepth 100000 in
set_option maxHeartbeats 1000000 in
theorem specWidest_c (c : Int) (ts : List T4) (A : Option Addr) (cx : Nat) (h : Int) (w : World) (hT : TileCells w A ts) (hl : ts.length ≤ 1000000000) :
    Calls Tryz.prog 27 #[.agg #[.int .i64 c, .slice A ts.length cx], .int .i64 h] w fun e w' => e = .returned (.tuple #[.int .i64 (wfVal c ts h), .int .i64 (wfCode c ts h)]) ∧ Below w.heap.size w w' := by
  have H2 := Lib.hid (fun (wq : World) (hwq : Below w.heap.size w wq) => l10Code_c c ts A cx h true wq (hT.below hwq) hl)
  have HSz := Lib.hid (fun (hs : isSetB c ts = true) (n : Nat) (h3 : n ≤ 4) w => l06Size_c c ts.length cx n A w (isSetB_parts hs).2.1.1 (isSetB_parts hs).2.1.2 h3)
  have hv : wfVal c ts h = if tsCode c ts h true = 0 then (((wfN (powC c h.toNat).toNat (lev c ts h.toNat)).getD 0 : Nat) : Int) else 0 := rfl
  have hv2 : wfCode c ts h = if tsCode c ts h true = 0 then (if (wfN (powC c h.toNat).toNat (lev c ts h.toNat)).isSome = true then 0 else 4) else tsCode c ts h true := rfl
  have hcol : tsCols c ts h true = if tsCode c ts h true = 0 then lev c ts h.toNat else [] := rfl
  have hz := Lib.hid (tsCode_zero (c := c) (ts := ts) (h := h) (fine := true))
  rw [hcol] at H2
  clear hT hcol
  generalize tsCode c ts h true = code at *
  go_enter Tryz.func27, Tryz.ntmps27
  go_wp2_with fail
  refine (H2.out _ (by (repeat (first | (with_reducible exact Below.refl _ _) | (with_reducible assumption) | (with_reducible refine below_al ?_) | (with_reducible refine below_dr ?_) | (with_reducible refine below_drN ?_) | (with_reducible refine below_set ?_ (by first | exact Nat.le_refl _ | (dsimp only; omega) | omega)) | (with_reducible refine below_tr (by with_reducible assumption) ?_))))).mono ?_
  rintro e w2 ⟨v, rfl, hO, hb2⟩
  have HW : Hid (Below w.heap.size w w2) := by (show Below _ _ _); (repeat (first | (with_reducible exact Below.refl _ _) | (with_reducible assumption) | (with_reducible refine below_al ?_) | (with_reducible refine below_dr ?_) | (with_reducible refine below_drN ?_) | (with_reducible refine below_set ?_ (by first | exact Nat.le_refl _ | (dsimp only; omega) | omega)) | (with_reducible refine below_tr (by with_reducible assumption) ?_)))
  have d0 : w2.cell? ⟨w.heap.size, 0, none⟩ = some (.int .i64 c) := by rw [(bcell hb2).1 _ _ (by simp)]; exact cell_alloc_at _ _ _ _ _ rfl
  have d1 : w2.cell? ⟨w.heap.size, 1, none⟩ = some (.slice A ts.length cx) := by rw [(bcell hb2).1 _ _ (by simp)]; exact cell_alloc_at _ _ _ _ _ rfl
  have hN2 : w.heap.size < w2.heap.size := by have := hb2.size; simp at this; omega
  have HO := Lib.hid hO
  clear hb2 hO
  by_cases hc0 : code = 0
  · subst hc0
    obtain ⟨hs, _, n1, n3, hp⟩ := hz.out rfl
    obtain ⟨n, rfl⟩ := Int.eq_ofNat_of_zero_le (by omega : 0 ≤ h)
    rw [Int.toNat_natCast] at hp
    rw [if_pos rfl, Int.toNat_natCast] at hv hv2 HO
    obtain ⟨_, ⟨c1, c6⟩, h16⟩ := isSetB_parts hs
    have p1 := powC_4 c1 c6 (h := n) (by omega)
    have hll := Nat.le_trans (lev_len c ts n) (pow16 h16 (by omega : n ≤ 3))
    have HCs := Lib.hid (lev_Codes hs n)
    replace HSz := Lib.hid (fun w => HSz.out hs n (by omega) w)
    obtain ⟨S, hS'⟩ := Int.eq_ofNat_of_zero_le (by omega : 0 ≤ powC c n)
    rw [hS'] at HSz HCs p1 hp hv hv2
    rw [Int.toNat_natCast] at HCs hv hv2
    have HV := Lib.hid hv
    have HV2 := Lib.hid hv2
    clear hv hv2 hS' hz h16 n1 n3 hs
    generalize lev c ts n = cols at *
    obtain ⟨Ac, kc, rfl, hRc⟩ := HO.out.rows
    have HRc := Lib.hid hRc
    rw [crows_len]
    clear hRc
    have hm := fun w => make_b S (by omega) w
    go_wp2_with fail
    refine (HSz.out _).mono ?_
    rintro e w3 ⟨rfl, hb3⟩
    have HB3 := Lib.hid hb3
    clear hb3 d0 d1
    go_wp2_with fail
    clear hm
    have HBS := Lib.hid (HW.out.trans (HB3.out.mono HW.out.size))
    have HR3 := Lib.hid (HRc.out.below HB3.out)
    go_loopw [10] (fun iv wr => ∃ q : Nat, q ≤ S ∧ iv = .int .i64 q ∧ Hid (OwnB wr w3.heap.size (.slice (some ⟨w3.heap.size, 0, none⟩) S S) (repB S q)) ∧ Hid (Below w3.heap.size w3 wr)) (fun i _ => S - (intOf i).toNat)
    case atStart => exact ⟨0, by omega, rfl, Lib.hid (by simpa [repB] using OwnB.made w3 w3.heap.size S (Nat.le_refl _) (by omega)), Lib.hid (by (repeat (first | (with_reducible exact Below.refl _ _) | (with_reducible assumption) | (with_reducible refine below_al ?_) | (with_reducible refine below_dr ?_) | (with_reducible refine below_drN ?_) | (with_reducible refine below_set ?_ (by first | exact Nat.le_refl _ | (dsimp only; omega) | omega)) | (with_reducible refine below_tr (by with_reducible assumption) ?_))))⟩
    case round =>
      obtain ⟨q, hq, rfl, HOq, HBq⟩ := hrel
      by_cases hqS : q < S
      · obtain ⟨g4, hg4, _, gl, n1, n2⟩ := HOq.out.at_ q (by rw [repB_len hq]; exact hqS)
        injection hg4 with hg4; injection hg4 with hg4 _; subst hg4
        have HF := Lib.hid ((HOq.out.set q true).1)
        rw [repB_set hqS] at HF
        generalize (repB S q)[q]'_ = z at n1
        go_wp2
        go_roundw
        case rel => exact ⟨q + 1, by omega, by go_num, HF, Lib.hid (HBq.out.setCell (Nat.le_refl _) _)⟩
        case measure => simp [intOf]; omega
      · obtain rfl : q = S := by omega
        rw [repB_all] at HOq
        go_wp2_with fail
        go_loopw [9, 11] (fun v iv wr => ∃ j : Nat, j ≤ cols.length + 1 ∧ iv = .int .i64 j ∧ Hid (OwnB wr w3.heap.size v (endL q cols true false j)) ∧ Hid (Below w3.heap.size w3 wr) ∧ Hid (∀ i, i < j → (endL q cols true false (i + 1)).contains true = true)) (fun _ i _ => cols.length + 1 - (intOf i).toNat)
        case atStart => exact ⟨0, by omega, rfl, Lib.hid HOq.out, HBq, Lib.hid (fun i hi => by omega)⟩
        case round =>
          obtain ⟨j, hj, rfl, HOj, HBj, HDj⟩ := hrel
          obtain ⟨wj, rfl⟩ : ∃ wj, wj = wr := ⟨wr, rfl⟩
          have hlen := endL_len q cols true false j
          obtain ⟨An, kn, rfl⟩ := HOj.out.shape
          by_cases hjl : j ≤ cols.length
          · have hjl' : (j : Int) ≤ (cols.length : Int) := by omega
            have HSu : Hid (endL q cols true false (j + 1) = ago q cols true false (endL q cols true false j)) := rfl
            generalize endL q cols true false j = now at *
            have hm := fun w => make_b q (by omega) w
            have HRd := Lib.hid HOj.out.read
            have HLn := Lib.hid hlen
            rw [hlen] at HOj
            rw [hlen]
            clear hlen
            go_wp2_with fail
            clear hm
            go_loopw [13, 14] (fun sv iv wr => ∃ k : Nat, k ≤ cols.length ∧ iv = .int .i64 k ∧ sv = .bool ((ago q (cols.take k) true false now).contains true) ∧ Hid (OwnB wr wj.heap.size (.slice (some ⟨wj.heap.size, 0, none⟩) q q) (ago q (cols.take k) true false now)) ∧ Hid (Below wj.heap.size wj wr)) (fun _ i _ => cols.length - (intOf i).toNat)
            case atStart => exact ⟨0, by omega, rfl, by simp [ago, List.contains_iff_mem], Lib.hid (OwnB.made wj _ q (Nat.le_refl _) (by omega)), Lib.hid (by (repeat (first | (with_reducible exact Below.refl _ _) | (with_reducible assumption) | (with_reducible refine below_al ?_) | (with_reducible refine below_dr ?_) | (with_reducible refine below_drN ?_) | (with_reducible refine below_set ?_ (by first | exact Nat.le_refl _ | (dsimp only; omega) | omega)) | (with_reducible refine below_tr (by with_reducible assumption) ?_))))⟩
            case round =>
              obtain ⟨k, hk, rfl, rfl, HOk, HBk⟩ := hrel
              by_cases hkl : k < cols.length
              · obtain ⟨b2, off2, r, o, cx2, rfl, hb2, y0, hr, y1, y2, y3, y4⟩ := crows_at (HR3.out.below (HBj.out.trans (HBk.out.mono HBj.out.size))) k hkl
                obtain ⟨⟨w0, w1'⟩, e0, e1⟩ := HCs.out _ (List.getElem_mem hkl)
                have HTg := Lib.hid (ago_take q cols true false now k hkl)
                have hnl := ago_len q (cols.take k) true false now
                generalize ago q (cols.take k) true false now = nx at *
                generalize cols[k] = col at *
                have hz1 : col.w.toNat < now.length := by have := HLn.out; omega
                have hz2 : col.e.toNat < nx.length := by omega
                have HTG := Lib.hid (HTg.out.trans (astep_put true false now nx col hz2 hz1).symm)
                have HTs := Lib.hid (setOr_some (nx := nx) (now[col.w.toNat]) hz2)
                obtain ⟨wi, hwi⟩ := Int.eq_ofNat_of_zero_le w0
                obtain ⟨ei, hei⟩ := Int.eq_ofNat_of_zero_le e0
                obtain ⟨b3, off3, rfl, hlt3, n0⟩ := HRd.out _ hz1
                obtain ⟨g4, hg4, _, gl, n1, n2⟩ := HOk.out.at_ _ hz2
                injection hg4 with hg4; injection hg4 with hg4 _; subst hg4
                simp only [sel, Bool.false_eq_true, if_true, if_false, hwi, hei, Int.toNat_natCast] at n0 n1 n2 hz1 hz2 HTs HTG
                rw [hwi] at y2
                rw [hei] at y3
                have hlw : wi < q := by omega
                have hle : ei < q := by omega
                replace n0 := (HBk.out.cell (p := ⟨b3, off3 + wi, none⟩) hlt3).trans n0
                have HSet := Lib.hid (fun u => (HOk.out.set ei u).1)
                obtain ⟨bn, hbn⟩ : ∃ bn, nx[ei] = bn := ⟨_, rfl⟩
                obtain ⟨bw, hbw⟩ : ∃ bw, now[wi] = bw := ⟨_, rfl⟩
                have HId : Hid (nx.set ei bn = nx) := by show nx.set ei bn = nx; rw [← hbn]; exact List.set_getElem_self _
                rw [hbn] at n1 HTs HTG
                rw [hbw] at n0 HTs HTG
                generalize nx.contains true = sm at *
                clear y1 y4 HTg
                clear hbn hbw hwi hei hz1 hz2 hnl
                cases bw
                · simp only [Bool.or_false] at HTs HTG
                  rw [HId.out] at HTs HTG
                  go_wp2_with fail
                  go_roundw
                  case rel => exact ⟨k + 1, by omega, by go_num, by rw [HTG.out, HTs.out], Lib.hid (by rw [HTG.out]; exact HOk.out), HBk⟩
                  case measure => simp [intOf]; omega
                · simp only [Bool.or_true] at HTs HTG
                  go_wp2_with fail
                  go_roundw
                  case rel => exact ⟨k + 1, by omega, by go_num, by rw [HTG.out, HTs.out], Lib.hid (by rw [HTG.out]; exact HSet.out true), Lib.hid (HBk.out.setCell (Nat.le_refl _) _)⟩
                  case measure => simp [intOf]; omega
              · obtain rfl : k = cols.length := by omega
                rw [List.take_length] at HOk ⊢
                have HBjk := Lib.hid (HBj.out.trans (HBk.out.mono HBj.out.size))
                rw [← HSu.out] at HOk ⊢
                cases hsm : (endL q cols true false (j + 1)).contains true
                · have HE := Lib.hid (wfN_some (q := j) hjl HDj.out hsm)
                  clear hsm
                  go_wp2_with fail
                  go_ret2
                  exact ⟨by rw [HV.out, HV2.out, HE.out]; rfl, HBS.out.trans (HBjk.out.mono HBS.out.size)⟩
                · have HE := Lib.hid (HOk.out.weaken HBj.out.size)
                  have HD2 := Lib.hid (show ∀ i, i < j + 1 → (endL q cols true false (i + 1)).contains true = true from fun i hi => by
                    by_cases e : i = j
                    · subst e; exact hsm
                    · exact HDj.out i (by omega))
                  clear hsm
                  go_wp2_with fail
                  go_roundw
                  case rel => exact ⟨j + 1, by omega, by go_num, HE, HBjk, HD2⟩
                  case measure => simp [intOf]; omega
          · obtain rfl : j = cols.length + 1 := by omega
            have HE := Lib.hid (wfN_none (S := q) (cols := cols) fun i hi => HDj.out i (by omega))
            go_wp2_with fail
            go_ret2
            exact ⟨by rw [HV.out, HV2.out, HE.out]; rfl, HBS.out.trans (HBj.out.mono HBS.out.size)⟩
  · have hcz : (code != 0) = true := by simp [hc0]
    rw [if_neg hc0] at hv hv2
    have HV := Lib.hid hv
    have HV2 := Lib.hid hv2
    clear hc0 hv hv2
    go_wp2
    go_ret2
    exact ⟨by rw [HV.out, HV2.out]; rfl, HW.out⟩

end Go.Proofs.YtnoehaphbpkpjaaGreat
