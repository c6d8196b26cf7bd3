/- Contracts and lemmas for the statements of this seat, written for this claim; each theorem states its own conditions. -/
import Derived.Test.YtnoehaphbpkpjaaGreatFoTd1
set_option linter.unusedVariables false
set_option linter.unusedSimpArgs false
namespace Go.Proofs.YtnoehaphbpkpjaaGreat
open Go.RowKit
attribute [local go_sem] addUpon_value addUpon_skip addUpon_enter
theorem gr_below {w W : World} (h : Below w.heap.size w W) (r : Option Nat) : w.grownBy W r := ⟨h.os, h.tape, h.output, h.size, fun k hk _ => h.block k hk⟩
theorem gr_trans {a w w' : World} {row : Option Nat} (h : a.grownBy w row) (k : w.grownBy w' row) : a.grownBy w' row := ⟨k.os.trans h.os, k.tape.trans h.tape, k.output.trans h.output, Nat.le_trans h.size k.size, fun i hi hr => (k.block i (Nat.lt_of_lt_of_le hi h.size) hr).trans (h.block i hi hr)⟩
theorem grown_hop {w wj w' : World} {o o' : Option Nat} (h : w.grownBy wj o) (ha : OutAt w o o') (hg : wj.grownBy w' o') : w.grownBy w' o :=
  ⟨hg.os.trans h.os, hg.tape.trans h.tape, hg.output.trans h.output, Nat.le_trans h.size hg.size, fun k hk hne => by
    have e : some k ≠ o' := by
      rcases ha with rfl | ⟨q, rfl, hq⟩
      · exact hne
      · intro e; injection e with e; omega
    exact (hg.block k (Nat.lt_of_lt_of_le hk h.size) e).trans (h.block k hk hne)⟩
theorem OutAt.hop {w wj : World} {o o' o2 : Option Nat} (h : w.heap.size ≤ wj.heap.size) (ha : OutAt w o o') (hb : OutAt wj o' o2) : OutAt w o o2 := by
  rcases hb with rfl | ⟨q, rfl, hq⟩
  · exact ha
  · exact .inr ⟨q, rfl, Nat.le_trans h hq⟩
theorem xstep_eq (x : Int) (now far nx : List Bool) (k : Col) (h : k.w.toNat < now.length) (h2 : k.e.toNat < far.length) : xstep x now far nx k = if ((x == k.n) && now[k.w.toNat] && far[k.e.toNat]) = true then nx.set k.e.toNat true else nx := by
  unfold xstep; simp [h, h2]
theorem OwnI.beg {w : World} {B n cx : Nat} {A : Option Addr} {xs : List Int} (h : OwnI w B (.slice A n cx) xs) (hx : 0 < xs.length) (o : Option Nat) (ho : ∀ k, o = some k → k < B) : ∃ g, A = some ⟨g, 0, none⟩ ∧ BegOk w o g 0 xs := by
  obtain ⟨g, rfl, h1, h2, _⟩ := h.at_ 0 hx
  refine ⟨g, rfl, fun j hj => ?_⟩
  obtain ⟨g2, e, a1, a2, a3, _⟩ := h.at_ j hj
  injection e with e; injection e with e; subst e
  refine ⟨a2, ?_, by simpa using a3⟩
  intro e; have := ho _ e.symm; omega
theorem OwnB.nowOk {w : World} {B n cx : Nat} {A : Option Addr} {xs : List Bool} (h : OwnB w B (.slice A n cx) xs) (o : Option Nat) (ho : ∀ k, o = some k → k < B) : NowOk w o A xs := fun j hj => by
  obtain ⟨g, rfl, a1, a2, a3, _⟩ := h.at_ j hj
  exact ⟨g, 0, rfl, a2, (by intro e; have := ho _ e.symm; omega), by simpa using a3⟩
def GoSpec (wB : World) (cols : List Col) (Ac : Option Addr) (kc S c n most : Nat) (AF : Option Addr) (kF : Nat) (left : Nat) : Prop :=
  ∀ (begin : List Int) (bx ox kx : Nat) (now : List Bool) (An : Option Addr) (kn : Nat) (outs : List (List Int)) (v0 : Value) (w : World), begin.length + left = n → now.length = S → Below wB.heap.size wB w → OwnII w wB.heap.size v0 outs → outs.length < most → BegOk w v0.ownBlock bx ox begin → NowOk w v0.ownBlock An now →
    Calls Tryz.prog 122 #[.slice Ac cols.length kc, .int .i64 c, .slice (some ⟨bx, ox, none⟩) begin.length kx, .slice An S kn, .slice AF (n + 1) kF, v0, .int .i64 most] w fun e w' => ∃ v, e = .returned v ∧ OwnII w' wB.heap.size v ((outs ++ (exts S cols c left now).map (begin ++ ·)).take most) ∧ w.grownBy w' v0.ownBlock ∧ OutAt w v0.ownBlock v.ownBlock
set_option maxRecDepth 100000 in
set_option maxHeartbeats 1000000 in
theorem l10Go_leaf (wB : World) (cols : List Col) (Ac : Option Addr) (kc S c n most : Nat) (AF : Option Addr) (kF : Nat) (hn : n ≤ 100) (hm : most ≤ 1000000) : GoSpec wB cols Ac kc S c n most AF kF 0 := by
  intro begin bx ox kx now An kn outs v0 w hlen hnow hb hO hlt hB hN
  have H1 := Lib.hid (l01Own_c begin bx ox kx w (fun j h => (hB j h).2.2) (by omega))
  have HO := Lib.hid hO
  have Hb := Lib.hid hb
  have HE := Lib.hid (show (outs ++ (exts S cols c 0 now).map (begin ++ ·)).take most = outs ++ [begin] by
    rw [List.take_of_length_le (by simp [exts]; omega)]; simp [exts])
  obtain rfl : begin.length = n := by omega
  clear hB hN hb hO hlen hnow
  obtain ⟨An0, kn0, rfl, _⟩ := HO.out.rows
  go_enter Tryz.func122, Tryz.ntmps122
  go_wp2_with fail
  refine H1.out.mono ?_
  rintro e w1 ⟨u, rfl, hu, hb1⟩
  obtain ⟨Au, ku, rfl, _⟩ := hu.shape
  have Hu := Lib.hid hu
  have Hb1 := Lib.hid hb1
  clear hu hb1
  go_wp2_with (at_builtin; refine Hold.of ?_)
  refine Hold.to ?_
  refine wpl_app_rowH (W0 := w) rfl (.tmp 28) (.tmp 31) rfl wB.heap.size (.slice An0 outs.length kn0) outs (.slice Au begin.length ku) begin rfl HO.out (by have := Hb1.out; (repeat (first | (with_reducible exact Below.refl _ _) | (with_reducible assumption) | (with_reducible refine below_al ?_) | (with_reducible refine below_dr ?_) | (with_reducible refine below_drN ?_) | (with_reducible refine below_set ?_ (by first | exact Nat.le_refl _ | (dsimp only; omega) | omega)) | (with_reducible refine below_tr (by with_reducible assumption) ?_)))) (Hu.out.below (below_al (Below.refl _ _))) w1.heap.size 0 rfl (cell_alloc_at _ _ _ _ _ rfl) (by omega) Hb.out.size (fun v' w' h1 h2 h3 h4 => ?_)
  have hg := gr_trans (gr_below (below_al Hb1.out) _) h2
  have ha : OutAt w (Value.slice An0 outs.length kn0).ownBlock v'.ownBlock := by
    rcases h4 with h4 | h4
    · exact .inl h4
    · exact .inr ⟨_, h4, by have := Hb1.out.size; simp; omega⟩
  rw [← HE.out] at h1
  have HF := Lib.hid (And.intro h1 (And.intro hg ha))
  clear h1 h2 h3 h4 hg ha
  go_wp2_with fail
  go_ret
  exact ⟨_, rfl, HF.out.1, HF.out.2.1, HF.out.2.2⟩
set_option maxRecDepth 100000 in
set_option maxHeartbeats 1000000 in
theorem l10Go_step (wB : World) (cols : List Col) (Ac : Option Addr) (kc S c n most : Nat) (AF : Option Addr) (kF l : Nat) (hS1 : 1 ≤ S) (hS2 : S ≤ 100000) (hC : Codes S cols) (hcl : cols.length ≤ 1000000) (hn : n ≤ 100) (hc : c ≤ 6) (hm : most ≤ 1000000)
    (hR : RowsC wB Ac (crows cols)) (hF : RowsB wB AF (farL S cols n)) (ih : GoSpec wB cols Ac kc S c n most AF kF l) : GoSpec wB cols Ac kc S c n most AF kF (l + 1) := by
  intro begin bx ox kx now An kn outs v0 w hlen hnow hb hO hlt hB hN
  have IH := Lib.hid ih
  have HR := Lib.hid hR
  have HFr := Lib.hid hF
  have HC := Lib.hid hC
  have HO := Lib.hid hO
  have Hb := Lib.hid hb
  have HBg := Lib.hid hB
  have HNw := Lib.hid hN
  have HX := Lib.hid (extsTo_all S cols c l now)
  have hz0 := outTo_zero S cols c l now begin outs most hlt
  obtain ⟨nb, hnb⟩ : ∃ nb, begin.length = nb := ⟨_, rfl⟩
  have HNb := Lib.hid hnb
  obtain ⟨An0, kn0, rfl, _⟩ := HO.out.rows
  obtain ⟨no, hno⟩ : ∃ no, outs.length = no := ⟨_, rfl⟩
  rw [hnb] at hlen
  rw [hnb]
  clear ih hR hF hC hO hb hB hN hnb
  go_enter Tryz.func122, Tryz.ntmps122
  have hd : ((n : Int) - nb) = ((l + 1 : Nat) : Int) := by omega
  go_wp2_with fail
  rw [show ((l : Int) + 1 == 0) = false by simp; omega]
  clear hd
  have hd1 : IntKind.i64.wrap (l : Int) = (l : Int) := IntWalk.i64_in _ (by omega)
  go_loopw [5, 16] (fun v iv wr => ∃ m : Nat, m ≤ c ∧ iv = .int .i64 m ∧ Hid (OwnII wr wB.heap.size v (outTo S cols c l now begin outs most m)) ∧ Hid (w.grownBy wr (Value.slice An0 outs.length kn0).ownBlock) ∧ Hid (OutAt w (Value.slice An0 outs.length kn0).ownBlock v.ownBlock)) (fun _ i _ => c - (intOf i).toNat)
  case atStart => exact ⟨0, by omega, rfl, Lib.hid (by rw [hz0]; exact HO.out), Lib.hid (gr_below (by (repeat (first | (with_reducible exact Below.refl _ _) | (with_reducible assumption) | (with_reducible refine below_al ?_) | (with_reducible refine below_dr ?_) | (with_reducible refine below_drN ?_) | (with_reducible refine below_set ?_ (by first | exact Nat.le_refl _ | (dsimp only; omega) | omega)) | (with_reducible refine below_tr (by with_reducible assumption) ?_)))) _), Lib.hid (.inl rfl)⟩
  case round =>
    obtain ⟨m, hm, rfl, HOm, HGm, HAm⟩ := hrel
    obtain ⟨wj, rfl⟩ : ∃ wj, wj = wr := ⟨wr, rfl⟩
    clear hz0
    obtain ⟨Aj, kj, rfl, _⟩ := HOm.out.rows
    have HHop := Lib.hid (HBg.out.hop HGm.out HAm.out)
    have HHopN := Lib.hid (HNw.out.hop HGm.out HAm.out)
    have HBj := Lib.hid (Below.grown Hb.out HGm.out Hb.out.size (fun k hk => (HO.out.lt k hk).1))
    have HLt := Lib.hid HOm.out.lt
    have hln : (l : Int) < (n : Int) + 1 := by omega
    by_cases hmc : m < c
    · by_cases hlm : (outTo S cols c l now begin outs most m).length < most
      · have hm' := fun w => make_b S (by omega) w
        have HNo := Lib.hid (outTo_no (S := S) (cols := cols) (c := c) (l := l) (now := now) (m := m) begin outs most)
        have HYe := Lib.hid (outTo_yes (S := S) (cols := cols) (c := c) (l := l) (now := now) (m := m) begin outs most)
        obtain ⟨bf, offf, Af, kf, rfl, hlf, cf, rf⟩ := (HFr.out.below HBj.out) l (by rw [farL_len]; omega)
        rw [farL_get] at cf rf
        have hfl := farAt_len S cols l
        generalize hou : outTo S cols c l now begin outs most m = ou at *
        generalize farAt S cols l = far at *
        have HRf := Lib.hid rf
        have HLf := Lib.hid hfl
        rw [hfl] at cf
        have CF := Lib.hid (keepC cf)
        clear hfl rf cf
        obtain ⟨nou, hnou⟩ : ∃ nou, ou.length = nou := ⟨_, rfl⟩
        have HNou := Lib.hid hnou
        rw [hnou] at hlm
        replace hou := Lib.hid hou
        rw [hnou] at HOm HAm HHop HHopN HLt ⊢
        clear hnou
        go_wp2_with fail
        clear hm'
        go_loopw [18, 19] (fun sv iv wr => ∃ k : Nat, k ≤ cols.length ∧ iv = .int .i64 k ∧ sv = .bool (xsome (cols.take k) m now far) ∧ Hid (OwnB wr wj.heap.size (.slice (some ⟨wj.heap.size, 0, none⟩) S S) (xgo S (cols.take k) m now far)) ∧ Hid (Below wj.heap.size wj wr)) (fun _ i _ => cols.length - (intOf i).toNat)
        case atStart => exact ⟨0, by omega, rfl, by simp [xsome], Lib.hid (OwnB.made wj _ S (Nat.le_refl _) (by omega)), Lib.hid (by (repeat (first | (with_reducible exact Below.refl _ _) | (with_reducible assumption) | (with_reducible refine below_al ?_) | (with_reducible refine below_dr ?_) | (with_reducible refine below_drN ?_) | (with_reducible refine below_set ?_ (by first | exact Nat.le_refl _ | (dsimp only; omega) | omega)) | (with_reducible refine below_tr (by with_reducible assumption) ?_))))⟩
        case round =>
          obtain ⟨k, hk, rfl, rfl, HOk, HBk⟩ := hrel
          have HNk := Lib.hid (HHopN.out.below HBk.out)
          by_cases hkl : k < cols.length
          · obtain ⟨b2, off2, r, o, cx2, rfl, hb2, y0, hr, y1, y2, y3, y4⟩ := crows_at (HR.out.below (HBj.out.trans (HBk.out.mono HBj.out.size))) k hkl
            obtain ⟨⟨w0, w1'⟩, e0, e1⟩ := HC.out _ (List.getElem_mem hkl)
            have HTg := Lib.hid (xgo_take S cols m now far k hkl)
            have HTs := Lib.hid (xsome_take cols m now far k hkl)
            have hnl := xgo_len S (cols.take k) m now far
            generalize xgo S (cols.take k) m now far = nx at *
            generalize xsome (cols.take k) m now far = sm at *
            generalize cols[k] = col at *
            have hz1 : col.w.toNat < now.length := by omega
            have hz2 : col.e.toNat < nx.length := by omega
            have hz3 : col.e.toNat < far.length := by have := HLf.out; omega
            rw [show now.getD col.w.toNat false = now[col.w.toNat] by simp [hz1], show far.getD col.e.toNat false = far[col.e.toNat] by simp [hz3]] at HTs
            have HTg2 := Lib.hid (xstep_eq m now far nx col hz1 hz3)
            obtain ⟨wi, hwi⟩ := Int.eq_ofNat_of_zero_le w0
            obtain ⟨ei, hei⟩ := Int.eq_ofNat_of_zero_le e0
            obtain ⟨b3, off3, rfl, hlt3, hne3, n0⟩ := HNk.out _ hz1
            obtain ⟨b4, off4, rfl, hlt4, f0⟩ := HRf.out _ hz3
            obtain ⟨g4, hg4, _, gl, n1, n2⟩ := HOk.out.at_ _ hz2
            injection hg4 with hg4; injection hg4 with hg4 _; subst hg4
            simp only [hwi, hei, Int.toNat_natCast] at n0 n1 n2 f0 hz1 hz2 hz3 HTs HTg2
            rw [hwi] at y2
            rw [hei] at y3
            have hlw : wi < S := by omega
            have hle : ei < S := by omega
            replace f0 := (HBk.out.cell (p := ⟨b4, off4 + ei, none⟩) hlt4).trans f0
            have HTG := Lib.hid (HTg.out.trans HTg2.out)
            generalize nx[ei]'_ = bn at n1
            generalize now[wi]'_ = bw at *
            generalize far[ei]'_ = bz at *
            have cf := CF.out _ HBk.out
            have X0 := keepC cf
            have F0 := keepC f0
            have Y0 := keepC y0
            have Y1 := keepC y1
            have Y2 := keepC y2
            have Y3 := keepC y3
            have N0 := keepC n0
            have N1 := keepC n1
            have N2 := fun wz (hz : Below wr.heap.size wr wz) => (hz.frozen (p := ⟨wj.heap.size, ei, none⟩) gl).trans n2
            clear cf f0 y0 y1 y2 y3 y4 n0 n1 n2 hne3
            clear hwi hei hz1 hz2 hz3 HTg HTg2
            by_cases hx : (m : Int) = col.n
            · have q1 : (col.n == (m : Int)) = true := by simp [hx]
              have q2 : ((m : Int) == col.n) = true := by simp [hx]
              replace hx := Lib.hid hx
              rw [q2] at HTs HTG
              clear q2
              cases bw
              · simp only [Bool.true_and, Bool.false_and, Bool.or_false, Bool.false_eq_true, if_false] at HTs HTG
                go_wp2_with fail
                refine wp_region_add (fun w' => Below (wr).heap.size (wr) w') (by kernel_rfl) (by kernel_rfl) ((Below.refl _ _).drew) ?_
                repeat (first
                  | (refine add_skip rfl (fun K' hK' => ?_); go_simp; refine hK' _ ?_; clear hK' K')
                  | (refine add_do (v := ?_) rfl (fun w1 hb => ?_) (fun K' hK' => ?_); rotate_left
                     · go_simp
                       first
                       | (with_reducible exact rfl)
                       | (with_reducible exact ⟨rfl, hb⟩)
                       | exact rfl
                       | exact ⟨rfl, hb⟩
                     go_simp; refine hK' _ ?_; clear hK' K'))
                refine add_nil ?_
                intro wa hba
                have xa := X0 _ hba
                have fa := F0 _ hba
                have ya0 := Y0 _ hba
                have ya1 := Y1 _ hba
                have ya3 := Y3 _ hba
                have na1 := N1 _ hba
                have na2 := N2 _ hba
                have HOa := Lib.hid (HOk.out.below hba)
                have HBa := Lib.hid (HBk.out.trans (hba.mono HBk.out.size))
                clear hba X0 F0 Y0 Y1 Y2 Y3 N0 N1 N2
                go_wp2_with fail
                go_roundw
                case rel => exact ⟨k + 1, by omega, by go_num, by rw [HTs.out], Lib.hid (by rw [HTG.out]; exact HOa.out), HBa⟩
                case measure => simp [intOf]; omega
              · cases bz
                · simp only [Bool.true_and, Bool.and_false, Bool.or_false, Bool.false_eq_true, if_false] at HTs HTG
                  go_wp2_with fail
                  refine wp_region_add (fun w' => Below (wr).heap.size (wr) w') (by kernel_rfl) (by kernel_rfl) ((Below.refl _ _).drew) ?_
                  repeat (first
                    | (refine add_skip rfl (fun K' hK' => ?_); go_simp; refine hK' _ ?_; clear hK' K')
                    | (refine add_do (v := ?_) rfl (fun w1 hb => ?_) (fun K' hK' => ?_); rotate_left
                       · go_simp
                         first
                         | (with_reducible exact rfl)
                         | (with_reducible exact ⟨rfl, hb⟩)
                         | exact rfl
                         | exact ⟨rfl, hb⟩
                       go_simp; refine hK' _ ?_; clear hK' K'))
                  refine add_nil ?_
                  intro wa hba
                  have xa := X0 _ hba
                  have fa := F0 _ hba
                  have ya0 := Y0 _ hba
                  have ya1 := Y1 _ hba
                  have ya3 := Y3 _ hba
                  have na1 := N1 _ hba
                  have na2 := N2 _ hba
                  have HOa := Lib.hid (HOk.out.below hba)
                  have HBa := Lib.hid (HBk.out.trans (hba.mono HBk.out.size))
                  clear hba X0 F0 Y0 Y1 Y2 Y3 N0 N1 N2
                  go_wp2_with fail
                  go_roundw
                  case rel => exact ⟨k + 1, by omega, by go_num, by rw [HTs.out], Lib.hid (by rw [HTG.out]; exact HOa.out), HBa⟩
                  case measure => simp [intOf]; omega
                · simp only [Bool.true_and, Bool.or_true, if_true] at HTs HTG
                  go_wp2_with fail
                  refine wp_region_add (fun w' => Below (wr).heap.size (wr) w') (by kernel_rfl) (by kernel_rfl) ((Below.refl _ _).drew) ?_
                  repeat (first
                    | (refine add_skip rfl (fun K' hK' => ?_); go_simp; refine hK' _ ?_; clear hK' K')
                    | (refine add_do (v := ?_) rfl (fun w1 hb => ?_) (fun K' hK' => ?_); rotate_left
                       · go_simp
                         first
                         | (with_reducible exact rfl)
                         | (with_reducible exact ⟨rfl, hb⟩)
                         | exact rfl
                         | exact ⟨rfl, hb⟩
                       go_simp; refine hK' _ ?_; clear hK' K'))
                  refine add_nil ?_
                  intro wa hba
                  have xa := X0 _ hba
                  have fa := F0 _ hba
                  have ya0 := Y0 _ hba
                  have ya1 := Y1 _ hba
                  have ya3 := Y3 _ hba
                  have na1 := N1 _ hba
                  have na2 := N2 _ hba
                  have HOa := Lib.hid (HOk.out.below hba)
                  have HBa := Lib.hid (HBk.out.trans (hba.mono HBk.out.size))
                  clear hba X0 F0 Y0 Y1 Y2 Y3 N0 N1 N2
                  go_wp2_with fail
                  go_roundw
                  case rel => exact ⟨k + 1, by omega, by go_num, by rw [HTs.out], Lib.hid (by rw [HTG.out]; exact (HOa.out.set ei true).1), Lib.hid (HBa.out.setCell (Nat.le_refl _) _)⟩
                  case measure => simp [intOf]; omega
            · have q1 : (col.n == (m : Int)) = false := by simp [Ne.symm hx]
              have q2 : ((m : Int) == col.n) = false := by simp [hx]
              replace hx := Lib.hid hx
              rw [q2] at HTs HTG
              simp only [Bool.false_and, Bool.or_false, Bool.false_eq_true, if_false] at HTs HTG
              clear q2
              go_wp2_with fail
              refine wp_region_add (fun w' => Below (wr).heap.size (wr) w') (by kernel_rfl) (by kernel_rfl) ((Below.refl _ _).drew) ?_
              repeat (first
                | (refine add_skip rfl (fun K' hK' => ?_); go_simp; refine hK' _ ?_; clear hK' K')
                | (refine add_do (v := ?_) rfl (fun w1 hb => ?_) (fun K' hK' => ?_); rotate_left
                   · go_simp
                     first
                     | (with_reducible exact rfl)
                     | (with_reducible exact ⟨rfl, hb⟩)
                     | exact rfl
                     | exact ⟨rfl, hb⟩
                   go_simp; refine hK' _ ?_; clear hK' K'))
              refine add_nil ?_
              intro wa hba
              have xa := X0 _ hba
              have fa := F0 _ hba
              have ya0 := Y0 _ hba
              have ya1 := Y1 _ hba
              have ya3 := Y3 _ hba
              have na1 := N1 _ hba
              have na2 := N2 _ hba
              have HOa := Lib.hid (HOk.out.below hba)
              have HBa := Lib.hid (HBk.out.trans (hba.mono HBk.out.size))
              clear hba X0 F0 Y0 Y1 Y2 Y3 N0 N1 N2
              go_wp2_with fail
              go_roundw
              case rel => exact ⟨k + 1, by omega, by go_num, by rw [HTs.out], Lib.hid (by rw [HTG.out]; exact HOa.out), HBa⟩
              case measure => simp [intOf]; omega
          · obtain rfl : k = cols.length := by omega
            rw [List.take_length] at HOk ⊢
            have HBgk := Lib.hid (HHop.out.below HBk.out)
            cases hsm : xsome cols m now far
            · have HE := Lib.hid (HNo.out hsm)
              clear hsm
              go_wp2_with fail
              go_roundw
              case rel => exact ⟨m + 1, by omega, by go_num, Lib.hid (by rw [HE.out]; exact HOm.out.below HBk.out), Lib.hid (gr_trans HGm.out (gr_below HBk.out _)), HAm⟩
              case measure => simp [intOf]; omega
            · have HE := Lib.hid (HYe.out hsm)
              clear hsm HNo HYe
              have HOwn := Lib.hid (l01Own_c begin bx ox kx wr (fun j h => (HBgk.out j h).2.2) (by have := HNb.out; omega))
              rw [HNb.out] at HOwn
              go_wp2_with fail
              refine HOwn.out.mono ?_
              rintro e w5 ⟨u, rfl, hu, hb5⟩
              obtain ⟨Au, ku, rfl, _⟩ := hu.shape
              have Hu := Lib.hid hu
              have HB5 := Lib.hid hb5
              clear hu hb5 HOwn
              go_wp2_with (at_builtin; refine Hold.of ?_)
              refine Hold.to ?_
              refine wpl_app_intsN rfl (.tmp 99) (.tmp 101) rfl wr.heap.size (.slice Au begin.length ku) begin [(m : Int)] rfl (Hu.out.below (below_al (Below.refl _ _))) w5.heap.size 0 1 rfl (fun j hj => by (have hj0 : j = 0 := by simp at hj; omega); subst hj0; exact cell_alloc_at _ _ _ _ _ rfl) (by have := HNb.out; simp; omega) (by have := HB5.out.size; simp; omega) (fun v' w' h1 h2 h3 => ?_)
              have hb : Below wr.heap.size wr w' := Below.grown (below_al HB5.out) h2 (by have := HB5.out.size; simp; omega) (fun k hk => (World.ownsRow.lt Hu.out k hk).1)
              obtain ⟨Av, kv, rfl, _⟩ := h1.shape
              obtain ⟨g, rfl, hbeg⟩ := h1.beg (by simp) (Value.slice Aj nou kj).ownBlock (fun k hk => Nat.lt_of_lt_of_le (HLt.out k hk).2 HBk.out.size)
              have HBeg := Lib.hid hbeg
              have HB6 := Lib.hid hb
              clear h1 h2 h3 hb hbeg
              have HCall := Lib.hid (IH.out (begin ++ [(m : Int)]) g 0 kv (xgo S cols m now far) (some ⟨wj.heap.size, 0, none⟩) S ou (Value.slice Aj nou kj) w' (by have := HNb.out; simp; omega) (xgo_len _ _ _ _ _) (HBj.out.trans ((HBk.out.trans (HB6.out.mono HBk.out.size)).mono HBj.out.size)) (HOm.out.below (HBk.out.trans (HB6.out.mono HBk.out.size))) (by rw [HNou.out]; exact hlm) HBeg.out ((HOk.out.below HB6.out).nowOk _ (fun k hk => (HLt.out k hk).2)))
              have HT1 := Lib.hid ((HBk.out.trans (HB6.out.mono HBk.out.size)))
              have HL2 : (begin ++ [(m : Int)]).length = nb + 1 := by have := HNb.out; simp; omega
              rw [HL2] at HCall
              rw [HL2]
              clear HL2 HNou
              go_wp2_with fail
              refine HCall.out.mono ?_
              rintro e w7 ⟨v2, rfl, hO2, hg2, ha2⟩
              rw [← HE.out] at hO2
              have HG2 := Lib.hid (grown_hop HGm.out HAm.out (gr_trans (gr_below HT1.out _) hg2))
              have HA2 := Lib.hid (OutAt.hop (Nat.le_trans HGm.out.size HT1.out.size) HAm.out ha2)
              have HO2 := Lib.hid hO2
              obtain ⟨A2, k2, rfl, _⟩ := hO2.rows
              clear hO2 hg2 ha2 HCall
              go_wp2_with fail
              go_roundw
              case rel => exact ⟨m + 1, by omega, by go_num, HO2, HG2, HA2⟩
              case measure => simp [intOf]; omega
      · have HFull := Lib.hid (outTo_full (S := S) (cols := cols) (c := c) (l := l) (now := now) (begin := begin) (outs := outs) (most := most) (c - m) m (by omega))
        rw [show m + (c - m) = c by omega] at HFull
        go_wp2_with fail
        go_ret
        exact ⟨_, rfl, by rw [← HX.out]; show OwnII _ _ _ (outTo S cols c l now begin outs most c); rw [HFull.out]; exact HOm.out, HGm.out, HAm.out⟩
    · obtain rfl : m = c := by omega
      go_wp2_with fail
      go_ret
      exact ⟨_, rfl, by rw [← HX.out]; exact HOm.out, HGm.out, HAm.out⟩

end Go.Proofs.YtnoehaphbpkpjaaGreat
namespace Go.Proofs.YtnoehaphbpkpjaaGreat
open Go.RowKit
theorem l10Go_c (wB : World) (cols : List Col) (Ac : Option Addr) (kc S c n most : Nat) (AF : Option Addr) (kF : Nat) (hS1 : 1 ≤ S) (hS2 : S ≤ 100000) (hC : Codes S cols) (hcl : cols.length ≤ 1000000) (hn : n ≤ 100) (hc : c ≤ 6) (hm : most ≤ 1000000)
    (hR : RowsC wB Ac (crows cols)) (hF : RowsB wB AF (farL S cols n)) : ∀ l, GoSpec wB cols Ac kc S c n most AF kF l
  | 0 => l10Go_leaf wB cols Ac kc S c n most AF kF hn hm
  | l + 1 => l10Go_step wB cols Ac kc S c n most AF kF l hS1 hS2 hC hcl hn hc hm hR hF (l10Go_c wB cols Ac kc S c n most AF kF hS1 hS2 hC hcl hn hc hm hR hF l)
/-- the words of a length that are read off all tilings of a strip -/
def trWords (S : Nat) (cols : List Col) (c n : Nat) : List (List Int) := exts S cols c n (List.replicate S true)
theorem goWords (W w1 : World) (cols : List Col) (Ac : Option Addr) (kc S c n most : Nat) (AF : Option Addr) (kF : Nat) (A0 : Option Addr) (k0 : Nat) (b3 b8 : Nat) (hS1 : 1 ≤ S) (hS2 : S ≤ 100000) (hC : Codes S cols) (hcl : cols.length ≤ 1000000) (hn : n ≤ 100) (hc : c ≤ 6) (hm : most ≤ 1000000) (hm1 : 1 ≤ most)
    (hR : RowsC W Ac (crows cols)) (hF : RowsB W AF (farL S cols n)) (h0 : BoolC W A0 (List.replicate S true)) (hb : Below W.heap.size W w1) (hO : OwnII w1 W.heap.size (.slice (some ⟨b8, 0, none⟩) 0 0) []) :
    Calls Tryz.prog 122 #[.slice Ac cols.length kc, .int .i64 c, .slice (some ⟨b3, 0, none⟩) 0 0, .slice A0 S k0, .slice AF (n + 1) kF, .slice (some ⟨b8, 0, none⟩) 0 0, .int .i64 most] w1 fun e w' => ∃ v, e = .returned v ∧ OwnII w' W.heap.size v ((trWords S cols c n).take most) ∧ Below W.heap.size W w' := by
  refine (l10Go_c W cols Ac kc S c n most AF kF hS1 hS2 hC hcl hn hc hm hR hF n [] b3 0 0 (List.replicate S true) A0 k0 [] (.slice (some ⟨b8, 0, none⟩) 0 0) w1 (by simp) (by simp) hb hO (by simp; omega) (fun j h => by simp at h) (fun j h => ?_)).mono ?_
  · obtain ⟨b, off, e, hlt, hc⟩ := h0 j h
    refine ⟨b, off, e, Nat.lt_of_lt_of_le hlt hb.size, ?_, (hb.cell (p := ⟨b, _, none⟩) hlt).trans hc⟩
    intro e2
    have := (hO.lt b e2.symm).1
    omega
  · rintro e w' ⟨v, rfl, h1, h2, h3⟩
    refine ⟨v, rfl, by simpa [trWords] using h1, Below.grown hb h2 hb.size (fun k hk => (hO.lt k hk).1)⟩
set_option maxRecDepth 100000 in
set_option maxHeartbeats 1000000 in
theorem l10Words_c (c n0 cx : Nat) (A : Option Addr) (cols : List Col) (Ac : Option Addr) (kc h n most S : Nat) (w : World) (h1 : 1 ≤ c) (h6 : c ≤ 6) (hh : h ≤ 3) (hS : powC c h = S) (hS1 : 1 ≤ S) (hS2 : S ≤ 100000) (hC : Codes S cols) (hcl : cols.length ≤ 1000000) (hn : n ≤ 100) (hm : most ≤ 1000000) (hm1 : 1 ≤ most)
    (hR : RowsC w Ac (crows cols)) :
    Calls Tryz.prog 95 #[.agg #[.int .i64 c, .slice A n0 cx], .slice Ac cols.length kc, .int .i64 h, .int .i64 n, .int .i64 most] w fun e w' => ∃ v, e = .returned v ∧ OwnII w' w.heap.size v ((trWords S cols c n).take most) ∧ Below w.heap.size w w' := by
  have H1 := Lib.hid (fun w => l06Size_c (c : Int) n0 cx h A w (by omega) (by omega) (by omega))
  rw [hS] at H1
  have H2 := Lib.hid (fun wq (hq : Below w.heap.size w wq) => l10Far_c cols Ac kc S n wq hS1 hS2 hC hcl hn (hR.below hq))
  have HR := Lib.hid hR
  have HC := Lib.hid hC
  clear hC hR
  go_enter Tryz.func95, Tryz.ntmps95
  go_wp2_with fail
  refine (H1.out _).mono ?_
  rintro e w1 ⟨rfl, hb1⟩
  have Hb1 : Hid (Below w.heap.size w w1) := by (show Below _ _ _); (repeat (first | (with_reducible exact Below.refl _ _) | (with_reducible assumption) | (with_reducible refine below_al ?_) | (with_reducible refine below_dr ?_) | (with_reducible refine below_drN ?_) | (with_reducible refine below_set ?_ (by first | exact Nat.le_refl _ | (dsimp only; omega) | omega)) | (with_reducible refine below_tr (by with_reducible assumption) ?_)))
  have U0 := keepC (show (w.alloc (.cells #[.int .i64 c, .slice A n0 cx] 32)).cell? ⟨w.heap.size, 0, none⟩ = some (.int .i64 c) from cell_alloc_at _ _ _ _ _ rfl) _ hb1
  have hN1 : w.heap.size < w1.heap.size := by have := hb1.size; simp at this; omega
  clear hb1 H1
  go_wp2_with fail
  refine (H2.out _ Hb1.out).mono ?_
  rintro e W ⟨vF, rfl, hO, hbW⟩
  obtain ⟨AF, kF, rfl, hRF⟩ := hO.rows
  obtain ⟨bF, offF, A0, k0, rfl, hlF, c0, r0⟩ := hRF 0 (by rw [farL_len]; omega)
  rw [farL_get] at c0 r0
  have r0 : BoolC W A0 (List.replicate S true) := r0
  have c0 : W.cell? ⟨bF, offF + 0, none⟩ = some (.slice A0 S k0) := by rw [c0, farAt_len]
  rw [Nat.add_zero] at c0
  have u0 := keepC (keepC U0 _ hbW)
  have u1 := keepC c0
  have hN : w.heap.size < W.heap.size := Nat.lt_of_lt_of_le hN1 hbW.size
  rw [farL_len]
  have HW := Lib.hid (Hb1.out.trans (hbW.mono Hb1.out.size))
  have HCall := Lib.hid (fun b3 b8 w1 => goWords W w1 cols Ac kc S c n most (some ⟨bF, offF, none⟩) kF A0 k0 b3 b8 hS1 hS2 HC.out hcl hn h6 hm hm1 (HR.out.below HW.out) hRF r0)
  clear hRF r0 hO U0 H2 hbW c0
  go_wp2_with fail
  refine wp_region_plan (.det 0 (.det 1 (.det 2 (.det 4 (.det 5 (.det 6 (.det 7 (.det 9 (.two 3 (.one 8 (.one 10 (.det 11 (.done)))) 8 (.one 3 (.one 10 (.det 11 (.done))))))))))))) (fun w' => Below (W).heap.size (W) w') (fun a a' w' => ∃ x0 x1 x2 x3 x4 x5 x6 x7 x8 x9 x10 x11, a' = ((((((((((((a.put (some 20) x0).put (some 21) x1).put (some 22) x2).put (some 23) x3).put (some 24) x4).put (some 25) x5).put (some 26) x6).put (some 27) x7).put (some 28) x8).put (some 29) x9).put (some 30) x10).put (some 10) x11) ∧ x11 = x10 ∧ OwnII w' W.heap.size x10 ((trWords S cols c n).take most)) (by kernel_rfl) (by kernel_rfl) (fun _ _ d _ _ h => by cases d <;> exact h) ((Below.refl _ _).drew) ?_ ?_
  rotate_left
  · rintro a' wa hba ⟨x0, x1, x2, x3, x4, x5, x6, x7, x8, x9, x10, x11, rfl, hP⟩
    obtain ⟨rfl, hO⟩ := hP
    have HF := Lib.hid (And.intro hO hba)
    clear hO hba
    go_simp
    go_wp2
    go_ret
    exact ⟨_, rfl, HF.out.1.weaken HW.out.size, HW.out.trans (HF.out.2.mono HW.out.size)⟩
  repeat (first
    | (refine plan_skip rfl rfl (fun K' hK' => ?_); go_simp; refine hK' _ ?_; clear hK' K')
    | (refine plan_do (v := ?_) rfl rfl (fun w1 hb => ?_) (fun K' hK' => ?_); rotate_left
       · go_simp
         rfl
       go_simp; refine hK' _ ?_; clear hK' K'))
  refine plan_two ?_ ?_
  · refine step_op rfl rfl (fun K' hK' => ?_)
    go_simp
    refine hK' _ _ (below_al (Below.refl _ W).drew) ?_; clear hK' K'
    refine plan_one (step_op rfl rfl (fun K' hK' => ?_))
    go_simp
    refine hK' _ _ (below_al (below_al (Below.refl _ W).drew)) ?_; clear hK' K'
    refine plan_one (step_op rfl rfl (fun K' hK' => ?_))
    go_simp
    refine (HCall.out _ _ _ (below_al (below_al (Below.refl _ W).drew)) (OwnII.empty (w := W.drew.alloc (.cells #[] 2)) (by simp) (le_al (Nat.le_refl _)))).mono ?_
    rintro e w' ⟨v, rfl, h1, h2⟩
    have HF := Lib.hid (And.intro h1 h2)
    clear h1 h2
    refine hK' _ _ (HF.out.2) ?_; clear hK' K'
    repeat (first
      | (refine plan_skip rfl rfl (fun K' hK' => ?_); go_simp; refine hK' _ ?_; clear hK' K')
      | (refine plan_do (v := ?_) rfl rfl (fun w1 hb => ?_) (fun K' hK' => ?_); rotate_left
         · go_simp
           rfl
         go_simp; refine hK' _ ?_; clear hK' K'))
    refine plan_done ⟨?_, ?_, ?_, ?_, ?_, ?_, ?_, ?_, ?_, ?_, ?_, ?_, ?_, ?_⟩
    rotate_left 12
    · go_simp; (first | rfl | (and_intros <;> rfl))
    · exact ⟨rfl, HF.out.1⟩
  · refine step_op rfl rfl (fun K' hK' => ?_)
    go_simp
    refine hK' _ _ (below_al (Below.refl _ W).drew) ?_; clear hK' K'
    refine plan_one (step_op rfl rfl (fun K' hK' => ?_))
    go_simp
    refine hK' _ _ (below_al (below_al (Below.refl _ W).drew)) ?_; clear hK' K'
    refine plan_one (step_op rfl rfl (fun K' hK' => ?_))
    go_simp
    refine (HCall.out _ _ _ (below_al (below_al (Below.refl _ W).drew)) ((OwnII.empty (w := W.drew) (by simp) (Nat.le_refl _)).below (below_al (Below.refl _ _)))).mono ?_
    rintro e w' ⟨v, rfl, h1, h2⟩
    have HF := Lib.hid (And.intro h1 h2)
    clear h1 h2
    refine hK' _ _ (HF.out.2) ?_; clear hK' K'
    repeat (first
      | (refine plan_skip rfl rfl (fun K' hK' => ?_); go_simp; refine hK' _ ?_; clear hK' K')
      | (refine plan_do (v := ?_) rfl rfl (fun w1 hb => ?_) (fun K' hK' => ?_); rotate_left
         · go_simp
           rfl
         go_simp; refine hK' _ ?_; clear hK' K'))
    refine plan_done ⟨?_, ?_, ?_, ?_, ?_, ?_, ?_, ?_, ?_, ?_, ?_, ?_, ?_, ?_⟩
    rotate_left 12
    · go_simp; (first | rfl | (and_intros <;> rfl))
    · exact ⟨rfl, HF.out.1⟩

end Go.Proofs.YtnoehaphbpkpjaaGreat
