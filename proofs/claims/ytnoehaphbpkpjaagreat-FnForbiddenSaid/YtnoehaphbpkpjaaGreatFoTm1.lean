/- Contracts and lemmas for the statements of this seat, written for this claim; each theorem states its own conditions. -/
import Derived.Deep.RegionHeld3
import Derived.Test.YtnoehaphbpkpjaaGreatFoTl1
import Derived.Test.YtnoehaphbpkpjaaGreatFoSe
set_option linter.unusedVariables false
set_option linter.unusedSimpArgs false
namespace Go.Proofs.YtnoehaphbpkpjaaGreat
open Go.RowKit
def trFV (bn bo bm bs bc be : Nat) : Value := .func (.func 104) #[] #[.pointer (some ⟨bn, 0, none⟩), .pointer (some ⟨bo, 0, none⟩), .pointer (some ⟨bm, 0, none⟩), .pointer (some ⟨bs, 0, none⟩), .pointer (some ⟨bc, 0, none⟩), .pointer (some ⟨be, 0, none⟩)]
theorem trAll (w0 : World) (g : Nat) (A : Option Addr) (tn cx : Nat) (h : Int) (AF : Option Addr) (kF : Nat) (cols : List Col) (S c n most bn bo bm bs bc be : Nat) (hn1 : 1 ≤ n) (hn : n ≤ 100) (hm : most ≤ 1000000) (hS1 : 1 ≤ S) (hS2 : S ≤ 100000) (hc : c ≤ 6) (hC : Codes S cols) (hCn : ColN c cols) (hcl : cols.length ≤ 1000000)
    (hE : TrEnv w0 g c S n most A tn cx h cols AF kF bn bm bs bc) (hbn : bn < w0.heap.size) (hbm : bm < w0.heap.size) (hbs : bs < w0.heap.size) (hbc : bc < w0.heap.size) : ∀ l, TrSpec w0 cols S c n most bn bo bm bs bc be (trFV bn bo bm bs bc be) l
  | 0 => trLeaf w0 g A tn cx h AF kF cols S c n most bn bo bm bs bc be _ hn1 hn hm hE hbn hbm
  | l + 1 => trStep w0 g A tn cx h AF kF cols S c n most bn bo bm bs bc be l hn1 hn hm hS1 hS2 hc hC hCn hcl hE hbn hbm hbs hbc (trAll w0 g A tn cx h AF kF cols S c n most bn bo bm bs bc be hn1 hn hm hS1 hS2 hc hC hCn hcl hE hbn hbm hbs hbc l)

end Go.Proofs.YtnoehaphbpkpjaaGreat
namespace Go.Proofs.YtnoehaphbpkpjaaGreat
open Go.RowKit
attribute [local go_sem] addUpon_value addUpon_skip addUpon_enter
theorem OwnBB.setBox {w : World} {B x j : Nat} {cs : List Value} {v y : Value} {L : List (List Bool)} (h : OwnBB w B v L) (hx : Blk w x cs 112) : OwnBB (w.setCell ⟨x, j, none⟩ y) B v L := by
  obtain ⟨vs, h1, h2, h3, h4⟩ := h
  exact ⟨vs, World.ownsRow.kept h1 (grownBy_store w x j y) (.inr (own_ne h1 hx (by decide))), fun i hi hi' => World.ownsRow.kept (h2 i hi hi') (grownBy_store w x j y) (.inr (own_ne (h2 i hi hi') hx (by decide))), h3, h4⟩
theorem OwnBB.ne {w : World} {B x : Nat} {cs : List Value} {v : Value} {L : List (List Bool)} (h : OwnBB w B v L) (hx : Blk w x cs 112) : v.ownBlock ≠ some x := by
  obtain ⟨vs, h1, _⟩ := h
  exact own_ne h1 hx (by decide)
theorem bstep_put (far nx : List Bool) (k : Col) (h : k.e.toNat < far.length) (h2 : k.w.toNat < nx.length) : nx.set k.w.toNat (nx[k.w.toNat] || far[k.e.toNat]) = bstep far nx k := by
  rw [bstep_eq far nx k h]
  cases far[k.e.toNat]
  · simp
  · simp
set_option maxRecDepth 100000 in
set_option maxHeartbeats 1000000 in
theorem traces_c (g c S n most : Nat) (A : Option Addr) (tn cx : Nat) (h : Int) (cols : List Col) (w : World) (hn1 : 1 ≤ n) (hn : n ≤ 100) (hm : most ≤ 1000000) (hS1 : 1 ≤ S) (hS2 : S ≤ 100000) (hc : c ≤ 6) (hC : Codes S cols) (hCn : ColN c cols) (hcl : cols.length ≤ 1000000)
    (hR : StripR w g c A tn cx h S cols) :
    Calls Tryz.prog 65 #[.pointer (some ⟨g, 0, none⟩), .int .i64 n, .int .i64 most] w fun e w' => Below w.heap.size w w' ∧ ∃ v, e = .returned (.tuple #[v, .bool (decide ((trWords S cols c n).length ≤ most))]) ∧ (∃ A' n' k', v = .slice A' n' k') ∧ ((trWords S cols c n).length ≤ most → OwnII w' w.heap.size v (trWords S cols c n)) := by
  obtain ⟨C, cc, hB, hCo⟩ := id hR
  have HB := Lib.hid hB
  have HCo := Lib.hid hCo
  have HR := Lib.hid hR
  have HCd := Lib.hid hC
  have HRep := Lib.hid (fun (g0 : Nat) (wq : World) hc => repeatB_c S g0 wq hS1 (by omega) hc)
  have c2 := hB.cell 3 (by simp)
  have c3 := hB.cell 4 (by simp)
  simp only [List.getElem_cons_zero, List.getElem_cons_succ] at c2 c3
  have C2 := Lib.hid (keepC c2)
  have C3 := Lib.hid (keepC c3)
  have hg := hB.lt
  have c24 := fun o1 o2 o3 o4 => C2.out ((((w.alloc o1).alloc o2).alloc o3).alloc o4) (by (repeat (first | (with_reducible exact Below.refl _ _) | (with_reducible assumption) | (with_reducible refine below_al ?_) | (with_reducible refine below_dr ?_) | (with_reducible refine below_drN ?_) | (with_reducible refine below_set ?_ (by first | exact Nat.le_refl _ | (dsimp only; omega) | omega)) | (with_reducible refine below_tr (by with_reducible assumption) ?_))))
  clear hB hCo hR hC
  go_enter Tryz.func65, Tryz.ntmps65
  go_wp2_with fail
  refine (HRep.out _ _ ?_).mono ?_
  · (repeat (first | (exact cell_al _ _ _ _ _ _ (by simp) rfl) | (refine cell_alloc_old _ _ _ _ _ ?_)))
  rintro e w1 ⟨v, rfl, hO, hb1⟩
  have Hw1 : Hid (Below w.heap.size w w1) := by (show Below _ _ _); (repeat (first | (with_reducible exact Below.refl _ _) | (with_reducible assumption) | (with_reducible refine below_al ?_) | (with_reducible refine below_dr ?_) | (with_reducible refine below_drN ?_) | (with_reducible refine below_set ?_ (by first | exact Nat.le_refl _ | (dsimp only; omega) | omega)) | (with_reducible refine below_tr (by with_reducible assumption) ?_)))
  have B0 : Blk w1 w.heap.size [.pointer (some ⟨g, 0, none⟩)] 72 := (((Blk.new w [_] _).alloc _).alloc _).alloc _ |>.under hb1
  have B1 : Blk w1 (w.heap.size + 1) [.int .i64 n] 2 := by have := (((Blk.new (w.alloc (.cells #[.pointer (some ⟨g, 0, none⟩)] 72)) [.int .i64 n] 2).alloc (.cells #[.int .i64 most] 3)).alloc (.cells #[.bool true] 4)).under hb1; simpa using this
  have B2 : Blk w1 (w.heap.size + 2) [.int .i64 most] 3 := by have := ((Blk.new ((w.alloc (.cells #[.pointer (some ⟨g, 0, none⟩)] 72)).alloc (.cells #[.int .i64 n] 2)) [.int .i64 most] 3).alloc (.cells #[.bool true] 4)).under hb1; simpa using this
  have hs1 : w.heap.size + 4 ≤ w1.heap.size := by have := hb1.size; simp at this; omega
  have hO : OwnB w1 (w.heap.size + 3) v (List.replicate S true) := hO.weaken (by simp)
  obtain ⟨Av, kv, rfl⟩ := hO.shape
  rw [List.length_replicate] at hO ⊢
  have HB0 := Lib.hid B0
  have HB1 := Lib.hid B1
  have HB2 := Lib.hid B2
  have HO1 := Lib.hid hO
  have d1 := B1.cell 0 (by simp)
  simp only [List.getElem_cons_zero] at d1
  have hN1 : w.heap.size + 1 < w1.heap.size := by omega
  have d1s := fun o1 o2 => (show (((w1.alloc o1).alloc o2).cell? ⟨w.heap.size + 1, 0, none⟩ = some (.int .i64 n)) from ((B1.alloc o1).alloc o2).cell 0 (by simp))
  clear B0 B1 B2 hb1 hO c24
  go_wp2_with fail
  clear c2 c3 d1 d1s
  go_loopw [24] (fun iv wr => ∃ i : Nat, i ≤ n ∧ iv = .int .i64 i ∧ Hid (∃ v, Blk wr (w1.heap.size + 1) [v] 112 ∧ OwnBB wr (w.heap.size + 3) v (farL S cols i)) ∧ Hid (Below (w.heap.size + 3) w1 wr)) (fun i _ => n - (intOf i).toNat)
  case atStart => exact ⟨0, by omega, rfl, Lib.hid ⟨_, by simpa using Blk.new (w1.alloc (.cells #[.slice Av S kv] 91)) [.slice (some ⟨w1.heap.size, 0, none⟩) 1 1] 112, by simpa [farL, farAt] using (OwnBB.one HO1.out (by omega)).below (below_al (Below.refl _ _))⟩, Lib.hid (((Below.refl (w.heap.size + 3) w1).alloc (by omega) _).alloc (by simp; omega) _)⟩
  case round =>
    obtain ⟨i, hi, rfl, HOi, HBi⟩ := hrel
    obtain ⟨wj, rfl⟩ : ∃ wj, wj = wr := ⟨wr, rfl⟩
    have hwj := HBi.out.size
    have HBw := Lib.hid (Hw1.out.trans (HBi.out.mono (show w.heap.size ≤ w.heap.size + 3 by omega)))
    obtain ⟨v, hbx, hov⟩ := HOi.out
    obtain ⟨An, kn, rfl, hrd⟩ := hov.rows
    by_cases hin : i < n
    · have hm := fun w => make_b S (by omega) w
      obtain ⟨bi, offi, Ai, ki, rfl, hli, ci, ri⟩ := hrd i (by rw [farL_len]; omega)
      have HFa := Lib.hid (show farAt S cols (i + 1) = bgo S cols (farAt S cols i) from rfl)
      rw [farL_get] at ci ri
      have hlen := farAt_len S cols i
      generalize farAt S cols i = far at *
      have HRi := Lib.hid ri
      have HLn := Lib.hid hlen
      have HL1 := Lib.hid (farL_len S cols i)
      rw [hlen] at ci
      have CI := Lib.hid (keepC ci)
      have HCj := Lib.hid (HCo.out.below HBw.out)
      have HOv := Lib.hid hov
      have HBX := Lib.hid hbx
      obtain ⟨nl, hnl⟩ : ∃ nl, (farL S cols i).length = nl := ⟨_, rfl⟩
      have HNl := Lib.hid hnl
      have hil : i < nl := by rw [← hnl, farL_len]; omega
      rw [hnl] at HBX HOv
      have D0 := (HB0.out.below HBi.out (by omega)).cell 0 (by simp)
      have X0 := Lib.hid (keepC (HBX.out.cell 0 (by simp)))
      simp only [List.getElem_cons_zero] at D0 X0
      have E2 := C2.out _ HBw.out
      have E3 := C3.out _ HBw.out
      have hgj : g < wj.heap.size := Nat.lt_of_lt_of_le hg HBw.out.size
      have hwj0 : w.heap.size < wj.heap.size := by omega
      have hwj1 : w1.heap.size + 1 < wj.heap.size := HBX.out.lt
      clear hlen ri hrd ci hnl hbx hov HOi hwj
      go_wp2_with fail
      clear hm D0 E2 E3
      go_loopw [37] (fun iv wr => ∃ k : Nat, k ≤ cols.length ∧ iv = .int .i64 k ∧ Hid (OwnB wr wj.heap.size (.slice (some ⟨wj.heap.size, 0, none⟩) S S) (bgo S (cols.take k) far)) ∧ Hid (Below wj.heap.size wj wr)) (fun i _ => cols.length - (intOf i).toNat)
      case atStart => exact ⟨0, by omega, rfl, Lib.hid (OwnB.made wj _ S (Nat.le_refl _) (by omega)), Lib.hid (by (repeat (first | (with_reducible exact Below.refl _ _) | (with_reducible assumption) | (with_reducible refine below_al ?_) | (with_reducible refine below_dr ?_) | (with_reducible refine below_drN ?_) | (with_reducible refine below_set ?_ (by first | exact Nat.le_refl _ | (dsimp only; omega) | omega)) | (with_reducible refine below_tr (by with_reducible assumption) ?_))))⟩
      case round =>
        obtain ⟨k, hk, rfl, HOk, HBk⟩ := hrel
        obtain ⟨wk, rfl⟩ : ∃ wk, wk = wr := ⟨wr, rfl⟩
        by_cases hkl : k < cols.length
        · obtain ⟨b2, off2, rfl, hlt2, y0, y1, y2⟩ := (HCj.out.below HBk.out) k hkl
          obtain ⟨⟨w0, w1'⟩, e0, e1⟩ := HCd.out _ (List.getElem_mem hkl)
          have HTg := Lib.hid (bgo_take S cols far k hkl)
          have hnl := bgo_len S (cols.take k) far
          generalize bgo S (cols.take k) far = nx at *
          generalize cols[k] = col at *
          have hz1 : col.e.toNat < far.length := by have := HLn.out; omega
          have hz2 : col.w.toNat < nx.length := by omega
          have HE := Lib.hid (HTg.out.trans (bstep_put far nx col hz1 hz2).symm)
          obtain ⟨wi, hwi⟩ := Int.eq_ofNat_of_zero_le w0
          obtain ⟨ei, hei⟩ := Int.eq_ofNat_of_zero_le e0
          obtain ⟨b3, off3, rfl, hlt3, n0⟩ := HRi.out _ hz1
          obtain ⟨g4, hg4, _, gl, n1, n2⟩ := HOk.out.at_ _ hz2
          injection hg4 with hg4; injection hg4 with hg4 _; subst hg4
          simp only [hwi, hei, Int.toNat_natCast] at n0 n1 n2 hz1 hz2 HE
          rw [hwi] at y0
          rw [hei] at y1
          have hlw : wi < S := by omega
          have hle : ei < S := by omega
          obtain ⟨wt, hwt⟩ : ∃ wt, wt = wk.alloc (.cells #[.int .i64 wi, .int .i64 ei, .int .i64 col.n] 104) := ⟨_, rfl⟩
          have HBt := Lib.hid (show Below wk.heap.size wk wt by rw [hwt]; (repeat (first | (with_reducible exact Below.refl _ _) | (with_reducible assumption) | (with_reducible refine below_al ?_) | (with_reducible refine below_dr ?_) | (with_reducible refine below_drN ?_) | (with_reducible refine below_set ?_ (by first | exact Nat.le_refl _ | (dsimp only; omega) | omega)) | (with_reducible refine below_tr (by with_reducible assumption) ?_))))
          have HOt := Lib.hid (HOk.out.below HBt.out)
          have HBu := Lib.hid (HBk.out.trans (HBt.out.mono HBk.out.size))
          have N0 := keepC (((HBu.out.cell (p := ⟨b3, off3 + ei, none⟩) hlt3)).trans n0)
          have N1 := keepC (keepC n1 _ HBt.out)
          have F1 := fun wz (hz : Below wt.heap.size wt wz) => (hz.frozen (p := ⟨wj.heap.size, wi, none⟩) (Nat.lt_of_lt_of_le gl HBt.out.size)).trans ((HBt.out.frozen (p := ⟨wj.heap.size, wi, none⟩) gl).trans n2)
          have U0 := keepC (show wt.cell? ⟨wk.heap.size, 0, none⟩ = some (.int .i64 wi) by rw [hwt]; exact cell_alloc_at _ _ _ _ _ rfl)
          have U1 := keepC (show wt.cell? ⟨wk.heap.size, 1, none⟩ = some (.int .i64 ei) by rw [hwt]; exact cell_alloc_at _ _ _ _ _ rfl)
          have V0 := keepC (X0.out _ HBu.out)
          have V1 := keepC (CI.out _ HBu.out)
          replace hwt := Lib.hid hwt
          clear n0 n1 n2
          obtain ⟨bn, hbn⟩ : ∃ bn, nx[wi] = bn := ⟨_, rfl⟩
          obtain ⟨bw, hbw⟩ : ∃ bw, far[ei] = bw := ⟨_, rfl⟩
          rw [hbn] at N1 HE
          rw [hbw] at N0 HE
          clear hbn hbw hwi hei hz1 hz2 hnl
          cases bn <;> cases bw
          all_goals
            go_wp2_with fail
            rw [← hwt.out]
            refine wp_region_add_tail 19 (fun w' => Below (wt).heap.size (wt) w') (by kernel_rfl) (by kernel_rfl) ((Below.refl _ _).drew) ?_
            simp only [List.take_succ_cons, List.take_zero, List.drop_succ_cons, List.drop_zero]
            repeat (first
              | (refine add_skip rfl (fun K' hK' => ?_); go_simp; refine hK' _ ?_; clear hK' K')
              | (refine add_do (v := ?_) rfl (fun w1 hb => ?_) (fun K' hK' => ?_); rotate_left
                 · go_simp
                   first
                   | (with_reducible exact rfl)
                   | (with_reducible exact ⟨rfl, hb⟩)
                   | exact rfl
                   | exact ⟨rfl, hb⟩
                 go_simp; refine hK' _ ?_; clear hK' K'))
            refine add_nil ?_
            intro wa hba
            have f1 := F1 _ hba
            have HOa := Lib.hid ((HOt.out.below hba).set wi)
            have n1a := N1 _ hba
            have HBa := Lib.hid (HBu.out.trans (hba.mono HBu.out.size))
            clear hba N0 N1 F1 U0 U1 V0 V1
            go_wp2_with fail
            go_roundw
            case rel => exact ⟨k + 1, by omega, by go_num, Lib.hid (by rw [HE.out]; exact (HOa.out _).1), Lib.hid (HBa.out.setCell (Nat.le_refl _) _)⟩
            case measure => simp [intOf]; omega
        · obtain rfl : k = cols.length := by omega
          rw [List.take_length] at HOk
          have xk := X0.out _ HBk.out
          go_wp2_with (at_builtin; refine Hold.of ?_)
          refine Hold.to ?_
          refine wpl_app_rowB (W0 := wj) rfl (.tmp 61) (.tmp 63) rfl (w.heap.size + 3) _ _ _ (bgo S cols far) rfl HOv.out (by have h3 := HBk.out; (repeat (first | (with_reducible exact Below.refl _ _) | (with_reducible assumption) | (with_reducible refine below_al ?_) | (with_reducible refine below_dr ?_) | (with_reducible refine below_drN ?_) | (with_reducible refine below_set ?_ (by first | exact Nat.le_refl _ | (dsimp only; omega) | omega)) | (with_reducible refine below_tr (by with_reducible assumption) ?_)))) (HOk.out.below (below_al (Below.refl _ _))) wk.heap.size 0 rfl (cell_alloc_at _ _ _ _ _ rfl) (by rw [farL_len]; omega) (by omega) (fun v' w' h1 h2 h3 => ?_)
          obtain ⟨Af, kf, rfl, _⟩ := h1.rows
          have hsz := HBk.out.size
          have hb : Below (w.heap.size + 3) w1 w' := Below.grown ((HBi.out.trans (HBk.out.mono (by omega))).alloc (by omega) _) h2 (by simp; omega) h3
          rw [← HFa.out, ← farL_succ] at h1
          have hx := ((HBX.out.under HBk.out).alloc (.cells #[.slice (some ⟨wj.heap.size, 0, none⟩) S S] 91)).kept1 h2 (HOv.out.ne HBX.out)
          have hx0 := hx.cell 0 (by simp)
          have hx1 := hx.frozen 0
          simp only [List.getElem_cons_zero] at hx0
          have HFin := Lib.hid (And.intro h1 (And.intro hb hx))
          clear h1 h2 h3 hb hx xk
          go_wp2_with fail
          go_roundw
          case rel => exact ⟨i + 1, by omega, by go_num, Lib.hid ⟨_, HFin.out.2.2.set 0 _, by have h9 := HFin.out.1.setBox (j := 0) (y := .slice Af ((farL S cols i).length + 1) kf) HFin.out.2.2; have e9 : (farL S cols (i + 1)).length = (farL S cols i).length + 1 := (by rw [farL_len, farL_len]); rw [e9] at h9; exact h9⟩, Lib.hid (HFin.out.2.1.setCell (by show w.heap.size + 3 ≤ w1.heap.size + 1; omega) _)⟩
          case measure => simp [intOf]; omega
    · obtain rfl : i = n := by omega
      have hAf : (farL S cols i).length = i + 1 := farL_len ..
      rw [hAf] at hbx
      have HE : Hid (TrEnv wj g c S i most A tn cx h cols An kn (w.heap.size + 1) (w.heap.size + 2) w.heap.size (w1.heap.size + 1)) :=
        { en := (HB1.out.below HBi.out (by omega)).cell 0 (by simp), emost := (HB2.out.below HBi.out (by omega)).cell 0 (by simp), est := (HB0.out.below HBi.out (by omega)).cell 0 (by simp), ecan := hbx.cell 0 (by simp), strip := HR.out.below HBw.out, far := hrd }
      have HBX := Lib.hid hbx
      have x0 := hbx.cell 0 (by simp)
      simp only [List.getElem_cons_zero] at x0
      obtain ⟨b0, off0, A0, k0, rfl, hl0, c0, r0⟩ := hrd 0 (by omega)
      rw [farL_get, farAt_len] at c0
      rw [farL_get] at r0
      have HR0 := Lib.hid r0
      have hwj1 : w1.heap.size + 1 < wj.heap.size := hbx.lt
      clear hbx hrd HOi hov r0 hAf hwj
      rw [Nat.add_zero] at c0
      go_wp2_with fail
      clear HRep
      obtain ⟨w9, hw9⟩ : ∃ w9, w9 = ((wj.alloc (.cells #[] 39)).alloc (.cells #[.slice (some ⟨wj.heap.size, 0, none⟩) 0 0] 42)).alloc (.cells #[trFV (w.heap.size + 1) (wj.heap.size + 1) (w.heap.size + 2) w.heap.size (w1.heap.size + 1) (wj.heap.size + 2)] 113) := ⟨_, rfl⟩
      unfold trFV at hw9
      simp only [show w.heap.size + 2 = w.heap.size + 1 + 1 from rfl, show wj.heap.size + 2 = wj.heap.size + 1 + 1 from rfl] at hw9
      rw [← hw9]
      obtain ⟨FV, hFV⟩ : ∃ FV, FV = trFV (w.heap.size + 1) (wj.heap.size + 1) (w.heap.size + 2) w.heap.size (w1.heap.size + 1) (wj.heap.size + 2) := ⟨_, rfl⟩
      have hsz9 : w9.heap.size = wj.heap.size + 3 := by rw [hw9]; simp
      have hb9 : Below wj.heap.size wj w9 := by rw [hw9]; (repeat (first | (with_reducible exact Below.refl _ _) | (with_reducible assumption) | (with_reducible refine below_al ?_) | (with_reducible refine below_dr ?_) | (with_reducible refine below_drN ?_) | (with_reducible refine below_set ?_ (by first | exact Nat.le_refl _ | (dsimp only; omega) | omega)) | (with_reducible refine below_tr (by with_reducible assumption) ?_)))
      have ho9 : w9.cell? ⟨wj.heap.size + 1, 0, none⟩ = some (.slice (some ⟨wj.heap.size, 0, none⟩) 0 0) := by rw [hw9]; have := cell_alloc_at (wj.alloc (.cells #[] 39)) #[.slice (some ⟨wj.heap.size, 0, none⟩) 0 0] 42 0 _ rfl; simp only [World.size_alloc] at this; exact cell_alloc_old _ _ _ _ _ this
      have hf9 : w9.frozen? ⟨wj.heap.size + 1, 0, none⟩ = false := by
        have := ((Blk.new (wj.alloc (.cells #[] 39)) [.slice (some ⟨wj.heap.size, 0, none⟩) 0 0] 42).alloc (.cells #[FV] 113)).frozen 0
        rw [hFV] at this
        rw [hw9]
        simpa [trFV] using this
      have he9 : w9.cell? ⟨wj.heap.size + 2, 0, none⟩ = some FV := by
        have := (Blk.new ((wj.alloc (.cells #[] 39)).alloc (.cells #[.slice (some ⟨wj.heap.size, 0, none⟩) 0 0] 42)) [FV] 113).cell 0 (by simp)
        rw [hw9, hFV]
        rw [hFV] at this
        simpa [trFV] using this
      have hO9 : OutS w9 (fun k => k = wj.heap.size) (.slice (some ⟨wj.heap.size, 0, none⟩) 0 0) [] := by
        have h0 : (wj.alloc (.cells #[] 39)).ownsRow 0 39 1 (.slice (some ⟨wj.heap.size, 0, none⟩) 0 0) 0 [] := World.ownsRow_lit (base := 0) (e := 39) (size := 1) wj #[] 0 (Nat.zero_le _) (by simp [maxLen]) (by simp)
        have h1 : OutS (wj.alloc (.cells #[] 39)) (fun k => k = wj.heap.size) (.slice (some ⟨wj.heap.size, 0, none⟩) 0 0) [] := ⟨[], h0, fun i h => by simp at h, fun i j h => by simp at h, fun i h => by simp at h, fun k hk => by have hk : some wj.heap.size = some k := hk; injection hk with hk; exact hk.symm, fun i h => by simp at h⟩
        rw [hw9]
        exact h1.below (below_al (below_al (Below.refl _ _)))
      have HIn := Lib.hid (show TrIn wj (wj.heap.size + 1) (wj.heap.size + 2) FV (.slice none 0 0) (.slice (some ⟨wj.heap.size, 0, none⟩) 0 0) [] [] (fun k => k = wj.heap.size) w9 from
        { base := hb9, bo0 := by omega, bo1 := by omega, be0 := by omega, be1 := by omega, ne := by omega, out := ho9, outf := hf9, ext := he9, outs := hO9, t := fun k hk => by subst hk; exact ⟨Nat.le_refl _, by omega, by omega, by omega⟩, word := World.ownsRow_nil _ _ _ _, wordn := fun k hk => by cases hk })
      have HNs := Lib.hid (fun (wq : World) (hq : Below w9.heap.size w9 wq) => show NowS wq (TrP (wj.heap.size + 1) (fun k => k = wj.heap.size) (.slice none 0 0)) A0 (farAt S cols 0) from fun j hj => by
        obtain ⟨b, off, e, hlt, hcc⟩ := HR0.out j hj
        exact ⟨b, off, e, Nat.lt_of_lt_of_le (Nat.lt_of_lt_of_le hlt hb9.size) hq.size, (by rintro (e | e | e); omega; omega; cases e), ((hq.cell (p := ⟨b, off + j, none⟩) (Nat.lt_of_lt_of_le hlt hb9.size)).trans (hb9.cell (p := ⟨b, off + j, none⟩) hlt)).trans hcc⟩)
      have HCall := Lib.hid (fun (wq : World) (hq : Below w9.heap.size w9 wq) => trAll wj g A tn cx h _ _ cols S c i most (w.heap.size + 1) (wj.heap.size + 1) (w.heap.size + 2) w.heap.size (w1.heap.size + 1) (wj.heap.size + 2) hn1 hn hm hS1 hS2 hc HCd.out hCn hcl HE.out (by omega) (by omega) (by omega) hwj1 i [] (.slice none 0 0) (farAt S cols 0) A0 k0 [] (.slice (some ⟨wj.heap.size, 0, none⟩) 0 0) (fun k => k = wj.heap.size) wq (by simp) (farAt_len ..) (by rw [← hFV]; exact HIn.out.below hq) (HNs.out wq hq) (Nat.zero_le _))
      have hP : ∀ k, TrP (wj.heap.size + 1) (fun k => k = wj.heap.size) (.slice none 0 0) k → k = wj.heap.size ∨ k = wj.heap.size + 1 := by
        rintro k (e | e | e)
        · exact .inr e
        · exact .inl e
        · cases e
      have x9 := (hb9.cell (p := ⟨w1.heap.size + 1, 0, none⟩) hwj1).trans x0
      have c9 := (hb9.cell (p := ⟨b0, off0, none⟩) hl0).trans c0
      have HBj := Lib.hid (HBw.out.trans (hb9.mono HBw.out.size))
      have X9 := fun w' (hs : Fr (TrP (wj.heap.size + 1) (fun k => k = wj.heap.size) (.slice none 0 0)) w9 w') => (hs.cell (p := ⟨w1.heap.size + 1, 0, none⟩) (by show w1.heap.size + 1 < _; omega) (fun e => by have := hP _ e; simp only at this; omega)).trans x9
      have C9 := fun w' (hs : Fr (TrP (wj.heap.size + 1) (fun k => k = wj.heap.size) (.slice none 0 0)) w9 w') => (hs.cell (p := ⟨b0, off0, none⟩) (by show b0 < _; omega) (fun e => by have := hP _ e; simp only at this; omega)).trans c9
      have F9 := fun w' (hs : Fr (TrP (wj.heap.size + 1) (fun k => k = wj.heap.size) (.slice none 0 0)) w9 w') => (hs.cell (p := ⟨wj.heap.size + 2, 0, none⟩) (by show wj.heap.size + 2 < _; omega) (fun e => by have := hP _ e; simp only at this; omega)).trans he9
      rw [hFV] at F9
      unfold trFV at F9
      have HPw := Lib.hid hP
      have hs0 : w.heap.size ≤ wj.heap.size := HBw.out.size
      have HS9 := Lib.hid hsz9
      clear hO9 ho9 hf9 he9 hFV hb9 hw9 x0 c0 hsz9 x9 c9 hP
      simp only [List.length_nil, Nat.zero_add] at HCall
      simp only [show w.heap.size + 2 = w.heap.size + 1 + 1 from rfl, show wj.heap.size + 2 = wj.heap.size + 1 + 1 from rfl] at HCall F9
      refine wp_region_mix [(0, true), (1, true), (2, true), (3, true), (4, false), (5, true)] (fun w' => Fr (TrP (wj.heap.size + 1) (fun k => k = wj.heap.size) (.slice none 0 0)) w9 w') (by kernel_rfl) (by kernel_rfl) (fun _ _ d _ _ h => by cases d <;> exact h) (Fr.below (Below.refl _ w9).drew) ?_
      repeat (first
        | (refine mix_skip rfl rfl (fun K' hK' => ?_); go_simp; refine hK' _ ?_; clear hK' K')
        | (refine mix_do (v := ?_) rfl rfl (fun w1 hb => ?_) (fun K' hK' => ?_); rotate_left
           · go_simp
             rfl
           go_simp; refine hK' _ ?_; clear hK' K'))
      refine mix_call rfl rfl (fun K' hK' => ?_)
      go_simp
      refine (HCall.out w9.drew (Below.refl _ w9).drew).mono ?_
      rintro e w2 ⟨rfl, hF, hc, hT⟩
      have HF := Lib.hid ((Fr.below (Below.refl _ w9).drew).trans hF)
      have HT := Lib.hid hT
      obtain ⟨A8, n8, k8, hc8⟩ := hc
      clear hF hT
      refine hK' _ _ (HF.out) ?_; clear hK' K'
      repeat (first
        | (refine mix_skip rfl rfl (fun K' hK' => ?_); go_simp; refine hK' _ ?_; clear hK' K')
        | (refine mix_do (v := ?_) rfl rfl (fun w1 hb => ?_) (fun K' hK' => ?_); rotate_left
           · go_simp
             rfl
           go_simp; refine hK' _ ?_; clear hK' K'))
      refine mix_nil ?_
      go_wp2_with fail
      go_ret2
      refine ⟨HBj.out.trans ((HF.out.under (Nat.le_trans hs0 (by have := HS9.out; omega)) fun k hk => by have := HPw.out k hk; omega)), _, rfl, ⟨_, _, _, rfl⟩, fun hle => ?_⟩
      obtain ⟨v', T', q1, q2, q3, q4, q5⟩ := HT.out hle
      rw [hc8] at q1
      injection q1 with q1
      subst q1
      have e1 : [] ++ (exts S cols c i (farAt S cols 0)).map ([] ++ ·) = trWords S cols c i := by simp [trWords, farAt]
      rw [e1] at q3
      exact q3.toII fun k hk => by
        rcases (q4 k hk).1 with e | e
        · have e : k = wj.heap.size := e; omega
        · have e : w9.heap.size ≤ k := e; have := HS9.out; omega

end Go.Proofs.YtnoehaphbpkpjaaGreat
namespace Go.Proofs.YtnoehaphbpkpjaaGreat
open Go.RowKit
set_option maxRecDepth 100000 in
set_option maxHeartbeats 1000000 in
theorem isTraceLength_c (n : Int) (w : World) : Calls Tryz.prog 94 #[.int .i64 n] w fun e w' => e = .returned (.bool (inR 1 8 n)) ∧ w = w' := by
  have HR := Lib.hid (fun w => within_c n 1 8 w)
  go_enter Tryz.func94, Tryz.ntmps94
  go_wp2_with fail
  refine (HR.out _).mono ?_
  rintro e w1 ⟨rfl, rfl⟩
  go_wp2
  go_ret
  exact ⟨rfl, rfl⟩
set_option maxRecDepth 100000 in
set_option maxHeartbeats 1000000 in
theorem traceWords1_c (n : Int) (b : Nat) (w : World) (f0 : w.cell? ⟨b, 0, none⟩ = some (.int .i64 n)) : Calls Tryz.prog 93 #[.pointer (some ⟨b, 0, none⟩)] w fun e w' => e = .returned (.bool (inR 1 8 n)) ∧ Below w.heap.size w w' := by
  have HR := Lib.hid (fun w => isTraceLength_c n w)
  go_enter Tryz.func93, Tryz.ntmps93
  go_wp2_with fail
  refine (HR.out _).mono ?_
  rintro e w1 ⟨rfl, rfl⟩
  go_wp2
  go_ret
  exact ⟨rfl, Below.refl _ _⟩
theorem lev_ColN {c : Int} {ts : List T4} {cn n : Nat} (hc : c = cn) (hs : isSetB c ts = true) (hn : 1 ≤ n) : ColN cn (lev c ts n) := by
  obtain ⟨_, ⟨c1, c6⟩, _⟩ := isSetB_parts hs
  intro k hk
  obtain ⟨_, _, h3⟩ := lev_codes c1 (isSetB_inC hs) n k hk
  have := h3 hn
  omega
set_option maxRecDepth 100000 in
set_option maxHeartbeats 1000000 in
theorem traceWords_c (lim : Nat) (hlim : lim ≤ 1000000) (c : Int) (ts : List T4) (A : Option Addr) (cx : Nat) (h n : Int) (w : World) (hT : TileCells w A ts) (hl : ts.length ≤ 1000000000) :
    Calls Tryz.prog 55 #[.agg #[.int .i64 c, .slice A ts.length cx], .int .i64 h, .int .i64 n, .int .i64 lim] w fun e w' => ∃ v, e = .returned (.tuple #[v, .int .i64 (ctCode lim c ts h n)]) ∧ OwnII w' w.heap.size v (twVal lim c ts h n) ∧ Below w.heap.size w w' := by
  have HC := Lib.hid (fun (wq : World) (hwq : Below w.heap.size w wq) (b : Nat) h0 => traceStrip_c c ts A cx h 93 #[.pointer (some ⟨b, 0, none⟩)] (inR 1 8 n) wq (fun _ _ => rfl) (hT.below hwq) hl
    (fun hs w1 hb => traceWords1_c n b w1 (keepC h0 _ hb)))
  have hv2 : ctCode lim c ts h n = if tsCode c ts h (inR 1 8 n) = 0 then (if lim < (trL c ts h n).length then 3 else 0) else tsCode c ts h (inR 1 8 n) := rfl
  have hv3 : twVal lim c ts h n = if ctCode lim c ts h n = 0 then trL c ts h n else [] := rfl
  have hz := Lib.hid (tsCode_zero (c := c) (ts := ts) (h := h) (fine := inR 1 8 n))
  clear hT
  generalize hcode : tsCode c ts h (inR 1 8 n) = code at *
  go_enter Tryz.func55, Tryz.ntmps55
  go_wp2_with fail
  refine (HC.out _ (by (repeat (first | (with_reducible exact Below.refl _ _) | (with_reducible assumption) | (with_reducible refine below_al ?_) | (with_reducible refine below_dr ?_) | (with_reducible refine below_drN ?_) | (with_reducible refine below_set ?_ (by first | exact Nat.le_refl _ | (dsimp only; omega) | omega)) | (with_reducible refine below_tr (by with_reducible assumption) ?_)))) _ ?_).mono ?_
  · (repeat (first | (exact cell_al _ _ _ _ _ _ (by simp) rfl) | (refine cell_alloc_old _ _ _ _ _ ?_)))
  rintro e w1 ⟨hb1, ⟨hne, rfl⟩ | ⟨h0, g, hn, rfl, rfl, hg, hS⟩⟩
  · rw [hcode] at hne ⊢
    rw [if_neg hne] at hv2
    rw [hv2, if_neg hne] at hv3
    have Hw1 : Hid (Below w.heap.size w w1) := by (show Below _ _ _); (repeat (first | (with_reducible exact Below.refl _ _) | (with_reducible assumption) | (with_reducible refine below_al ?_) | (with_reducible refine below_dr ?_) | (with_reducible refine below_drN ?_) | (with_reducible refine below_set ?_ (by first | exact Nat.le_refl _ | (dsimp only; omega) | omega)) | (with_reducible refine below_tr (by with_reducible assumption) ?_)))
    have hcz : (code != 0) = true := by simp [hne]
    have HV2 := Lib.hid hv2
    have HV3 := Lib.hid hv3
    clear hb1 hne hcode hv2 hv3
    unfold stripEnd
    go_wp2
    go_ret2
    exact ⟨_, by rw [HV2.out]; rfl, by rw [HV3.out]; exact OwnII.nil _ _, Hw1.out⟩
  · obtain rfl : code = 0 := by rw [← hcode]; exact h0
    rw [if_pos rfl] at hv2
    obtain ⟨hs, hf, n1, n3, hp⟩ := hz.out rfl
    rw [Int.toNat_natCast] at hp
    have hn8 : 1 ≤ n ∧ n ≤ 8 := by unfold inR at hf; simpa using hf
    obtain ⟨nn, rfl⟩ := Int.eq_ofNat_of_zero_le (by omega : 0 ≤ n)
    have Hw1 : Hid (Below w.heap.size w w1) := by (show Below _ _ _); (repeat (first | (with_reducible exact Below.refl _ _) | (with_reducible assumption) | (with_reducible refine below_al ?_) | (with_reducible refine below_dr ?_) | (with_reducible refine below_drN ?_) | (with_reducible refine below_set ?_ (by first | exact Nat.le_refl _ | (dsimp only; omega) | omega)) | (with_reducible refine below_tr (by with_reducible assumption) ?_)))
    have d0 : w1.cell? ⟨w.heap.size + 1, 0, none⟩ = some (.int .i64 nn) := by rw [(bcell hb1).1 _ _ (by simp)]; simp
    have hN : w.heap.size + 1 < w1.heap.size := by have := hb1.size; simp at this; omega
    obtain ⟨_, ⟨c1, c6⟩, h16⟩ := isSetB_parts hs
    have p1 := powC_4 c1 c6 (h := hn) (by omega)
    have hll := Nat.le_trans (lev_len c ts hn) (pow16 h16 (by omega : hn ≤ 3))
    have hcs := lev_Codes hs hn
    obtain ⟨cn, rfl⟩ := Int.eq_ofNat_of_zero_le (by omega : 0 ≤ c)
    have hcn := lev_ColN (cn := cn) rfl hs (n := hn) (by omega)
    obtain ⟨S, hS'⟩ := Int.eq_ofNat_of_zero_le (by omega : 0 ≤ powC cn hn)
    have htr : trL cn ts hn nn = trWords S (lev cn ts hn) cn nn := by unfold trL; simp [hS']
    rw [hS'] at hS hcs p1 hp
    rw [Int.toNat_natCast] at hcs
    have HGo := Lib.hid (traces_c g cn S nn lim A ts.length cx hn (lev cn ts hn) w1 (by omega) (by omega) hlim (by omega) (by omega) (by omega) hcs hcn (by omega) hS)
    rw [htr] at hv2 hv3
    have HV2 := Lib.hid hv2
    have HV3 := Lib.hid hv3
    clear hb1 hcode hS hcs hS' hz h0 hv2 hv3 htr hcn hs hf n1 n3 p1 hp hll
    generalize trWords S (lev cn ts hn) cn nn = TW at *
    unfold stripEnd
    go_wp2_with fail
    refine HGo.out.mono ?_
    rintro e w2 ⟨hb2, v, rfl, ⟨A', n', k', rfl⟩, ho⟩
    have Hw2 := Lib.hid (Hw1.out.trans (hb2.mono Hw1.out.size))
    have HO := Lib.hid ho
    clear hb2 ho
    by_cases hle : TW.length ≤ lim
    · have e1 : decide (TW.length ≤ lim) = true := decide_eq_true hle
      rw [e1]
      have HLe := Lib.hid hle
      clear hle e1
      go_wp2
      go_ret2
      refine ⟨_, by rw [HV2.out, if_neg (by have := HLe.out; omega)]; rfl, ?_, Hw2.out⟩
      rw [HV3.out, if_pos (by rw [HV2.out, if_neg (by have := HLe.out; omega)])]
      exact (HO.out HLe.out).weaken Hw1.out.size
    · have e1 : decide (TW.length ≤ lim) = false := decide_eq_false hle
      rw [e1]
      have HLe := Lib.hid hle
      clear hle e1
      go_wp2
      go_ret2
      refine ⟨_, by rw [HV2.out, if_pos (by have := HLe.out; omega)]; rfl, ?_, Hw2.out⟩
      rw [HV3.out, if_neg (by rw [HV2.out, if_pos (by have := HLe.out; omega)]; decide)]
      exact OwnII.nil _ _
set_option maxRecDepth 100000 in
set_option maxHeartbeats 1000000 in
theorem implTraceWords_c (c : Int) (ts : List T4) (A : Option Addr) (cx : Nat) (h n : Int) (w : World) (hT : TileCells w A ts) (hl : ts.length ≤ 1000000000) :
    Calls Tryz.prog 15 #[.agg #[.int .i64 c, .slice A ts.length cx], .int .i64 h, .int .i64 n] w fun e w' => ∃ v, e = .returned (.tuple #[v, .int .i64 (ctCode 200 c ts h n)]) ∧ OwnII w' w.heap.size v (twVal 200 c ts h n) ∧ Below w.heap.size w w' := by
  have H2 := Lib.hid (fun (wq : World) (hwq : Below w.heap.size w wq) => traceWords_c 200 (by decide) c ts A cx h n wq (hT.below hwq) hl)
  clear hT
  go_enter Tryz.func15, Tryz.ntmps15
  go_wp2_with fail
  refine (H2.out _ (by (repeat (first | (with_reducible exact Below.refl _ _) | (with_reducible assumption) | (with_reducible refine below_al ?_) | (with_reducible refine below_dr ?_) | (with_reducible refine below_drN ?_) | (with_reducible refine below_set ?_ (by first | exact Nat.le_refl _ | (dsimp only; omega) | omega)) | (with_reducible refine below_tr (by with_reducible assumption) ?_))))).mono ?_
  rintro e w2 ⟨v, rfl, hO, hb2⟩
  have HW : Hid (Below w.heap.size w w2) := by (show Below _ _ _); (repeat (first | (with_reducible exact Below.refl _ _) | (with_reducible assumption) | (with_reducible refine below_al ?_) | (with_reducible refine below_dr ?_) | (with_reducible refine below_drN ?_) | (with_reducible refine below_set ?_ (by first | exact Nat.le_refl _ | (dsimp only; omega) | omega)) | (with_reducible refine below_tr (by with_reducible assumption) ?_)))
  obtain ⟨Av, kv, rfl, _⟩ := hO.rows
  have HO := Lib.hid hO
  clear hb2 hO
  go_wp2
  go_ret2
  exact ⟨_, rfl, HO.out.weaken (le_al (Nat.le_refl _)), HW.out⟩
end Go.Proofs.YtnoehaphbpkpjaaGreat
namespace Go.Proofs.YtnoehaphbpkpjaaGreat
open Go.RowKit
theorem exts_len (S : Nat) (cols : List Col) (c : Nat) : ∀ (l : Nat) (now : List Bool), ∀ x ∈ exts S cols c l now, x.length = l
  | 0, now, x, hx => by simp only [exts, List.mem_singleton] at hx; subst hx; rfl
  | l + 1, now, x, hx => by
    simp only [exts, List.mem_flatMap] at hx
    obtain ⟨y, _, hx⟩ := hx
    split at hx
    · simp only [List.mem_map] at hx
      obtain ⟨z, hz, rfl⟩ := hx
      rw [List.length_cons, exts_len S cols c l _ z hz]
    · simp at hx
theorem tot_short {k : Nat} : ∀ {L : List (List Int)}, (∀ r ∈ L, r.length ≤ k) → tot L ≤ k * L.length
  | [], _ => by simp [tot]
  | r :: L, h => by
    rw [show tot (r :: L) = r.length + tot L by simp [tot], List.length_cons, Nat.mul_succ]
    have h1 := tot_short (L := L) fun x hx => h x (List.mem_cons_of_mem _ hx)
    have h2 := h r (List.mem_cons_self ..)
    omega
theorem twVal_short (c : Int) (ts : List T4) (h n : Int) : (twVal 200 c ts h n).length ≤ 200 ∧ Short 1000000000 (twVal 200 c ts h n) ∧ tot (twVal 200 c ts h n) ≤ 1600 := by
  have h1 : (twVal 200 c ts h n).length ≤ 200 := by
    unfold twVal
    split
    · rename_i hc
      unfold ctCode at hc
      split at hc
      · split at hc
        · cases hc
        · omega
      · rename_i h0; exact absurd hc h0
    · simp
  have h2 : ∀ r ∈ twVal 200 c ts h n, r.length ≤ 8 := by
    intro r hr
    unfold twVal at hr
    split at hr
    · rename_i hc
      unfold ctCode at hc
      split at hc
      · rename_i h0
        obtain ⟨_, hf, _⟩ := tsCode_zero h0
        have hn8 : 1 ≤ n ∧ n ≤ 8 := by unfold inR at hf; simpa using hf
        rw [exts_len _ _ _ _ _ r hr]
        omega
      · rename_i h0; exact absurd hc h0
    · simp at hr
  refine ⟨h1, fun k hk => ?_, ?_⟩
  · have := h2 _ (List.getElem_mem hk); omega
  · have := tot_short h2; omega
end Go.Proofs.YtnoehaphbpkpjaaGreat
